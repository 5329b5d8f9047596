/- Texts of a claim, in one: part 3. -/
import Derived.Lib.ItoaNum
import Derived.Lib.Join
import Derived.Lib.BitFns
import Derived.Lib.Repeat
import Derived.Lib.Bytealg
import Derived.Lib.ParseIntB
import Derived.Test.YtodamlihdkalfaaGreatDoorChecked
import Derived.Laws.BitsLemmas
import Derived.Shelf.Strings.OnBuilder
import Derived.Shelf.Strings.Repeat
import Derived.Shelf.Small.Bits
import Derived.Shelf.Strconv.Itoa1
import Derived.Shelf.Strconv.Itoa2
import Derived.Shelf.LaysM
import Derived.Shelf.Strings.Search2
import Derived.Shelf.Pu.ParseUintPublic10
import Derived.KernelRfl
import Derived.Test.YtodamlihdkalfaaGreatDoorProg
import Derived.Lib.Walk
import Derived.Lib.ItoaMem
import Derived.WalkKit
import Derived.BigCall
import Derived.BigGuard
import Derived.Below
import Derived.Shelf.Strings.Search2
import Derived.Shelf.Pu.ParseUintPublic10
import Derived.Shelf.Strings.OnBuilder
import Derived.Shelf.Strings.Repeat
import Derived.Shelf.Small.Bits
import Derived.ProofKit
import Derived.OpenShut
import Derived.ShutString
import Derived.ChangeOld
import Derived.Carry
import Derived.SizedLaws
import Derived.Test.YtodamlihdkalfaaGreatDoorRows
import Derived.Test.YtodamlihdkalfaaGreatDoorKQb
set_option linter.unusedSimpArgs false
set_option linter.unusedVariables false
namespace Go.PM
def ahQ:Ex→Exit
 | .normal => .normal
 | .exit id => .exit id
 | .ret => .ret
section
variable {P:Program} {E:yC} {n:Nat} {call:fL} {lo L0:Nat}
def Mo (P:Program) (n lo L0:Nat) (c:Code) (run:Env→aD→Option (Ex×Env×aD)):Prop :=
 ∀ρ H x aW H',run ρ H=some (x,aW,H')→∀m a w,Fg n L0 m ρ H a w→L0≤H.length→(∀b,H.length≤b→b<H'.length→m b=none) →
  ∀Q:Exit→Act→World→Prop,(∀m' a' w',Fg n L0 m' aW H' a' w'→Trans lo m H w m' H' w'→Q (ahQ x) a' w')→c.wp P Q a w
theorem VF {c:Code} {run:Env→aD→Option (Ex×Env×aD)} (hc:Mo P n lo L0 c run) (he:∀ρ H x aW H',run ρ H=some (x,aW,H')→Ext lo H H') (N:Nat):Mo P n lo L0 (.loop c) (vU run N):=by
 intro ρ H x aW H' hr m a w h hl hf Q hQ
 apply wp_loop_rounds N
 have key:∀N ρ H,vU run N ρ H=some (x,aW,H')→∀m a w,Fg n L0 m ρ H a w→L0≤H.length→(∀b,H.length≤b→b<H'.length→m b=none) →
   (∀m' a' w',Fg n L0 m' aW H' a' w'→Trans lo m H w m' H' w'→Q (ahQ x) a' w')→Code.rounds P c Q N a w:=by
  intro N
  induction N with
  | zero=>intro ρ H h;cases h
  |
   succ N ih =>
   intro ρ H hr m a w h hl hf hQ
   rw[rounds_succ]
   rw[vU] at hr
   split at hr
   ·rename_i uE H1 h1
    have e1:=he _ _ _ _ _ h1
    have e2:=FZ he N hr
    refine hc ρ H _ uE H1 h1 m a w h hl (fun b Cy Y2=>hf b Cy (Nat.lt_of_lt_of_le Y2 e2.len)) _ fun m1 a1 w1 hh hT => ?_
    exact ih uE H1 hr m1 a1 w1 hh (Nat.le_trans hl e1.len) (hT.fresh e1.len hf) fun m2 a2 w2 h2 hT2=>hQ m2 a2 w2 h2 (Trans.trans hf e1 e2 hT hT2)
   ·rename_i eX
    refine hc ρ H _ aW H' hr m a w h hl hf _ fun m1 a1 w1 hh hT => ?_
    have:=hQ m1 a1 w1 hh hT
    cases x with
    | normal=>exact absurd hr (eX aW H')
    | exit id=>exact this
    | ret=>exact this
 exact key N ρ H hr m a w h hl hf hQ
theorem mI (AZ:P.follows .mixedOrders=true) (mC:tZ P L0 call) (pA:pG call) (gF:L0≤lo) (N:Nat):∀(c:Code) (pc:aE),gL P E n c=some pc→Mo P n lo L0 c (cT call lo N pc)
 |
  .skip,pc,hp=>by
  cases hp
  intro ρ H x aW H' hr m a w h hl hf Q hQ
  cases hr
  exact wp_skip (hQ m a w h (Trans.refl _ _ _ _))
 |
  .region id ops draw,pc,hp=>by
  rw[gL] at hp
  cases hpr:wB P E n ops draw with
  | none=>rw[hpr] at hp;cases hp
  |
   some qU =>
   rw[hpr] at hp
   cases hp
   intro ρ H x aW H' hr m a w h hl hf Q hQ
   rw[cT] at hr
   cases hs:fW call lo qU ρ H with
   | none=>rw[hs] at hr;cases hr
   |
    some q =>
    obtain⟨uE,H1⟩:=q
    rw[hs] at hr
    cases hr
    exact QT AZ mC pA hpr hs h gF hl hf hQ
 |
  .seq x y,pc,hp=>by
  rw[gL] at hp
  split at hp
  ·rename_i px py RZ hpy
   cases hp
   intro ρ H e aW H' hr m a w h hl hf Q hQ
   rw[cT] at hr
   apply wp_seq
   split at hr
   ·rename_i uE H1 h1
    have e1:=iL pA px h1
    have e2:=iL pA py hr
    refine mI AZ mC pA gF N x px RZ ρ H _ uE H1 h1 m a w h hl (fun b Cy Y2=>hf b Cy (Nat.lt_of_lt_of_le Y2 e2.len)) _ fun m1 a1 w1 hh hT => ?_
    exact mI AZ mC pA gF N y py hpy uE H1 _ aW H' hr m1 a1 w1 hh (Nat.le_trans hl e1.len) (hT.fresh e1.len hf) Q fun m2 a2 w2 h2 hT2=>hQ m2 a2 w2 h2 (Trans.trans hf e1 e2 hT hT2)
   ·rename_i eX
    refine mI AZ mC pA gF N x px RZ ρ H _ aW H' hr m a w h hl hf _ fun m1 a1 w1 hh hT => ?_
    have:=hQ m1 a1 w1 hh hT
    cases e with
    | normal=>exact absurd hr (eX aW H')
    | exit id=>exact this
    | ret=>exact this
  ·cases hp
 |
  .cond o x y,pc,hp=>by
  rw[gL] at hp
  split at hp
  ·rename_i Cj
   split at hp
   ·rename_i px py RZ hpy
    cases hp
    intro ρ H e aW H' hr m a w h hl hf Q hQ
    rw[cT] at hr
    split at hr
    ·rename_i t ht
     have Qm:=Ro (a:=a) (m:=m) (ρ:=ρ) Cj fun t _=>h.env t
     rw[ht] at Qm
     generalize hev:a.eval o=ro at Qm
     cases Qm
     refine wp_cond hev ?_
     cases t with
     | true=>exact mI AZ mC pA gF N x px RZ ρ H _ aW H' hr m a w h hl hf Q hQ
     | false=>exact mI AZ mC pA gF N y py hpy ρ H _ aW H' hr m a w h hl hf Q hQ
    ·cases hr
   ·cases hp
  ·cases hp
 |
  .block id x,pc,hp=>by
  rw[gL] at hp
  cases RZ:gL P E n x with
  | none=>rw[RZ] at hp;cases hp
  |
   some px =>
   rw[RZ] at hp
   cases hp
   intro ρ H e aW H' hr m a w h hl hf Q hQ
   rw[cT] at hr
   apply wp_block
   split at hr
   ·rename_i Ps uE H1 h1
    split at hr
    ·rename_i hid
     cases hr
     refine mI AZ mC pA gF N x px RZ ρ H _ aW H' h1 m a w h hl hf _ fun m1 a1 w1 hh hT => ?_
     have:=hQ m1 a1 w1 hh hT
     show Exit.inBlock id Q (.exit Ps) a1 w1
     simp only[Exit.inBlock,if_pos hid]
     exact this
    ·rename_i hid
     cases hr
     refine mI AZ mC pA gF N x px RZ ρ H _ aW H' h1 m a w h hl hf _ fun m1 a1 w1 hh hT => ?_
     have:=hQ m1 a1 w1 hh hT
     show Exit.inBlock id Q (.exit Ps) a1 w1
     simp only[Exit.inBlock,if_neg hid]
     exact this
   ·rename_i eX
    refine mI AZ mC pA gF N x px RZ ρ H _ aW H' hr m a w h hl hf _ fun m1 a1 w1 hh hT => ?_
    have:=hQ m1 a1 w1 hh hT
    cases e with
    | normal=>exact this
    | exit Ps=>exact absurd hr (eX Ps aW H')
    | ret=>exact this
 |
  .loop x,pc,hp=>by
  rw[gL] at hp
  cases RZ:gL P E n x with
  | none=>rw[RZ] at hp;cases hp
  |
   some px =>
   rw[RZ] at hp
   cases hp
   have hx:=mI AZ mC pA gF N x px RZ
   intro ρ H e aW H' hr
   rw[cT] at hr
   exact VF hx (fun ρ H x aW H' h=>iL pA px h) N ρ H e aW H' hr
 |
  .exit id,pc,hp=>by
  cases hp
  intro ρ H x aW H' hr m a w h hl hf Q hQ
  cases hr
  exact wp_exit (hQ m a w h (Trans.refl _ _ _ _))
 |
  .ret,pc,hp=>by
  cases hp
  intro ρ H x aW H' hr m a w h hl hf Q hQ
  cases hr
  exact wp_ret (hQ m a w h (Trans.refl _ _ _ _))
 | .rangeFunc ..,pc,hp=>by cases hp
 | .scope _,pc,hp=>by cases hp
 | .label _,pc,hp=>by cases hp
 | .goto _,pc,hp=>by cases hp
 | .refuse _,pc,hp=>by cases hp
def xD (P:Program):ResultVar→Option yL
 | .tmp t=>some (.tmp t)
 | .cell t ty=>(kH P ty).map fun(agg,size,_,_) => .cell t agg size
def Jd (a:Act):ResultVar→Sem Value
 | .tmp t=>pure (a.tmps.getD t undef)
 | .cell x t=>do loadVar t (←asAddr (a.tmps.getD x undef))
theorem anG {m:cS} {ρ:Env} {H:aD} {a:Act} {w:World} (h:Fg n L0 m ρ H a w) {r:ResultVar} {pr:yL} (hp:xD P r=some pr) {v:Value} (hv:RP ρ H pr=some v) :
  ∃rv,RV m v rv∧(Jd a r).run P w = .ok rv w:=by
 cases r with
 |
  tmp t =>
  cases hp
  cases hv
  exact⟨_,h.env t,rfl⟩
 |
  cell x t =>
  simp only[xD] at hp
  cases ht:kH P t with
  | none=>rw[ht] at hp;cases hp
  |
   some q =>
   obtain⟨agg,size,z,nb⟩:=q
   rw[ht] at hp
   cases hp
   obtain⟨rv,h1,h2⟩:=K3 ht hv h.rel (h.env x)
   refine⟨rv,h1,?_⟩
   unfold Jd
   have hpv:=h.env x
   simp only[RP,mE] at hv
   split at hv
   ·rename_i b o hb
    rw[hb] at hpv
    show (do loadVar t (←asAddr (a.tmps.getD x undef)):Sem Value).run P w=_
    generalize a.tmps.getD x undef=rp at h2 hpv ⊢
    cases hpv
    exact h2
   ·cases hv
theorem Vf {m:cS} {ρ:Env} {H:aD} {a:Act} {w:World} (h:Fg n L0 m ρ H a w):∀ {rs:List ResultVar} {ZI:List yL} {vs:List Value},rs.mapM (xD P)=some ZI→zK ρ H ZI=some vs →
  ∃U1,RL m vs U1∧(rs.mapM (Jd a)).run P w = .ok U1 w
 |
  [],ZI,vs,hp,hv=>by
  simp at hp
  subst hp
  cases hv
  exact⟨[],RL.nil m,rfl⟩
 |
  r::rs,ZI,vs,hp,hv=>by
  simp only[List.mapM_cons,Option.pure_def,Option.bind_eq_bind] at hp
  cases h1:xD P r with
  | none=>rw[h1] at hp;cases hp
  |
   some pr =>
   rw[h1] at hp
   cases h2:rs.mapM (xD P) with
   | none=>rw[h2] at hp;cases hp
   |
    some asV =>
    rw[h2] at hp
    cases hp
    simp only[zK] at hv
    split at hv
    ·rename_i v vs' ZV hv2
     cases hv
     obtain⟨rv,g1,g2⟩:=anG h h1 ZV
     obtain⟨U1,g3,g4⟩:=Vf h h2 hv2
     refine⟨rv::U1,RL.cons g1 g3,?_⟩
     rw[List.mapM_cons,Sem.run_bind,g2,Result.andThen_ok,Sem.run_bind,g4]
     rfl
    ·cases hv
theorem GJ {m:cS} {ρ:Env} {H:aD} {a:Act} {w:World} (h:Fg n L0 m ρ H a w) {fn:Func} {ZI:List yL} (hp:fn.results.toList.mapM (xD P)=some ZI) {v:Value} (hv:oJ ZI ρ H=some v) :
  ∃rv,RV m v rv∧(results fn a.tmps).run P w = .ok rv w:=by
 unfold oJ at hv
 cases kA:zK ρ H ZI with
 | none=>rw[kA] at hv;cases hv
 |
  some vs =>
  obtain⟨U1,h1,h2⟩:=Vf h hp kA
  rw[kA] at hv
  have nL:∀rv,(if h:U1.toArray.size=1 then U1.toArray[0] else .tuple U1.toArray)=rv→(results fn a.tmps).run P w = .ok rv w:=by
   intro rv Qm
   have e:results fn a.tmps=(do let vs ←fn.results.mapM (Jd a);pure (if h:vs.size=1 then vs[0] else .tuple vs)):=by
    unfold results
    congr 2
   rw[e,Array.mapM_eq_mapM_toList,Sem.run_bind]
   have:(List.toArray <$> fn.results.toList.mapM (Jd a)).run P w = .ok U1.toArray w:=by
    rw[map_eq_pure_bind,Sem.run_bind,h2]
    rfl
   rw[this,←Qm]
   rfl
  clear h2 kA
  rcases vs with _ | ⟨x,_ | ⟨y,xs⟩⟩
  ·rcases U1 with _ | ⟨x',ys⟩
   ·cases hv
    exact⟨_,h1.RI,nL _ rfl⟩
   ·cases h1.1
  ·rcases U1 with _ | ⟨x',_ | ⟨y',ys⟩⟩
   ·cases h1.1
   ·cases hv
    exact⟨x',h1.iT.1,nL x' rfl⟩
   ·cases h1.1
  ·rcases U1 with _ | ⟨x',_ | ⟨y',ys⟩⟩
   ·cases h1.1
   ·cases h1.1
   ·cases hv
    exact⟨_,h1.RI,nL _ (by simp)⟩
end
end Go.PM
namespace Go.PM
def X3 (P:Program) (E:yC) (L0:Nat):Prop :=
 ∀f p,E.zC f=some p→IE P f∧∀args H v,p args H=some v→∀m w fT,Rel m L0 H w→RL m args fT →
  Calls P f fT.toArray w fun e w'=>∃rv,e = .returned rv∧RV m v rv∧w.heap.size≤w'.heap.size∧(∀rb,rb<w.heap.size→w'.heap[rb]? = w.heap[rb]?)∧w'.os=w.os∧w'.output=w.output∧w'.tape=w.tape
theorem Rel.more {m:cS} {L0:Nat} {H:aD} {w w':World} (h:Rel m L0 H w) (hk:∀rb,rb<w.heap.size→w'.heap[rb]? = w.heap[rb]?):Rel m L0 H w':=by
 have hv:∀b l,m b=some l→l.rb<w.heap.size:=fun b l hb=>by
  obtain⟨arr,e,fz,h1,_⟩:=h.valid b l hb
  exact(Array.getElem?_eq_some_iff.1 h1).1
 refine⟨fun b l hb=>by rw[hk _ (hv b l hb)];exact h.valid b l hb,fun b l cs e p hm hb => ?_,h.inj,fun x hx=>⟨?_,(h.BG x hx).2⟩⟩
 ·obtain⟨h1,h2,h3,h4⟩:=h.row b l cs e p hm hb
  refine⟨h1,h2,h3,fun i hi => ?_⟩
  obtain⟨rv,g1,g2⟩:=h4 i hi
  refine⟨rv,?_,g2⟩
  rw[←g1]
  unfold World.cell?
  simp only[hk _ (hv b l hm)]
 ·obtain⟨e,fz,g1⟩:=(h.BG x hx).1
  exact⟨e,fz,by rw[hk _ (Array.getElem?_eq_some_iff.1 g1).1];exact g1⟩
theorem Wl {P:Program} {E:yC} {f:Nat} {pf:aV} (h:Ny P E f=some pf):∃fn c,P.funcs[f]? = some fn∧fn.body=some c∧(fn.name == "runtime.NumGoroutine")=false∧fn.results.toList.mapM (xD P)=some pf.res∧gL P E fn.ntmps c=some pf.body∧pf.ntmps=fn.ntmps:=by
 unfold Ny at h
 cases hf:P.funcs[f]? with
 | none=>rw[hf] at h;cases h
 |
  some fn =>
  rw[hf] at h
  have h':Jb P E fn=some pf:=h
  unfold Jb at h'
  cases hb:fn.body with
  | none=>rw[hb] at h';cases h'
  |
   some c =>
   rw[hb] at h'
   simp only at h'
   split at h'
   ·cases h'
   ·rename_i XV
    split at h'
    ·cases h'
    ·rename_i res Qg
     cases hc:gL P E fn.ntmps c with
     | none=>rw[hc] at h';cases h'
     |
      some body =>
      rw[hc] at h'
      cases h'
      refine⟨fn,c,rfl,hb,by simpa using XV,?_,hc,rfl⟩
      have e:(fun(r:ResultVar)=>match r with
       | .tmp t=>some (yL.tmp t)
       | .cell t ty=>(kH P ty).map fun(agg,size,_,_) => .cell t agg size)=xD P:=by
       funext r
       cases r<;>rfl
      rw[←e]
      exact Qg
theorem Ga {P:Program} {E:yC} {T:XL} {L0:Nat} (AZ:P.follows .mixedOrders=true) (X0:X3 P E L0) (hT:∀f pf,T f=some pf→Ny P E f=some pf):∀n,tZ P L0 (kM E T n)
 | 0=>fun f args lo H v H' h=>by cases h
 |
  n+1=>fun f args lo H v H' h m w fT hR gF hlen PQ hf=>by
  have pA:=Cd E T n
  rw[kM] at h
  split at h
  ·rename_i p hp
   obtain⟨hco,akT⟩:=X0 f p hp
   refine⟨hco,?_⟩
   cases hpv:p args H with
   | none=>rw[hpv] at h;cases h
   |
    some u =>
    rw[hpv] at h
    cases h
    refine(akT args H v hpv m w fT hR PQ).mono ?_
    rintro e w' ⟨rv,rfl,h1,h2,h3,h4⟩
    exact⟨m,rv,rfl,h1,hR.more h3,fun _ _ h=>h,fun b l hb hn=>(by rw[hb] at hn;cases hn),h2,fun rb BX _=>h3 rb BX,h4⟩
  ·split at h
   ·cases h
   ·rename_i pf hpf
    obtain⟨fn,c,h1,h2,h3,h4,h5,h6⟩:=Wl (hT _ _ hpf)
    split at h
    case isFalse=>cases h
    rename_i uS
    refine⟨⟨fn,h1,h3,by rw[h2];rfl⟩,calls_of_wp h1 h2 ?_⟩
    have BL:fT.toArray.size≤fn.ntmps:=by
     have:=PQ.1
     simp;omega
    have hH:Fg fn.ntmps L0 m (Un args) H { tmps:=fT.toArray++Array.replicate (fn.ntmps-fT.toArray.size) undef,defers:=[] } w:=by
     refine⟨by simp at BL ⊢;omega,rfl,fun t => ?_,hR⟩
     rcases Nat.lt_or_ge t args.length with ht | ht
     ·have h7:=PQ.2 t ht
      have YA:t<fT.length:=by rw[←PQ.1];exact ht
      have e:(fT.toArray++Array.replicate (fn.ntmps-fT.toArray.size) undef).getD t undef=fT.getD t undef:=by
       rw[Array.getD_eq_getD_getElem?,Array.getElem?_append_left (by simpa using YA)]
       simp
      show RV m (args.getD t undef) _
      rw[e]
      exact h7
     ·have e1:args.getD t undef=undef:=by simp[List.getD_eq_getElem?_getD,List.getElem?_eq_none ht]
      have YA:fT.length≤t:=by rw[←PQ.1];exact ht
      have e2:(fT.toArray++Array.replicate (fn.ntmps-fT.toArray.size) undef).getD t undef=undef:=by
       rw[Array.getD_eq_getD_getElem?,Array.getElem?_append_right (by simpa using YA)]
       rw[Array.getElem?_replicate]
       split<;>rfl
      show RV m (args.getD t undef) _
      rw[e1,e2]
      exact RV.undef m
    split at h
    ·rename_i uE H1 nL
     cases hr:oJ pf.res uE H1 with
     | none=>rw[hr] at h;cases h
     |
      some u =>
      rw[hr] at h
      cases h
      refine mI AZ (Ga AZ X0 hT n) pA gF n c pf.body h5 _ _ _ _ _ nL m _ w hH hlen hf _ fun m' a' w' hh hTr => ?_
      obtain⟨rv,g1,g2⟩:=GJ hh h4 hr
      exact⟨hh.defs,rv,g2,m',rv,rfl,g1,hh.rel,hTr⟩
    ·rename_i uE H1 nL
     cases hr:oJ pf.res uE H1 with
     | none=>rw[hr] at h;cases h
     |
      some u =>
      rw[hr] at h
      cases h
      refine mI AZ (Ga AZ X0 hT n) pA gF n c pf.body h5 _ _ _ _ _ nL m _ w hH hlen hf _ fun m' a' w' hh hTr => ?_
      obtain⟨rv,g1,g2⟩:=GJ hh h4 hr
      exact⟨hh.defs,rv,g2,m',rv,rfl,g1,hh.rel,hTr⟩
    ·cases h
end Go.PM
namespace Go.PM
def CLe (c c':fL):Prop:=∀f args lo H r,c f args lo H=some r→c' f args lo H=some r
section
variable {c c':fL} {lo:Nat}
theorem Lv (h:CLe c c') {i:PI} {ρ:Env} {H:aD} {r:Value×aD} (hr:wP c lo i ρ H=some r):wP c' lo i ρ H=some r:=by
 unfold wP at hr ⊢
 split at hr
 ·cases hr
 ·exact hr
 ·split at hr
  ·rename_i Nd
   rw[if_pos Nd]
   split at hr
   ·exact hr
   ·exact h _ _ _ _ _ hr
   ·cases hr
  ·cases hr
theorem P0 (h:CLe c c') {i:PI} {ρ:Env} {H:aD} {r:Env×aD} (hr:wH c lo i ρ H=some r):wH c' lo i ρ H=some r:=by
 unfold wH at hr ⊢
 split at hr
 ·rename_i v H' hv
  rw[Lv h hv]
  exact hr
 ·cases hr
theorem wW (h:CLe c c'):∀ {is:List PI} {ρ:Env} {H:aD} {r:Env×aD},fW c lo is ρ H=some r→fW c' lo is ρ H=some r
 | [],_,_,_,hr=>hr
 |
  i::is,ρ,H,r,hr=>by
  rw[fW] at hr ⊢
  split at hr
  ·rename_i h1
   rw[P0 h h1]
   exact wW h hr
  ·cases hr
theorem vP {b b':Env→aD→Option (Ex×Env×aD)} (h:∀ρ H r,b ρ H=some r→b' ρ H=some r):∀ {n n':Nat} {ρ:Env} {H:aD} {r:Ex×Env×aD},n≤n'→vU b n ρ H=some r→vU b' n' ρ H=some r
 | 0,_,_,_,_,_,hr=>by cases hr
 | n+1,0,_,_,_,hn,_=>by omega
 |
  n+1,n'+1,ρ,H,r,hn,hr=>by
  rw[vU] at hr ⊢
  split at hr
  ·rename_i h1
   rw[h _ _ _ h1]
   exact vP h (by omega) hr
  ·rename_i eX
   rw[h _ _ _ hr]
   split
   ·rename_i aW H' he
    cases he
    exact absurd hr (eX _ _)
   ·rfl
theorem dS (h:CLe c c') {n n':Nat} (hn:n≤n'):∀(p:aE) {ρ:Env} {H:aD} {r:Ex×Env×aD},cT c lo n p ρ H=some r→cT c' lo n' p ρ H=some r
 | .skip,_,_,_,hr=>hr
 |
  .dY ops,ρ,H,r,hr=>by
  rw[cT] at hr ⊢
  cases hs:fW c lo ops ρ H with
  | none=>rw[hs] at hr;cases hr
  | some q=>rw[hs] at hr;rw[wW h hs];exact hr
 |
  .seq a b,ρ,H,r,hr=>by
  rw[cT] at hr ⊢
  split at hr
  ·rename_i h1
   rw[dS h hn a h1]
   exact dS h hn b hr
  ·rename_i eX
   rw[dS h hn a hr]
   split
   ·rename_i he;cases he;exact absurd hr (eX _ _)
   ·rfl
 |
  .cond x a b,ρ,H,r,hr=>by
  rw[cT] at hr ⊢
  split at hr
  ·split at hr
   ·rename_i ht;rw[if_pos ht];exact dS h hn a hr
   ·rename_i ht;rw[if_neg ht];exact dS h hn b hr
  ·cases hr
 |
  .block id a,ρ,H,r,hr=>by
  rw[cT] at hr ⊢
  split at hr
  ·rename_i h1
   rw[dS h hn a h1]
   exact hr
  ·rename_i eX
   rw[dS h hn a hr]
   split
   ·rename_i he;cases he;exact absurd hr (eX _ _ _)
   ·rfl
 |
  .loop a,ρ,H,r,hr=>by
  rw[cT] at hr ⊢
  exact vP (fun ρ H r hr=>dS h hn a hr) hn hr
 | .exit id,_,_,_,hr=>hr
 | .ret,_,_,_,hr=>hr
theorem zV (E:yC) (T:XL):∀n,CLe (kM E T n) (kM E T (n+1))
 | 0,_,_,_,_,_,hr=>by cases hr
 |
  n+1,f,args,lo,H,r,hr=>by
  rw[kM] at hr ⊢
  split at hr
  ·exact hr
  ·split at hr
   ·cases hr
   ·split at hr
    ·rename_i pf _ ha
     rw[if_pos ha]
     split at hr
     ·rename_i h1
      rw[dS (zV E T n) (Nat.le_succ n) pf.body h1]
      exact hr
     ·rename_i h1
      rw[dS (zV E T n) (Nat.le_succ n) pf.body h1]
      exact hr
     ·cases hr
    ·cases hr
theorem mX (E:yC) (T:XL) {n n':Nat} (h:n≤n'):CLe (kM E T n) (kM E T n'):=by
 induction h with
 | refl=>exact fun _ _ _ _ _ h=>h
 | step _ ih=>exact fun f args lo H r hr=>zV E T _ f args lo H r (ih f args lo H r hr)
end
section
variable (E:yC) (T:XL)
open Classical in
noncomputable def lim {α:Type} (run:Nat→Option α):Option α:=if h:∃r,∃n,run n=some r then some (Classical.choose h) else none
theorem SO {α:Type} {run:Nat→Option α} (hm:∀n n' r,n≤n'→run n=some r→run n'=some r) {r:α}:lim run=some r↔∃n,run n=some r:=by
 unfold lim
 constructor
 ·intro h
  split at h
  ·rename_i hx
   cases h
   exact Classical.choose_spec hx
  ·cases h
 ·rintro⟨n,hn⟩
  have hx:∃r,∃n,run n=some r:=⟨r,n,hn⟩
  rw[dif_pos hx]
  obtain⟨n',PS⟩:=Classical.choose_spec hx
  have h1:=hm n (max n n') r (Nat.le_max_left _ _) hn
  have h2:=hm n' (max n n') _ (Nat.le_max_right _ _) PS
  rw[h1] at h2
  injection h2 with h2
  rw[←h2]
noncomputable def call:fL:=fun f args lo H=>lim fun n=>kM E T n f args lo H
noncomputable def code (lo:Nat) (c:aE) (ρ:Env) (H:aD):Option (Ex×Env×aD):=lim fun n=>cT (kM E T n) lo n c ρ H
theorem sQ {f:Nat} {args:List Value} {lo:Nat} {H:aD} {r:Value×aD}:call E T f args lo H=some r↔∃n,kM E T n f args lo H=some r :=
 SO fun _ _ r h hr=>mX E T h f args lo H r hr
theorem bY {lo:Nat} {c:aE} {ρ:Env} {H:aD} {r:Ex×Env×aD}:code E T lo c ρ H=some r↔∃n,cT (kM E T n) lo n c ρ H=some r :=
 SO fun _ _ _ h hr=>dS (mX E T h) h c hr
theorem Jg {lo:Nat}:∀ {is:List PI} {ρ:Env} {H:aD} {r:Env×aD},fW (call E T) lo is ρ H=some r↔∃n,fW (kM E T n) lo is ρ H=some r:=by
 have le:∀n,CLe (kM E T n) (call E T):=fun n f args lo H r hr=>(sQ E T).2 ⟨n,hr⟩
 have val:∀ {i:PI} {ρ:Env} {H:aD} {r:Value×aD},wP (call E T) lo i ρ H=some r→∃n,wP (kM E T n) lo i ρ H=some r:=by
  intro i ρ H r hr
  unfold wP at hr ⊢
  split at hr
  ·cases hr
  ·exact⟨0,hr⟩
  ·split at hr
   ·rename_i Nd
    split at hr
    ·exact⟨0,by rw[if_pos Nd];exact hr⟩
    ·obtain⟨n,hn⟩:=(sQ E T).1 hr
     exact⟨n,by rw[if_pos Nd];exact hn⟩
    ·cases hr
   ·cases hr
 intro is
 induction is with
 | nil=>exact fun {ρ H r}=>⟨fun h=>⟨0,h⟩,fun⟨_,h⟩=>h⟩
 |
  cons i is ih =>
  intro ρ H r
  constructor
  ·intro h
   rw[fW] at h
   split at h
   ·rename_i uE H1 h1
    obtain⟨v,hv,rfl⟩:=wI h1
    obtain⟨n1,hn1⟩:=val hv
    obtain⟨n2,Yv⟩:=ih.1 h
    refine⟨max n1 n2,?_⟩
    rw[fW]
    have e:wH (kM E T (max n1 n2)) lo i ρ H=some (put ρ i.dst v,H1):=by
     unfold wH
     rw[Lv (mX E T (Nat.le_max_left n1 n2)) hn1]
    rw[e]
    exact wW (mX E T (Nat.le_max_right n1 n2)) Yv
   ·cases h
  ·rintro⟨n,h⟩
   exact wW (le n) h
theorem zM {α:Type} {a b:Option α} (h:∀r,a=some r↔b=some r):a=b:=by
 cases a with
 |
  none =>
  cases b with
  | none=>rfl
  | some y=>exact((h y).2 rfl)
 | some x=>exact((h x).1 rfl).symm
variable {lo:Nat} {ρ:Env} {H:aD}
theorem TA:code E T lo .skip ρ H=some (.normal,ρ,H):=(bY E T).2 ⟨0,rfl⟩
theorem Ub {id:Nat}:code E T lo (.exit id) ρ H=some (.exit id,ρ,H):=(bY E T).2 ⟨0,rfl⟩
theorem Wt:code E T lo .ret ρ H=some (.ret,ρ,H):=(bY E T).2 ⟨0,rfl⟩
theorem XA {ops:List PI}:code E T lo (.dY ops) ρ H=(fW (call E T) lo ops ρ H).map fun(aW,H')=>(.normal,aW,H'):=by
 refine zM fun r => ?_
 rw[bY]
 constructor
 ·rintro⟨n,h⟩
  rw[cT] at h
  cases hs:fW (kM E T n) lo ops ρ H with
  | none=>rw[hs] at h;cases h
  |
   some q =>
   rw[hs] at h
   rw[(Jg E T).2 ⟨n,hs⟩]
   exact h
 ·intro h
  cases hs:fW (call E T) lo ops ρ H with
  | none=>rw[hs] at h;cases h
  |
   some q =>
   rw[hs] at h
   obtain⟨n,hn⟩:=(Jg E T).1 hs
   exact⟨n,by rw[cT,hn];exact h⟩
theorem XP {a b:aE}:code E T lo (.seq a b) ρ H=match code E T lo a ρ H with
  | some (.normal,aW,H')=>code E T lo b aW H'
  | r=>r:=by
 refine zM fun r => ?_
 rw[bY]
 constructor
 ·rintro⟨n,h⟩
  rw[cT] at h
  split at h
  ·rename_i h1
   rw[(bY E T).2 ⟨n,h1⟩]
   exact(bY E T).2 ⟨n,h⟩
  ·rename_i eX
   rw[(bY E T).2 ⟨n,h⟩]
   split
   ·rename_i he;cases he;exact absurd h (eX _ _)
   ·rfl
 ·intro h
  split at h
  ·rename_i h1
   obtain⟨n1,h1⟩:=(bY E T).1 h1
   obtain⟨n2,h2⟩:=(bY E T).1 h
   refine⟨max n1 n2,?_⟩
   rw[cT,dS (mX E T (Nat.le_max_left n1 n2)) (Nat.le_max_left n1 n2) a h1]
   exact dS (mX E T (Nat.le_max_right n1 n2)) (Nat.le_max_right n1 n2) b h2
  ·rename_i eX
   obtain⟨n,h1⟩:=(bY E T).1 h
   refine⟨n,?_⟩
   rw[cT,h1]
   split
   ·rename_i he;cases he;exact absurd h (eX _ _)
   ·rfl
theorem T1 {x:Operand} {a b:aE}:code E T lo (.cond x a b) ρ H=match ev ρ x with
  | .bool t=>if t then code E T lo a ρ H else code E T lo b ρ H
  | _=>none:=by
 refine zM fun r => ?_
 rw[bY]
 constructor
 ·rintro⟨n,h⟩
  rw[cT] at h
  split at h
  ·rename_i t he
   rw[he]
   show (if t=true then code E T lo a ρ H else code E T lo b ρ H)=some r
   split at h
   ·rename_i ht;rw[if_pos ht];exact(bY E T).2 ⟨n,h⟩
   ·rename_i ht;rw[if_neg ht];exact(bY E T).2 ⟨n,h⟩
  ·cases h
 ·intro h
  split at h
  ·rename_i t he
   split at h
   ·rename_i ht
    obtain⟨n,h⟩:=(bY E T).1 h
    refine⟨n,?_⟩
    rw[cT,he]
    show (if t=true then _ else _)=_
    rw[if_pos ht]
    exact h
   ·rename_i ht
    obtain⟨n,h⟩:=(bY E T).1 h
    refine⟨n,?_⟩
    rw[cT,he]
    show (if t=true then _ else _)=_
    rw[if_neg ht]
    exact h
  ·cases h
theorem P4 {id:Nat} {a:aE}:code E T lo (.block id a) ρ H=match code E T lo a ρ H with
  | some (.exit Ps,aW,H')=>if Ps=id then some (.normal,aW,H') else some (.exit Ps,aW,H')
  | r=>r:=by
 refine zM fun r => ?_
 rw[bY]
 constructor
 ·rintro⟨n,h⟩
  rw[cT] at h
  split at h
  ·rename_i h1
   rw[(bY E T).2 ⟨n,h1⟩]
   exact h
  ·rename_i eX
   rw[(bY E T).2 ⟨n,h⟩]
   split
   ·rename_i he;cases he;exact absurd h (eX _ _ _)
   ·rfl
 ·intro h
  split at h
  ·rename_i h1
   obtain⟨n,h1⟩:=(bY E T).1 h1
   exact⟨n,by rw[cT,h1];exact h⟩
  ·rename_i eX
   obtain⟨n,h1⟩:=(bY E T).1 h
   refine⟨n,?_⟩
   rw[cT,h1]
   split
   ·rename_i he;cases he;exact absurd h (eX _ _ _)
   ·rfl
theorem Tu {a:aE}:code E T lo (.loop a) ρ H=match code E T lo a ρ H with
  | some (.normal,aW,H')=>code E T lo (.loop a) aW H'
  | r=>r:=by
 refine zM fun r => ?_
 rw[bY]
 constructor
 ·rintro⟨n,h⟩
  rw[cT] at h
  cases n with
  | zero=>cases h
  |
   succ n =>
   rw[vU] at h
   split at h
   ·rename_i h1
    rw[(bY E T).2 ⟨n+1,h1⟩]
    refine(bY E T).2 ⟨n+1,?_⟩
    rw[cT]
    exact vP (fun _ _ _ h=>h) (Nat.le_succ n) h
   ·rename_i eX
    rw[(bY E T).2 ⟨n+1,h⟩]
    split
    ·rename_i he;cases he;exact absurd h (eX _ _)
    ·rfl
 ·intro h
  split at h
  ·rename_i h1
   obtain⟨n1,h1⟩:=(bY E T).1 h1
   obtain⟨n2,h2⟩:=(bY E T).1 h
   refine⟨max n1 n2+1,?_⟩
   have g1:=dS (mX E T (show n1≤max n1 n2+1 by omega)) (show n1≤max n1 n2+1 by omega) a h1
   rw[cT,vU,g1]
   rw[cT] at h2
   exact vP (fun _ _ _ h=>dS (mX E T (show n2≤max n1 n2+1 by omega)) (show n2≤max n1 n2+1 by omega) a h) (show n2≤max n1 n2 by omega) h2
  ·rename_i eX
   obtain⟨n,h1⟩:=(bY E T).1 h
   refine⟨n+1,?_⟩
   rw[cT,vU,dS (zV E T n) (Nat.le_succ n) a h1]
   split
   ·rename_i he;cases he;exact absurd h (eX _ _)
   ·rfl
noncomputable def abZ (lo:Nat) (pf:aV) (args:List Value) (H:aD):Option (Value×aD) :=
 if args.length≤pf.ntmps then
  match code E T lo pf.body (Un args) H with
  | some (.normal,ρ,H') | some (.ret,ρ,H')=>(oJ pf.res ρ H').map (·,H')
  | _=>none
 else none
theorem Th {f:Nat} {p:List Value→aD→Option Value} (h:E.zC f=some p) {args:List Value}:call E T f args lo H=(p args H).map (·,H):=by
 refine zM fun r => ?_
 rw[sQ]
 constructor
 ·rintro⟨n,hr⟩
  cases n with
  | zero=>cases hr
  | succ n=>rw[kM,h] at hr;exact hr
 ·intro hr
  exact⟨1,by rw[kM,h];exact hr⟩
theorem YK {f:Nat} {pf:aV} (hp:E.zC f=none) (h:T f=some pf) {args:List Value}:call E T f args lo H=abZ E T lo pf args H:=by
 refine zM fun r => ?_
 rw[sQ]
 unfold abZ
 constructor
 ·rintro⟨n,hr⟩
  cases n with
  | zero=>cases hr
  |
   succ n =>
   rw[kM,hp,h] at hr
   simp only at hr
   split at hr
   ·rename_i ha
    rw[if_pos ha]
    split at hr
    ·rename_i h1
     rw[(bY E T).2 ⟨n,h1⟩]
     exact hr
    ·rename_i h1
     rw[(bY E T).2 ⟨n,h1⟩]
     exact hr
    ·cases hr
   ·cases hr
 ·intro hr
  split at hr
  ·rename_i ha
   split at hr
   ·rename_i h1
    obtain⟨n,h1⟩:=(bY E T).1 h1
    exact⟨n+1,by rw[kM,hp,h];simp only;rw[if_pos ha,h1];exact hr⟩
   ·rename_i h1
    obtain⟨n,h1⟩:=(bY E T).1 h1
    exact⟨n+1,by rw[kM,hp,h];simp only;rw[if_pos ha,h1];exact hr⟩
   ·cases hr
  ·cases hr
end
end Go.PM
namespace Go.PM
theorem B2 {H H':aD} {lo Af b o:Nat} {new:List Value} (hl:Af≤lo) (h:H.write lo b o new=some H'):H.write Af b o new=some H':=by
 unfold aD.write at h ⊢
 split at h
 ·split at h
  ·rename_i hc
   rw[if_pos ⟨by omega,hc.2⟩]
   exact h
  ·cases h
 ·cases h
theorem Ag {α β:Type} {a b:Option α} {f:α→β} {r:β} (DO:∀x,a=some x→b=some x) (h:a.map f=some r):b.map f=some r:=by
 cases a with
 | none=>cases h
 | some x=>rw[DO x rfl];exact h
theorem G4 {lo Af size bytes add:Nat} {x:Value} {new:List Value} {H:aD} {r:Value×aD} (hl:Af≤lo) (h:dL lo size bytes x add new H=some r):dL Af size bytes x add new H=some r:=by
 unfold dL at h ⊢
 split at h
 case isFalse=>cases h
 rename_i hc
 rw[if_pos hc]
 split at h
 ·exact h
 ·split at h
  ·split at h
   ·rename_i h1
    skip
    rw[if_pos h1]
    split at h
    ·rename_i h2
     rw[if_pos h2]
     split at h
     ·rename_i h3;rw[if_pos h3];exact h
     ·rename_i h3
      rw[if_neg h3]
      exact Ag (fun H' hw=>B2 hl hw) h
    ·rename_i h2
     rw[if_neg h2]
     split at h
     ·rename_i h3
      rw[if_pos h3]
      split at h
      ·rename_i h4
       rw[if_pos h4]
       split at h
       ·rename_i h5;rw[if_pos (by omega)];exact h
       ·cases h
      ·rename_i h4;rw[if_neg h4];exact h
     ·cases h
   ·cases h
  ·cases h
 ·cases h
theorem SC {lo Af:Nat} {p:lM} {ρ:Env} {H:aD} {o:Out} (hl:Af≤lo) (h:pop lo p ρ H=some o):pop Af p ρ H=some o:=by
 cases p<;>first | exact h | skip
 case store size q v =>
  simp only[pop] at h ⊢
  split at h
  ·split at h
   ·rename_i h1
    skip
    rw[if_pos h1]
    exact Ag (fun H' hw=>B2 hl hw) h
   ·cases h
  ·cases h
 case app size bytes x y =>
  simp only[pop] at h ⊢
  split at h
  ·split at h
   ·skip
    exact Ag (fun H' hw=>G4 hl hw) h
   ·cases h
  ·cases h
 case appz z bytes x n =>
  simp only[pop] at h ⊢
  split at h
  ·split at h
   ·rename_i h1
    skip
    rw[if_pos h1]
    exact Ag (fun H' hw=>G4 hl hw) h
   ·cases h
  ·cases h
 case copy size x y =>
  simp only[pop] at h ⊢
  split at h
  ·exact h
  ·split at h
   ·skip
    exact Ag (fun H' hw=>B2 hl hw) h
   ·cases h
  ·cases h
 case clear z x =>
  simp only[pop] at h ⊢
  split at h
  ·exact h
  ·skip
   split at h
   ·rename_i h1;rw[if_pos h1];exact h
   ·rename_i h1
    rw[if_neg h1]
    exact Ag (fun H' hw=>B2 hl hw) h
  ·cases h
def WG (c:fL):Prop:=∀f args lo Af H r,Af≤lo→c f args lo H=some r→c f args Af H=some r
section
variable {c:fL} {lo Af:Nat}
theorem Jr (hc:WG c) (hl:Af≤lo):∀ {is:List PI} {ρ:Env} {H:aD} {r:Env×aD},fW c lo is ρ H=some r→fW c Af is ρ H=some r
 | [],_,_,_,h=>h
 |
  i::is,ρ,H,r,h=>by
  rw[fW] at h ⊢
  split at h
  ·rename_i uE H1 h1
   have e:wH c Af i ρ H=some (uE,H1):=by
    unfold wH at h1 ⊢
    split at h1
    ·rename_i v H2 hv
     have:wP c Af i ρ H=some (v,H2):=by
      unfold wP at hv ⊢
      split at hv
      ·cases hv
      ·exact hv
      ·split at hv
       ·rename_i Nd
        rw[if_pos Nd]
        split at hv
        ·rename_i hp;rw[SC hl hp];exact hv
        ·rename_i hp
         rw[SC hl hp]
         show c _ _ (if i.quiet=true then H.length else Af) H=_
         cases hq:i.quiet with
         | true=>rw[hq] at hv;exact hv
         | false=>rw[hq] at hv;exact hc _ _ _ _ _ _ hl hv
        ·cases hv
       ·cases hv
     rw[this]
     exact h1
    ·cases h1
   rw[e]
   exact Jr hc hl h
  ·cases h
theorem Tl {b b':Env→aD→Option (Ex×Env×aD)} (h:∀ρ H r,b ρ H=some r→b' ρ H=some r):∀ {n:Nat} {ρ:Env} {H:aD} {r:Ex×Env×aD},vU b n ρ H=some r→vU b' n ρ H=some r :=
 fun hr=>vP h (Nat.le_refl _) hr
theorem lH (hc:WG c) (hl:Af≤lo) {n:Nat}:∀(p:aE) {ρ:Env} {H:aD} {r:Ex×Env×aD},cT c lo n p ρ H=some r→cT c Af n p ρ H=some r
 | .skip,_,_,_,hr=>hr
 |
  .dY ops,ρ,H,r,hr=>by
  rw[cT] at hr ⊢
  exact Ag (fun _ h=>Jr hc hl h) hr
 |
  .seq a b,ρ,H,r,hr=>by
  rw[cT] at hr ⊢
  split at hr
  ·rename_i h1
   rw[lH hc hl a h1]
   exact lH hc hl b hr
  ·rename_i eX
   rw[lH hc hl a hr]
   split
   ·rename_i he;cases he;exact absurd hr (eX _ _)
   ·rfl
 |
  .cond x a b,ρ,H,r,hr=>by
  rw[cT] at hr ⊢
  split at hr
  ·split at hr
   ·rename_i ht;rw[if_pos ht];exact lH hc hl a hr
   ·rename_i ht;rw[if_neg ht];exact lH hc hl b hr
  ·cases hr
 |
  .block id a,ρ,H,r,hr=>by
  rw[cT] at hr ⊢
  split at hr
  ·rename_i h1
   rw[lH hc hl a h1]
   exact hr
  ·rename_i eX
   rw[lH hc hl a hr]
   split
   ·rename_i he;cases he;exact absurd hr (eX _ _ _)
   ·rfl
 |
  .loop a,ρ,H,r,hr=>by
  rw[cT] at hr ⊢
  exact Tl (fun ρ H r hr=>lH hc hl a hr) hr
 | .exit id,_,_,_,hr=>hr
 | .ret,_,_,_,hr=>hr
end
theorem Ft (E:yC) (T:XL):∀n,WG (kM E T n)
 | 0,_,_,_,_,_,_,_,h=>by cases h
 |
  n+1,f,args,lo,Af,H,r,hl,h=>by
  rw[kM] at h ⊢
  split at h
  ·exact h
  ·split at h
   ·cases h
   ·split at h
    ·rename_i pf _ ha
     rw[if_pos ha]
     split at h
     ·rename_i h1;rw[lH (Ft E T n) hl pf.body h1];exact h
     ·rename_i h1;rw[lH (Ft E T n) hl pf.body h1];exact h
     ·cases h
    ·cases h
section
variable {E:yC} {T:XL}
theorem W7 {f:Nat} {args:List Value} {lo Af:Nat} {H:aD} {r:Value×aD} (hl:Af≤lo) (h:call E T f args lo H=some r):call E T f args Af H=some r:=by
 obtain⟨n,hn⟩:=(sQ E T).1 h
 exact(sQ E T).2 ⟨n,Ft E T n f args lo Af H r hl hn⟩
theorem XF {f:Nat} {args:List Value} {lo:Nat} {H H':aD} {v:Value} (h:call E T f args lo H=some (v,H')):Ext lo H H':=by
 obtain⟨n,hn⟩:=(sQ E T).1 h
 exact Cd E T n f args lo H v H' hn
theorem Ext.more {H H':aD} (h:Ext H.length H H'):∃K,H'=H++K:=by
 refine⟨H'.drop H.length,?_⟩
 apply List.ext_getElem?
 intro i
 rcases Nat.lt_or_ge i H.length with hi | hi
 ·rw[List.getElem?_append_left hi]
  exact h.low i hi hi
 ·rw[List.getElem?_append_right hi,List.getElem?_drop,show H.length+(i-H.length)=i by omega]
def Sd (E:yC) (T:XL) (f:Nat) (args:List Value) (H:aD) (R:Value→aD→Prop):Prop :=
 ∃v K,call E T f args H.length H=some (v,H++K)∧R v (H++K)
theorem Sd.at {f:Nat} {args:List Value} {H:aD} {R:Value→aD→Prop} (h:Sd E T f args H R) {lo:Nat} (hl:lo≤H.length):∃v K,call E T f args lo H=some (v,H++K)∧R v (H++K):=by
 obtain⟨v,K,h1,h2⟩:=h
 exact⟨v,K,W7 hl h1,h2⟩
theorem Sd.mk {f:Nat} {args:List Value} {H H':aD} {v:Value} {R:Value→aD→Prop} (h:call E T f args H.length H=some (v,H')) (hr:R v H'):Sd E T f args H R:=by
 obtain⟨K,rfl⟩:=(XF h).more
 exact⟨v,K,h,hr⟩
end
end Go.PM
namespace Go.PM
def strCells:List Value→Option (List ByteArray)
 | []=>some []
 | .string s::r=>(strCells r).map (s :: ·)
 | _=>none
def sL:List Value→aD→Option Value
 | [.int .u64 n,.int .i64 b],_=>if b=10∧0≤n∧n<18446744073709551616 then some (.string ⟨(Lib.decDigits n.toNat).toArray⟩) else none
 | _,_=>none
def DW:List Value→aD→Option Value
 | [.string s,.int .i64 c],_=>if 0≤c∧c≤9223372036854775807∧s.size*c.toNat≤140737488355328 then some (.string ⟨(Lib.repeatL s.data.toList c.toNat).toArray⟩) else none
 | _,_=>none
def A6:List Value→aD→Option Value
 | [.int .u32 x],_=>if 0≤x∧x≤4294967295 then some (.int .i64 (32-(Lib.bitLen x.toNat:Int))) else none
 | _,_=>none
def PF:List Value→aD→Option Value
 | [.slice none 0 0,.string _],_=>some (.string ⟨#[]⟩)
 |
  [.slice (some ⟨b,o,none⟩) n c,.string sep],H =>
  if n=0 then some (.string ⟨#[]⟩) else
  match (H.read b o n).bind strCells with
  | some xs=>if xs.length=n∧n≤c∧n≤140737488355328∧(Lib.join (xs.map (·.data.toList)) sep.data.toList).length≤140737488355328 then some (.string ⟨(Lib.join (xs.map (·.data.toList)) sep.data.toList).toArray⟩) else none
  | none=>none
 | _,_=>none
def Mg:List Value→aD→Option Value
 |
  [.string s,.string p],_=>match p.data.toList with
  | [c]=>some (.int .i64 (Lib.indexByte s.data.toList c))
  | _=>none
 | _,_=>none
def vB:List Value→aD→Option Value
 |
  [.string s,.int .i64 b,.int .i64 z],_=>if b=10∧z=64∧s.size≤9223372036854775806 then
   match Lib.parseUintB 64 s.data.toList with
   | .ok u=>some (.tuple #[.int .u64 (u:Int),.nilIface])
   | _=>none
  else none
 | _,_=>none
end Go.PM
namespace Go.PM
open Go.Proofs
def aoN:List Nat:=[]
 ++ [56]
 ++ [221]
 ++ [239]
 ++ [240]
def G1 (f:Nat):Option (List Value→aD→Option Value) :=
 if f=184 then some sL else
 if f=103 then some DW else
 if f=186 then some PF else
 if f=219 then some A6 else
 if f=241 then some Mg else
 if f=217 then some vB else
 (fun _=>none) f
def cfg:yC:={ zC:=G1,eff:=fun f=>aoN.contains f }
noncomputable def hJ:XL:=fun f=>if (G1 f).isSome then none else Ny Tryz.prog cfg f
theorem abA (f:Nat) (pf:aV) (h:hJ f=some pf):Ny Tryz.prog cfg f=some pf:=by
 unfold hJ at h
 split at h
 ·cases h
 ·exact h
theorem Qk {f:Nat} {pf:aV} (h:hJ f=some pf):cfg.zC f=none:=by
 unfold hJ at h
 split at h
 ·cases h
 ·rename_i h1
  show G1 f=none
  cases hp:G1 f with
  | none=>rfl
  | some p=>rw[hp] at h1;exact absurd rfl h1
end Go.PM
namespace Go.PM
noncomputable abbrev oV:fL:=call cfg hJ
def W (lo:Nat) (c:aE) (Q:Ex→Env→aD→Prop) (ρ:Env) (H:aD):Prop:=∃x aW H',code cfg hJ lo c ρ H=some (x,aW,H')∧Q x aW H'
def WS (lo:Nat) (is:List PI) (K:Env→aD→Prop) (ρ:Env) (H:aD):Prop:=∃aW H',fW oV lo is ρ H=some (aW,H')∧K aW H'
def amQ (lo:Nat) (b:aE) (Q:Ex→Env→aD→Prop):Ex→Env→aD→Prop
 | .normal,ρ,H=>W lo b Q ρ H
 | x,ρ,H=>Q x ρ H
def ahK (id:Nat) (Q:Ex→Env→aD→Prop):Ex→Env→aD→Prop
 | .exit Ps,ρ,H=>if Ps=id then Q .normal ρ H else Q (.exit Ps) ρ H
 | x,ρ,H=>Q x ρ H
def alH (res:List yL) (R:Value→aD→Prop):Ex→Env→aD→Prop
 | .exit _,_,_=>False
 | _,ρ,H=>∃v,oJ res ρ H=some v∧R v H
def ahN (J:Env→aD→Prop) (Q:Ex→Env→aD→Prop):Ex→Env→aD→Prop
 | .normal,ρ,H=>J ρ H
 | x,ρ,H=>Q x ρ H
section
variable {lo:Nat} {Q:Ex→Env→aD→Prop} {K:Env→aD→Prop} {ρ:Env} {H:aD} {b:aE} {id:Nat} {R:Value→aD→Prop} {res:List yL} {J:Env→aD→Prop}
theorem F9 {i:Nat}:ahK id Q (.exit i) ρ H=if i=id then Q .normal ρ H else Q (.exit i) ρ H:=rfl
theorem abJ:W lo .skip Q ρ H=Q .normal ρ H:=by
 unfold W
 rw[TA]
 exact propext ⟨fun⟨_,_,_,h,hq⟩=>(by cases h;exact hq),fun h=>⟨_,_,_,rfl,h⟩⟩
theorem adJ {i:Nat}:W lo (.exit i) Q ρ H=Q (.exit i) ρ H:=by
 unfold W
 rw[Ub]
 exact propext ⟨fun⟨_,_,_,h,hq⟩=>(by cases h;exact hq),fun h=>⟨_,_,_,rfl,h⟩⟩
theorem aiP:W lo .ret Q ρ H=Q .ret ρ H:=by
 unfold W
 rw[Wt]
 exact propext ⟨fun⟨_,_,_,h,hq⟩=>(by cases h;exact hq),fun h=>⟨_,_,_,rfl,h⟩⟩
theorem ahI {ops:List PI}:W lo (.dY ops) Q ρ H=WS lo ops (Q .normal) ρ H:=by
 unfold W WS
 rw[XA]
 apply propext
 constructor
 ·rintro⟨x,aW,H',h,hq⟩
  cases hs:fW (call cfg hJ) lo ops ρ H with
  | none=>rw[hs] at h;cases h
  |
   some q =>
   rw[hs] at h
   cases h
   exact⟨_,_,rfl,hq⟩
 ·rintro⟨aW,H',h,hq⟩
  exact⟨_,_,_,by rw[h];rfl,hq⟩
theorem agU {a:aE}:W lo (.seq a b) Q ρ H=W lo a (amQ lo b Q) ρ H:=by
 unfold W
 rw[XP]
 apply propext
 constructor
 ·rintro⟨x,aW,H',h,hq⟩
  split at h
  ·rename_i uE H1 h1
   exact⟨_,_,_,h1,x,aW,H',h,hq⟩
  ·rename_i eX
   refine⟨x,aW,H',h,?_⟩
   cases x with
   | normal=>exact absurd h (eX _ _)
   | exit i=>exact hq
   | ret=>exact hq
 ·rintro⟨x,aW,H',h,hq⟩
  rw[h]
  cases x with
  | normal=>exact hq
  | exit i=>exact⟨_,_,_,rfl,hq⟩
  | ret=>exact⟨_,_,_,rfl,hq⟩
theorem YN {a:aE}:W lo (.block id a) Q ρ H=W lo a (ahK id Q) ρ H:=by
 unfold W
 rw[P4]
 apply propext
 constructor
 ·rintro⟨x,aW,H',h,hq⟩
  split at h
  ·rename_i Ps uE H1 h1
   refine⟨_,_,_,h1,?_⟩
   rw[F9]
   split at h
   ·rename_i he;cases h;rw[if_pos he];exact hq
   ·rename_i he;cases h;rw[if_neg he];exact hq
  ·rename_i eX
   refine⟨x,aW,H',h,?_⟩
   cases x with
   | normal=>exact hq
   | exit i=>exact absurd h (eX _ _ _)
   | ret=>exact hq
 ·rintro⟨x,aW,H',h,hq⟩
  rw[h]
  cases x with
  | normal=>exact⟨_,_,_,rfl,hq⟩
  |
   exit i =>
   rw[F9] at hq
   show ∃x yS YY,(if i=id then some (Ex.normal,aW,H') else some (Ex.exit i,aW,H'))=some (x,yS,YY)∧Q x yS YY
   split at hq
   ·rename_i he;rw[if_pos he];exact⟨_,_,_,rfl,hq⟩
   ·rename_i he;rw[if_neg he];exact⟨_,_,_,rfl,hq⟩
  | ret=>exact⟨_,_,_,rfl,hq⟩
theorem adP {x:Operand} {a:aE}:W lo (.cond x a b) Q ρ H=∃t,ev ρ x = .bool t∧((t=true→W lo a Q ρ H)∧(t=false→W lo b Q ρ H)):=by
 unfold W
 rw[T1]
 apply propext
 constructor
 ·rintro⟨y,aW,H',h,hq⟩
  split at h
  ·rename_i t ht
   cases t with
   | true=>exact⟨true,ht,fun _=>⟨y,aW,H',h,hq⟩,fun h=>by cases h⟩
   | false=>exact⟨false,ht,fun h=>(by cases h),fun _=>⟨y,aW,H',h,hq⟩⟩
  ·cases h
 ·rintro⟨t,ht,h1,h2⟩
  rw[ht]
  cases t with
  | true=>exact h1 rfl
  | false=>exact h2 rfl
theorem W.mono {Q':Ex→Env→aD→Prop} {c:aE} (h:W lo c Q ρ H) (hq:∀x ρ H,Q x ρ H→Q' x ρ H):W lo c Q' ρ H:=by
 obtain⟨x,aW,H',h1,h2⟩:=h
 exact⟨x,aW,H',h1,hq _ _ _ h2⟩
noncomputable def iR (lo:Nat) (q:Bool) (op:lM) (ρ:Env) (H:aD):Option (Value×aD) :=
 match pop lo op ρ H with
 | some (.val v H')=>some (v,H')
 | some (.call f args)=>oV f args (if q then H.length else lo) H
 | none=>none
theorem adL:WS lo [] K ρ H=K ρ H:=by
 unfold WS
 apply propext
 constructor
 ·rintro⟨aW,H',h,hk⟩;cases h;exact hk
 ·intro h;exact⟨ρ,H,rfl,h⟩
theorem agM {i:PI} {is:List PI}:WS lo (i::is) K ρ H=∃v H',wP oV lo i ρ H=some (v,H')∧WS lo is K (put ρ i.dst v) H':=by
 unfold WS
 apply propext
 constructor
 ·rintro⟨aW,H',h,hk⟩
  rw[fW] at h
  split at h
  ·rename_i uE H1 h1
   obtain⟨v,hv,rfl⟩:=wI h1
   exact⟨v,H1,hv,aW,H',h,hk⟩
  ·cases h
 ·rintro⟨v,H1,hv,aW,H',h,hk⟩
  refine⟨aW,H',?_,hk⟩
  rw[fW]
  unfold wH
  rw[hv]
  exact h
variable {q:Bool}
theorem cU {op:lM} (h:qY op=true):iR lo q op ρ H=(gQ op ρ).map (·,H):=by
 unfold iR
 rw[uX h]
 cases gQ op ρ<;>rfl
theorem YD {x:Operand}:iR lo q (.mv x) ρ H=some (ev ρ x,H):=rfl
theorem T9 {c a b:Operand}:iR lo q (.pick c a b) ρ H=(match ev ρ c with | .bool t=>some ((if t=true then ev ρ a else ev ρ b),H) | _=>none):=by
 rw[cU rfl]
 simp only[gQ]
 cases ev ρ c<;>rfl
theorem WJ {op:BinOp} {x y:Operand}:iR lo q (.bin op x y) ρ H=(cX op (ev ρ x) (ev ρ y)).map (·,H):=cU rfl
theorem YB {op:UnOp} {x:Operand}:iR lo q (.un op x) ρ H=(WU op (ev ρ x)).map (·,H):=cU rfl
theorem Tc {f:Nat} {args:List Operand}:iR lo q (.call f args) ρ H=oV f (args.map (ev ρ)) (if q then H.length else lo) H:=rfl
end
theorem Wj {f lo:Nat} {pf:aV} {args:List Value} {H:aD} {R:Value→aD→Prop} (ht:hJ f=some pf) (ha:args.length≤pf.ntmps) (h:W lo pf.body (alH pf.res R) (Un args) H):∃v H',oV f args lo H=some (v,H')∧R v H':=by
 obtain⟨x,aW,H',h1,h2⟩:=h
 show ∃v H',call cfg hJ f args lo H=some (v,H')∧R v H'
 rw[YK cfg hJ (Qk ht) ht]
 unfold abZ
 rw[if_pos ha,h1]
 cases x with
 | exit i=>exact h2.elim
 |
  normal =>
  obtain⟨v,h3,h4⟩:=h2
  exact⟨v,H',by simp only;rw[h3];rfl,h4⟩
 |
  ret =>
  obtain⟨v,h3,h4⟩:=h2
  exact⟨v,H',by simp only;rw[h3];rfl,h4⟩
end Go.PM
namespace Go.PM
theorem wrap64 {x:Int} (h1 : -9223372036854775808≤x) (h2:x≤9223372036854775807):IntKind.i64.wrap x=x:=by
 rw[IntKind.wrap_i64]
 omega
section
variable {k:IntKind} {a b:Int}
theorem O3:cX .add (.int k a) (.int k b)=some (.int k (k.wrap (a+b))):=by simp[cX]
theorem Ok:cX .sub (.int k a) (.int k b)=some (.int k (k.wrap (a-b))):=by simp[cX]
theorem NZ:cX .mul (.int k a) (.int k b)=some (.int k (k.wrap (a*b))):=by simp[cX]
theorem NK (h:b≠0):cX .rem (.int k a) (.int k b)=some (.int k (a.tmod b)):=by simp[cX,h]
theorem Oj:cX .lss (.int k a) (.int k b)=some (.bool (decide (a<b))):=by simp[cX]
theorem Nz:cX .leq (.int k a) (.int k b)=some (.bool (decide (a≤b))):=by simp[cX]
theorem NO:cX .gtr (.int k a) (.int k b)=some (.bool (decide (b<a))):=by simp[cX]
theorem OZ:cX .geq (.int k a) (.int k b)=some (.bool (decide (b≤a))):=by simp[cX]
theorem O2:cX .eql (.int k a) (.int k b)=some (.bool (decide (a=b))):=by
 simp only[cX,if_true]
 rfl
theorem ND:cX .neq (.int k a) (.int k b)=some (.bool (!decide (a=b))):=by
 simp only[cX,if_true]
 rfl
theorem SK:WU .neg (.int k a)=some (.int k (k.wrap (0-a))):=rfl
theorem R5 {t:Bool}:WU .not (.bool t)=some (.bool (!t)):=rfl
end
def ahG:Value→Option Value
 | .slice _ n _=>some (.int .i64 n)
 | _=>none
def Mx (neg:Bool):Value→Value→Option Value
 | .bool a,.bool b=>some (.bool ((a == b) != neg))
 | _,_=>none
def Xv (neg:Bool):Value→Option Value
 | .slice none _ _=>some (.bool (true != neg))
 | .slice (some _) _ _=>some (.bool (false != neg))
 | _=>none
def XJ (neg:Bool) (ks:List CK):Value→Value→Option Value
 | .agg a,.agg b=>(nJ ks a.toList b.toList).map fun t => .bool (t != neg)
 | _,_=>none
def Rj (k:IntKind):Value→Option Value
 | .int _ n=>some (.int k (k.wrap n))
 | _=>none
def adM (i:Nat):Value→Option Value
 | .tuple vs=>vs[i]?
 | _=>none
def Yt (agg:Bool) (off size:Nat):Value→Option Value
 | .agg cs=>if agg then (if off+size≤cs.size then some (.agg (cs.extract off (off+size))) else none) else cs[off]?
 | _=>none
def aiX:Value→Option Value
 | .pointer (some a)=>some (.pointer (some a))
 | _=>none
def W3 (off:Nat):Value→Option Value
 | .pointer (some ⟨b,o,none⟩)=>some (.pointer (some ⟨b,o+off,none⟩))
 | _=>none
def Mb (size:Nat):Value→Value→Option Value
 | .slice (some ⟨b,o,none⟩) n _,.int _ i=>if 0≤i∧i<n then some (.pointer (some ⟨b,o+i.toNat*size,none⟩)) else none
 | _,_=>none
def PJ:Value→Value→Option Value
 | .int k a,.int _ b=>some (.int k (if b<a then b else a))
 | _,_=>none
def PL:Value→Value→Option Value
 | .int k a,.int _ b=>some (.int k (if b>a then b else a))
 | _,_=>none
section
variable {lo:Nat} {ρ:Env} {H:aD} {q:Bool}
theorem nC {op:lM} {r:Option (Value×aD)} (h:pop lo op ρ H=r.map fun(v,H') => .val v H'):iR lo q op ρ H=r:=by
 unfold iR
 rw[h]
 cases r<;>rfl
theorem VG {x:Operand}:iR lo q (.len x) ρ H=(ahG (ev ρ x)).map (·,H):=cU rfl
theorem XT {neg:Bool} {x y:Operand}:iR lo q (.eqb neg x y) ρ H=(Mx neg (ev ρ x) (ev ρ y)).map (·,H):=cU rfl
theorem Qi {neg:Bool} {x:Operand}:iR lo q (.isnil neg x) ρ H=(Xv neg (ev ρ x)).map (·,H):=cU rfl
theorem Qn {neg:Bool} {ks:List CK} {x y:Operand}:iR lo q (.eqagg neg ks x y) ρ H=(XJ neg ks (ev ρ x) (ev ρ y)).map (·,H):=cU rfl
theorem VH {k:IntKind} {x:Operand}:iR lo q (.cvt k x) ρ H=(Rj k (ev ρ x)).map (·,H):=cU rfl
theorem Vz {i:Nat} {x:Operand}:iR lo q (.ext x i) ρ H=(adM i (ev ρ x)).map (·,H):=cU rfl
theorem U6 {agg:Bool} {off size:Nat} {x:Operand}:iR lo q (.fld agg off size x) ρ H=(Yt agg off size (ev ρ x)).map (·,H):=cU rfl
theorem Qw {z:List Value} {places:List (Nat×Nat)} {parts:List (Nat×Operand)}:iR lo q (.build z places parts) ρ H=((tK places z (parts.map fun(i,x)=>(i,ev ρ x))).map fun cs=>Value.agg cs.toArray).map (·,H):=cU rfl
theorem XW {x:Operand}:iR lo q (.chk x) ρ H=(aiX (ev ρ x)).map (·,H):=cU rfl
theorem QL {off:Nat} {x:Operand}:iR lo q (.faddr off x) ρ H=(W3 off (ev ρ x)).map (·,H):=cU rfl
theorem Qd {size:Nat} {x i:Operand}:iR lo q (.iaddr size x i) ρ H=(Mb size (ev ρ x) (ev ρ i)).map (·,H):=cU rfl
theorem Tv {f:Nat} {eZ:List Operand}:iR lo q (.mkfn f eZ) ρ H=some (.func (.func f) #[] (eZ.map (ev ρ)).toArray,H):=cU rfl
theorem Vo {x y:Operand}:iR lo q (.min x y) ρ H=(PJ (ev ρ x) (ev ρ y)).map (·,H):=cU rfl
theorem Vs {x y:Operand}:iR lo q (.max x y) ρ H=(PL (ev ρ x) (ev ρ y)).map (·,H):=cU rfl
theorem TP {agg:Bool} {size:Nat} {p:Operand}:iR lo q (.load agg size p) ρ H=(mE agg size (ev ρ p) H).map (·,H):=by
 unfold iR
 simp only[pop]
 cases mE agg size (ev ρ p) H<;>rfl
theorem WN {size:Nat} {x:Operand} {l h m:Option Operand}:iR lo q (.sub size x l h m) ρ H=AQ size (ev ρ x) (l.map (ev ρ)) (h.map (ev ρ)) (m.map (ev ρ)) H:=by
 unfold iR
 simp only[pop]
 cases AQ size (ev ρ x) (l.map (ev ρ)) (h.map (ev ρ)) (m.map (ev ρ)) H<;>rfl
theorem X1 {z:List Value}:iR lo q (.new z) ρ H=some (.pointer (some ⟨H.length,0,none⟩),H++[.row z z.length false]):=rfl
theorem Xx {x:Operand}:iR lo q (.box x) ρ H=if (aL (ev ρ x)).all fS then some (.pointer (some ⟨H.length,0,none⟩),H++[.row (aL (ev ρ x)) (aL (ev ρ x)).length false]) else none:=by
 apply nC
 simp only[pop]
 by_cases h:(aL (ev ρ x)).all fS=true
 ·rw[if_pos h,if_pos h];rfl
 ·rw[if_neg h,if_neg h];rfl
def R8 (z:List Value) (bytes:Nat) (l c:Value) (H:aD):Option (Value×aD) :=
 match l,c with
 | .int .i64 l,.int .i64 c=>if 0≤l∧l≤c∧c*bytes≤281474976710656∧c≤9223372036854775807 then
  some (.slice (some ⟨H.length,0,none⟩) l.toNat c.toNat,H++[.row (cI c.toNat z) z.length false]) else none
 | _,_=>none
theorem T4 {z:List Value} {bytes:Nat} {l c:Operand}:iR lo q (.make z bytes l c) ρ H=R8 z bytes (ev ρ l) (ev ρ c) H:=by
 apply nC
 simp only[pop]
 unfold R8
 split
 ·rename_i l c h1 h2
  simp only[h1,h2]
  split<;>rfl
 ·rename_i h1
  split
  ·rename_i h2 h3
   exact(h1 _ _ h2 h3).elim
  ·rfl
def Zz (z:List Value) (n:Nat) (parts:List (Nat×Value)) (H:aD):Option (Value×aD) :=
 match tK ((List.range n).map fun i=>(i*z.length,z.length)) (cI n z) parts with
 | some cs=>if cs.all fS then some (.slice (some ⟨H.length,0,none⟩) n n,H++[.row cs z.length false]) else none
 | none=>none
theorem Xh {z:List Value} {n:Nat} {parts:List (Nat×Operand)}:iR lo q (.lit z n parts) ρ H=Zz z n (parts.map fun(i,x)=>(i,ev ρ x)) H:=by
 apply nC
 simp only[pop]
 unfold Zz
 split
 ·rename_i cs h1
  simp only[h1]
  split<;>rfl
 ·rename_i h1
  simp only[h1]
  rfl
def Dy (lo size:Nat) (p v:Value) (H:aD):Option (Value×aD) :=
 match p with
 | .pointer (some ⟨b,o,none⟩)=>if (aL v).length=size then (H.write lo b o (aL v)).map fun H'=>(undef,H') else none
 | _=>none
theorem Qc {size:Nat} {p v:Operand}:iR lo q (.store size p v) ρ H=Dy lo size (ev ρ p) (ev ρ v) H:=by
 apply nC
 simp only[pop]
 unfold Dy
 split
 ·rename_i b o h1
  simp only[h1]
  split
  ·cases H.write lo b o (aL (ev ρ v))<;>rfl
  ·rfl
 ·rename_i h1
  split
  ·rename_i h2
   exact(h1 _ _ h2).elim
  ·rfl
def adU (lo size bytes:Nat) (x y:Value) (H:aD):Option (Value×aD) :=
 match qC y with
 |
  some n=>match iG H size n y with
  | some new=>dL lo size bytes x n new H
  | none=>none
 | none=>none
theorem Xj {size bytes:Nat} {x y:Operand}:iR lo q (.app size bytes x y) ρ H=adU lo size bytes (ev ρ x) (ev ρ y) H:=by
 apply nC
 simp only[pop]
 unfold adU
 cases qC (ev ρ y) with
 | none=>rfl
 |
  some n =>
  cases hs:iG H size n (ev ρ y) with
  | none=>simp only[hs];rfl
  | some new=>simp only[hs]
def XK (lo:Nat) (z:List Value) (bytes:Nat) (x n:Value) (H:aD):Option (Value×aD) :=
 match n with
 | .int .i64 n=>if 0≤n∧n*bytes≤140737488355328 then dL lo z.length bytes x n.toNat (cI n.toNat z) H else none
 | _=>none
theorem Uj {z:List Value} {bytes:Nat} {x n:Operand}:iR lo q (.appz z bytes x n) ρ H=XK lo z bytes (ev ρ x) (ev ρ n) H:=by
 apply nC
 simp only[pop]
 unfold XK
 split
 ·rename_i n h1
  simp only[h1]
  split<;>rfl
 ·rename_i h1
  split
  ·rename_i h2
   exact(h1 _ h2).elim
  ·rfl
def copyV (lo size:Nat) (x y:Value) (H:aD):Option (Value×aD) :=
 match x,qC y with
 | .slice none _ _,some _=>some (.int .i64 0,H)
 |
  .slice (some ⟨b,o,none⟩) d _,some s=>match iG H size (Nat.min s d) y with
  | some new=>(H.write lo b o new).map fun H'=>(.int .i64 (Nat.min s d),H')
  | none=>none
 | _,_=>none
theorem Tb {size:Nat} {x y:Operand}:iR lo q (.copy size x y) ρ H=copyV lo size (ev ρ x) (ev ρ y) H:=by
 apply nC
 simp only[pop]
 unfold copyV
 split
 ·rename_i h1 h2
  simp only[h1,h2]
  rfl
 ·rename_i b o d _ s h1 h2
  simp only[h1,h2]
  cases hs:iG H size (Nat.min s d) (ev ρ y) with
  | none=>rfl
  |
   some new =>
   simp only
   cases H.write lo b o new<;>rfl
 ·rename_i h1 h2
  split
  ·rename_i h3 h4
   exact(h1 _ _ _ h3 h4).elim
  ·rename_i h3 h4
   exact(h2 _ _ _ _ _ h3 h4).elim
  ·rfl
def LJ (lo:Nat) (z:List Value) (x:Value) (H:aD):Option (Value×aD) :=
 match x with
 | .slice none _ _=>some (undef,H)
 | .slice (some ⟨b,o,none⟩) n _=>if n=0 then some (undef,H) else (H.write lo b o (cI n z)).map fun H'=>(undef,H')
 | _=>none
theorem PV {z:List Value} {x:Operand}:iR lo q (.clear z x) ρ H=LJ lo z (ev ρ x) H:=by
 apply nC
 simp only[pop]
 unfold LJ
 split
 ·rename_i h1
  simp only[h1]
  rfl
 ·rename_i b o n _ h1
  simp only[h1]
  split
  ·rfl
  ·cases H.write lo b o (cI n z)<;>rfl
 ·rename_i h1 h2
  split
  ·rename_i h3
   exact(h1 _ _ h3).elim
  ·rename_i h3
   exact(h2 _ _ _ _ h3).elim
  ·rfl
noncomputable def Wd (lo:Nat) (fv:Value) (args:List Value) (H:aD):Option (Value×aD) :=
 match fv with
 | .func (.func f) first eZ=>oV f (first.toList++args++eZ.toList) lo H
 | _=>none
theorem Rn {fv:Operand} {args:List Operand}:iR lo q (.callv fv args) ρ H=Wd (if q then H.length else lo) (ev ρ fv) (args.map (ev ρ)) H:=by
 unfold iR
 simp only[pop]
 unfold Wd
 generalize ev ρ fv=v
 cases v with
 | func fn f c=>cases fn<;>rfl
 | _=>rfl
end
end Go.PM
namespace Go.PM
section
variable {lo:Nat} {Q:Ex→Env→aD→Prop} {K:Env→aD→Prop} {ρ:Env} {H:aD} {q:Bool}
def agO (u v:Value):Bool:=match iB u,iB v with
 | some a,some b=>a != b
 | _,_=>true
end
theorem RH {k:IntKind} {a b:Int}:PL (.int k a) (.int k b)=some (.int k (max a b)):=by
 simp only[PL]
 congr 2
 split<;>omega
theorem SG {k:IntKind} {a b:Int}:PJ (.int k a) (.int k b)=some (.int k (min a b)):=by
 simp only[PJ]
 congr 2
 split<;>omega
end Go.PM
namespace Go.PM
abbrev ptr (b o:Nat):Value := .pointer (some ⟨b,o,none⟩)
abbrev I (n:Int):Value := .int .i64 n
section
variable {H H':aD} {lo b o n size:Nat} {cs r:List Value} {L K:aD} {v:Value}
theorem MN (hb:b<H.length):(H++L)[b]? = H[b]? := List.getElem?_append_left hb
theorem Sg {x:Kf}:(H++x::L)[H.length]? = some x:=by simp
theorem Xd (hb:b<H.length):(H++L).read b o n=H.read b o n:=Dq (MN hb)
theorem zH {e:Nat} {p:Bool} (h:H[b]? = some (.row r e p)) (hn:o+n≤r.length):H.read b o n=some ((r.drop o).take n):=by
 unfold aD.read
 rw[h]
 simp only[hn,if_true]
structure AY (H:aD) (b o:Nat) (cs:List Value):Prop where
 lt:b<H.length
 rd:H.read b o cs.length=some cs
theorem AY.app (h:AY H b o cs):AY (H++L) b o cs:=⟨by have:=h.lt;simp;omega,by rw[Xd h.lt];exact h.rd⟩
theorem AY.pre (h:AY H b o cs) (hp:H <+: H'):AY H' b o cs:=by
 obtain⟨L,rfl⟩:=hp
 exact h.app
theorem AY.all (h:AY H b o cs) (hs:cs.length=size):mE true size (.pointer (some ⟨b,o,none⟩)) H=some (.agg cs.toArray):=by
 subst hs
 simp only[mE,if_true,h.rd]
 rfl
theorem AY.one {u:Value} (h:AY H b o [u]):mE false size (.pointer (some ⟨b,o,none⟩)) H=some u:=by
 have:=h.rd
 simp only[List.length_cons,List.length_nil] at this
 simp only[mE,this]
 rfl
theorem AY.sub {k:Nat} {u:Value} (h:AY H b o cs) (hk:cs[k]? = some u):AY H b (o+k) [u]:=by
 refine⟨h.lt,?_⟩
 have h1:=h.rd
 unfold aD.read at h1 ⊢
 split at h1
 ·rename_i r e p hb
  split at h1
  ·rename_i hl
   have hk':=(List.getElem?_eq_some_iff.1 hk).1
   simp only[List.length_cons,List.length_nil]
   rw[if_pos (by simp;omega)]
   injection h1 with h1
   rw[←h1] at hk
   rw[List.getElem?_take,if_pos (by omega),List.getElem?_drop] at hk
   have aX:=(List.getElem?_eq_some_iff.1 hk).1
   rw[List.drop_eq_getElem_cons aX]
   simp only[List.take_succ_cons,List.take_zero]
   rw[List.getElem?_eq_getElem aX] at hk
   injection hk with hk
   rw[hk]
  ·cases h1
 ·cases h1
theorem AY.fld {k:Nat} {u:Value} (h:AY H b o cs) (hk:cs[k]? = some u):mE false size (.pointer (some ⟨b,o+k,none⟩)) H=some u:=(h.sub hk).one
theorem Ni {a:Nat} {c:Nat} {i:Int} {k:IntKind} (h0:0≤i) (h1:i<n):Mb size (.slice (some ⟨b,a,none⟩) n c) (.int k i)=some (.pointer (some ⟨b,a+i.toNat*size,none⟩)):=by
 simp only[Mb]
 rw[if_pos ⟨h0,h1⟩]
structure Arr {α:Type} (enc:α→List Value) (eT:Nat) (H:aD) (a:Option Addr) (n:Nat) (xs:List α):Prop where
 len:n=xs.length
 el:∀(i:Nat) x,xs[i]? = some x→∃b o,a=some ⟨b,o,none⟩∧AY H b (o+i*eT) (enc x)
theorem Arr.pre {α:Type} {enc:α→List Value} {eT:Nat} {a:Option Addr} {xs:List α} (h:Arr enc eT H a n xs) (hp:H <+: H'):Arr enc eT H' a n xs :=
 ⟨h.len,fun i x hx=>by obtain⟨b,o,h1,h2⟩:=h.el i x hx;exact⟨b,o,h1,h2.pre hp⟩⟩
end
structure eR where
 t:Int
 w:Int
 k:Int
 deriving DecidableEq
def cc (c:eR):List Value:=[I c.t,I c.w,I c.k]
def ci (n:Int):List Value:=[I n]
end Go.PM
namespace Go.PM
structure G7 {α:Type} (enc:α→List Value) (eT:Nat):Prop where
 len:∀x,(enc x).length=eT
 sc:∀x,(enc x).all fS=true
 pos:1≤eT
section
variable {α:Type} {enc:α→List Value} {eT:Nat} {H H':aD} {lo b:Nat} {xs ys:List α} {p:Bool}
theorem IQ (e:G7 enc eT):(xs.flatMap enc).length=xs.length*eT:=by
 induction xs with
 | nil=>simp
 | cons x xs ih=>simp only[List.flatMap_cons,List.length_append,e.len,ih,List.length_cons,Nat.succ_mul];omega
theorem Fe (e:G7 enc eT) (i:Nat):(xs.flatMap enc).drop (i*eT)=(xs.drop i).flatMap enc:=by
 induction i generalizing xs with
 | zero=>simp
 |
  succ i ih =>
  cases xs with
  | nil=>simp
  |
   cons x xs =>
   rw[List.flatMap_cons,List.drop_succ_cons,←ih,show (i+1)*eT=(enc x).length+i*eT by rw[e.len,Nat.succ_mul];omega,List.drop_append]
   simp
theorem Lb (e:G7 enc eT) (i:Nat):(xs.flatMap enc).take (i*eT)=(xs.take i).flatMap enc:=by
 induction i generalizing xs with
 | zero=>simp
 |
  succ i ih =>
  cases xs with
  | nil=>simp
  |
   cons x xs =>
   rw[List.flatMap_cons,List.take_succ_cons,List.flatMap_cons,←ih,show (i+1)*eT=(enc x).length+i*eT by rw[e.len,Nat.succ_mul];omega,List.take_append]
   simp
   exact List.take_of_length_le (by omega)
theorem No (e:G7 enc eT) {i:Nat} (x:α) (hi:i<xs.length):gX (xs.flatMap enc) (i*eT) (enc x)=(xs.set i x).flatMap enc:=by
 unfold gX
 rw[Lb e,e.len,show i*eT+eT=(i+1)*eT by rw[Nat.succ_mul],Fe e,List.set_eq_take_append_cons_drop,if_pos hi]
 simp
def Row (enc:α→List Value) (eT:Nat) (H:aD) (b:Nat) (p:Bool) (xs:List α):Prop:=H[b]? = some (.row (xs.flatMap enc) eT p)
theorem Row.lt (h:Row enc eT H b p xs):b<H.length:=(List.getElem?_eq_some_iff.1 h).1
theorem Row.pre (h:Row enc eT H b p xs) (hp:H <+: H'):Row enc eT H' b p xs:=by
 obtain⟨L,rfl⟩:=hp
 unfold Row
 rw[MN h.lt]
 exact h
theorem Row.elem (h:Row enc eT H b p xs) (e:G7 enc eT) {i:Nat} {x:α} (hx:xs[i]? = some x):AY H b (i*eT) (enc x):=by
 refine⟨h.lt,?_⟩
 have hi:=(List.getElem?_eq_some_iff.1 hx).1
 have hm:(i+1)*eT≤xs.length*eT:=Nat.mul_le_mul_right _ hi
 rw[Nat.succ_mul] at hm
 rw[zH h (by rw[e.len,IQ e];omega),Fe e,e.len]
 have:=Lb (xs:=xs.drop i) e 1
 rw[Nat.one_mul] at this
 rw[this,List.drop_eq_getElem_cons hi]
 rw[List.getElem?_eq_getElem hi] at hx
 injection hx with hx
 simp[hx]
theorem Row.arr (h:Row enc eT H b p xs) (e:G7 enc eT) {n:Nat} (hn:n≤xs.length):Arr enc eT H (some ⟨b,0,none⟩) n (xs.take n):=by
 refine⟨by simp;omega,fun i x hx=>⟨b,0,rfl,?_⟩⟩
 rw[Nat.zero_add]
 refine h.elem e ?_
 rw[List.getElem?_take] at hx
 split at hx
 ·exact hx
 ·cases hx
theorem Row.store (h:Row enc eT H b p xs) (e:G7 enc eT) {i:Nat} {x:α} {u:Value} (hu:aL u=enc x) (hi:i<xs.length) (hl:lo≤b):Dy lo eT (.pointer (some ⟨b,i*eT,none⟩)) u H=some (undef,H.set b (.row ((xs.set i x).flatMap enc) eT p)):=by
 simp only[Dy,aD.write,hu,e.len,if_true]
 have h':H[b]? = some (.row (xs.flatMap enc) eT p):=h
 have hm:(i+1)*eT≤xs.length*eT:=Nat.mul_le_mul_right _ hi
 rw[Nat.succ_mul] at hm
 simp only[h']
 rw[if_pos ⟨hl,by rw[IQ e];omega,e.sc x⟩,No e x hi]
 rfl
theorem Row.set (h:Row enc eT H b p xs) (ys:List α):Row enc eT (H.set b (.row (ys.flatMap enc) eT p)) b p ys:=by
 unfold Row
 rw[List.getElem?_set_self h.lt]
theorem Nv (e:G7 enc eT) {n:Nat} {x:α}:cI n (enc x)=(List.replicate n x).flatMap enc:=by
 have jN:=e.pos
 have hlen:=e.len x
 apply List.ext_getElem?
 intro i
 unfold cI
 rw[List.getElem?_map,hlen]
 rcases Nat.lt_or_ge i (n*eT) with hi | hi
 ·rw[List.getElem?_range hi]
  have hq:i / eT<n:=Nat.div_lt_of_lt_mul (by rw[Nat.mul_comm];exact hi)
  have h1:((List.replicate n x).flatMap enc)[i]? = (((List.replicate n x).flatMap enc).drop (i / eT*eT))[i % eT]? := by
   rw[List.getElem?_drop]
   congr 1
   rw[Nat.mul_comm]
   exact(Nat.div_add_mod i eT).symm
  have hr:i % eT<(enc x).length:=by rw[hlen];exact Nat.mod_lt _ (by omega)
  rw[h1,Fe e,List.drop_replicate,show n-i / eT=(n-i / eT-1)+1 by omega,List.replicate_succ,List.flatMap_cons,List.getElem?_append_left hr]
  simp[List.getD_eq_getElem?_getD,List.getElem?_eq_getElem hr]
 ·rw[List.getElem?_eq_none (by simpa using hi),List.getElem?_eq_none (by rw[IQ e];simpa using hi)]
  rfl
theorem Row.top {K:aD}:Row enc eT (H ++ .row (xs.flatMap enc) eT p::K) H.length p xs:=Sg
end
end Go.PM
namespace Go.PM
section
variable {H L:aD} {lo k o size:Nat} {agg:Bool} {u:Value}
end
end Go.PM
namespace Go.Proofs
open Go.Shelf
def Iz:Go.Shelf.Ren:=⟨fun | 156=>186 | 165=>189 | 166=>190 | 169=>192 | 240=>230 | 241=>231 | 276=>249 | 277=>250 | n=>n,fun | 31=>22 | 9=>9 | 3=>3 | 4=>4 | 0=>0 | 20=>20 | 72=>230 | 76=>234 | 70=>228 | 37=>36 | 75=>233 | 127=>266 | 164=>281 | 5=>5 | 80=>129 | n=>n,fun | n=>n⟩
theorem QQ:Go.Proofs.Lays.n156 Tryz.prog Iz:={
 mixed:=by kernel_rfl
 f156:=Tryz.func186.trans (congrArg some (by kernel_rfl))
 f165:=Tryz.func189.trans (congrArg some (by kernel_rfl))
 f166:=Tryz.func190.trans (congrArg some (by kernel_rfl))
 f169:=Tryz.func192.trans (congrArg some (by kernel_rfl))
 f240:=Tryz.func230.trans (congrArg some (by kernel_rfl))
 f241:=Tryz.func231.trans (congrArg some (by kernel_rfl))
 f276:=Tryz.func249.trans (congrArg some (by kernel_rfl))
 f277:=Tryz.func250.trans (congrArg some (by kernel_rfl))
 t0:=Tryz.underlying0
 a0:=Tryz.isAgg0
 z0:=Tryz.sizeOf0
 v0:=Tryz.zeroValue0
 t3:=Tryz.underlying3
 a3:=Tryz.isAgg3
 z3:=Tryz.sizeOf3
 v3:=Tryz.zeroValue3
 t4:=Tryz.underlying4
 a4:=Tryz.isAgg4
 z4:=Tryz.sizeOf4
 v4:=Tryz.zeroValue4
 t9:=Tryz.underlying9
 a9:=Tryz.isAgg9
 z9:=Tryz.sizeOf9
 v9:=Tryz.zeroValue9
 t20:=Tryz.underlying20
 a20:=Tryz.isAgg20
 z20:=Tryz.sizeOf20
 v20:=Tryz.zeroValue20
 t31:=Tryz.underlying22
 a31:=Tryz.isAgg22
 z31:=Tryz.sizeOf22
 v31:=Tryz.zeroValue22
 t37:=Tryz.underlying36
 a37:=Tryz.isAgg36
 z37:=Tryz.sizeOf36
 v37:=Tryz.zeroValue36
 t70:=Tryz.underlying228
 a70:=Tryz.isAgg228
 z70:=Tryz.sizeOf228
 v70:=Tryz.zeroValue228
 t72:=Tryz.underlying230
 a72:=Tryz.isAgg230
 z72:=Tryz.sizeOf230
 v72:=Tryz.zeroValue230
 t75:=Tryz.underlying233
 a75:=Tryz.isAgg233
 z75:=Tryz.sizeOf233
 v75:=Tryz.zeroValue233
 t76:=Tryz.underlying234
 a76:=Tryz.isAgg234
 z76:=Tryz.sizeOf234
 v76:=Tryz.zeroValue234
 t127:=Tryz.underlying266
 a127:=Tryz.isAgg266
 z127:=Tryz.sizeOf266
 v127:=Tryz.zeroValue266
 t164:=Tryz.underlying281
 a164:=Tryz.isAgg281
 z164:=Tryz.sizeOf281
 v164:=Tryz.zeroValue281 }
theorem Md:Builder.Extra Tryz.prog Iz:={
 sizeBuilder:=by kernel_rfl
 liesBuilder:=by kernel_rfl
 t5:=Tryz.underlying5
 a5:=Tryz.isAgg5
 z5:=Tryz.sizeOf5
 v5:=Tryz.zeroValue5
 infoByte:=by kernel_rfl
 cellsByte:=by kernel_rfl
 sizeByte:=by kernel_rfl
 neB5:=by decide }
def PX:Go.Shelf.Ren:=⟨fun | 133=>219 | 128=>244 | n=>n,fun | 51=>218 | 3=>3 | 4=>4 | 46=>219 | 5=>5 | 9=>9 | n=>n,fun | n=>n⟩
theorem abG:Go.Proofs.Lays.n133 Tryz.prog PX:={
 mixed:=by kernel_rfl
 f128:=Tryz.func244.trans (congrArg some (by kernel_rfl))
 f133:=Tryz.func219.trans (congrArg some (by kernel_rfl))
 t3:=Tryz.underlying3
 a3:=Tryz.isAgg3
 z3:=Tryz.sizeOf3
 v3:=Tryz.zeroValue3
 t4:=Tryz.underlying4
 a4:=Tryz.isAgg4
 z4:=Tryz.sizeOf4
 v4:=Tryz.zeroValue4
 t5:=Tryz.underlying5
 a5:=Tryz.isAgg5
 z5:=Tryz.sizeOf5
 v5:=Tryz.zeroValue5
 t9:=Tryz.underlying9
 a9:=Tryz.isAgg9
 z9:=Tryz.sizeOf9
 v9:=Tryz.zeroValue9
 t46:=Tryz.underlying219
 a46:=Tryz.isAgg219
 z46:=Tryz.sizeOf219
 v46:=Tryz.zeroValue219
 t51:=Tryz.underlying218
 a51:=Tryz.isAgg218
 z51:=Tryz.sizeOf218
 v51:=Tryz.zeroValue218 }
def QI:Go.Shelf.Ren:=⟨fun | 283=>245 | n=>n,fun | 3=>3 | 9=>9 | 4=>4 | n=>n,fun | n=>n⟩
theorem acM:Go.Proofs.Lays.n283 Tryz.prog QI:={
 mixed:=by kernel_rfl
 f283:=Tryz.func245.trans (congrArg some (by kernel_rfl))
 t3:=Tryz.underlying3
 a3:=Tryz.isAgg3
 z3:=Tryz.sizeOf3
 v3:=Tryz.zeroValue3
 t4:=Tryz.underlying4
 a4:=Tryz.isAgg4
 z4:=Tryz.sizeOf4
 v4:=Tryz.zeroValue4
 t9:=Tryz.underlying9
 a9:=Tryz.isAgg9
 z9:=Tryz.sizeOf9
 v9:=Tryz.zeroValue9 }
def Qr:Go.Shelf.Ren:=⟨fun | 284=>246 | 129=>262 | 317=>261 | 318=>263 | n=>n,fun | 53=>128 | 3=>3 | 212=>291 | 0=>0 | 4=>4 | 46=>219 | 5=>5 | 9=>9 | n=>n,fun | 17=>1 | n=>n⟩
theorem adK:Go.Proofs.LaysM.n284 Tryz.prog Qr:={
 mixed:=by kernel_rfl
 f129:=Tryz.func262.trans (congrArg some (by kernel_rfl))
 f284:=Tryz.func246.trans (congrArg some (by kernel_rfl))
 f317:=Tryz.func261.trans (congrArg some (by kernel_rfl))
 f318:=Tryz.func263.trans (congrArg some (by kernel_rfl))
 t0:=Tryz.underlying0
 a0:=Tryz.isAgg0
 z0:=Tryz.sizeOf0
 v0:=Tryz.zeroValue0
 t3:=Tryz.underlying3
 a3:=Tryz.isAgg3
 z3:=Tryz.sizeOf3
 v3:=Tryz.zeroValue3
 t4:=Tryz.underlying4
 a4:=Tryz.isAgg4
 z4:=Tryz.sizeOf4
 v4:=Tryz.zeroValue4
 t5:=Tryz.underlying5
 a5:=Tryz.isAgg5
 z5:=Tryz.sizeOf5
 v5:=Tryz.zeroValue5
 t9:=Tryz.underlying9
 a9:=Tryz.isAgg9
 z9:=Tryz.sizeOf9
 v9:=Tryz.zeroValue9
 t46:=Tryz.underlying219
 a46:=Tryz.isAgg219
 z46:=Tryz.sizeOf219
 v46:=Tryz.zeroValue219
 t53:=Tryz.underlying128
 a53:=Tryz.isAgg128
 z53:=Tryz.sizeOf128
 v53:=Tryz.zeroValue128
 t212:=Tryz.underlying291
 a212:=Tryz.isAgg291
 z212:=Tryz.sizeOf291
 v212:=Tryz.zeroValue291
 g17:=by kernel_rfl
 i0:=by kernel_rfl
 i3:=by kernel_rfl
 i4:=by kernel_rfl
 i5:=by kernel_rfl
 i9:=by kernel_rfl
 i46:=by kernel_rfl
 i53:=by kernel_rfl
 i212:=by kernel_rfl
 m17:=by kernel_rfl }
def Rp:Go.Shelf.Ren:=⟨fun | 285=>247 | n=>n,fun | 37=>36 | 53=>128 | 3=>3 | 4=>4 | 51=>218 | 9=>9 | 5=>5 | 0=>0 | n=>n,fun | n=>n⟩
theorem adN:Go.Proofs.Lays.n285 Tryz.prog Rp:={
 mixed:=by kernel_rfl
 f285:=Tryz.func247.trans (congrArg some (by kernel_rfl))
 t0:=Tryz.underlying0
 a0:=Tryz.isAgg0
 z0:=Tryz.sizeOf0
 v0:=Tryz.zeroValue0
 t3:=Tryz.underlying3
 a3:=Tryz.isAgg3
 z3:=Tryz.sizeOf3
 v3:=Tryz.zeroValue3
 t4:=Tryz.underlying4
 a4:=Tryz.isAgg4
 z4:=Tryz.sizeOf4
 v4:=Tryz.zeroValue4
 t5:=Tryz.underlying5
 a5:=Tryz.isAgg5
 z5:=Tryz.sizeOf5
 v5:=Tryz.zeroValue5
 t9:=Tryz.underlying9
 a9:=Tryz.isAgg9
 z9:=Tryz.sizeOf9
 v9:=Tryz.zeroValue9
 t37:=Tryz.underlying36
 a37:=Tryz.isAgg36
 z37:=Tryz.sizeOf36
 v37:=Tryz.zeroValue36
 t51:=Tryz.underlying218
 a51:=Tryz.isAgg218
 z51:=Tryz.sizeOf218
 v51:=Tryz.zeroValue218
 t53:=Tryz.underlying128
 a53:=Tryz.isAgg128
 z53:=Tryz.sizeOf128
 v53:=Tryz.zeroValue128 }
def NB:Go.Shelf.Ren:=⟨fun | 14=>217 | 16=>242 | 17=>243 | 19=>255 | 20=>256 | 21=>257 | 22=>258 | 23=>259 | 24=>260 | 25=>268 | 27=>270 | 26=>269 | 28=>273 | 29=>274 | 30=>245 | 31=>246 | 32=>247 | 33=>248 | 35=>262 | 34=>261 | 36=>263 | 37=>264 | 38=>265 | 39=>271 | 40=>272 | n=>n,fun | 9=>9 | 3=>3 | 22=>128 | 24=>233 | 25=>252 | 4=>4 | 34=>285 | 5=>5 | 36=>219 | 37=>36 | 0=>0 | 39=>287 | 21=>21 | 44=>298 | 47=>266 | 50=>302 | 48=>300 | 2=>2 | 52=>276 | 55=>279 | 59=>291 | 60=>218 | 20=>20 | 61=>292 | 65=>303 | 66=>304 | 67=>129 | n=>n,fun | 0=>2 | 1=>3 | 2=>1 | 3=>4 | 4=>5 | n=>n⟩
theorem Zo:Go.Proofs.LaysPu.n14 Tryz.prog NB:={
 mixed:=by kernel_rfl
 f14:=Tryz.func217.trans (congrArg some (by kernel_rfl))
 f16:=Tryz.func242.trans (congrArg some (by kernel_rfl))
 f17:=Tryz.func243.trans (congrArg some (by kernel_rfl))
 f19:=Tryz.func255.trans (congrArg some (by kernel_rfl))
 f20:=Tryz.func256.trans (congrArg some (by kernel_rfl))
 f21:=Tryz.func257.trans (congrArg some (by kernel_rfl))
 f22:=Tryz.func258.trans (congrArg some (by kernel_rfl))
 f23:=Tryz.func259.trans (congrArg some (by kernel_rfl))
 f24:=Tryz.func260.trans (congrArg some (by kernel_rfl))
 f25:=Tryz.func268.trans (congrArg some (by kernel_rfl))
 f26:=Tryz.func269.trans (congrArg some (by kernel_rfl))
 f27:=Tryz.func270.trans (congrArg some (by kernel_rfl))
 f28:=Tryz.func273.trans (congrArg some (by kernel_rfl))
 f29:=Tryz.func274.trans (congrArg some (by kernel_rfl))
 f30:=Tryz.func245.trans (congrArg some (by kernel_rfl))
 f31:=Tryz.func246.trans (congrArg some (by kernel_rfl))
 f32:=Tryz.func247.trans (congrArg some (by kernel_rfl))
 f33:=Tryz.func248.trans (congrArg some (by kernel_rfl))
 f34:=Tryz.func261.trans (congrArg some (by kernel_rfl))
 f35:=Tryz.func262.trans (congrArg some (by kernel_rfl))
 f36:=Tryz.func263.trans (congrArg some (by kernel_rfl))
 f37:=Tryz.func264.trans (congrArg some (by kernel_rfl))
 f38:=Tryz.func265.trans (congrArg some (by kernel_rfl))
 f39:=Tryz.func271.trans (congrArg some (by kernel_rfl))
 f40:=Tryz.func272.trans (congrArg some (by kernel_rfl))
 t0:=Tryz.underlying0
 a0:=Tryz.isAgg0
 z0:=Tryz.sizeOf0
 v0:=Tryz.zeroValue0
 i0:=by kernel_rfl
 t2:=Tryz.underlying2
 a2:=Tryz.isAgg2
 z2:=Tryz.sizeOf2
 v2:=Tryz.zeroValue2
 i2:=by kernel_rfl
 t3:=Tryz.underlying3
 a3:=Tryz.isAgg3
 z3:=Tryz.sizeOf3
 v3:=Tryz.zeroValue3
 i3:=by kernel_rfl
 t4:=Tryz.underlying4
 a4:=Tryz.isAgg4
 z4:=Tryz.sizeOf4
 v4:=Tryz.zeroValue4
 i4:=by kernel_rfl
 t5:=Tryz.underlying5
 a5:=Tryz.isAgg5
 z5:=Tryz.sizeOf5
 v5:=Tryz.zeroValue5
 i5:=by kernel_rfl
 t9:=Tryz.underlying9
 a9:=Tryz.isAgg9
 z9:=Tryz.sizeOf9
 v9:=Tryz.zeroValue9
 i9:=by kernel_rfl
 t20:=Tryz.underlying20
 a20:=Tryz.isAgg20
 z20:=Tryz.sizeOf20
 v20:=Tryz.zeroValue20
 i20:=by kernel_rfl
 t21:=Tryz.underlying21
 a21:=Tryz.isAgg21
 z21:=Tryz.sizeOf21
 v21:=Tryz.zeroValue21
 i21:=by kernel_rfl
 t22:=Tryz.underlying128
 a22:=Tryz.isAgg128
 z22:=Tryz.sizeOf128
 v22:=Tryz.zeroValue128
 i22:=by kernel_rfl
 t24:=Tryz.underlying233
 a24:=Tryz.isAgg233
 z24:=Tryz.sizeOf233
 v24:=Tryz.zeroValue233
 i24:=by kernel_rfl
 t25:=Tryz.underlying252
 a25:=Tryz.isAgg252
 z25:=Tryz.sizeOf252
 v25:=Tryz.zeroValue252
 i25:=by kernel_rfl
 t34:=Tryz.underlying285
 a34:=Tryz.isAgg285
 z34:=Tryz.sizeOf285
 v34:=Tryz.zeroValue285
 i34:=by kernel_rfl
 c34:=by kernel_rfl
 t36:=Tryz.underlying219
 a36:=Tryz.isAgg219
 z36:=Tryz.sizeOf219
 v36:=Tryz.zeroValue219
 i36:=by kernel_rfl
 t37:=Tryz.underlying36
 a37:=Tryz.isAgg36
 z37:=Tryz.sizeOf36
 v37:=Tryz.zeroValue36
 i37:=by kernel_rfl
 t39:=Tryz.underlying287
 a39:=Tryz.isAgg287
 z39:=Tryz.sizeOf287
 v39:=Tryz.zeroValue287
 i39:=by kernel_rfl
 t44:=Tryz.underlying298
 a44:=Tryz.isAgg298
 z44:=Tryz.sizeOf298
 v44:=Tryz.zeroValue298
 i44:=by kernel_rfl
 t47:=Tryz.underlying266
 a47:=Tryz.isAgg266
 z47:=Tryz.sizeOf266
 v47:=Tryz.zeroValue266
 i47:=by kernel_rfl
 t48:=Tryz.underlying300
 a48:=Tryz.isAgg300
 z48:=Tryz.sizeOf300
 v48:=Tryz.zeroValue300
 i48:=by kernel_rfl
 t50:=Tryz.underlying302
 a50:=Tryz.isAgg302
 z50:=Tryz.sizeOf302
 v50:=Tryz.zeroValue302
 i50:=by kernel_rfl
 t52:=Tryz.underlying276
 a52:=Tryz.isAgg276
 z52:=Tryz.sizeOf276
 v52:=Tryz.zeroValue276
 i52:=by kernel_rfl
 t55:=Tryz.underlying279
 a55:=Tryz.isAgg279
 z55:=Tryz.sizeOf279
 v55:=Tryz.zeroValue279
 i55:=by kernel_rfl
 t59:=Tryz.underlying291
 a59:=Tryz.isAgg291
 z59:=Tryz.sizeOf291
 v59:=Tryz.zeroValue291
 i59:=by kernel_rfl
 t60:=Tryz.underlying218
 a60:=Tryz.isAgg218
 z60:=Tryz.sizeOf218
 v60:=Tryz.zeroValue218
 i60:=by kernel_rfl
 t61:=Tryz.underlying292
 a61:=Tryz.isAgg292
 z61:=Tryz.sizeOf292
 t65:=Tryz.underlying303
 a65:=Tryz.isAgg303
 z65:=Tryz.sizeOf303
 v65:=Tryz.zeroValue303
 i65:=by kernel_rfl
 t66:=Tryz.underlying304
 a66:=Tryz.isAgg304
 z66:=Tryz.sizeOf304
 v66:=Tryz.zeroValue304
 i66:=by kernel_rfl
 t67:=Tryz.underlying129
 a67:=Tryz.isAgg129
 z67:=Tryz.sizeOf129
 v67:=Tryz.zeroValue129
 i67:=by kernel_rfl
 g0:=by kernel_rfl
 m0:=by kernel_rfl
 g1:=by kernel_rfl
 m1:=by kernel_rfl
 g2:=by kernel_rfl
 m2:=by kernel_rfl
 g3:=by kernel_rfl
 m3:=by kernel_rfl
 g4:=by kernel_rfl
 m4:=by kernel_rfl }
def Rb:Go.Shelf.Ren:=⟨fun | 219=>241 | 217=>251 | 225=>252 | 224=>253 | 267=>254 | 266=>266 | 314=>267 | n=>n,fun | 9=>9 | 3=>3 | 4=>4 | 5=>5 | 46=>219 | 146=>262 | 51=>218 | n=>n,fun | 1=>0 | n=>n⟩
theorem abU:Go.Proofs.Lays.n219 Tryz.prog Rb:={
 mixed:=by kernel_rfl
 f217:=Tryz.func251.trans (congrArg some (by kernel_rfl))
 f219:=Tryz.func241.trans (congrArg some (by kernel_rfl))
 f224:=Tryz.func253.trans (congrArg some (by kernel_rfl))
 f225:=Tryz.func252.trans (congrArg some (by kernel_rfl))
 f266:=Tryz.func266.trans (congrArg some (by kernel_rfl))
 f267:=Tryz.func254.trans (congrArg some (by kernel_rfl))
 f314:=Tryz.func267.trans (congrArg some (by kernel_rfl))
 t3:=Tryz.underlying3
 a3:=Tryz.isAgg3
 z3:=Tryz.sizeOf3
 v3:=Tryz.zeroValue3
 t4:=Tryz.underlying4
 a4:=Tryz.isAgg4
 z4:=Tryz.sizeOf4
 v4:=Tryz.zeroValue4
 t5:=Tryz.underlying5
 a5:=Tryz.isAgg5
 z5:=Tryz.sizeOf5
 v5:=Tryz.zeroValue5
 t9:=Tryz.underlying9
 a9:=Tryz.isAgg9
 z9:=Tryz.sizeOf9
 v9:=Tryz.zeroValue9
 t46:=Tryz.underlying219
 a46:=Tryz.isAgg219
 z46:=Tryz.sizeOf219
 v46:=Tryz.zeroValue219
 t51:=Tryz.underlying218
 a51:=Tryz.isAgg218
 z51:=Tryz.sizeOf218
 v51:=Tryz.zeroValue218
 t146:=Tryz.underlying262
 a146:=Tryz.isAgg262
 z146:=Tryz.sizeOf262
 v146:=Tryz.zeroValue262
 g1:=by kernel_rfl }
def Jv:Go.Shelf.Ren:=⟨fun | 105=>103 | 212=>187 | 99=>188 | 165=>189 | 166=>190 | 170=>191 | 169=>192 | 263=>227 | 264=>228 | 206=>229 | 240=>230 | 241=>231 | 276=>249 | 277=>250 | n=>n,fun | 9=>9 | 3=>3 | 4=>4 | 20=>20 | 0=>0 | 46=>219 | 109=>226 | 5=>5 | 72=>230 | 76=>234 | 51=>218 | 146=>262 | 53=>128 | 148=>264 | 70=>228 | 37=>36 | 75=>233 | 127=>266 | 164=>281 | 80=>129 | n=>n,fun | n=>n⟩
theorem abT:Go.Proofs.Lays.n105 Tryz.prog Jv:={
 mixed:=by kernel_rfl
 f99:=Tryz.func188.trans (congrArg some (by kernel_rfl))
 f105:=Tryz.func103.trans (congrArg some (by kernel_rfl))
 f165:=Tryz.func189.trans (congrArg some (by kernel_rfl))
 f166:=Tryz.func190.trans (congrArg some (by kernel_rfl))
 f169:=Tryz.func192.trans (congrArg some (by kernel_rfl))
 f170:=Tryz.func191.trans (congrArg some (by kernel_rfl))
 f206:=Tryz.func229.trans (congrArg some (by kernel_rfl))
 f212:=Tryz.func187.trans (congrArg some (by kernel_rfl))
 f240:=Tryz.func230.trans (congrArg some (by kernel_rfl))
 f241:=Tryz.func231.trans (congrArg some (by kernel_rfl))
 f263:=Tryz.func227.trans (congrArg some (by kernel_rfl))
 f264:=Tryz.func228.trans (congrArg some (by kernel_rfl))
 f276:=Tryz.func249.trans (congrArg some (by kernel_rfl))
 f277:=Tryz.func250.trans (congrArg some (by kernel_rfl))
 t0:=Tryz.underlying0
 a0:=Tryz.isAgg0
 z0:=Tryz.sizeOf0
 v0:=Tryz.zeroValue0
 t3:=Tryz.underlying3
 a3:=Tryz.isAgg3
 z3:=Tryz.sizeOf3
 v3:=Tryz.zeroValue3
 t4:=Tryz.underlying4
 a4:=Tryz.isAgg4
 z4:=Tryz.sizeOf4
 v4:=Tryz.zeroValue4
 t5:=Tryz.underlying5
 a5:=Tryz.isAgg5
 z5:=Tryz.sizeOf5
 v5:=Tryz.zeroValue5
 t9:=Tryz.underlying9
 a9:=Tryz.isAgg9
 z9:=Tryz.sizeOf9
 v9:=Tryz.zeroValue9
 t20:=Tryz.underlying20
 a20:=Tryz.isAgg20
 z20:=Tryz.sizeOf20
 v20:=Tryz.zeroValue20
 t37:=Tryz.underlying36
 a37:=Tryz.isAgg36
 z37:=Tryz.sizeOf36
 v37:=Tryz.zeroValue36
 t46:=Tryz.underlying219
 a46:=Tryz.isAgg219
 z46:=Tryz.sizeOf219
 v46:=Tryz.zeroValue219
 t51:=Tryz.underlying218
 a51:=Tryz.isAgg218
 z51:=Tryz.sizeOf218
 v51:=Tryz.zeroValue218
 t53:=Tryz.underlying128
 a53:=Tryz.isAgg128
 z53:=Tryz.sizeOf128
 v53:=Tryz.zeroValue128
 t70:=Tryz.underlying228
 a70:=Tryz.isAgg228
 z70:=Tryz.sizeOf228
 v70:=Tryz.zeroValue228
 t72:=Tryz.underlying230
 a72:=Tryz.isAgg230
 z72:=Tryz.sizeOf230
 v72:=Tryz.zeroValue230
 t75:=Tryz.underlying233
 a75:=Tryz.isAgg233
 z75:=Tryz.sizeOf233
 v75:=Tryz.zeroValue233
 t76:=Tryz.underlying234
 a76:=Tryz.isAgg234
 z76:=Tryz.sizeOf234
 v76:=Tryz.zeroValue234
 t109:=Tryz.underlying226
 a109:=Tryz.isAgg226
 z109:=Tryz.sizeOf226
 v109:=Tryz.zeroValue226
 t127:=Tryz.underlying266
 a127:=Tryz.isAgg266
 z127:=Tryz.sizeOf266
 v127:=Tryz.zeroValue266
 t146:=Tryz.underlying262
 a146:=Tryz.isAgg262
 z146:=Tryz.sizeOf262
 v146:=Tryz.zeroValue262
 t148:=Tryz.underlying264
 a148:=Tryz.isAgg264
 z148:=Tryz.sizeOf264
 v148:=Tryz.zeroValue264
 t164:=Tryz.underlying281
 a164:=Tryz.isAgg281
 z164:=Tryz.sizeOf281
 v164:=Tryz.zeroValue281 }
theorem Ys:Builder.Extra Tryz.prog Jv:={
 sizeBuilder:=by kernel_rfl
 liesBuilder:=by kernel_rfl
 t5:=Tryz.underlying5
 a5:=Tryz.isAgg5
 z5:=Tryz.sizeOf5
 v5:=Tryz.zeroValue5
 infoByte:=by kernel_rfl
 cellsByte:=by kernel_rfl
 sizeByte:=by kernel_rfl
 neB5:=by decide }
end Go.Proofs
namespace Go.Proofs
open Go.Shelf Go.RowKit Go.Sort Go.Lib
abbrev P6:UInt8→Value:=fun b=>Value.int .u8 (b.toNat:Int)
theorem Tp (w:World) (T:TypeId) (nd:Nat) (hs:nd≤24):Holds P6 (w.alloc (.cells Lib.zeros24 T)) w.heap.size 0 (Array.replicate nd (0:UInt8)):=fun j hj=>by
 have hj':j<nd:=by simpa using hj
 refine⟨?_,World.frozen?_alloc_new _ _ _ _⟩
 rw[World.cell?_alloc_new,Lib.zeros24_at _ (by omega),getElem!_pos _ j hj]
 simp
theorem uA (w:World) (o:Obj) (dk:Array UInt8) (k:Nat):Below w.heap.size w ((putRow P6 (w.alloc o) w.heap.size 0 dk).drewN k):=by
 rw[alloc_eq_grow]
 obtain⟨os',_,e⟩:=putRow_grow_new P6 w #[o] w.heap.size 0 dk (Nat.le_refl _)
 rw[e]
 refine⟨rfl,rfl,rfl,by show w.heap.size≤(w.heap++os').size;simp,fun i hi => ?_⟩
 show (w.heap++os')[i]? = _
 rw[Array.getElem?_append_left hi]
set_option maxHeartbeats 6400000 in
set_option maxRecDepth 100000 in
theorem abS (u:Nat) (WX:u<18446744073709551616) (w:World) (abV:Lib.TabIs Tryz.prog w "internal/strconv.uint64pow10" .u64 Lib.pow10Tab) :
  Calls Tryz.prog 226 #[.int .u64 u,.int .i64 10] w fun e w'=>e = .returned (.string ⟨(Lib.decDigits u).toArray⟩)∧Below w.heap.size w w':=by
 by_cases hs:u<100
 ·go_enter Tryz.func226,Tryz.ntmps226
  go_wp2_with (go_at_call 245;refine(Any.internal_strconv_small acM u hs _).mono ?_;rintro e w' ⟨rfl,rfl⟩)
  go_ret
  exact⟨rfl,Below.refl _ _⟩
 ·have X7:1≤u:=by omega
  have aqV:Lib.nDigits u≤20:=by have:=Lib.numDigits_eq u X7 WX;split at this<;>omega
  have hH0:=Tp w 276 (Lib.nDigits u) (by omega)
  have ahB:=Any.internal_strconv_formatBase10 adN w.heap.size 0 24 u (Array.replicate (Lib.nDigits u) 0) (w.alloc (.cells Lib.zeros24 276)) hH0 (by rw[Array.size_replicate];exact Lib.lt_pow_nDigits u) WX (by rw[Array.size_replicate];omega)
  rw[Array.size_replicate] at ahB
  have HH0:=Lib.hid hH0
  have hal:Tryz.prog.arrayLen 276=24:=by simp[Program.arrayLen,Tryz.underlying276]
  have L8:∀W,(Instr.sliceAt 276 (.pointer (some ⟨w.heap.size,0,none⟩)) none (some (.int .i64 (Lib.nDigits u:Int))) none).run Tryz.prog W = .ok (.slice (some ⟨w.heap.size,0,none⟩) (Lib.nDigits u) 24) W:=fun W=>by
   rw[run_sliceAt_array_h W 276 ⟨w.heap.size,0,none⟩ (by simp[Program.arrayLen,Program.elem,Tryz.underlying276]) .i64 (Lib.nDigits u:Int) (by omega) (by rw[hal];omega)]
   go_simp
  clear hH0 hal
  go_enter Tryz.func226,Tryz.ntmps226
  go_wp2_with (first
   | (go_at_call 246;refine(Any.internal_strconv_numDigits adK u X7 WX _ (Lib.tabIs_alloc abV _)).mono ?_;rintro e w' ⟨rfl,rfl⟩))
  go_at_call 247
  refine ahB.mono ?_
  rintro e w' ⟨rfl,k,v',dk,rfl,hF⟩
  have hcv:(convert 36 9 (.slice (some ⟨w.heap.size,0,none⟩) (Lib.nDigits u) 24)).run Tryz.prog ((putRow P6 (w.alloc (.cells Lib.zeros24 276)) w.heap.size 0 dk).drewN k) = .ok (.string ⟨(Lib.decDigits u).toArray⟩) ((putRow P6 (w.alloc (.cells Lib.zeros24 276)) w.heap.size 0 dk).drewN k):=by
   have h:=run_convert_bytes_back (P:=Tryz.prog) ((putRow P6 (w.alloc (.cells Lib.zeros24 276)) w.heap.size 0 dk).drewN k) 36 9 5 ⟨w.heap.size,0,none⟩ 24 (Lib.decDigits u) Tryz.underlying36 Tryz.underlying5 Tryz.underlying9 (fun j hj=>by
    rw[Lib.row_is_numeral hF j hj,Lib.add_plain,World.cell?_drewN]
    exact cell?_putRow P6 _ w.heap.size 0 _ dk HH0.out (by rw[hF.size,Array.size_replicate]) j (by rw[hF.size];rw[Lib.decDigits_length] at hj;exact hj))
   rw[Lib.decDigits_length] at h
   exact h
  go_wp2
  go_ret
  exact⟨rfl,uA w _ dk k⟩
theorem XN (u:Nat) (WX:u<18446744073709551616) (w:World) (abV:Lib.TabIs Tryz.prog w "internal/strconv.uint64pow10" .u64 Lib.pow10Tab) :
  Calls Tryz.prog 184 #[.int .u64 u,.int .i64 10] w fun e w'=>e = .returned (.string ⟨(Lib.decDigits u).toArray⟩)∧Below w.heap.size w w':=by
 go_enter Tryz.func184,Tryz.ntmps184
 go_wp2_with (go_at_call 226;refine(abS u WX _ abV).mono ?_;rintro e w' ⟨rfl,hb⟩)
 go_ret
 exact⟨rfl,hb⟩
end Go.Proofs
namespace Go.PM
open Go.Proofs Go.RowKit
theorem Below.zC {w w':World} (h:Below w.heap.size w w'):w.heap.size≤w'.heap.size∧(∀rb,rb<w.heap.size→w'.heap[rb]? = w.heap[rb]?)∧w'.os=w.os∧w'.output=w.output∧w'.tape=w.tape :=
 ⟨h.size,h.block,h.os,h.output,h.tape⟩
theorem yF {w:World}:w.heap.size≤w.heap.size∧(∀rb,rb<w.heap.size→w.heap[rb]? = w.heap[rb]?)∧w.os=w.os∧w.output=w.output∧w.tape=w.tape :=
 ⟨Nat.le_refl _,fun _ _=>rfl,rfl,rfl,rfl⟩
def Ci (f:Nat) (p:List Value→aD→Option Value):Prop :=
 IE Tryz.prog f∧∀L0 args H v,p args H=some v→∀m w fT,Rel m L0 H w→RL m args fT →
  Calls Tryz.prog f fT.toArray w fun e w'=>∃rv,e = .returned rv∧RV m v rv∧w.heap.size≤w'.heap.size∧(∀rb,rb<w.heap.size→w'.heap[rb]? = w.heap[rb]?)∧w'.os=w.os∧w'.output=w.output∧w'.tape=w.tape
theorem RL.one {m:cS} {x:Value} {ys:List Value} (h:RL m [x] ys):∃y,ys=[y]∧RV m x y:=by
 match ys,h with
 | [y],h=>exact⟨y,rfl,h.iT.1⟩
 | [],h=>exact absurd h.1 (by simp)
 | _::_::_,h=>exact absurd h.1 (by simp)
theorem RL.two {m:cS} {x x':Value} {ys:List Value} (h:RL m [x,x'] ys):∃y y',ys=[y,y']∧RV m x y∧RV m x' y':=by
 match ys,h with
 | [y,y'],h=>exact⟨y,y',rfl,h.iT.1,h.iT.2.iT.1⟩
 | [],h=>exact absurd h.1 (by simp)
 | [_],h=>exact absurd h.1 (by simp)
 | _::_::_::_,h=>exact absurd h.1 (by simp)
theorem RL.three {m:cS} {x x' x'':Value} {ys:List Value} (h:RL m [x,x',x''] ys):∃y y' y'',ys=[y,y',y'']∧RV m x y∧RV m x' y'∧RV m x'' y'':=by
 match ys,h with
 | [y,y',y''],h=>exact⟨y,y',y'',rfl,h.iT.1,h.iT.2.iT.1,h.iT.2.iT.2.iT.1⟩
 | [],h=>exact absurd h.1 (by simp)
 | [_],h=>exact absurd h.1 (by simp)
 | [_,_],h=>exact absurd h.1 (by simp)
 | _::_::_::_::_,h=>exact absurd h.1 (by simp)
theorem C6 {m:cS}:∀ {cs rs:List Value} {xs:List ByteArray},strCells cs=some xs→RL m cs rs→rs=xs.map .string
 |
  [],rs,xs,h,hr=>by
  cases h
  match rs,hr with
  | [],_=>rfl
  | _::_,hr=>exact absurd hr.1 (by simp)
 |
  c::cs,rs,xs,h,hr=>by
  match rs,hr with
  | [],hr=>exact absurd hr.1 (by simp)
  |
   r::rs,hr =>
   obtain⟨h1,h2⟩:=hr.iT
   cases c with
   |
    string s =>
    rw[strCells] at h
    cases hc:strCells cs with
    | none=>rw[hc] at h;cases h
    |
     some ys =>
     rw[hc] at h
     cases h
     cases h1
     rw[C6 hc h2]
     rfl
   | _=>cases h
theorem Gt:Ci 219 A6:=by
 refine⟨⟨_,Tryz.func219,by kernel_rfl,by kernel_rfl⟩,fun L0 args H v hp m w fT hR hr => ?_⟩
 unfold A6 at hp
 split at hp
 case h_2=>cases hp
 rename_i x
 split at hp
 case isFalse=>cases hp
 rename_i hx
 cases hp
 obtain⟨y,rfl,h1⟩:=hr.one
 cases h1
 refine(Any.bits_LeadingZeros32 abG x w hx.1 hx.2).mono ?_
 rintro e w' ⟨rfl,rfl⟩
 exact⟨_,rfl,.int _ _,yF⟩
theorem IX:Ci 103 DW:=by
 refine⟨⟨_,Tryz.func103,by kernel_rfl,by kernel_rfl⟩,fun L0 args H v hp m w fT hR hr => ?_⟩
 unfold DW at hp
 split at hp
 case h_2=>cases hp
 rename_i s c
 split at hp
 case isFalse=>cases hp
 rename_i hx
 cases hp
 obtain⟨y,y',rfl,h1,h2⟩:=hr.two
 cases h1
 cases h2
 obtain⟨k,rfl⟩:∃k:Nat,c=k:=⟨c.toNat,by omega⟩
 refine(Any.strings_Repeat abT Ys s k w (by omega) hx.2.2).mono ?_
 rintro e w' ⟨rfl,hb⟩
 exact⟨_,rfl,.str _,Below.zC hb⟩
theorem N7:Ci 186 PF:=by
 refine⟨⟨_,Tryz.func186,by kernel_rfl,by kernel_rfl⟩,fun L0 args H v hp m w fT hR hr => ?_⟩
 unfold PF at hp
 split at hp
 case h_3=>cases hp
 ·cases hp
  obtain⟨y,y',rfl,h1,h2⟩:=hr.two
  cases h1
  cases h2
  refine(Any.strings_Join_none QQ Md none 0 _ w).mono ?_
  rintro e w' ⟨rfl,rfl⟩
  exact⟨_,rfl,.str _,yF⟩
 ·rename_i b o n c sep
  obtain⟨y,y',rfl,h1,h2⟩:=hr.two
  cases h2
  cases h1 with
  |
   slice _ _ _ _ l ra rc h hn hc hx ha =>
   split at hp
   ·rename_i UW
    subst UW
    cases hp
    refine(Any.strings_Join_none QQ Md (some ra) rc _ w).mono ?_
    rintro e w' ⟨rfl,rfl⟩
    exact⟨_,rfl,.str _,yF⟩
   ·rename_i UW
    split at hp
    case h_2=>cases hp
    rename_i xs Nf
    split at hp
    case isFalse=>cases hp
    rename_i NM
    cases hp
    obtain⟨cs,R9,Lp⟩:=Option.bind_eq_some_iff.1 Nf
    obtain⟨rs,r1,r2,_,r4⟩:=vF hR h R9
    have hrs:=C6 Lp r1
    subst hrs
    rcases ha with ha | ⟨rfl,ha⟩
    ·omega
    obtain⟨arr,e0,fz0,v1,_⟩:=hR.valid b l h
    have BL:l.rb<w.heap.size:=(Array.getElem?_eq_some_iff.1 v1).1
    obtain⟨c1,c2,c3,c4⟩:=NM
    subst c1
    refine(Any.strings_Join QQ Md l.rb (l.base+o) rc xs sep w (fun j x hj => ?_) BL c3 (by omega) c4).mono ?_
    ·have:=r4 j (.string x) (by simp[hj])
     rw[Addr.add_lit] at this
     exact this
    ·rintro e w' ⟨rfl,hb⟩
     exact⟨_,rfl,.str _,Below.zC hb⟩
theorem Rq {m:cS} {L0:Nat} {H:aD} {w:World} (hR:Rel m L0 H w):Lib.TabIs Tryz.prog w "internal/strconv.uint64pow10" .u64 Lib.pow10Tab:=by
 obtain⟨e,fz,h⟩:=(hR.BG (1,(Lib.pow10Tab.map fun z=>Value.int .u64 z).toArray) (by simp[Zy])).1
 have hg:Tryz.prog.globalNamed "internal/strconv.uint64pow10"=some 1:=by kernel_rfl
 unfold Lib.TabIs World.var?
 rw[hg]
 simp only[Option.bind_some,h]
theorem OX:Ci 184 sL:=by
 refine⟨⟨_,Tryz.func184,by kernel_rfl,by kernel_rfl⟩,fun L0 args H v hp m w fT hR hr => ?_⟩
 unfold sL at hp
 split at hp
 case h_2=>cases hp
 rename_i n b
 split at hp
 case isFalse=>cases hp
 rename_i hx
 cases hp
 obtain⟨y,y',rfl,h1,h2⟩:=hr.two
 cases h1
 cases h2
 obtain⟨rfl,h0,h1⟩:=hx
 obtain⟨u,rfl⟩:∃u:Nat,n=u:=⟨n.toNat,by omega⟩
 refine(XN u (by omega) w (Rq hR)).mono ?_
 rintro e w' ⟨rfl,hb⟩
 exact⟨_,rfl,.str _,Below.zC hb⟩
theorem K6:Ci 241 Mg:=by
 refine⟨⟨_,Tryz.func241,by kernel_rfl,by kernel_rfl⟩,fun L0 args H v hp m w fT hR hr => ?_⟩
 unfold Mg at hp
 split at hp
 case h_2=>cases hp
 rename_i s p
 split at hp
 case h_2=>cases hp
 rename_i c hc
 cases hp
 obtain⟨y,y',rfl,h1,h2⟩:=hr.two
 cases h1
 cases h2
 have hp:p=⟨#[c]⟩:=by
  obtain⟨a⟩:=p
  obtain⟨l⟩:=a
  have:l=[c]:=hc
  rw[this]
 subst hp
 refine(Any.stringslite_Index_one abU s c w).mono ?_
 rintro e w' ⟨rfl,rfl⟩
 exact⟨_,rfl,.int _ _,yF⟩
theorem K8:Ci 217 vB:=by
 refine⟨⟨_,Tryz.func217,by kernel_rfl,by kernel_rfl⟩,fun L0 args H v hp m w fT hR hr => ?_⟩
 unfold vB at hp
 split at hp
 case h_2=>cases hp
 rename_i s b z
 split at hp
 case isFalse=>cases hp
 rename_i hx
 obtain⟨rfl,rfl,hs⟩:=hx
 split at hp
 case h_2=>cases hp
 rename_i u hu
 cases hp
 obtain⟨y,y',y'',rfl,h1,h2,h3⟩:=hr.three
 cases h1
 cases h2
 cases h3
 refine(Any.strconv_ParseUint_10_at64_ok Zo s hs u hu w).mono ?_
 have hv:∀m,RV m (.tuple #[.int .u64 (u:Int),.nilIface]) (.tuple #[.int .u64 (u:Int),.nilIface]):=fun m => .tuple _ _ rfl fun i hi=>by
  match i,hi with
  | 0,_=>exact .int _ _
  | 1,_=>exact .nilIface
  | n+2,hi=>exact absurd hi (by simp)
 rintro e w' ⟨rfl,rfl | rfl⟩
 ·exact⟨_,rfl,hv m,yF⟩
 ·exact⟨_,rfl,hv m,Below.zC (Lib.bytesWorld_below _ _ _)⟩
theorem aaN {L0:Nat}:X3 Tryz.prog cfg L0:=by
 intro f p hp
 have BV:G1 f=some p:=hp
 unfold G1 at BV
 split at BV
 ·rename_i h;subst h;cases BV;exact⟨OX.1,OX.2 L0⟩
 split at BV
 ·rename_i h;subst h;cases BV;exact⟨IX.1,IX.2 L0⟩
 split at BV
 ·rename_i h;subst h;cases BV;exact⟨N7.1,N7.2 L0⟩
 split at BV
 ·rename_i h;subst h;cases BV;exact⟨Gt.1,Gt.2 L0⟩
 split at BV
 ·rename_i h;subst h;cases BV;exact⟨K6.1,K6.2 L0⟩
 split at BV
 ·rename_i h;subst h;cases BV;exact⟨K8.1,K8.2 L0⟩
 cases BV
end Go.PM
namespace Go.PM
open Go.ChangeShapes Go.WideShapes Go.ChangeAt Go.RowKit
open Go.Proofs
structure In (m:cS) (H:aD) (W:World):Prop where
 U0:∀b l,m b=some l→b<H.length
 valid:∀b l,m b=some l→∃arr e fz,W.heap[l.rb]? = some (.cells arr e fz)∧arr.size=l.MQ
 row:∀b l cs e p,m b=some l→H[b]? = some (.row cs e p)→l.eT=e∧l.Pz=p∧l.base+cs.length≤l.MQ ∧
  ∀i,i<cs.length→∃rv,W.cell? ⟨l.rb,l.base+i,none⟩=some rv∧RV m (cs.getD i Go.undef) rv∧PM.fS (cs.getD i Go.undef)=true
section
variable {m:cS} {H:aD} {W:World}
theorem In.empty:In (fun _=>none) [] W:=⟨fun _ _ h=>(by cases h),fun _ _ h=>(by cases h),fun _ _ _ _ _ h=>(by cases h)⟩
theorem In.rel (h:In m H W) (hg:LH W):Rel m H.length H W :=
 ⟨fun b l hb=>by
  obtain⟨arr,e,fz,h1,h2⟩:=h.valid b l hb
  exact⟨arr,e,fz,h1,h2,fun hl=>by have:=h.U0 b l hb;omega⟩,h.row,fun b1 b2 l1 l2 hl h1 _ _ _ _=>by have:=h.U0 b1 l1 h1;omega,fun x hx=>⟨hg x hx,fun b l hb hm _=>by have:=h.U0 b l hm;omega⟩⟩
theorem In.NS (h:In m H W) {b:Nat} (hb:H.length≤b):m b=none:=by
 cases hm:m b with
 | none=>rfl
 | some l=>have:=h.U0 b l hm;omega
theorem In.add (h:In m H W) {rb base eT:Nat} {arr:Array Value} {e:TypeId} {fz:Nat×Nat} {cs:List Value} (hb:W.heap[rb]? = some (.cells arr e fz)) (wJ:base+cs.length≤arr.size)
  (hc:∀i,i<cs.length→∃rv,W.cell? ⟨rb,base+i,none⟩=some rv∧RV (rW m H.length ⟨rb,base,eT,arr.size,false⟩) (cs.getD i Go.undef) rv∧PM.fS (cs.getD i Go.undef)=true) :
  In (rW m H.length ⟨rb,base,eT,arr.size,false⟩) (H++[.row cs eT false]) W:=by
 have hn:=h.NS (Nat.le_refl H.length)
 refine⟨fun b l sU => ?_,fun b l sU => ?_,fun b l ds e' p sU Fq => ?_⟩
 ·by_cases he:b=H.length
  ·subst he;simp
  ·rw[cG he] at sU
   have:=h.U0 b l sU
   simp;omega
 ·by_cases he:b=H.length
  ·subst he
   rw[bN] at sU
   cases sU
   exact⟨arr,e,fz,hb,rfl⟩
  ·rw[cG he] at sU
   exact h.valid b l sU
 ·by_cases he:b=H.length
  ·subst he
   rw[bN] at sU
   cases sU
   rw[Sg] at Fq
   cases Fq
   exact⟨rfl,rfl,wJ,hc⟩
  ·rw[cG he] at sU
   have aX:=h.U0 b l sU
   rw[MN aX] at Fq
   obtain⟨h1,h2,h3,h4⟩:=h.row b l ds e' p sU Fq
   refine⟨h1,h2,h3,fun i hi => ?_⟩
   obtain⟨rv,g1,g2,g3⟩:=h4 i hi
   exact⟨rv,g1,g2.mono (rM hn),g3⟩
end
theorem Ru {α:Type} (p:Nat→α→Prop):∀c,(∀i,i<c→∃x,p i x)→∃xs:List α,xs.length=c∧∀i x,xs[i]? = some x→p i x
 | 0,_=>⟨[],rfl,fun i x hx=>by simp at hx⟩
 |
  c+1,h=>by
  obtain⟨xs,h1,h2⟩:=Ru p c fun i hi=>h i (by omega)
  obtain⟨x,h3⟩:=h c (by omega)
  refine⟨xs++[x],by simp[h1],fun i y hy => ?_⟩
  rcases Nat.lt_or_ge i xs.length with hi | hi
  ·rw[List.getElem?_append_left hi] at hy
   exact h2 i y hy
  ·rw[List.getElem?_append_right hi] at hy
   have Y4:i-xs.length=0:=by
    rcases Nat.eq_zero_or_pos (i-xs.length) with h | h
    ·exact h
    ·rw[List.getElem?_eq_none (by simp;omega)] at hy;cases hy
   rw[Y4] at hy
   cases hy
   have:i=c:=by omega
   subst this
   exact h3
theorem XM {f:Nat} {args fT:List Value} {H H':aD} {v:Value} {m:cS} {W:World} (hI:In m H W) (hr:RL m args fT) (h:oV f args H.length H=some (v,H')) (hg:LH W:=by first | assumption | exact fun x hx=>nomatch hx) :
  Calls Tryz.prog f fT.toArray W fun e W'=>∃m' rv,e = .returned rv∧RV m' v rv∧Below W.heap.size W W':=by
 obtain⟨n,hn⟩:=(sQ cfg hJ).1 h
 refine(Ga Tryz.checked.mixed aaN abA n f args H.length H v H' hn m W fT (hI.rel hg) (Nat.le_refl _) (Nat.le_refl _) hr (fun b hb _=>hI.NS hb)).2.mono ?_
 rintro e W' ⟨m',rv,rfl,h1,_,h3⟩
 refine⟨m',rv,rfl,h1,⟨h3.same.1,h3.same.2.2,h3.same.2.1,h3.size,fun k hk=>h3.fA k hk fun b l hb hm _ => ?_⟩⟩
 rw[hI.NS hb] at hm
 cases hm
end Go.PM
namespace Go.PM
def QP (c:eR):Prop:=(0≤c.t∧c.t≤10000)∧(1≤c.w∧c.w≤1000)∧(0≤c.k∧c.k≤9)
instance (c:eR):Decidable (QP c):=by unfold QP;infer_instance
def adA (cs:List eR) (i:Nat) (c:eR):Prop:=QP c∧∀b,0<i→cs[i-1]? = some b→b.t≤c.t
def iW (cs:List eR):Prop:=(∀i c,cs[i]? = some c→adA cs i c)∧cs.length≤24
noncomputable instance (cs:List eR):Decidable (iW cs):=Classical.propDecidable _
theorem iW.at {cs:List eR} (h:iW cs) {i:Nat} {c:eR} (hc:cs[i]? = some c):(0≤c.t∧c.t≤10000)∧(1≤c.w∧c.w≤1000)∧(0≤c.k∧c.k≤9):=(h.1 i c hc).1
def wl (time:Int):List eR→Int→Int→Int
 | [],l,s=>max (l-(time-s)) 0
 | c::cs,l,s=>if time<c.t then max (l-(time-s)) 0 else wl time cs (max (l-(c.t-s)) 0+c.w) c.t
def amB (cs:List eR) (time:Int):Prop:=iW cs∧(0≤time∧time≤1000000000)
noncomputable instance (cs:List eR) (time:Int):Decidable (amB cs time):=Classical.propDecidable _
def aiL (cs:List eR) (ls:List Int):Prop:=iW cs∧ls.length=cs.length∧∀x∈ls,0≤x∧x≤1000000000
noncomputable instance (cs:List eR) (ls:List Int):Decidable (aiL cs ls):=Classical.propDecidable _
def ahP (cs:List eR) (ls:List Int) (time:Int):Prop:=aiL cs ls∧(0≤time∧time≤1000000000)
noncomputable instance (cs:List eR) (ls:List Int) (time:Int):Decidable (ahP cs ls time):=Classical.propDecidable _
def akW (cs:List eR) (ps:List Int):Prop:=iW cs∧ps.length=cs.length∧∀x∈ps,0≤x∧x≤10000
noncomputable instance (cs:List eR) (ps:List Int):Decidable (akW cs ps):=Classical.propDecidable _
end Go.PM
namespace Go.Proofs.YtodamlihdkalfaaGreatDoor
open Go.ChangeShapes Go.WideShapes Go.ChangeAt Go.RowKit Go.PM
theorem own:ownKnob Tryz.prog.godebug=none:=by kernel_rfl
theorem laidOut:laidOutB Tryz.prog=true:=by kernel_rfl
theorem three {α:Type} {l:List α} (h:l.length=3):∃a b c,l=[a,b,c]:=by
 rcases l with _ | ⟨a,_ | ⟨b,_ | ⟨c,_ | ⟨d,l⟩⟩⟩⟩
 ·cases h
 ·cases h
 ·cases h
 ·exact⟨a,b,c,rfl⟩
 ·simp at h
end Go.Proofs.YtodamlihdkalfaaGreatDoor
namespace Go.PM
def CA:List Nat:=[]
 ++ [52]
 ++ [55]
 ++ [56]
 ++ [43]
 ++ [45]
 ++ [50]
 ++ [67]
 ++ [70]
 ++ [71]
 ++ [76]
 ++ [78]
 ++ [79]
 ++ [60]
 ++ [62]
 ++ [72]
 ++ [17]
 ++ [19]
 ++ [23]
 ++ [53]
 ++ [51]
 ++ [21]
 ++ [20]
 ++ [49]
 ++ [48]
 ++ [64]
 ++ [63]
 ++ [68]
 ++ [66]
 ++ [77]
 ++ [75]
 ++ [182]
 ++ [220]
 ++ [221]
 ++ [239]
 ++ [240]
 ++ [202]
 ++ [185]
 ++ [84]
 ++ [87]
 ++ [165]
 ++ [85]
 ++ [85]
 ++ [86]
 ++ [26]
 ++ [111]
 ++ [200]
 ++ [132]
 ++ [149]
 ++ [204]
 ++ [143]
 ++ [129]
 ++ [125]
 ++ [128]
 ++ [123]
 ++ [127]
 ++ [122]
 ++ [207]
 ++ [150]
 ++ [144]
 ++ [131]
 ++ [148]
 ++ [142]
end Go.PM
namespace Go.PM
inductive TK where
 | op
 | cl (e:Nat)
 | nil
 deriving DecidableEq
inductive VV where
 | any
 | sc (v:Value)
 | agg (cs:List VV)
 | eO (vs:List VV)
 | tree (es:List VV) (k:TK)
 | cO (x:VV) (off:Nat)
 | ref (b g o n c:Nat)
 | ptr (b g j off:Nat)
 | sW (f:Nat) (eZ:List VV)
 deriving Inhabited
inductive iY where
 | dead
 | row (g:Nat) (es:List VV) (e:Nat) (w:Bool)
 deriving Inhabited
abbrev aA:=List iY
abbrev cR:=Nat→VV
def nX:VV := .eO []
def lR:Value→Bool
 | .bool _ | .int _ _ | .string _ | .pointer none | .nilFunc | .nilIface=>true
 | _=>false
def iN:Value→VV
 | .slice none 0 0 => .tree [] .nil
 | v=>if lR v then .sc v else .any
def inj:Value→VV
 | .agg cs => .agg (cs.toList.map iN)
 | .tuple vs=>if vs.isEmpty then .eO [] else .any
 | v=>iN v
def dI (ρ:cR):Operand→VV
 | .tmp t=>ρ t
 | .const v=>inj v
 | .global _ => .any
 | .func f => .sW f []
def Hr (ρ:cR):Option Nat→VV→cR
 | none,_=>ρ
 | some d,v=>fun k=>if k=d then v else ρ k
def aB:VV→List VV
 | .agg cs=>cs
 | v=>[v]
def elemOf:List VV→VV
 | [x]=>x
 | cs => .agg cs
def cH:VV→Bool
 | .any | .agg _ | .eO _=>false
 | _=>true
def uni:List VV→Bool
 | []=>true
 | x::xs=>xs.all fun y=>(aB y).length == (aB x).length
mutual
def aR:VV→Bool
 | .any=>false
 | .sc v=>lR v
 | .agg cs=>aJ cs
 | .eO vs=>aJ vs
 | .tree es k=>decide (k = .op)&&aJ es&&uni es
 | .cO x _=>aR x
 | .ref .. => false
 | .ptr .. => false
 | .sW _ eZ=>aJ eZ
def aJ:List VV→Bool
 | []=>true
 | x::xs=>aR x&&aJ xs
end
def xP:VV→Bool
 | .agg [_]=>false
 | _=>true
mutual
def gJ:VV→Bool
 | .any=>false
 | .sc v=>lR v
 | .agg cs=>pJ cs
 | .eO vs=>pJ vs
 | .tree es k=>decide (k = .op)&&pJ es&&uni es&&es.all xP
 | .cO _ _=>false
 | .ref .. => false
 | .ptr .. => false
 | .sW _ _=>false
def pJ:List VV→Bool
 | []=>true
 | x::xs=>gJ x&&pJ xs
end
mutual
def Gw:VV→Bool
 | .sc v=>lR v
 | .agg cs=>OW cs
 | .eO vs=>OW vs
 | _=>false
def OW:List VV→Bool
 | []=>true
 | x::xs=>Gw x&&OW xs
end
mutual
def below (k:Nat):VV→Bool
 | .any=>true
 | .sc _=>true
 | .agg cs=>kD k cs
 | .eO vs=>kD k vs
 | .tree es _=>kD k es
 | .cO x _=>below k x
 | .ref b _ _ _ _=>decide (b<k)
 | .ptr b _ _ _=>decide (b<k)
 | .sW _ eZ=>kD k eZ
def kD (k:Nat):List VV→Bool
 | []=>true
 | x::xs=>below k x&&kD k xs
end
def C7 (k:Nat) (v:VV):VV:=if below k v then v else .any
def aQ (H:aA) (b g:Nat):Option (List VV×Nat×Bool) :=
 match H[b]? with
 | some (.row g' es e w)=>if g'=g then some (es,e,w) else none
 | _=>none
def oF:List CK→List VV→List VV→Option Bool
 | [],[],[]=>some true
 |
  k::ks,.sc x::xs,.sc y::ys=>match qX k x y with
  | some true=>oF ks xs ys
  | some false=>some false
  | none=>none
 | _,_,_=>none
def cL (cs:List VV) (o:Nat) (new:List VV):List VV:=cs.take o++new++cs.drop (o+new.length)
def isAny:VV→Bool
 | .any=>true
 | _=>false
def vN (places:List (Nat×Nat)) (cells:List VV):List (Nat×VV)→Option (List VV)
 | []=>some cells
 |
  (i,v)::rest =>
  match places[i]? with
  | none=>none
  |
   some (off,size) =>
   if (aB v).length=size∧off+size≤cells.length∧isAny v=false then
    vN places (cells.take off++aB v++cells.drop (off+size)) rest
   else none
def tM (e:Nat) (es:List VV):List (Nat×VV)→Option (List VV)
 | []=>some es
 | (i,v)::rest=>if i<es.length∧(aB v).length=e∧(aB v).all cH then tM e (es.set i v) rest else none
def Ee:Option VV→Option (Option Value)
 | none=>some none
 | some (.sc v)=>some (some v)
 | some _=>none
def dX (agg:Bool) (size:Nat) (x:VV) (o:Nat):Option VV :=
 if agg then (if o+size≤(aB x).length then some (.agg (((aB x).drop o).take size)) else none) else (aB x)[o]?
structure Fl where
 bf:Bool
 lr:Bool
def dV (agg:Bool) (size:Nat) (p:VV) (H:aA):Option VV :=
 match p with
 | .cO x o=>dX agg size x o
 |
  .ptr b g j o=>match aQ H b g with
  |
   some (es,_,_)=>match es[j]? with
   | some x=>dX agg size x o
   | none=>none
  | none=>none
 | _=>none
def bE (size:Nat) (x i:VV) (H:aA):Option VV :=
 match x,i with
 |
  .tree es _,.sc (.int _ i)=>if 0≤i then match es[i.toNat]? with
  | some x=>if (aB x).length=size then some (.cO x 0) else none
  | none=>none
  else none
 |
  .ref b g o n _,.sc (.int _ i)=>match aQ H b g with
  | some (_,e,_)=>if e=size∧0≤i∧i<n then some (.ptr b g (o+i.toNat) 0) else none
  | none=>none
 | _,_=>none
def Ek (size:Nat) (x:VV) (l h m:Option VV) (H:aA):Option VV :=
 match Ee l,Ee h,Ee m with
 |
  some lv,some hv,some mv =>
  match x with
  |
   .tree (y::ys) _ =>
   if (aB y).length=size then
    match dT mv (some (ys.length+1)) (ys.length+1) with
    | none=>none
    |
     some m=>match dT hv (if mv.isSome then none else some (ys.length+1)) m with
     | none=>none
     |
      some h=>match dT lv (some 0) h with
      | none=>none
      | some l=>if mv.isSome∧m=l then some (.tree [] (.cl size)) else some (.tree (((y::ys).drop l).take (h-l)) .op)
   else none
  |
   .ref b g o n c =>
   match aQ H b g with
   |
    some (_,e,_) =>
    if e=size then
     match dT mv (some c) c with
     | none=>none
     |
      some m=>match dT hv (if mv.isSome then none else some n) m with
      | none=>none
      |
       some h=>match dT lv (some 0) h with
       | none=>none
       | some l=>if mv.isSome∧m=l then some (.tree [] (.cl size)) else some (.ref b g (o+l) (h-l) (m-l))
    else none
   | none=>none
  | _=>none
 | _,_,_=>none
def FY:List VV→Option (List UInt8)
 | []=>some []
 | .sc (.int .u8 n)::r=>(FY r).map (UInt8.ofNat n.toNat :: ·)
 | _=>none
def eW (size:Nat) (y:VV) (H:aA):Option (List VV) :=
 match y with
 | .tree es _=>if es.all fun x=>(aB x).length == size&&(aB x).all cH then some es else none
 |
  .ref b g o n _=>match aQ H b g with
  | some (es,e,_)=>if e=size∧o+n≤es.length∧(((es.drop o).take n).all fun x=>(aB x).all cH) then some ((es.drop o).take n) else none
  | none=>none
 | .sc (.string s)=>if size=1 then some (s.data.toList.map fun b => .sc (.int .u8 b.toNat)) else none
 | _=>none
def gE (lo size bytes:Nat) (x:VV) (new:List VV) (H:aA):Option (VV×aA) :=
 if 1≤bytes∧1≤size then
  match x with
  | .tree [] .nil=>if new.length=0 then some (x,H) else if new.length*bytes≤140737488355328 then some (.ref H.length 0 0 new.length new.length,H++[.row 0 new size true]) else none
  | .tree es (.cl e)=>if e=size then (if new.length=0 then some (x,H) else if (es.length+new.length)*bytes≤140737488355328 then some (.ref H.length 0 0 (es.length+new.length) (es.length+new.length),H++[.row 0 (es++new) size true]) else none) else none
  |
   .ref b g o n c=>match aQ H b g with
   |
    some (es,e,true) =>
    if e=size∧lo≤b∧o+n≤es.length then
     if n+new.length≤c then
      if new.length=0 then some (x,H)
      else if o+n+new.length≤es.length then some (.ref b g o (n+new.length) c,H.set b (.row g (cL es (o+n) new) e true))
      else none
     else if (n+new.length)*bytes≤140737488355328 then some (.ref b (g+1) 0 (n+new.length) (n+new.length),H.set b (.row (g+1) ((es.drop o).take n++new) e true))
     else none
    else none
   | _=>none
  | _=>none
 else none
def cQ (lo size:Nat) (p v:VV) (H:aA):Option aA :=
 match p with
 |
  .ptr b g j o=>match aQ H b g with
  |
   some (es,e,true)=>match es[j]? with
   |
    some x =>
    if (aB v).length=size∧lo≤b∧(aB v).all cH then
     if o=0∧size=e then some (H.set b (.row g (es.set j v) e true))
     else if 2≤e∧o+size≤e then some (H.set b (.row g (es.set j (.agg (cL (aB x) o (aB v)))) e true))
     else none
    else none
   | none=>none
  | _=>none
 | _=>none
def yW (zero:List Value) (bytes:Nat) (l c:VV) (H:aA):Option (VV×aA) :=
 match l,c with
 | .sc (.int .i64 l),.sc (.int .i64 c)=>if 0≤l∧l≤c∧c*bytes≤281474976710656∧c≤9223372036854775807 then
  some (.ref H.length 0 0 l.toNat c.toNat,H++[.row 0 (List.replicate c.toNat (elemOf (zero.map iN))) zero.length true]) else none
 | _,_=>none
def rC (lr:Bool) (zero:List Value) (n:Nat) (parts:List (Nat×VV)) (H:aA):Option (VV×aA) :=
 match tM zero.length (List.replicate n (elemOf (zero.map iN))) parts with
 | some es=>if (zero.map iN).all cH then (if n=0∨lr=true then some (.ref H.length 0 0 n n,H++[.row 0 es zero.length true]) else some (.tree es (.cl zero.length),H)) else none
 | none=>none
def Km (lo size:Nat) (x y:VV) (H:aA):Option (VV×aA) :=
 match x,eW size y H with
 | .tree [] .nil,some _=>some (.sc (.int .i64 0),H)
 |
  .ref b g o d _,some new=>match aQ H b g with
  | some (es,e,true)=>if e=size∧lo≤b∧o+(new.take d).length≤es.length then some (.sc (.int .i64 (new.take d).length),H.set b (.row g (cL es o (new.take d)) e true)) else none
  | _=>none
 | _,_=>none
def MO (lo:Nat) (zero:List Value) (x:VV) (H:aA):Option aA :=
 match x with
 |
  .ref b g o n _=>match aQ H b g with
  | some (es,e,true)=>if n=0 then some H else if e=zero.length∧lo≤b∧o+n≤es.length∧(zero.map iN).all cH then some (H.set b (.row g (cL es o (List.replicate n (elemOf (zero.map iN)))) e true)) else none
  | _=>none
 | _=>none
def DB (neg:Bool) (x:VV) (H:aA):Option VV :=
 match x with
 | .tree [] .nil=>some (.sc (.bool (true != neg)))
 | .tree [] (.cl _)=>some (.sc (.bool (false != neg)))
 | .tree (_::_) _=>some (.sc (.bool (false != neg)))
 | .ref b g _ _ _=>(aQ H b g).map fun _ => .sc (.bool (false != neg))
 | _=>none
def oB (x:VV) (H:aA):Option VV :=
 match x with
 | .tree es _=>some (.sc (.int .i64 es.length))
 | .ref b g _ n _=>(aQ H b g).map fun _ => .sc (.int .i64 n)
 | _=>none
def EW (off:Nat) (x:VV) (H:aA):Option VV :=
 match x with
 | .cO x o=>some (.cO x (o+off))
 | .ptr b g j o=>(aQ H b g).map fun _ => .ptr b g j (o+off)
 | _=>none
def TW (x:VV) (H:aA):Option VV :=
 match x with
 | .cO x o=>some (.cO x o)
 | .ptr b g j o=>(aQ H b g).map fun _ => .ptr b g j o
 | _=>none
def sK (x:VV) (l h:Option VV):Option VV :=
 match x,Ee l,Ee h with
 |
  .sc (.string s),some lv,some hv=>match xI lv hv s.size with
  | some (l,h)=>some (.sc (.string (s.extract l h)))
  | none=>none
 | _,_,_=>none
def YZ (agg:Bool) (off size:Nat) (x:VV):Option VV :=
 match x with
 | .agg cs=>if agg then (if off+size≤cs.length then some (.agg ((cs.drop off).take size)) else none) else cs[off]?
 | _=>none
def IZ (f:Value→Option Value) (x:VV):Option VV :=
 match x with
 | .sc a=>(f a).map .sc
 | _=>none
def FM (f:Value→Value→Option Value) (x y:VV):Option VV :=
 match x,y with
 | .sc a,.sc b=>(f a b).map .sc
 | _,_=>none
def Pb (c a b:VV):Option VV :=
 match c with
 | .sc (.bool t)=>some (if t then a else b)
 | _=>none
def VE (i:Nat) (x:VV):Option VV :=
 match x with
 | .eO vs=>vs[i]?
 | _=>none
def Qx (neg:Bool) (ks:List CK) (x y:VV):Option VV :=
 match x,y with
 | .agg a,.agg b=>(oF ks a b).map fun t => .sc (.bool (t != neg))
 | _,_=>none
def To:Value→Option Value
 | .string s=>some (.string s)
 | _=>none
def yQ:Value→Option Value
 | .string s=>some (.int .i64 s.size)
 | _=>none
def D7:Value→Value→Option Value
 | .string s,.int _ i=>if 0≤i∧i<s.size then some (.int .u8 ((s.data.toList.getD i.toNat 0).toNat:Int)) else none
 | _,_=>none
def vop (fl:Fl) (lo:Nat) (o:lM) (ρ:cR) (H:aA):Option (VV×aA) :=
 match o with
 | .mv x=>some (dI ρ x,H)
 | .pick c a b=>(Pb (dI ρ c) (dI ρ a) (dI ρ b)).map (·,H)
 | .bin op x y=>(FM (cX op) (dI ρ x) (dI ρ y)).map (·,H)
 | .eqb neg x y=>(FM (Mx neg) (dI ρ x) (dI ρ y)).map (·,H)
 | .isnil neg x=>(DB neg (dI ρ x) H).map (·,H)
 | .eqagg neg ks x y=>(Qx neg ks (dI ρ x) (dI ρ y)).map (·,H)
 | .un op x=>(IZ (WU op) (dI ρ x)).map (·,H)
 | .cvt k x=>(IZ (Rj k) (dI ρ x)).map (·,H)
 | .cvs x=>(IZ To (dI ρ x)).map (·,H)
 | .ext x i=>(VE i (dI ρ x)).map (·,H)
 | .fld agg off size x=>(YZ agg off size (dI ρ x)).map (·,H)
 | .build zero places parts=>(vN places (zero.map iN) (parts.map fun(i,x)=>(i,dI ρ x))).map fun cs=>(.agg cs,H)
 | .chk x=>(TW (dI ρ x) H).map (·,H)
 | .faddr off x=>(EW off (dI ρ x) H).map (·,H)
 | .iaddr size x i=>(bE size (dI ρ x) (dI ρ i) H).map (·,H)
 | .sidx x i=>(FM D7 (dI ρ x) (dI ρ i)).map (·,H)
 | .ssub x l h=>(sK (dI ρ x) (l.map (dI ρ)) (h.map (dI ρ))).map (·,H)
 | .mkfn f eZ=>some (.sW f (eZ.map (dI ρ)),H)
 | .len x=>(oB (dI ρ x) H).map (·,H)
 | .slen x=>(IZ yQ (dI ρ x)).map (·,H)
 | .min x y=>(FM PJ (dI ρ x) (dI ρ y)).map (·,H)
 | .max x y=>(FM PL (dI ρ x) (dI ρ y)).map (·,H)
 | .load agg size p=>(dV agg size (dI ρ p) H).map (·,H)
 | .sub size x l h m=>(Ek size (dI ρ x) (l.map (dI ρ)) (h.map (dI ρ)) (m.map (dI ρ)) H).map (·,H)
 |
  .b2s x=>match dI ρ x with
  | .sc _=>none
  |
   y=>match eW 1 y H with
   | some es=>(FY es).map fun bs=>(.sc (.string ⟨bs.toArray⟩),H)
   | none=>none
 | .new zero=>if (zero.map iN).all cH then some (.ptr H.length 0 0 0,H++[.row 0 [elemOf (zero.map iN)] zero.length true]) else none
 | .box x=>if (aB (dI ρ x)).all cH then (if fl.bf then some (.cO (dI ρ x) 0,H) else some (.ptr H.length 0 0 0,H++[.row 0 [dI ρ x] (aB (dI ρ x)).length true])) else none
 | .make zero bytes l c=>if (zero.map iN).all cH then yW zero bytes (dI ρ l) (dI ρ c) H else none
 | .lit zero n parts=>rC fl.lr zero n (parts.map fun(i,x)=>(i,dI ρ x)) H
 | .store size p v=>(cQ lo size (dI ρ p) (dI ρ v) H).map fun H'=>(nX,H')
 |
  .app size bytes x y=>match eW size (dI ρ y) H with
  | some new=>gE lo size bytes (dI ρ x) new H
  | none=>none
 |
  .appz zero bytes x n=>match dI ρ n with
  | .sc (.int .i64 n)=>if 0≤n∧n*bytes≤140737488355328∧(zero.map iN).all cH then gE lo zero.length bytes (dI ρ x) (List.replicate n.toNat (elemOf (zero.map iN))) H else none
  | _=>none
 | .copy size x y=>Km lo size (dI ρ x) (dI ρ y) H
 | .clear zero x=>(MO lo zero (dI ρ x) H).map fun H'=>(nX,H')
 | _=>none
inductive VBx where
 | no
 | row (i:Nat) (w:Bool)
 | AU (i:Nat)
 | tree
 | bad
def nT (H:aA):VV→VBx
 | .tree [] .nil => .no
 | .tree _ _ => .tree
 | .cO _ _ => .tree
 |
  .ref b g _ _ _=>match aQ H b g with
  | some (_,_,w) => .row b w
  | none => .AU b
 |
  .ptr b g _ _=>match aQ H b g with
  | some (_,_,w) => .row b w
  | none => .AU b
 | .any => .bad
 | _ => .no
def kG (H:aA) (x y:VV):Bool :=
 match nT H x,nT H y with
 | .bad,_=>false
 | _,.bad=>false
 | .no,_=>true
 | _,.no=>true
 | .row i _,.row j _=>i != j
 | .row i _,.AU j=>i != j
 | .AU i,.row j _=>i != j
 | .AU _,.AU _=>false
 | .AU _,.tree=>false
 | .tree,.AU _=>false
 | .row _ w,.tree=>w
 | .tree,.row _ w=>w
 | .tree,.tree=>false
def gN (ρ:cR) (H:aA) (c:Operand×Operand):Bool:=kG H (dI ρ c.1) (dI ρ c.2)
def Aa (g:Option (Nat×Bool)) (ρ:cR):Option Bool :=
 match g with
 | none=>some true
 |
  some (t,want)=>match ρ t with
  | .sc (.bool b)=>some (b == want)
  | .eO _=>some false
  | _=>none
def fz:Nat→aA→VV→Option VV
 | 0,_,_=>none
 |
  d+1,H,v =>
  if aR v then some v else
  match v with
  | .agg cs=>(cs.mapM (fz d H)).map .agg
  | .eO vs=>(vs.mapM (fz d H)).map .eO
  | .tree es _=>(es.mapM (fz d H)).map (.tree · .op)
  | .cO x o=>(fz d H x).map (.cO · o)
  |
   .ref b g o n c=>match aQ H b g with
   | some (es,_,_)=>if o+n≤es.length∧n≤c then (((es.drop o).take n).mapM (fz d H)).map (.tree · .op) else none
   | none=>none
  |
   .ptr b g j o=>match aQ H b g with
   |
    some (es,_,_)=>match es[j]? with
    | some x=>(fz d H x).map (.cO · o)
    | none=>none
   | none=>none
  | .sW f eZ=>(eZ.mapM (fz d H)).map (.sW f ·)
  | _=>none
def iE:Nat→aA→VV→List Nat
 | 0,_,_=>[]
 |
  d+1,H,v =>
  if aR v then [] else
  match v with
  | .agg cs=>cs.flatMap (iE d H)
  | .eO vs=>vs.flatMap (iE d H)
  | .tree es _=>es.flatMap (iE d H)
  | .cO x _=>iE d H x
  |
   .ref b g o n _=>match aQ H b g with
   | some (es,_,_)=>b::((es.drop o).take n).flatMap (iE d H)
   | none=>[]
  |
   .ptr b g j _=>match aQ H b g with
   |
    some (es,_,_)=>match es[j]? with
    | some x=>b::iE d H x
    | none=>[]
   | none=>[]
  | .sW _ eZ=>eZ.flatMap (iE d H)
  | _=>[]
def zR (H:aA) (b:Nat):aA :=
 match H[b]? with
 | some (.row g es e _)=>H.set b (.row g es e false)
 | _=>H
def cJ (H:aA) (ids:List Nat):aA:=ids.foldl zR H
def depth:Nat:=8
end Go.PM