/- Texts of a claim, in one: part 3. -/
import Derived.Lib.ItoaNum
import Derived.Lib.Join
import Derived.Lib.BitFns
import Derived.Lib.Repeat
import Derived.Lib.Bytealg
import Derived.Lib.ParseIntB
import Derived.Test.YtodamlihdkalfaaGreatDoorChecked
import Derived.Laws.BitsLemmas
import Derived.Shelf.Strings.OnBuilder
import Derived.Shelf.Strings.Repeat
import Derived.Shelf.Small.Bits
import Derived.Shelf.Strconv.Itoa1
import Derived.Shelf.Strconv.Itoa2
import Derived.Shelf.LaysM
import Derived.Shelf.Strings.Search2
import Derived.Shelf.Pu.ParseUintPublic10
import Derived.KernelRfl
import Derived.Test.YtodamlihdkalfaaGreatDoorProg
import Derived.Lib.Walk
import Derived.Lib.ItoaMem
import Derived.WalkKit
import Derived.BigCall
import Derived.BigGuard
import Derived.Below
import Derived.Shelf.Strings.Search2
import Derived.Shelf.Pu.ParseUintPublic10
import Derived.Shelf.Strings.OnBuilder
import Derived.Shelf.Strings.Repeat
import Derived.Shelf.Small.Bits
import Derived.ProofKit
import Derived.OpenShut
import Derived.ShutString
import Derived.ChangeOld
import Derived.Carry
import Derived.SizedLaws
import Derived.Test.YtodamlihdkalfaaGreatDoorRows
import Derived.Test.YtodamlihdkalfaaGreatDoorKRb
set_option linter.unusedSimpArgs false
set_option linter.unusedVariables false
namespace Go.PM
def aiA:Ex→Exit
 | .normal => .normal
 | .exit id => .exit id
 | .ret => .ret
section
variable {P:Program} {E:yQ} {n:Nat} {call:fL} {lo L0:Nat}
def L7 (P:Program) (n lo L0:Nat) (c:Code) (run:Env→aD→Option (Ex×Env×aD)):Prop :=
 ∀ρ H x aW H',run ρ H=some (x,aW,H')→∀m a w,Fm n L0 m ρ H a w→L0≤H.length→(∀b,H.length≤b→b<H'.length→m b=none) →
  ∀Q:Exit→Act→World→Prop,(∀m' a' w',Fm n L0 m' aW H' a' w'→Trans lo m H w m' H' w'→Q (aiA x) a' w')→c.wp P Q a w
theorem V7 {c:Code} {run:Env→aD→Option (Ex×Env×aD)} (hc:L7 P n lo L0 c run) (he:∀ρ H x aW H',run ρ H=some (x,aW,H')→Ext lo H H') (N:Nat):L7 P n lo L0 (.loop c) (vM run N):=by
 intro ρ H x aW H' hr m a w h hl hf Q hQ
 apply wp_loop_rounds N
 have key:∀N ρ H,vM run N ρ H=some (x,aW,H')→∀m a w,Fm n L0 m ρ H a w→L0≤H.length→(∀b,H.length≤b→b<H'.length→m b=none) →
   (∀m' a' w',Fm n L0 m' aW H' a' w'→Trans lo m H w m' H' w'→Q (aiA x) a' w')→Code.rounds P c Q N a w:=by
  intro N
  induction N with
  | zero=>intro ρ H h;cases h
  |
   succ N ih =>
   intro ρ H hr m a w h hl hf hQ
   rw[rounds_succ]
   rw[vM] at hr
   split at hr
   ·rename_i uG H1 h1
    have e1:=he _ _ _ _ _ h1
    have e2:=Fc he N hr
    refine hc ρ H _ uG H1 h1 m a w h hl (fun b Cw YS=>hf b Cw (Nat.lt_of_lt_of_le YS e2.len)) _ fun m1 a1 w1 hh hT => ?_
    exact ih uG H1 hr m1 a1 w1 hh (Nat.le_trans hl e1.len) (hT.fresh e1.len hf) fun m2 a2 w2 h2 hT2=>hQ m2 a2 w2 h2 (Trans.trans hf e1 e2 hT hT2)
   ·rename_i eW
    refine hc ρ H _ aW H' hr m a w h hl hf _ fun m1 a1 w1 hh hT => ?_
    have:=hQ m1 a1 w1 hh hT
    cases x with
    | normal=>exact absurd hr (eW aW H')
    | exit id=>exact this
    | ret=>exact this
 exact key N ρ H hr m a w h hl hf hQ
theorem mX (BW:P.follows .mixedOrders=true) (lX:uB P L0 call) (pD:pF call) (gF:L0≤lo) (N:Nat):∀(c:Code) (pc:aE),gN P E n c=some pc→L7 P n lo L0 c (cT call lo N pc)
 |
  .skip,pc,hp=>by
  cases hp
  intro ρ H x aW H' hr m a w h hl hf Q hQ
  cases hr
  exact wp_skip (hQ m a w h (Trans.refl _ _ _ _))
 |
  .region id ops draw,pc,hp=>by
  rw[gN] at hp
  cases hpr:wE P E n ops draw with
  | none=>rw[hpr] at hp;cases hp
  |
   some qW =>
   rw[hpr] at hp
   cases hp
   intro ρ H x aW H' hr m a w h hl hf Q hQ
   rw[cT] at hr
   cases hs:fX call lo qW ρ H with
   | none=>rw[hs] at hr;cases hr
   |
    some q =>
    obtain⟨uG,H1⟩:=q
    rw[hs] at hr
    cases hr
    exact Qj BW lX pD hpr hs h gF hl hf hQ
 |
  .seq x y,pc,hp=>by
  rw[gN] at hp
  split at hp
  ·rename_i px py Sl hpy
   cases hp
   intro ρ H e aW H' hr m a w h hl hf Q hQ
   rw[cT] at hr
   apply wp_seq
   split at hr
   ·rename_i uG H1 h1
    have e1:=iN pD px h1
    have e2:=iN pD py hr
    refine mX BW lX pD gF N x px Sl ρ H _ uG H1 h1 m a w h hl (fun b Cw YS=>hf b Cw (Nat.lt_of_lt_of_le YS e2.len)) _ fun m1 a1 w1 hh hT => ?_
    exact mX BW lX pD gF N y py hpy uG H1 _ aW H' hr m1 a1 w1 hh (Nat.le_trans hl e1.len) (hT.fresh e1.len hf) Q fun m2 a2 w2 h2 hT2=>hQ m2 a2 w2 h2 (Trans.trans hf e1 e2 hT hT2)
   ·rename_i eW
    refine mX BW lX pD gF N x px Sl ρ H _ aW H' hr m a w h hl hf _ fun m1 a1 w1 hh hT => ?_
    have:=hQ m1 a1 w1 hh hT
    cases e with
    | normal=>exact absurd hr (eW aW H')
    | exit id=>exact this
    | ret=>exact this
  ·cases hp
 |
  .cond o x y,pc,hp=>by
  rw[gN] at hp
  split at hp
  ·rename_i Ci
   split at hp
   ·rename_i px py Sl hpy
    cases hp
    intro ρ H e aW H' hr m a w h hl hf Q hQ
    rw[cT] at hr
    split at hr
    ·rename_i t ht
     have Q8:=Qg (a:=a) (m:=m) (ρ:=ρ) Ci fun t _=>h.env t
     rw[ht] at Q8
     generalize hev:a.eval o=ro at Q8
     cases Q8
     refine wp_cond hev ?_
     cases t with
     | true=>exact mX BW lX pD gF N x px Sl ρ H _ aW H' hr m a w h hl hf Q hQ
     | false=>exact mX BW lX pD gF N y py hpy ρ H _ aW H' hr m a w h hl hf Q hQ
    ·cases hr
   ·cases hp
  ·cases hp
 |
  .block id x,pc,hp=>by
  rw[gN] at hp
  cases Sl:gN P E n x with
  | none=>rw[Sl] at hp;cases hp
  |
   some px =>
   rw[Sl] at hp
   cases hp
   intro ρ H e aW H' hr m a w h hl hf Q hQ
   rw[cT] at hr
   apply wp_block
   split at hr
   ·rename_i NR uG H1 h1
    split at hr
    ·rename_i hid
     cases hr
     refine mX BW lX pD gF N x px Sl ρ H _ aW H' h1 m a w h hl hf _ fun m1 a1 w1 hh hT => ?_
     have:=hQ m1 a1 w1 hh hT
     show Exit.inBlock id Q (.exit NR) a1 w1
     simp only[Exit.inBlock,if_pos hid]
     exact this
    ·rename_i hid
     cases hr
     refine mX BW lX pD gF N x px Sl ρ H _ aW H' h1 m a w h hl hf _ fun m1 a1 w1 hh hT => ?_
     have:=hQ m1 a1 w1 hh hT
     show Exit.inBlock id Q (.exit NR) a1 w1
     simp only[Exit.inBlock,if_neg hid]
     exact this
   ·rename_i eW
    refine mX BW lX pD gF N x px Sl ρ H _ aW H' hr m a w h hl hf _ fun m1 a1 w1 hh hT => ?_
    have:=hQ m1 a1 w1 hh hT
    cases e with
    | normal=>exact this
    | exit NR=>exact absurd hr (eW NR aW H')
    | ret=>exact this
 |
  .loop x,pc,hp=>by
  rw[gN] at hp
  cases Sl:gN P E n x with
  | none=>rw[Sl] at hp;cases hp
  |
   some px =>
   rw[Sl] at hp
   cases hp
   have hx:=mX BW lX pD gF N x px Sl
   intro ρ H e aW H' hr
   rw[cT] at hr
   exact V7 hx (fun ρ H x aW H' h=>iN pD px h) N ρ H e aW H' hr
 |
  .exit id,pc,hp=>by
  cases hp
  intro ρ H x aW H' hr m a w h hl hf Q hQ
  cases hr
  exact wp_exit (hQ m a w h (Trans.refl _ _ _ _))
 |
  .ret,pc,hp=>by
  cases hp
  intro ρ H x aW H' hr m a w h hl hf Q hQ
  cases hr
  exact wp_ret (hQ m a w h (Trans.refl _ _ _ _))
 | .rangeFunc ..,pc,hp=>by cases hp
 | .scope _,pc,hp=>by cases hp
 | .label _,pc,hp=>by cases hp
 | .goto _,pc,hp=>by cases hp
 | .refuse _,pc,hp=>by cases hp
def wZ (P:Program):ResultVar→Option yG
 | .tmp t=>some (.tmp t)
 | .cell t ty=>(kK P ty).map fun(agg,size,_,_) => .cell t agg size
def JA (a:Act):ResultVar→Sem Value
 | .tmp t=>pure (a.tmps.getD t undef)
 | .cell x t=>do loadVar t (←asAddr (a.tmps.getD x undef))
theorem aoI {m:cS} {ρ:Env} {H:aD} {a:Act} {w:World} (h:Fm n L0 m ρ H a w) {r:ResultVar} {pr:yG} (hp:wZ P r=some pr) {v:Value} (hv:Sz ρ H pr=some v) :
  ∃rv,RV m v rv∧(JA a r).run P w = .ok rv w:=by
 cases r with
 |
  tmp t =>
  cases hp
  cases hv
  exact⟨_,h.env t,rfl⟩
 |
  cell x t =>
  simp only[wZ] at hp
  cases ht:kK P t with
  | none=>rw[ht] at hp;cases hp
  |
   some q =>
   obtain⟨agg,size,z,nb⟩:=q
   rw[ht] at hp
   cases hp
   obtain⟨rv,h1,h2⟩:=KD ht hv h.rel (h.env x)
   refine⟨rv,h1,?_⟩
   unfold JA
   have hpv:=h.env x
   simp only[Sz,mC] at hv
   split at hv
   ·rename_i b o hb
    rw[hb] at hpv
    show (do loadVar t (←asAddr (a.tmps.getD x undef)):Sem Value).run P w=_
    generalize a.tmps.getD x undef=rp at h2 hpv ⊢
    cases hpv
    exact h2
   ·cases hv
theorem WO {m:cS} {ρ:Env} {H:aD} {a:Act} {w:World} (h:Fm n L0 m ρ H a w):∀ {rs:List ResultVar} {ZK:List yG} {vs:List Value},rs.mapM (wZ P)=some ZK→Ag ρ H ZK=some vs →
  ∃UZ,RL m vs UZ∧(rs.mapM (JA a)).run P w = .ok UZ w
 |
  [],ZK,vs,hp,hv=>by
  simp at hp
  subst hp
  cases hv
  exact⟨[],RL.nil m,rfl⟩
 |
  r::rs,ZK,vs,hp,hv=>by
  simp only[List.mapM_cons,Option.pure_def,Option.bind_eq_bind] at hp
  cases h1:wZ P r with
  | none=>rw[h1] at hp;cases hp
  |
   some pr =>
   rw[h1] at hp
   cases h2:rs.mapM (wZ P) with
   | none=>rw[h2] at hp;cases hp
   |
    some atS =>
    rw[h2] at hp
    cases hp
    simp only[Ag] at hv
    split at hv
    ·rename_i v vs' Z7 hv2
     cases hv
     obtain⟨rv,g1,g2⟩:=aoI h h1 Z7
     obtain⟨UZ,g3,g4⟩:=WO h h2 hv2
     refine⟨rv::UZ,RL.cons g1 g3,?_⟩
     rw[List.mapM_cons,Sem.run_bind,g2,Result.andThen_ok,Sem.run_bind,g4]
     rfl
    ·cases hv
theorem Gl {m:cS} {ρ:Env} {H:aD} {a:Act} {w:World} (h:Fm n L0 m ρ H a w) {fn:Func} {ZK:List yG} (hp:fn.results.toList.mapM (wZ P)=some ZK) {v:Value} (hv:oM ZK ρ H=some v) :
  ∃rv,RV m v rv∧(results fn a.tmps).run P w = .ok rv w:=by
 unfold oM at hv
 cases kA:Ag ρ H ZK with
 | none=>rw[kA] at hv;cases hv
 |
  some vs =>
  obtain⟨UZ,h1,h2⟩:=WO h hp kA
  rw[kA] at hv
  have nB:∀rv,(if h:UZ.toArray.size=1 then UZ.toArray[0] else .tuple UZ.toArray)=rv→(results fn a.tmps).run P w = .ok rv w:=by
   intro rv Q8
   have e:results fn a.tmps=(do let vs ←fn.results.mapM (JA a);pure (if h:vs.size=1 then vs[0] else .tuple vs)):=by
    unfold results
    congr 2
   rw[e,Array.mapM_eq_mapM_toList,Sem.run_bind]
   have:(List.toArray <$> fn.results.toList.mapM (JA a)).run P w = .ok UZ.toArray w:=by
    rw[map_eq_pure_bind,Sem.run_bind,h2]
    rfl
   rw[this,←Q8]
   rfl
  clear h2 kA
  rcases vs with _ | ⟨x,_ | ⟨y,xs⟩⟩
  ·rcases UZ with _ | ⟨x',ys⟩
   ·cases hv
    exact⟨_,h1.SH,nB _ rfl⟩
   ·cases h1.1
  ·rcases UZ with _ | ⟨x',_ | ⟨y',ys⟩⟩
   ·cases h1.1
   ·cases hv
    exact⟨x',h1.iU.1,nB x' rfl⟩
   ·cases h1.1
  ·rcases UZ with _ | ⟨x',_ | ⟨y',ys⟩⟩
   ·cases h1.1
   ·cases h1.1
   ·cases hv
    exact⟨_,h1.SH,nB _ (by simp)⟩
end
end Go.PM
namespace Go.PM
def VJ (P:Program) (E:yQ) (L0:Nat):Prop :=
 ∀f p,E.yA f=some p→IH P f∧∀args H v,p args H=some v→∀m w fT,Rel m L0 H w→RL m args fT →
  Calls P f fT.toArray w fun e w'=>∃rv,e = .returned rv∧RV m v rv∧w.heap.size≤w'.heap.size∧(∀rb,rb<w.heap.size→w'.heap[rb]? = w.heap[rb]?)∧w'.os=w.os∧w'.output=w.output∧w'.tape=w.tape
theorem Rel.more {m:cS} {L0:Nat} {H:aD} {w w':World} (h:Rel m L0 H w) (hk:∀rb,rb<w.heap.size→w'.heap[rb]? = w.heap[rb]?):Rel m L0 H w':=by
 have hv:∀b l,m b=some l→l.rb<w.heap.size:=fun b l hb=>by
  obtain⟨arr,e,fz,h1,_⟩:=h.valid b l hb
  exact(Array.getElem?_eq_some_iff.1 h1).1
 refine⟨fun b l hb=>by rw[hk _ (hv b l hb)];exact h.valid b l hb,fun b l cs e p hm hb => ?_,h.inj,fun x hx=>⟨?_,(h.BK x hx).2⟩⟩
 ·obtain⟨h1,h2,h3,h4⟩:=h.row b l cs e p hm hb
  refine⟨h1,h2,h3,fun i hi => ?_⟩
  obtain⟨rv,g1,g2⟩:=h4 i hi
  refine⟨rv,?_,g2⟩
  rw[←g1]
  unfold World.cell?
  simp only[hk _ (hv b l hm)]
 ·obtain⟨e,fz,g1⟩:=(h.BK x hx).1
  exact⟨e,fz,by rw[hk _ (Array.getElem?_eq_some_iff.1 g1).1];exact g1⟩
theorem XS {P:Program} {E:yQ} {f:Nat} {pf:aV} (h:O9 P E f=some pf):∃fn c,P.funcs[f]? = some fn∧fn.body=some c∧(fn.name == "runtime.NumGoroutine")=false∧fn.results.toList.mapM (wZ P)=some pf.res∧gN P E fn.ntmps c=some pf.body∧pf.ntmps=fn.ntmps:=by
 unfold O9 at h
 cases hf:P.funcs[f]? with
 | none=>rw[hf] at h;cases h
 |
  some fn =>
  rw[hf] at h
  have h':IB P E fn=some pf:=h
  unfold IB at h'
  cases hb:fn.body with
  | none=>rw[hb] at h';cases h'
  |
   some c =>
   rw[hb] at h'
   simp only at h'
   split at h'
   ·cases h'
   ·rename_i Xi
    split at h'
    ·cases h'
    ·rename_i res Rg
     cases hc:gN P E fn.ntmps c with
     | none=>rw[hc] at h';cases h'
     |
      some body =>
      rw[hc] at h'
      cases h'
      refine⟨fn,c,rfl,hb,by simpa using Xi,?_,hc,rfl⟩
      have e:(fun(r:ResultVar)=>match r with
       | .tmp t=>some (yG.tmp t)
       | .cell t ty=>(kK P ty).map fun(agg,size,_,_) => .cell t agg size)=wZ P:=by
       funext r
       cases r<;>rfl
      rw[←e]
      exact Rg
theorem E5 {P:Program} {E:yQ} {T:XY} {L0:Nat} (BW:P.follows .mixedOrders=true) (XO:VJ P E L0) (hT:∀f pf,T f=some pf→O9 P E f=some pf):∀n,uB P L0 (kO E T n)
 | 0=>fun f args lo H v H' h=>by cases h
 |
  n+1=>fun f args lo H v H' h m w fT hR gF hlen PN hf=>by
  have pD:=Cg E T n
  rw[kO] at h
  split at h
  ·rename_i p hp
   obtain⟨hco,alB⟩:=XO f p hp
   refine⟨hco,?_⟩
   cases hpv:p args H with
   | none=>rw[hpv] at h;cases h
   |
    some u =>
    rw[hpv] at h
    cases h
    refine(alB args H v hpv m w fT hR PN).mono ?_
    rintro e w' ⟨rv,rfl,h1,h2,h3,h4⟩
    exact⟨m,rv,rfl,h1,hR.more h3,fun _ _ h=>h,fun b l hb hn=>(by rw[hb] at hn;cases hn),h2,fun rb Bv _=>h3 rb Bv,h4⟩
  ·split at h
   ·cases h
   ·rename_i pf hpf
    obtain⟨fn,c,h1,h2,h3,h4,h5,h6⟩:=XS (hT _ _ hpf)
    split at h
    case isFalse=>cases h
    rename_i uU
    refine⟨⟨fn,h1,h3,by rw[h2];rfl⟩,calls_of_wp h1 h2 ?_⟩
    have Bc:fT.toArray.size≤fn.ntmps:=by
     have:=PN.1
     simp;omega
    have hH:Fm fn.ntmps L0 m (Ua args) H { tmps:=fT.toArray++Array.replicate (fn.ntmps-fT.toArray.size) undef,defers:=[] } w:=by
     refine⟨by simp at Bc ⊢;omega,rfl,fun t => ?_,hR⟩
     rcases Nat.lt_or_ge t args.length with ht | ht
     ·have h7:=PN.2 t ht
      have YG:t<fT.length:=by rw[←PN.1];exact ht
      have e:(fT.toArray++Array.replicate (fn.ntmps-fT.toArray.size) undef).getD t undef=fT.getD t undef:=by
       rw[Array.getD_eq_getD_getElem?,Array.getElem?_append_left (by simpa using YG)]
       simp
      show RV m (args.getD t undef) _
      rw[e]
      exact h7
     ·have e1:args.getD t undef=undef:=by simp[List.getD_eq_getElem?_getD,List.getElem?_eq_none ht]
      have YG:fT.length≤t:=by rw[←PN.1];exact ht
      have e2:(fT.toArray++Array.replicate (fn.ntmps-fT.toArray.size) undef).getD t undef=undef:=by
       rw[Array.getD_eq_getD_getElem?,Array.getElem?_append_right (by simpa using YG)]
       rw[Array.getElem?_replicate]
       split<;>rfl
      show RV m (args.getD t undef) _
      rw[e1,e2]
      exact RV.undef m
    split at h
    ·rename_i uG H1 nB
     cases hr:oM pf.res uG H1 with
     | none=>rw[hr] at h;cases h
     |
      some u =>
      rw[hr] at h
      cases h
      refine mX BW (E5 BW XO hT n) pD gF n c pf.body h5 _ _ _ _ _ nB m _ w hH hlen hf _ fun m' a' w' hh hTr => ?_
      obtain⟨rv,g1,g2⟩:=Gl hh h4 hr
      exact⟨hh.defs,rv,g2,m',rv,rfl,g1,hh.rel,hTr⟩
    ·rename_i uG H1 nB
     cases hr:oM pf.res uG H1 with
     | none=>rw[hr] at h;cases h
     |
      some u =>
      rw[hr] at h
      cases h
      refine mX BW (E5 BW XO hT n) pD gF n c pf.body h5 _ _ _ _ _ nB m _ w hH hlen hf _ fun m' a' w' hh hTr => ?_
      obtain⟨rv,g1,g2⟩:=Gl hh h4 hr
      exact⟨hh.defs,rv,g2,m',rv,rfl,g1,hh.rel,hTr⟩
    ·cases h
end Go.PM
namespace Go.PM
def CLe (c c':fL):Prop:=∀f args lo H r,c f args lo H=some r→c' f args lo H=some r
section
variable {c c':fL} {lo:Nat}
theorem KJ (h:CLe c c') {i:PI} {ρ:Env} {H:aD} {r:Value×aD} (hr:wQ c lo i ρ H=some r):wQ c' lo i ρ H=some r:=by
 unfold wQ at hr ⊢
 split at hr
 ·cases hr
 ·exact hr
 ·split at hr
  ·rename_i M6
   rw[if_pos M6]
   split at hr
   ·exact hr
   ·exact h _ _ _ _ _ hr
   ·cases hr
  ·cases hr
theorem Q4 (h:CLe c c') {i:PI} {ρ:Env} {H:aD} {r:Env×aD} (hr:uR c lo i ρ H=some r):uR c' lo i ρ H=some r:=by
 unfold uR at hr ⊢
 split at hr
 ·rename_i v H' hv
  rw[KJ h hv]
  exact hr
 ·cases hr
theorem xB (h:CLe c c'):∀ {is:List PI} {ρ:Env} {H:aD} {r:Env×aD},fX c lo is ρ H=some r→fX c' lo is ρ H=some r
 | [],_,_,_,hr=>hr
 |
  i::is,ρ,H,r,hr=>by
  rw[fX] at hr ⊢
  split at hr
  ·rename_i h1
   rw[Q4 h h1]
   exact xB h hr
  ·cases hr
theorem uY {b b':Env→aD→Option (Ex×Env×aD)} (h:∀ρ H r,b ρ H=some r→b' ρ H=some r):∀ {n n':Nat} {ρ:Env} {H:aD} {r:Ex×Env×aD},n≤n'→vM b n ρ H=some r→vM b' n' ρ H=some r
 | 0,_,_,_,_,_,hr=>by cases hr
 | n+1,0,_,_,_,hn,_=>by omega
 |
  n+1,n'+1,ρ,H,r,hn,hr=>by
  rw[vM] at hr ⊢
  split at hr
  ·rename_i h1
   rw[h _ _ _ h1]
   exact uY h (by omega) hr
  ·rename_i eW
   rw[h _ _ _ hr]
   split
   ·rename_i aW H' he
    cases he
    exact absurd hr (eW _ _)
   ·rfl
theorem dS (h:CLe c c') {n n':Nat} (hn:n≤n'):∀(p:aE) {ρ:Env} {H:aD} {r:Ex×Env×aD},cT c lo n p ρ H=some r→cT c' lo n' p ρ H=some r
 | .skip,_,_,_,hr=>hr
 |
  .dX ops,ρ,H,r,hr=>by
  rw[cT] at hr ⊢
  cases hs:fX c lo ops ρ H with
  | none=>rw[hs] at hr;cases hr
  | some q=>rw[hs] at hr;rw[xB h hs];exact hr
 |
  .seq a b,ρ,H,r,hr=>by
  rw[cT] at hr ⊢
  split at hr
  ·rename_i h1
   rw[dS h hn a h1]
   exact dS h hn b hr
  ·rename_i eW
   rw[dS h hn a hr]
   split
   ·rename_i he;cases he;exact absurd hr (eW _ _)
   ·rfl
 |
  .cond x a b,ρ,H,r,hr=>by
  rw[cT] at hr ⊢
  split at hr
  ·split at hr
   ·rename_i ht;rw[if_pos ht];exact dS h hn a hr
   ·rename_i ht;rw[if_neg ht];exact dS h hn b hr
  ·cases hr
 |
  .block id a,ρ,H,r,hr=>by
  rw[cT] at hr ⊢
  split at hr
  ·rename_i h1
   rw[dS h hn a h1]
   exact hr
  ·rename_i eW
   rw[dS h hn a hr]
   split
   ·rename_i he;cases he;exact absurd hr (eW _ _ _)
   ·rfl
 |
  .loop a,ρ,H,r,hr=>by
  rw[cT] at hr ⊢
  exact uY (fun ρ H r hr=>dS h hn a hr) hn hr
 | .exit id,_,_,_,hr=>hr
 | .ret,_,_,_,hr=>hr
theorem Al (E:yQ) (T:XY):∀n,CLe (kO E T n) (kO E T (n+1))
 | 0,_,_,_,_,_,hr=>by cases hr
 |
  n+1,f,args,lo,H,r,hr=>by
  rw[kO] at hr ⊢
  split at hr
  ·exact hr
  ·split at hr
   ·cases hr
   ·split at hr
    ·rename_i pf _ ha
     rw[if_pos ha]
     split at hr
     ·rename_i h1
      rw[dS (Al E T n) (Nat.le_succ n) pf.body h1]
      exact hr
     ·rename_i h1
      rw[dS (Al E T n) (Nat.le_succ n) pf.body h1]
      exact hr
     ·cases hr
    ·cases hr
theorem mP (E:yQ) (T:XY) {n n':Nat} (h:n≤n'):CLe (kO E T n) (kO E T n'):=by
 induction h with
 | refl=>exact fun _ _ _ _ _ h=>h
 | step _ ih=>exact fun f args lo H r hr=>Al E T _ f args lo H r (ih f args lo H r hr)
end
section
variable (E:yQ) (T:XY)
open Classical in
noncomputable def lim {α:Type} (run:Nat→Option α):Option α:=if h:∃r,∃n,run n=some r then some (Classical.choose h) else none
theorem RD {α:Type} {run:Nat→Option α} (hm:∀n n' r,n≤n'→run n=some r→run n'=some r) {r:α}:lim run=some r↔∃n,run n=some r:=by
 unfold lim
 constructor
 ·intro h
  split at h
  ·rename_i hx
   cases h
   exact Classical.choose_spec hx
  ·cases h
 ·rintro⟨n,hn⟩
  have hx:∃r,∃n,run n=some r:=⟨r,n,hn⟩
  rw[dif_pos hx]
  obtain⟨n',PT⟩:=Classical.choose_spec hx
  have h1:=hm n (max n n') r (Nat.le_max_left _ _) hn
  have h2:=hm n' (max n n') _ (Nat.le_max_right _ _) PT
  rw[h1] at h2
  injection h2 with h2
  rw[←h2]
noncomputable def call:fL:=fun f args lo H=>lim fun n=>kO E T n f args lo H
noncomputable def code (lo:Nat) (c:aE) (ρ:Env) (H:aD):Option (Ex×Env×aD):=lim fun n=>cT (kO E T n) lo n c ρ H
theorem sM {f:Nat} {args:List Value} {lo:Nat} {H:aD} {r:Value×aD}:call E T f args lo H=some r↔∃n,kO E T n f args lo H=some r :=
 RD fun _ _ r h hr=>mP E T h f args lo H r hr
theorem bY {lo:Nat} {c:aE} {ρ:Env} {H:aD} {r:Ex×Env×aD}:code E T lo c ρ H=some r↔∃n,cT (kO E T n) lo n c ρ H=some r :=
 RD fun _ _ _ h hr=>dS (mP E T h) h c hr
theorem Iz {lo:Nat}:∀ {is:List PI} {ρ:Env} {H:aD} {r:Env×aD},fX (call E T) lo is ρ H=some r↔∃n,fX (kO E T n) lo is ρ H=some r:=by
 have le:∀n,CLe (kO E T n) (call E T):=fun n f args lo H r hr=>(sM E T).2 ⟨n,hr⟩
 have val:∀ {i:PI} {ρ:Env} {H:aD} {r:Value×aD},wQ (call E T) lo i ρ H=some r→∃n,wQ (kO E T n) lo i ρ H=some r:=by
  intro i ρ H r hr
  unfold wQ at hr ⊢
  split at hr
  ·cases hr
  ·exact⟨0,hr⟩
  ·split at hr
   ·rename_i M6
    split at hr
    ·exact⟨0,by rw[if_pos M6];exact hr⟩
    ·obtain⟨n,hn⟩:=(sM E T).1 hr
     exact⟨n,by rw[if_pos M6];exact hn⟩
    ·cases hr
   ·cases hr
 intro is
 induction is with
 | nil=>exact fun {ρ H r}=>⟨fun h=>⟨0,h⟩,fun⟨_,h⟩=>h⟩
 |
  cons i is ih =>
  intro ρ H r
  constructor
  ·intro h
   rw[fX] at h
   split at h
   ·rename_i uG H1 h1
    obtain⟨v,hv,rfl⟩:=vD h1
    obtain⟨n1,hn1⟩:=val hv
    obtain⟨n2,ZA⟩:=ih.1 h
    refine⟨max n1 n2,?_⟩
    rw[fX]
    have e:uR (kO E T (max n1 n2)) lo i ρ H=some (put ρ i.dst v,H1):=by
     unfold uR
     rw[KJ (mP E T (Nat.le_max_left n1 n2)) hn1]
    rw[e]
    exact xB (mP E T (Nat.le_max_right n1 n2)) ZA
   ·cases h
  ·rintro⟨n,h⟩
   exact xB (le n) h
theorem zT {α:Type} {a b:Option α} (h:∀r,a=some r↔b=some r):a=b:=by
 cases a with
 |
  none =>
  cases b with
  | none=>rfl
  | some y=>exact((h y).2 rfl)
 | some x=>exact((h x).1 rfl).symm
variable {lo:Nat} {ρ:Env} {H:aD}
theorem TG:code E T lo .skip ρ H=some (.normal,ρ,H):=(bY E T).2 ⟨0,rfl⟩
theorem TD {id:Nat}:code E T lo (.exit id) ρ H=some (.exit id,ρ,H):=(bY E T).2 ⟨0,rfl⟩
theorem VM:code E T lo .ret ρ H=some (.ret,ρ,H):=(bY E T).2 ⟨0,rfl⟩
theorem XI {ops:List PI}:code E T lo (.dX ops) ρ H=(fX (call E T) lo ops ρ H).map fun(aW,H')=>(.normal,aW,H'):=by
 refine zT fun r => ?_
 rw[bY]
 constructor
 ·rintro⟨n,h⟩
  rw[cT] at h
  cases hs:fX (kO E T n) lo ops ρ H with
  | none=>rw[hs] at h;cases h
  |
   some q =>
   rw[hs] at h
   rw[(Iz E T).2 ⟨n,hs⟩]
   exact h
 ·intro h
  cases hs:fX (call E T) lo ops ρ H with
  | none=>rw[hs] at h;cases h
  |
   some q =>
   rw[hs] at h
   obtain⟨n,hn⟩:=(Iz E T).1 hs
   exact⟨n,by rw[cT,hn];exact h⟩
theorem Xm {a b:aE}:code E T lo (.seq a b) ρ H=match code E T lo a ρ H with
  | some (.normal,aW,H')=>code E T lo b aW H'
  | r=>r:=by
 refine zT fun r => ?_
 rw[bY]
 constructor
 ·rintro⟨n,h⟩
  rw[cT] at h
  split at h
  ·rename_i h1
   rw[(bY E T).2 ⟨n,h1⟩]
   exact(bY E T).2 ⟨n,h⟩
  ·rename_i eW
   rw[(bY E T).2 ⟨n,h⟩]
   split
   ·rename_i he;cases he;exact absurd h (eW _ _)
   ·rfl
 ·intro h
  split at h
  ·rename_i h1
   obtain⟨n1,h1⟩:=(bY E T).1 h1
   obtain⟨n2,h2⟩:=(bY E T).1 h
   refine⟨max n1 n2,?_⟩
   rw[cT,dS (mP E T (Nat.le_max_left n1 n2)) (Nat.le_max_left n1 n2) a h1]
   exact dS (mP E T (Nat.le_max_right n1 n2)) (Nat.le_max_right n1 n2) b h2
  ·rename_i eW
   obtain⟨n,h1⟩:=(bY E T).1 h
   refine⟨n,?_⟩
   rw[cT,h1]
   split
   ·rename_i he;cases he;exact absurd h (eW _ _)
   ·rfl
theorem T1 {x:Operand} {a b:aE}:code E T lo (.cond x a b) ρ H=match ev ρ x with
  | .bool t=>if t then code E T lo a ρ H else code E T lo b ρ H
  | _=>none:=by
 refine zT fun r => ?_
 rw[bY]
 constructor
 ·rintro⟨n,h⟩
  rw[cT] at h
  split at h
  ·rename_i t he
   rw[he]
   show (if t=true then code E T lo a ρ H else code E T lo b ρ H)=some r
   split at h
   ·rename_i ht;rw[if_pos ht];exact(bY E T).2 ⟨n,h⟩
   ·rename_i ht;rw[if_neg ht];exact(bY E T).2 ⟨n,h⟩
  ·cases h
 ·intro h
  split at h
  ·rename_i t he
   split at h
   ·rename_i ht
    obtain⟨n,h⟩:=(bY E T).1 h
    refine⟨n,?_⟩
    rw[cT,he]
    show (if t=true then _ else _)=_
    rw[if_pos ht]
    exact h
   ·rename_i ht
    obtain⟨n,h⟩:=(bY E T).1 h
    refine⟨n,?_⟩
    rw[cT,he]
    show (if t=true then _ else _)=_
    rw[if_neg ht]
    exact h
  ·cases h
theorem Qo {id:Nat} {a:aE}:code E T lo (.block id a) ρ H=match code E T lo a ρ H with
  | some (.exit NR,aW,H')=>if NR=id then some (.normal,aW,H') else some (.exit NR,aW,H')
  | r=>r:=by
 refine zT fun r => ?_
 rw[bY]
 constructor
 ·rintro⟨n,h⟩
  rw[cT] at h
  split at h
  ·rename_i h1
   rw[(bY E T).2 ⟨n,h1⟩]
   exact h
  ·rename_i eW
   rw[(bY E T).2 ⟨n,h⟩]
   split
   ·rename_i he;cases he;exact absurd h (eW _ _ _)
   ·rfl
 ·intro h
  split at h
  ·rename_i h1
   obtain⟨n,h1⟩:=(bY E T).1 h1
   exact⟨n,by rw[cT,h1];exact h⟩
  ·rename_i eW
   obtain⟨n,h1⟩:=(bY E T).1 h
   refine⟨n,?_⟩
   rw[cT,h1]
   split
   ·rename_i he;cases he;exact absurd h (eW _ _ _)
   ·rfl
theorem Tc {a:aE}:code E T lo (.loop a) ρ H=match code E T lo a ρ H with
  | some (.normal,aW,H')=>code E T lo (.loop a) aW H'
  | r=>r:=by
 refine zT fun r => ?_
 rw[bY]
 constructor
 ·rintro⟨n,h⟩
  rw[cT] at h
  cases n with
  | zero=>cases h
  |
   succ n =>
   rw[vM] at h
   split at h
   ·rename_i h1
    rw[(bY E T).2 ⟨n+1,h1⟩]
    refine(bY E T).2 ⟨n+1,?_⟩
    rw[cT]
    exact uY (fun _ _ _ h=>h) (Nat.le_succ n) h
   ·rename_i eW
    rw[(bY E T).2 ⟨n+1,h⟩]
    split
    ·rename_i he;cases he;exact absurd h (eW _ _)
    ·rfl
 ·intro h
  split at h
  ·rename_i h1
   obtain⟨n1,h1⟩:=(bY E T).1 h1
   obtain⟨n2,h2⟩:=(bY E T).1 h
   refine⟨max n1 n2+1,?_⟩
   have g1:=dS (mP E T (show n1≤max n1 n2+1 by omega)) (show n1≤max n1 n2+1 by omega) a h1
   rw[cT,vM,g1]
   rw[cT] at h2
   exact uY (fun _ _ _ h=>dS (mP E T (show n2≤max n1 n2+1 by omega)) (show n2≤max n1 n2+1 by omega) a h) (show n2≤max n1 n2 by omega) h2
  ·rename_i eW
   obtain⟨n,h1⟩:=(bY E T).1 h
   refine⟨n+1,?_⟩
   rw[cT,vM,dS (Al E T n) (Nat.le_succ n) a h1]
   split
   ·rename_i he;cases he;exact absurd h (eW _ _)
   ·rfl
noncomputable def aaL (lo:Nat) (pf:aV) (args:List Value) (H:aD):Option (Value×aD) :=
 if args.length≤pf.ntmps then
  match code E T lo pf.body (Ua args) H with
  | some (.normal,ρ,H') | some (.ret,ρ,H')=>(oM pf.res ρ H').map (·,H')
  | _=>none
 else none
theorem UJ {f:Nat} {p:List Value→aD→Option Value} (h:E.yA f=some p) {args:List Value}:call E T f args lo H=(p args H).map (·,H):=by
 refine zT fun r => ?_
 rw[sM]
 constructor
 ·rintro⟨n,hr⟩
  cases n with
  | zero=>cases hr
  | succ n=>rw[kO,h] at hr;exact hr
 ·intro hr
  exact⟨1,by rw[kO,h];exact hr⟩
theorem Zo {f:Nat} {pf:aV} (hp:E.yA f=none) (h:T f=some pf) {args:List Value}:call E T f args lo H=aaL E T lo pf args H:=by
 refine zT fun r => ?_
 rw[sM]
 unfold aaL
 constructor
 ·rintro⟨n,hr⟩
  cases n with
  | zero=>cases hr
  |
   succ n =>
   rw[kO,hp,h] at hr
   simp only at hr
   split at hr
   ·rename_i ha
    rw[if_pos ha]
    split at hr
    ·rename_i h1
     rw[(bY E T).2 ⟨n,h1⟩]
     exact hr
    ·rename_i h1
     rw[(bY E T).2 ⟨n,h1⟩]
     exact hr
    ·cases hr
   ·cases hr
 ·intro hr
  split at hr
  ·rename_i ha
   split at hr
   ·rename_i h1
    obtain⟨n,h1⟩:=(bY E T).1 h1
    exact⟨n+1,by rw[kO,hp,h];simp only;rw[if_pos ha,h1];exact hr⟩
   ·rename_i h1
    obtain⟨n,h1⟩:=(bY E T).1 h1
    exact⟨n+1,by rw[kO,hp,h];simp only;rw[if_pos ha,h1];exact hr⟩
   ·cases hr
  ·cases hr
end
end Go.PM
namespace Go.PM
theorem B6 {H H':aD} {lo zX b o:Nat} {new:List Value} (hl:zX≤lo) (h:H.write lo b o new=some H'):H.write zX b o new=some H':=by
 unfold aD.write at h ⊢
 split at h
 ·split at h
  ·rename_i hc
   rw[if_pos ⟨by omega,hc.2⟩]
   exact h
  ·cases h
 ·cases h
theorem zR {α β:Type} {a b:Option α} {f:α→β} {r:β} (DN:∀x,a=some x→b=some x) (h:a.map f=some r):b.map f=some r:=by
 cases a with
 | none=>cases h
 | some x=>rw[DN x rfl];exact h
theorem GC {lo zX size bytes add:Nat} {x:Value} {new:List Value} {H:aD} {r:Value×aD} (hl:zX≤lo) (h:dK lo size bytes x add new H=some r):dK zX size bytes x add new H=some r:=by
 unfold dK at h ⊢
 split at h
 case isFalse=>cases h
 rename_i hc
 rw[if_pos hc]
 split at h
 ·exact h
 ·split at h
  ·split at h
   ·rename_i h1
    skip
    rw[if_pos h1]
    split at h
    ·rename_i h2
     rw[if_pos h2]
     split at h
     ·rename_i h3;rw[if_pos h3];exact h
     ·rename_i h3
      rw[if_neg h3]
      exact zR (fun H' hw=>B6 hl hw) h
    ·rename_i h2
     rw[if_neg h2]
     split at h
     ·rename_i h3
      rw[if_pos h3]
      split at h
      ·rename_i h4
       rw[if_pos h4]
       split at h
       ·rename_i h5;rw[if_pos (by omega)];exact h
       ·cases h
      ·rename_i h4;rw[if_neg h4];exact h
     ·cases h
   ·cases h
  ·cases h
 ·cases h
theorem SE {lo zX:Nat} {p:lT} {ρ:Env} {H:aD} {o:Out} (hl:zX≤lo) (h:pop lo p ρ H=some o):pop zX p ρ H=some o:=by
 cases p<;>first | exact h | skip
 case store size q v =>
  simp only[pop] at h ⊢
  split at h
  ·split at h
   ·rename_i h1
    skip
    rw[if_pos h1]
    exact zR (fun H' hw=>B6 hl hw) h
   ·cases h
  ·cases h
 case app size bytes x y =>
  simp only[pop] at h ⊢
  split at h
  ·split at h
   ·skip
    exact zR (fun H' hw=>GC hl hw) h
   ·cases h
  ·cases h
 case appz z bytes x n =>
  simp only[pop] at h ⊢
  split at h
  ·split at h
   ·rename_i h1
    skip
    rw[if_pos h1]
    exact zR (fun H' hw=>GC hl hw) h
   ·cases h
  ·cases h
 case copy size x y =>
  simp only[pop] at h ⊢
  split at h
  ·exact h
  ·split at h
   ·skip
    exact zR (fun H' hw=>B6 hl hw) h
   ·cases h
  ·cases h
 case clear z x =>
  simp only[pop] at h ⊢
  split at h
  ·exact h
  ·skip
   split at h
   ·rename_i h1;rw[if_pos h1];exact h
   ·rename_i h1
    rw[if_neg h1]
    exact zR (fun H' hw=>B6 hl hw) h
  ·cases h
def Wd (c:fL):Prop:=∀f args lo zX H r,zX≤lo→c f args lo H=some r→c f args zX H=some r
section
variable {c:fL} {lo zX:Nat}
theorem I2 (hc:Wd c) (hl:zX≤lo):∀ {is:List PI} {ρ:Env} {H:aD} {r:Env×aD},fX c lo is ρ H=some r→fX c zX is ρ H=some r
 | [],_,_,_,h=>h
 |
  i::is,ρ,H,r,h=>by
  rw[fX] at h ⊢
  split at h
  ·rename_i uG H1 h1
   have e:uR c zX i ρ H=some (uG,H1):=by
    unfold uR at h1 ⊢
    split at h1
    ·rename_i v H2 hv
     have:wQ c zX i ρ H=some (v,H2):=by
      unfold wQ at hv ⊢
      split at hv
      ·cases hv
      ·exact hv
      ·split at hv
       ·rename_i M6
        rw[if_pos M6]
        split at hv
        ·rename_i hp;rw[SE hl hp];exact hv
        ·rename_i hp
         rw[SE hl hp]
         show c _ _ (if i.quiet=true then H.length else zX) H=_
         cases hq:i.quiet with
         | true=>rw[hq] at hv;exact hv
         | false=>rw[hq] at hv;exact hc _ _ _ _ _ _ hl hv
        ·cases hv
       ·cases hv
     rw[this]
     exact h1
    ·cases h1
   rw[e]
   exact I2 hc hl h
  ·cases h
theorem Ti {b b':Env→aD→Option (Ex×Env×aD)} (h:∀ρ H r,b ρ H=some r→b' ρ H=some r):∀ {n:Nat} {ρ:Env} {H:aD} {r:Ex×Env×aD},vM b n ρ H=some r→vM b' n ρ H=some r :=
 fun hr=>uY h (Nat.le_refl _) hr
theorem lL (hc:Wd c) (hl:zX≤lo) {n:Nat}:∀(p:aE) {ρ:Env} {H:aD} {r:Ex×Env×aD},cT c lo n p ρ H=some r→cT c zX n p ρ H=some r
 | .skip,_,_,_,hr=>hr
 |
  .dX ops,ρ,H,r,hr=>by
  rw[cT] at hr ⊢
  exact zR (fun _ h=>I2 hc hl h) hr
 |
  .seq a b,ρ,H,r,hr=>by
  rw[cT] at hr ⊢
  split at hr
  ·rename_i h1
   rw[lL hc hl a h1]
   exact lL hc hl b hr
  ·rename_i eW
   rw[lL hc hl a hr]
   split
   ·rename_i he;cases he;exact absurd hr (eW _ _)
   ·rfl
 |
  .cond x a b,ρ,H,r,hr=>by
  rw[cT] at hr ⊢
  split at hr
  ·split at hr
   ·rename_i ht;rw[if_pos ht];exact lL hc hl a hr
   ·rename_i ht;rw[if_neg ht];exact lL hc hl b hr
  ·cases hr
 |
  .block id a,ρ,H,r,hr=>by
  rw[cT] at hr ⊢
  split at hr
  ·rename_i h1
   rw[lL hc hl a h1]
   exact hr
  ·rename_i eW
   rw[lL hc hl a hr]
   split
   ·rename_i he;cases he;exact absurd hr (eW _ _ _)
   ·rfl
 |
  .loop a,ρ,H,r,hr=>by
  rw[cT] at hr ⊢
  exact Ti (fun ρ H r hr=>lL hc hl a hr) hr
 | .exit id,_,_,_,hr=>hr
 | .ret,_,_,_,hr=>hr
end
theorem FP (E:yQ) (T:XY):∀n,Wd (kO E T n)
 | 0,_,_,_,_,_,_,_,h=>by cases h
 |
  n+1,f,args,lo,zX,H,r,hl,h=>by
  rw[kO] at h ⊢
  split at h
  ·exact h
  ·split at h
   ·cases h
   ·split at h
    ·rename_i pf _ ha
     rw[if_pos ha]
     split at h
     ·rename_i h1;rw[lL (FP E T n) hl pf.body h1];exact h
     ·rename_i h1;rw[lL (FP E T n) hl pf.body h1];exact h
     ·cases h
    ·cases h
section
variable {E:yQ} {T:XY}
theorem XQ {f:Nat} {args:List Value} {lo zX:Nat} {H:aD} {r:Value×aD} (hl:zX≤lo) (h:call E T f args lo H=some r):call E T f args zX H=some r:=by
 obtain⟨n,hn⟩:=(sM E T).1 h
 exact(sM E T).2 ⟨n,FP E T n f args lo zX H r hl hn⟩
theorem XU {f:Nat} {args:List Value} {lo:Nat} {H H':aD} {v:Value} (h:call E T f args lo H=some (v,H')):Ext lo H H':=by
 obtain⟨n,hn⟩:=(sM E T).1 h
 exact Cg E T n f args lo H v H' hn
theorem Ext.more {H H':aD} (h:Ext H.length H H'):∃K,H'=H++K:=by
 refine⟨H'.drop H.length,?_⟩
 apply List.ext_getElem?
 intro i
 rcases Nat.lt_or_ge i H.length with hi | hi
 ·rw[List.getElem?_append_left hi]
  exact h.low i hi hi
 ·rw[List.getElem?_append_right hi,List.getElem?_drop,show H.length+(i-H.length)=i by omega]
def Sw (E:yQ) (T:XY) (f:Nat) (args:List Value) (H:aD) (R:Value→aD→Prop):Prop :=
 ∃v K,call E T f args H.length H=some (v,H++K)∧R v (H++K)
theorem Sw.at {f:Nat} {args:List Value} {H:aD} {R:Value→aD→Prop} (h:Sw E T f args H R) {lo:Nat} (hl:lo≤H.length):∃v K,call E T f args lo H=some (v,H++K)∧R v (H++K):=by
 obtain⟨v,K,h1,h2⟩:=h
 exact⟨v,K,XQ hl h1,h2⟩
theorem Sw.mk {f:Nat} {args:List Value} {H H':aD} {v:Value} {R:Value→aD→Prop} (h:call E T f args H.length H=some (v,H')) (hr:R v H'):Sw E T f args H R:=by
 obtain⟨K,rfl⟩:=(XU h).more
 exact⟨v,K,h,hr⟩
end
end Go.PM
namespace Go.PM
def strCells:List Value→Option (List ByteArray)
 | []=>some []
 | .string s::r=>(strCells r).map (s :: ·)
 | _=>none
def sL:List Value→aD→Option Value
 | [.int .u64 n,.int .i64 b],_=>if b=10∧0≤n∧n<18446744073709551616 then some (.string ⟨(Lib.decDigits n.toNat).toArray⟩) else none
 | _,_=>none
def D0:List Value→aD→Option Value
 | [.string s,.int .i64 c],_=>if 0≤c∧c≤9223372036854775807∧s.size*c.toNat≤140737488355328 then some (.string ⟨(Lib.repeatL s.data.toList c.toNat).toArray⟩) else none
 | _,_=>none
def Bk:List Value→aD→Option Value
 | [.int .u32 x],_=>if 0≤x∧x≤4294967295 then some (.int .i64 (32-(Lib.bitLen x.toNat:Int))) else none
 | _,_=>none
def OG:List Value→aD→Option Value
 | [.slice none 0 0,.string _],_=>some (.string ⟨#[]⟩)
 |
  [.slice (some ⟨b,o,none⟩) n c,.string sep],H =>
  if n=0 then some (.string ⟨#[]⟩) else
  match (H.read b o n).bind strCells with
  | some xs=>if xs.length=n∧n≤c∧n≤140737488355328∧(Lib.join (xs.map (·.data.toList)) sep.data.toList).length≤140737488355328 then some (.string ⟨(Lib.join (xs.map (·.data.toList)) sep.data.toList).toArray⟩) else none
  | none=>none
 | _,_=>none
def Mu:List Value→aD→Option Value
 |
  [.string s,.string p],_=>match p.data.toList with
  | [c]=>some (.int .i64 (Lib.indexByte s.data.toList c))
  | _=>none
 | _,_=>none
def vV:List Value→aD→Option Value
 |
  [.string s,.int .i64 b,.int .i64 z],_=>if b=10∧z=64∧s.size≤9223372036854775806 then
   match Lib.parseUintB 64 s.data.toList with
   | .ok u=>some (.tuple #[.int .u64 (u:Int),.nilIface])
   | _=>none
  else none
 | _,_=>none
end Go.PM
namespace Go.PM
open Go.Proofs
def aoO:List Nat:=[]
 ++ [56]
 ++ [221]
 ++ [239]
 ++ [240]
def G5 (f:Nat):Option (List Value→aD→Option Value) :=
 if f=184 then some sL else
 if f=103 then some D0 else
 if f=186 then some OG else
 if f=219 then some Bk else
 if f=241 then some Mu else
 if f=217 then some vV else
 (fun _=>none) f
def cfg:yQ:={ yA:=G5,eff:=fun f=>aoO.contains f }
noncomputable def hJ:XY:=fun f=>if (G5 f).isSome then none else O9 Tryz.prog cfg f
theorem abZ (f:Nat) (pf:aV) (h:hJ f=some pf):O9 Tryz.prog cfg f=some pf:=by
 unfold hJ at h
 split at h
 ·cases h
 ·exact h
theorem QM {f:Nat} {pf:aV} (h:hJ f=some pf):cfg.yA f=none:=by
 unfold hJ at h
 split at h
 ·cases h
 ·rename_i h1
  show G5 f=none
  cases hp:G5 f with
  | none=>rfl
  | some p=>rw[hp] at h1;exact absurd rfl h1
end Go.PM
namespace Go.PM
noncomputable abbrev pC:fL:=call cfg hJ
def W (lo:Nat) (c:aE) (Q:Ex→Env→aD→Prop) (ρ:Env) (H:aD):Prop:=∃x aW H',code cfg hJ lo c ρ H=some (x,aW,H')∧Q x aW H'
def WS (lo:Nat) (is:List PI) (K:Env→aD→Prop) (ρ:Env) (H:aD):Prop:=∃aW H',fX pC lo is ρ H=some (aW,H')∧K aW H'
def apD (lo:Nat) (b:aE) (Q:Ex→Env→aD→Prop):Ex→Env→aD→Prop
 | .normal,ρ,H=>W lo b Q ρ H
 | x,ρ,H=>Q x ρ H
def ahB (id:Nat) (Q:Ex→Env→aD→Prop):Ex→Env→aD→Prop
 | .exit NR,ρ,H=>if NR=id then Q .normal ρ H else Q (.exit NR) ρ H
 | x,ρ,H=>Q x ρ H
def amZ (res:List yG) (R:Value→aD→Prop):Ex→Env→aD→Prop
 | .exit _,_,_=>False
 | _,ρ,H=>∃v,oM res ρ H=some v∧R v H
def ahF (J:Env→aD→Prop) (Q:Ex→Env→aD→Prop):Ex→Env→aD→Prop
 | .normal,ρ,H=>J ρ H
 | x,ρ,H=>Q x ρ H
section
variable {lo:Nat} {Q:Ex→Env→aD→Prop} {K:Env→aD→Prop} {ρ:Env} {H:aD} {b:aE} {id:Nat} {R:Value→aD→Prop} {res:List yG} {J:Env→aD→Prop}
theorem FN {i:Nat}:ahB id Q (.exit i) ρ H=if i=id then Q .normal ρ H else Q (.exit i) ρ H:=rfl
theorem abF:W lo .skip Q ρ H=Q .normal ρ H:=by
 unfold W
 rw[TG]
 exact propext ⟨fun⟨_,_,_,h,hq⟩=>(by cases h;exact hq),fun h=>⟨_,_,_,rfl,h⟩⟩
theorem adE {i:Nat}:W lo (.exit i) Q ρ H=Q (.exit i) ρ H:=by
 unfold W
 rw[TD]
 exact propext ⟨fun⟨_,_,_,h,hq⟩=>(by cases h;exact hq),fun h=>⟨_,_,_,rfl,h⟩⟩
theorem ahP:W lo .ret Q ρ H=Q .ret ρ H:=by
 unfold W
 rw[VM]
 exact propext ⟨fun⟨_,_,_,h,hq⟩=>(by cases h;exact hq),fun h=>⟨_,_,_,rfl,h⟩⟩
theorem afY {ops:List PI}:W lo (.dX ops) Q ρ H=WS lo ops (Q .normal) ρ H:=by
 unfold W WS
 rw[XI]
 apply propext
 constructor
 ·rintro⟨x,aW,H',h,hq⟩
  cases hs:fX (call cfg hJ) lo ops ρ H with
  | none=>rw[hs] at h;cases h
  |
   some q =>
   rw[hs] at h
   cases h
   exact⟨_,_,rfl,hq⟩
 ·rintro⟨aW,H',h,hq⟩
  exact⟨_,_,_,by rw[h];rfl,hq⟩
theorem ahK {a:aE}:W lo (.seq a b) Q ρ H=W lo a (apD lo b Q) ρ H:=by
 unfold W
 rw[Xm]
 apply propext
 constructor
 ·rintro⟨x,aW,H',h,hq⟩
  split at h
  ·rename_i uG H1 h1
   exact⟨_,_,_,h1,x,aW,H',h,hq⟩
  ·rename_i eW
   refine⟨x,aW,H',h,?_⟩
   cases x with
   | normal=>exact absurd h (eW _ _)
   | exit i=>exact hq
   | ret=>exact hq
 ·rintro⟨x,aW,H',h,hq⟩
  rw[h]
  cases x with
  | normal=>exact hq
  | exit i=>exact⟨_,_,_,rfl,hq⟩
  | ret=>exact⟨_,_,_,rfl,hq⟩
theorem Zm {a:aE}:W lo (.block id a) Q ρ H=W lo a (ahB id Q) ρ H:=by
 unfold W
 rw[Qo]
 apply propext
 constructor
 ·rintro⟨x,aW,H',h,hq⟩
  split at h
  ·rename_i NR uG H1 h1
   refine⟨_,_,_,h1,?_⟩
   rw[FN]
   split at h
   ·rename_i he;cases h;rw[if_pos he];exact hq
   ·rename_i he;cases h;rw[if_neg he];exact hq
  ·rename_i eW
   refine⟨x,aW,H',h,?_⟩
   cases x with
   | normal=>exact hq
   | exit i=>exact absurd h (eW _ _ _)
   | ret=>exact hq
 ·rintro⟨x,aW,H',h,hq⟩
  rw[h]
  cases x with
  | normal=>exact⟨_,_,_,rfl,hq⟩
  |
   exit i =>
   rw[FN] at hq
   show ∃x zH Y4,(if i=id then some (Ex.normal,aW,H') else some (Ex.exit i,aW,H'))=some (x,zH,Y4)∧Q x zH Y4
   split at hq
   ·rename_i he;rw[if_pos he];exact⟨_,_,_,rfl,hq⟩
   ·rename_i he;rw[if_neg he];exact⟨_,_,_,rfl,hq⟩
  | ret=>exact⟨_,_,_,rfl,hq⟩
theorem acY {x:Operand} {a:aE}:W lo (.cond x a b) Q ρ H=∃t,ev ρ x = .bool t∧((t=true→W lo a Q ρ H)∧(t=false→W lo b Q ρ H)):=by
 unfold W
 rw[T1]
 apply propext
 constructor
 ·rintro⟨y,aW,H',h,hq⟩
  split at h
  ·rename_i t ht
   cases t with
   | true=>exact⟨true,ht,fun _=>⟨y,aW,H',h,hq⟩,fun h=>by cases h⟩
   | false=>exact⟨false,ht,fun h=>(by cases h),fun _=>⟨y,aW,H',h,hq⟩⟩
  ·cases h
 ·rintro⟨t,ht,h1,h2⟩
  rw[ht]
  cases t with
  | true=>exact h1 rfl
  | false=>exact h2 rfl
theorem W.mono {Q':Ex→Env→aD→Prop} {c:aE} (h:W lo c Q ρ H) (hq:∀x ρ H,Q x ρ H→Q' x ρ H):W lo c Q' ρ H:=by
 obtain⟨x,aW,H',h1,h2⟩:=h
 exact⟨x,aW,H',h1,hq _ _ _ h2⟩
noncomputable def iV (lo:Nat) (q:Bool) (op:lT) (ρ:Env) (H:aD):Option (Value×aD) :=
 match pop lo op ρ H with
 | some (.val v H')=>some (v,H')
 | some (.call f args)=>pC f args (if q then H.length else lo) H
 | none=>none
theorem aaJ:WS lo [] K ρ H=K ρ H:=by
 unfold WS
 apply propext
 constructor
 ·rintro⟨aW,H',h,hk⟩;cases h;exact hk
 ·intro h;exact⟨ρ,H,rfl,h⟩
theorem aiW {i:PI} {is:List PI}:WS lo (i::is) K ρ H=∃v H',wQ pC lo i ρ H=some (v,H')∧WS lo is K (put ρ i.dst v) H':=by
 unfold WS
 apply propext
 constructor
 ·rintro⟨aW,H',h,hk⟩
  rw[fX] at h
  split at h
  ·rename_i uG H1 h1
   obtain⟨v,hv,rfl⟩:=vD h1
   exact⟨v,H1,hv,aW,H',h,hk⟩
  ·cases h
 ·rintro⟨v,H1,hv,aW,H',h,hk⟩
  refine⟨aW,H',?_,hk⟩
  rw[fX]
  unfold uR
  rw[hv]
  exact h
variable {q:Bool}
theorem cW {op:lT} (h:rX op=true):iV lo q op ρ H=(gS op ρ).map (·,H):=by
 unfold iV
 rw[wD h]
 cases gS op ρ<;>rfl
theorem Yk {x:Operand}:iV lo q (.mv x) ρ H=some (ev ρ x,H):=rfl
theorem TA {c a b:Operand}:iV lo q (.pick c a b) ρ H=(match ev ρ c with | .bool t=>some ((if t=true then ev ρ a else ev ρ b),H) | _=>none):=by
 rw[cW rfl]
 simp only[gS]
 cases ev ρ c<;>rfl
theorem Wh {op:BinOp} {x y:Operand}:iV lo q (.bin op x y) ρ H=(cX op (ev ρ x) (ev ρ y)).map (·,H):=cW rfl
theorem YF {op:UnOp} {x:Operand}:iV lo q (.un op x) ρ H=(VO op (ev ρ x)).map (·,H):=cW rfl
theorem Ue {f:Nat} {args:List Operand}:iV lo q (.call f args) ρ H=pC f (args.map (ev ρ)) (if q then H.length else lo) H:=rfl
end
theorem V3 {f lo:Nat} {pf:aV} {args:List Value} {H:aD} {R:Value→aD→Prop} (ht:hJ f=some pf) (ha:args.length≤pf.ntmps) (h:W lo pf.body (amZ pf.res R) (Ua args) H):∃v H',pC f args lo H=some (v,H')∧R v H':=by
 obtain⟨x,aW,H',h1,h2⟩:=h
 show ∃v H',call cfg hJ f args lo H=some (v,H')∧R v H'
 rw[Zo cfg hJ (QM ht) ht]
 unfold aaL
 rw[if_pos ha,h1]
 cases x with
 | exit i=>exact h2.elim
 |
  normal =>
  obtain⟨v,h3,h4⟩:=h2
  exact⟨v,H',by simp only;rw[h3];rfl,h4⟩
 |
  ret =>
  obtain⟨v,h3,h4⟩:=h2
  exact⟨v,H',by simp only;rw[h3];rfl,h4⟩
end Go.PM
namespace Go.PM
theorem wrap64 {x:Int} (h1 : -9223372036854775808≤x) (h2:x≤9223372036854775807):IntKind.i64.wrap x=x:=by
 rw[IntKind.wrap_i64]
 omega
section
variable {k:IntKind} {a b:Int}
theorem Po:cX .add (.int k a) (.int k b)=some (.int k (k.wrap (a+b))):=by simp[cX]
theorem O3:cX .sub (.int k a) (.int k b)=some (.int k (k.wrap (a-b))):=by simp[cX]
theorem Oo:cX .mul (.int k a) (.int k b)=some (.int k (k.wrap (a*b))):=by simp[cX]
theorem Py (h:b≠0):cX .rem (.int k a) (.int k b)=some (.int k (a.tmod b)):=by simp[cX,h]
theorem NG:cX .lss (.int k a) (.int k b)=some (.bool (decide (a<b))):=by simp[cX]
theorem Ob:cX .leq (.int k a) (.int k b)=some (.bool (decide (a≤b))):=by simp[cX]
theorem Oz:cX .gtr (.int k a) (.int k b)=some (.bool (decide (b<a))):=by simp[cX]
theorem OT:cX .geq (.int k a) (.int k b)=some (.bool (decide (b≤a))):=by simp[cX]
theorem Od:cX .eql (.int k a) (.int k b)=some (.bool (decide (a=b))):=by
 simp only[cX,if_true]
 rfl
theorem Pq:cX .neq (.int k a) (.int k b)=some (.bool (!decide (a=b))):=by
 simp only[cX,if_true]
 rfl
theorem RB:VO .neg (.int k a)=some (.int k (k.wrap (0-a))):=rfl
theorem Sh {t:Bool}:VO .not (.bool t)=some (.bool (!t)):=rfl
end
def ahA:Value→Option Value
 | .slice _ n _=>some (.int .i64 n)
 | _=>none
def MS (neg:Bool):Value→Value→Option Value
 | .bool a,.bool b=>some (.bool ((a == b) != neg))
 | _,_=>none
def WJ (neg:Bool):Value→Option Value
 | .slice none _ _=>some (.bool (true != neg))
 | .slice (some _) _ _=>some (.bool (false != neg))
 | _=>none
def Wo (neg:Bool) (ks:List CK):Value→Value→Option Value
 | .agg a,.agg b=>(nF ks a.toList b.toList).map fun t => .bool (t != neg)
 | _,_=>none
def Re (k:IntKind):Value→Option Value
 | .int _ n=>some (.int k (k.wrap n))
 | _=>none
def abH (i:Nat):Value→Option Value
 | .tuple vs=>vs[i]?
 | _=>none
def Zj (agg:Bool) (off size:Nat):Value→Option Value
 | .agg cs=>if agg then (if off+size≤cs.size then some (.agg (cs.extract off (off+size))) else none) else cs[off]?
 | _=>none
def agN:Value→Option Value
 | .pointer (some a)=>some (.pointer (some a))
 | _=>none
def U6 (off:Nat):Value→Option Value
 | .pointer (some ⟨b,o,none⟩)=>some (.pointer (some ⟨b,o+off,none⟩))
 | _=>none
def LW (size:Nat):Value→Value→Option Value
 | .slice (some ⟨b,o,none⟩) n _,.int _ i=>if 0≤i∧i<n then some (.pointer (some ⟨b,o+i.toNat*size,none⟩)) else none
 | _,_=>none
def PL:Value→Value→Option Value
 | .int k a,.int _ b=>some (.int k (if b<a then b else a))
 | _,_=>none
def PH:Value→Value→Option Value
 | .int k a,.int _ b=>some (.int k (if b>a then b else a))
 | _,_=>none
section
variable {lo:Nat} {ρ:Env} {H:aD} {q:Bool}
theorem nJ {op:lT} {r:Option (Value×aD)} (h:pop lo op ρ H=r.map fun(v,H') => .val v H'):iV lo q op ρ H=r:=by
 unfold iV
 rw[h]
 cases r<;>rfl
theorem XT {x:Operand}:iV lo q (.len x) ρ H=(ahA (ev ρ x)).map (·,H):=cW rfl
theorem Vh {neg:Bool} {x y:Operand}:iV lo q (.eqb neg x y) ρ H=(MS neg (ev ρ x) (ev ρ y)).map (·,H):=cW rfl
theorem QW {neg:Bool} {x:Operand}:iV lo q (.isnil neg x) ρ H=(WJ neg (ev ρ x)).map (·,H):=cW rfl
theorem Rf {neg:Bool} {ks:List CK} {x y:Operand}:iV lo q (.eqagg neg ks x y) ρ H=(Wo neg ks (ev ρ x) (ev ρ y)).map (·,H):=cW rfl
theorem Vy {k:IntKind} {x:Operand}:iV lo q (.cvt k x) ρ H=(Re k (ev ρ x)).map (·,H):=cW rfl
theorem WM {i:Nat} {x:Operand}:iV lo q (.ext x i) ρ H=(abH i (ev ρ x)).map (·,H):=cW rfl
theorem Xx {agg:Bool} {off size:Nat} {x:Operand}:iV lo q (.fld agg off size x) ρ H=(Zj agg off size (ev ρ x)).map (·,H):=cW rfl
theorem QL {z:List Value} {places:List (Nat×Nat)} {parts:List (Nat×Operand)}:iV lo q (.build z places parts) ρ H=((tH places z (parts.map fun(i,x)=>(i,ev ρ x))).map fun cs=>Value.agg cs.toArray).map (·,H):=cW rfl
theorem Vb {x:Operand}:iV lo q (.chk x) ρ H=(agN (ev ρ x)).map (·,H):=cW rfl
theorem Rq {off:Nat} {x:Operand}:iV lo q (.faddr off x) ρ H=(U6 off (ev ρ x)).map (·,H):=cW rfl
theorem Rc {size:Nat} {x i:Operand}:iV lo q (.iaddr size x i) ρ H=(LW size (ev ρ x) (ev ρ i)).map (·,H):=cW rfl
theorem TT {f:Nat} {fA:List Operand}:iV lo q (.mkfn f fA) ρ H=some (.func (.func f) #[] (fA.map (ev ρ)).toArray,H):=cW rfl
theorem XB {x y:Operand}:iV lo q (.min x y) ρ H=(PL (ev ρ x) (ev ρ y)).map (·,H):=cW rfl
theorem Ve {x y:Operand}:iV lo q (.max x y) ρ H=(PH (ev ρ x) (ev ρ y)).map (·,H):=cW rfl
theorem Tr {agg:Bool} {size:Nat} {p:Operand}:iV lo q (.load agg size p) ρ H=(mC agg size (ev ρ p) H).map (·,H):=by
 unfold iV
 simp only[pop]
 cases mC agg size (ev ρ p) H<;>rfl
theorem XX {size:Nat} {x:Operand} {l h m:Option Operand}:iV lo q (.sub size x l h m) ρ H=AQ size (ev ρ x) (l.map (ev ρ)) (h.map (ev ρ)) (m.map (ev ρ)) H:=by
 unfold iV
 simp only[pop]
 cases AQ size (ev ρ x) (l.map (ev ρ)) (h.map (ev ρ)) (m.map (ev ρ)) H<;>rfl
theorem Wu {z:List Value}:iV lo q (.new z) ρ H=some (.pointer (some ⟨H.length,0,none⟩),H++[.row z z.length false]):=rfl
theorem XH {x:Operand}:iV lo q (.box x) ρ H=if (aL (ev ρ x)).all fR then some (.pointer (some ⟨H.length,0,none⟩),H++[.row (aL (ev ρ x)) (aL (ev ρ x)).length false]) else none:=by
 apply nJ
 simp only[pop]
 by_cases h:(aL (ev ρ x)).all fR=true
 ·rw[if_pos h,if_pos h];rfl
 ·rw[if_neg h,if_neg h];rfl
def R1 (z:List Value) (bytes:Nat) (l c:Value) (H:aD):Option (Value×aD) :=
 match l,c with
 | .int .i64 l,.int .i64 c=>if 0≤l∧l≤c∧c*bytes≤281474976710656∧c≤9223372036854775807 then
  some (.slice (some ⟨H.length,0,none⟩) l.toNat c.toNat,H++[.row (cI c.toNat z) z.length false]) else none
 | _,_=>none
theorem Tg {z:List Value} {bytes:Nat} {l c:Operand}:iV lo q (.make z bytes l c) ρ H=R1 z bytes (ev ρ l) (ev ρ c) H:=by
 apply nJ
 simp only[pop]
 unfold R1
 split
 ·rename_i l c h1 h2
  simp only[h1,h2]
  split<;>rfl
 ·rename_i h1
  split
  ·rename_i h2 h3
   exact(h1 _ _ h2 h3).elim
  ·rfl
def YB (z:List Value) (n:Nat) (parts:List (Nat×Value)) (H:aD):Option (Value×aD) :=
 match tH ((List.range n).map fun i=>(i*z.length,z.length)) (cI n z) parts with
 | some cs=>if cs.all fR then some (.slice (some ⟨H.length,0,none⟩) n n,H++[.row cs z.length false]) else none
 | none=>none
theorem WC {z:List Value} {n:Nat} {parts:List (Nat×Operand)}:iV lo q (.lit z n parts) ρ H=YB z n (parts.map fun(i,x)=>(i,ev ρ x)) H:=by
 apply nJ
 simp only[pop]
 unfold YB
 split
 ·rename_i cs h1
  simp only[h1]
  split<;>rfl
 ·rename_i h1
  simp only[h1]
  rfl
def Db (lo size:Nat) (p v:Value) (H:aD):Option (Value×aD) :=
 match p with
 | .pointer (some ⟨b,o,none⟩)=>if (aL v).length=size then (H.write lo b o (aL v)).map fun H'=>(undef,H') else none
 | _=>none
theorem Qu {size:Nat} {p v:Operand}:iV lo q (.store size p v) ρ H=Db lo size (ev ρ p) (ev ρ v) H:=by
 apply nJ
 simp only[pop]
 unfold Db
 split
 ·rename_i b o h1
  simp only[h1]
  split
  ·cases H.write lo b o (aL (ev ρ v))<;>rfl
  ·rfl
 ·rename_i h1
  split
  ·rename_i h2
   exact(h1 _ _ h2).elim
  ·rfl
def adD (lo size bytes:Nat) (x y:Value) (H:aD):Option (Value×aD) :=
 match qD y with
 |
  some n=>match iG H size n y with
  | some new=>dK lo size bytes x n new H
  | none=>none
 | none=>none
theorem X0 {size bytes:Nat} {x y:Operand}:iV lo q (.app size bytes x y) ρ H=adD lo size bytes (ev ρ x) (ev ρ y) H:=by
 apply nJ
 simp only[pop]
 unfold adD
 cases qD (ev ρ y) with
 | none=>rfl
 |
  some n =>
  cases hs:iG H size n (ev ρ y) with
  | none=>simp only[hs];rfl
  | some new=>simp only[hs]
def Xq (lo:Nat) (z:List Value) (bytes:Nat) (x n:Value) (H:aD):Option (Value×aD) :=
 match n with
 | .int .i64 n=>if 0≤n∧n*bytes≤140737488355328 then dK lo z.length bytes x n.toNat (cI n.toNat z) H else none
 | _=>none
theorem Ul {z:List Value} {bytes:Nat} {x n:Operand}:iV lo q (.appz z bytes x n) ρ H=Xq lo z bytes (ev ρ x) (ev ρ n) H:=by
 apply nJ
 simp only[pop]
 unfold Xq
 split
 ·rename_i n h1
  simp only[h1]
  split<;>rfl
 ·rename_i h1
  split
  ·rename_i h2
   exact(h1 _ h2).elim
  ·rfl
def copyV (lo size:Nat) (x y:Value) (H:aD):Option (Value×aD) :=
 match x,qD y with
 | .slice none _ _,some _=>some (.int .i64 0,H)
 |
  .slice (some ⟨b,o,none⟩) d _,some s=>match iG H size (Nat.min s d) y with
  | some new=>(H.write lo b o new).map fun H'=>(.int .i64 (Nat.min s d),H')
  | none=>none
 | _,_=>none
theorem Ty {size:Nat} {x y:Operand}:iV lo q (.copy size x y) ρ H=copyV lo size (ev ρ x) (ev ρ y) H:=by
 apply nJ
 simp only[pop]
 unfold copyV
 split
 ·rename_i h1 h2
  simp only[h1,h2]
  rfl
 ·rename_i b o d _ s h1 h2
  simp only[h1,h2]
  cases hs:iG H size (Nat.min s d) (ev ρ y) with
  | none=>rfl
  |
   some new =>
   simp only
   cases H.write lo b o new<;>rfl
 ·rename_i h1 h2
  split
  ·rename_i h3 h4
   exact(h1 _ _ _ h3 h4).elim
  ·rename_i h3 h4
   exact(h2 _ _ _ _ _ h3 h4).elim
  ·rfl
def MV (lo:Nat) (z:List Value) (x:Value) (H:aD):Option (Value×aD) :=
 match x with
 | .slice none _ _=>some (undef,H)
 | .slice (some ⟨b,o,none⟩) n _=>if n=0 then some (undef,H) else (H.write lo b o (cI n z)).map fun H'=>(undef,H')
 | _=>none
theorem Ra {z:List Value} {x:Operand}:iV lo q (.clear z x) ρ H=MV lo z (ev ρ x) H:=by
 apply nJ
 simp only[pop]
 unfold MV
 split
 ·rename_i h1
  simp only[h1]
  rfl
 ·rename_i b o n _ h1
  simp only[h1]
  split
  ·rfl
  ·cases H.write lo b o (cI n z)<;>rfl
 ·rename_i h1 h2
  split
  ·rename_i h3
   exact(h1 _ _ h3).elim
  ·rename_i h3
   exact(h2 _ _ _ _ h3).elim
  ·rfl
noncomputable def Xj (lo:Nat) (fv:Value) (args:List Value) (H:aD):Option (Value×aD) :=
 match fv with
 | .func (.func f) first fA=>pC f (first.toList++args++fA.toList) lo H
 | _=>none
theorem Rj {fv:Operand} {args:List Operand}:iV lo q (.callv fv args) ρ H=Xj (if q then H.length else lo) (ev ρ fv) (args.map (ev ρ)) H:=by
 unfold iV
 simp only[pop]
 unfold Xj
 generalize ev ρ fv=v
 cases v with
 | func fn f c=>cases fn<;>rfl
 | _=>rfl
end
end Go.PM
namespace Go.PM
section
variable {lo:Nat} {Q:Ex→Env→aD→Prop} {K:Env→aD→Prop} {ρ:Env} {H:aD} {q:Bool}
def ahE (u v:Value):Bool:=match iE u,iE v with
 | some a,some b=>a != b
 | _,_=>true
end
theorem R2 {k:IntKind} {a b:Int}:PH (.int k a) (.int k b)=some (.int k (max a b)):=by
 simp only[PH]
 congr 2
 split<;>omega
theorem SB {k:IntKind} {a b:Int}:PL (.int k a) (.int k b)=some (.int k (min a b)):=by
 simp only[PL]
 congr 2
 split<;>omega
end Go.PM
namespace Go.PM
abbrev ptr (b o:Nat):Value := .pointer (some ⟨b,o,none⟩)
abbrev I (n:Int):Value := .int .i64 n
section
variable {H H':aD} {lo b o n size:Nat} {cs r:List Value} {L K:aD} {v:Value}
theorem ME (hb:b<H.length):(H++L)[b]? = H[b]? := List.getElem?_append_left hb
theorem RJ {x:J8}:(H++x::L)[H.length]? = some x:=by simp
theorem Wc (hb:b<H.length):(H++L).read b o n=H.read b o n:=Dq (ME hb)
theorem yM {e:Nat} {p:Bool} (h:H[b]? = some (.row r e p)) (hn:o+n≤r.length):H.read b o n=some ((r.drop o).take n):=by
 unfold aD.read
 rw[h]
 simp only[hn,if_true]
structure Br (H:aD) (b o:Nat) (cs:List Value):Prop where
 lt:b<H.length
 rd:H.read b o cs.length=some cs
theorem Br.app (h:Br H b o cs):Br (H++L) b o cs:=⟨by have:=h.lt;simp;omega,by rw[Wc h.lt];exact h.rd⟩
theorem Br.pre (h:Br H b o cs) (hp:H <+: H'):Br H' b o cs:=by
 obtain⟨L,rfl⟩:=hp
 exact h.app
theorem Br.all (h:Br H b o cs) (hs:cs.length=size):mC true size (.pointer (some ⟨b,o,none⟩)) H=some (.agg cs.toArray):=by
 subst hs
 simp only[mC,if_true,h.rd]
 rfl
theorem Br.one {u:Value} (h:Br H b o [u]):mC false size (.pointer (some ⟨b,o,none⟩)) H=some u:=by
 have:=h.rd
 simp only[List.length_cons,List.length_nil] at this
 simp only[mC,this]
 rfl
theorem Br.sub {k:Nat} {u:Value} (h:Br H b o cs) (hk:cs[k]? = some u):Br H b (o+k) [u]:=by
 refine⟨h.lt,?_⟩
 have h1:=h.rd
 unfold aD.read at h1 ⊢
 split at h1
 ·rename_i r e p hb
  split at h1
  ·rename_i hl
   have ZI:=(List.getElem?_eq_some_iff.1 hk).1
   simp only[List.length_cons,List.length_nil]
   rw[if_pos (by simp;omega)]
   injection h1 with h1
   rw[←h1] at hk
   rw[List.getElem?_take,if_pos (by omega),List.getElem?_drop] at hk
   have aX:=(List.getElem?_eq_some_iff.1 hk).1
   rw[List.drop_eq_getElem_cons aX]
   simp only[List.take_succ_cons,List.take_zero]
   rw[List.getElem?_eq_getElem aX] at hk
   injection hk with hk
   rw[hk]
  ·cases h1
 ·cases h1
theorem Br.fld {k:Nat} {u:Value} (h:Br H b o cs) (hk:cs[k]? = some u):mC false size (.pointer (some ⟨b,o+k,none⟩)) H=some u:=(h.sub hk).one
theorem ND {a:Nat} {c:Nat} {i:Int} {k:IntKind} (h0:0≤i) (h1:i<n):LW size (.slice (some ⟨b,a,none⟩) n c) (.int k i)=some (.pointer (some ⟨b,a+i.toNat*size,none⟩)):=by
 simp only[LW]
 rw[if_pos ⟨h0,h1⟩]
structure Arr {α:Type} (enc:α→List Value) (eR:Nat) (H:aD) (a:Option Addr) (n:Nat) (xs:List α):Prop where
 len:n=xs.length
 el:∀(i:Nat) x,xs[i]? = some x→∃b o,a=some ⟨b,o,none⟩∧Br H b (o+i*eR) (enc x)
theorem Arr.pre {α:Type} {enc:α→List Value} {eR:Nat} {a:Option Addr} {xs:List α} (h:Arr enc eR H a n xs) (hp:H <+: H'):Arr enc eR H' a n xs :=
 ⟨h.len,fun i x hx=>by obtain⟨b,o,h1,h2⟩:=h.el i x hx;exact⟨b,o,h1,h2.pre hp⟩⟩
end
structure eT where
 t:Int
 w:Int
 k:Int
 deriving DecidableEq
def cc (c:eT):List Value:=[I c.t,I c.w,I c.k]
def ci (n:Int):List Value:=[I n]
end Go.PM
namespace Go.PM
structure GM {α:Type} (enc:α→List Value) (eR:Nat):Prop where
 len:∀x,(enc x).length=eR
 sc:∀x,(enc x).all fR=true
 pos:1≤eR
section
variable {α:Type} {enc:α→List Value} {eR:Nat} {H H':aD} {lo b:Nat} {xs ys:List α} {p:Bool}
theorem HY (e:GM enc eR):(xs.flatMap enc).length=xs.length*eR:=by
 induction xs with
 | nil=>simp
 | cons x xs ih=>simp only[List.flatMap_cons,List.length_append,e.len,ih,List.length_cons,Nat.succ_mul];omega
theorem Fy (e:GM enc eR) (i:Nat):(xs.flatMap enc).drop (i*eR)=(xs.drop i).flatMap enc:=by
 induction i generalizing xs with
 | zero=>simp
 |
  succ i ih =>
  cases xs with
  | nil=>simp
  |
   cons x xs =>
   rw[List.flatMap_cons,List.drop_succ_cons,←ih,show (i+1)*eR=(enc x).length+i*eR by rw[e.len,Nat.succ_mul];omega,List.drop_append]
   simp
theorem Kg (e:GM enc eR) (i:Nat):(xs.flatMap enc).take (i*eR)=(xs.take i).flatMap enc:=by
 induction i generalizing xs with
 | zero=>simp
 |
  succ i ih =>
  cases xs with
  | nil=>simp
  |
   cons x xs =>
   rw[List.flatMap_cons,List.take_succ_cons,List.flatMap_cons,←ih,show (i+1)*eR=(enc x).length+i*eR by rw[e.len,Nat.succ_mul];omega,List.take_append]
   simp
   exact List.take_of_length_le (by omega)
theorem NC (e:GM enc eR) {i:Nat} (x:α) (hi:i<xs.length):gX (xs.flatMap enc) (i*eR) (enc x)=(xs.set i x).flatMap enc:=by
 unfold gX
 rw[Kg e,e.len,show i*eR+eR=(i+1)*eR by rw[Nat.succ_mul],Fy e,List.set_eq_take_append_cons_drop,if_pos hi]
 simp
def Row (enc:α→List Value) (eR:Nat) (H:aD) (b:Nat) (p:Bool) (xs:List α):Prop:=H[b]? = some (.row (xs.flatMap enc) eR p)
theorem Row.lt (h:Row enc eR H b p xs):b<H.length:=(List.getElem?_eq_some_iff.1 h).1
theorem Row.pre (h:Row enc eR H b p xs) (hp:H <+: H'):Row enc eR H' b p xs:=by
 obtain⟨L,rfl⟩:=hp
 unfold Row
 rw[ME h.lt]
 exact h
theorem Row.elem (h:Row enc eR H b p xs) (e:GM enc eR) {i:Nat} {x:α} (hx:xs[i]? = some x):Br H b (i*eR) (enc x):=by
 refine⟨h.lt,?_⟩
 have hi:=(List.getElem?_eq_some_iff.1 hx).1
 have hm:(i+1)*eR≤xs.length*eR:=Nat.mul_le_mul_right _ hi
 rw[Nat.succ_mul] at hm
 rw[yM h (by rw[e.len,HY e];omega),Fy e,e.len]
 have:=Kg (xs:=xs.drop i) e 1
 rw[Nat.one_mul] at this
 rw[this,List.drop_eq_getElem_cons hi]
 rw[List.getElem?_eq_getElem hi] at hx
 injection hx with hx
 simp[hx]
theorem Row.arr (h:Row enc eR H b p xs) (e:GM enc eR) {n:Nat} (hn:n≤xs.length):Arr enc eR H (some ⟨b,0,none⟩) n (xs.take n):=by
 refine⟨by simp;omega,fun i x hx=>⟨b,0,rfl,?_⟩⟩
 rw[Nat.zero_add]
 refine h.elem e ?_
 rw[List.getElem?_take] at hx
 split at hx
 ·exact hx
 ·cases hx
theorem Row.store (h:Row enc eR H b p xs) (e:GM enc eR) {i:Nat} {x:α} {u:Value} (hu:aL u=enc x) (hi:i<xs.length) (hl:lo≤b):Db lo eR (.pointer (some ⟨b,i*eR,none⟩)) u H=some (undef,H.set b (.row ((xs.set i x).flatMap enc) eR p)):=by
 simp only[Db,aD.write,hu,e.len,if_true]
 have h':H[b]? = some (.row (xs.flatMap enc) eR p):=h
 have hm:(i+1)*eR≤xs.length*eR:=Nat.mul_le_mul_right _ hi
 rw[Nat.succ_mul] at hm
 simp only[h']
 rw[if_pos ⟨hl,by rw[HY e];omega,e.sc x⟩,NC e x hi]
 rfl
theorem Row.set (h:Row enc eR H b p xs) (ys:List α):Row enc eR (H.set b (.row (ys.flatMap enc) eR p)) b p ys:=by
 unfold Row
 rw[List.getElem?_set_self h.lt]
theorem NU (e:GM enc eR) {n:Nat} {x:α}:cI n (enc x)=(List.replicate n x).flatMap enc:=by
 have jO:=e.pos
 have hlen:=e.len x
 apply List.ext_getElem?
 intro i
 unfold cI
 rw[List.getElem?_map,hlen]
 rcases Nat.lt_or_ge i (n*eR) with hi | hi
 ·rw[List.getElem?_range hi]
  have hq:i / eR<n:=Nat.div_lt_of_lt_mul (by rw[Nat.mul_comm];exact hi)
  have h1:((List.replicate n x).flatMap enc)[i]? = (((List.replicate n x).flatMap enc).drop (i / eR*eR))[i % eR]? := by
   rw[List.getElem?_drop]
   congr 1
   rw[Nat.mul_comm]
   exact(Nat.div_add_mod i eR).symm
  have hr:i % eR<(enc x).length:=by rw[hlen];exact Nat.mod_lt _ (by omega)
  rw[h1,Fy e,List.drop_replicate,show n-i / eR=(n-i / eR-1)+1 by omega,List.replicate_succ,List.flatMap_cons,List.getElem?_append_left hr]
  simp[List.getD_eq_getElem?_getD,List.getElem?_eq_getElem hr]
 ·rw[List.getElem?_eq_none (by simpa using hi),List.getElem?_eq_none (by rw[HY e];simpa using hi)]
  rfl
theorem Row.top {K:aD}:Row enc eR (H ++ .row (xs.flatMap enc) eR p::K) H.length p xs:=RJ
end
end Go.PM
namespace Go.PM
section
variable {H L:aD} {lo k o size:Nat} {agg:Bool} {u:Value}
end
end Go.PM
namespace Go.Proofs
open Go.Shelf
def Ik:Go.Shelf.Ren:=⟨fun | 156=>186 | 165=>189 | 166=>190 | 169=>192 | 240=>230 | 241=>231 | 276=>249 | 277=>250 | n=>n,fun | 31=>22 | 9=>9 | 3=>3 | 4=>4 | 0=>0 | 20=>20 | 72=>230 | 76=>234 | 70=>228 | 37=>36 | 75=>233 | 127=>266 | 164=>281 | 5=>5 | 80=>129 | n=>n,fun | n=>n⟩
theorem QZ:Go.Proofs.Lays.n156 Tryz.prog Ik:={
 mixed:=by kernel_rfl
 f156:=Tryz.func186.trans (congrArg some (by kernel_rfl))
 f165:=Tryz.func189.trans (congrArg some (by kernel_rfl))
 f166:=Tryz.func190.trans (congrArg some (by kernel_rfl))
 f169:=Tryz.func192.trans (congrArg some (by kernel_rfl))
 f240:=Tryz.func230.trans (congrArg some (by kernel_rfl))
 f241:=Tryz.func231.trans (congrArg some (by kernel_rfl))
 f276:=Tryz.func249.trans (congrArg some (by kernel_rfl))
 f277:=Tryz.func250.trans (congrArg some (by kernel_rfl))
 t0:=Tryz.underlying0
 a0:=Tryz.isAgg0
 z0:=Tryz.sizeOf0
 v0:=Tryz.zeroValue0
 t3:=Tryz.underlying3
 a3:=Tryz.isAgg3
 z3:=Tryz.sizeOf3
 v3:=Tryz.zeroValue3
 t4:=Tryz.underlying4
 a4:=Tryz.isAgg4
 z4:=Tryz.sizeOf4
 v4:=Tryz.zeroValue4
 t9:=Tryz.underlying9
 a9:=Tryz.isAgg9
 z9:=Tryz.sizeOf9
 v9:=Tryz.zeroValue9
 t20:=Tryz.underlying20
 a20:=Tryz.isAgg20
 z20:=Tryz.sizeOf20
 v20:=Tryz.zeroValue20
 t31:=Tryz.underlying22
 a31:=Tryz.isAgg22
 z31:=Tryz.sizeOf22
 v31:=Tryz.zeroValue22
 t37:=Tryz.underlying36
 a37:=Tryz.isAgg36
 z37:=Tryz.sizeOf36
 v37:=Tryz.zeroValue36
 t70:=Tryz.underlying228
 a70:=Tryz.isAgg228
 z70:=Tryz.sizeOf228
 v70:=Tryz.zeroValue228
 t72:=Tryz.underlying230
 a72:=Tryz.isAgg230
 z72:=Tryz.sizeOf230
 v72:=Tryz.zeroValue230
 t75:=Tryz.underlying233
 a75:=Tryz.isAgg233
 z75:=Tryz.sizeOf233
 v75:=Tryz.zeroValue233
 t76:=Tryz.underlying234
 a76:=Tryz.isAgg234
 z76:=Tryz.sizeOf234
 v76:=Tryz.zeroValue234
 t127:=Tryz.underlying266
 a127:=Tryz.isAgg266
 z127:=Tryz.sizeOf266
 v127:=Tryz.zeroValue266
 t164:=Tryz.underlying281
 a164:=Tryz.isAgg281
 z164:=Tryz.sizeOf281
 v164:=Tryz.zeroValue281 }
theorem L5:Builder.Extra Tryz.prog Ik:={
 sizeBuilder:=by kernel_rfl
 liesBuilder:=by kernel_rfl
 t5:=Tryz.underlying5
 a5:=Tryz.isAgg5
 z5:=Tryz.sizeOf5
 v5:=Tryz.zeroValue5
 infoByte:=by kernel_rfl
 cellsByte:=by kernel_rfl
 sizeByte:=by kernel_rfl
 neB5:=by decide }
def QO:Go.Shelf.Ren:=⟨fun | 133=>219 | 128=>244 | n=>n,fun | 51=>218 | 3=>3 | 4=>4 | 46=>219 | 5=>5 | 9=>9 | n=>n,fun | n=>n⟩
theorem adL:Go.Proofs.Lays.n133 Tryz.prog QO:={
 mixed:=by kernel_rfl
 f128:=Tryz.func244.trans (congrArg some (by kernel_rfl))
 f133:=Tryz.func219.trans (congrArg some (by kernel_rfl))
 t3:=Tryz.underlying3
 a3:=Tryz.isAgg3
 z3:=Tryz.sizeOf3
 v3:=Tryz.zeroValue3
 t4:=Tryz.underlying4
 a4:=Tryz.isAgg4
 z4:=Tryz.sizeOf4
 v4:=Tryz.zeroValue4
 t5:=Tryz.underlying5
 a5:=Tryz.isAgg5
 z5:=Tryz.sizeOf5
 v5:=Tryz.zeroValue5
 t9:=Tryz.underlying9
 a9:=Tryz.isAgg9
 z9:=Tryz.sizeOf9
 v9:=Tryz.zeroValue9
 t46:=Tryz.underlying219
 a46:=Tryz.isAgg219
 z46:=Tryz.sizeOf219
 v46:=Tryz.zeroValue219
 t51:=Tryz.underlying218
 a51:=Tryz.isAgg218
 z51:=Tryz.sizeOf218
 v51:=Tryz.zeroValue218 }
def Rk:Go.Shelf.Ren:=⟨fun | 283=>245 | n=>n,fun | 3=>3 | 9=>9 | 4=>4 | n=>n,fun | n=>n⟩
theorem abL:Go.Proofs.Lays.n283 Tryz.prog Rk:={
 mixed:=by kernel_rfl
 f283:=Tryz.func245.trans (congrArg some (by kernel_rfl))
 t3:=Tryz.underlying3
 a3:=Tryz.isAgg3
 z3:=Tryz.sizeOf3
 v3:=Tryz.zeroValue3
 t4:=Tryz.underlying4
 a4:=Tryz.isAgg4
 z4:=Tryz.sizeOf4
 v4:=Tryz.zeroValue4
 t9:=Tryz.underlying9
 a9:=Tryz.isAgg9
 z9:=Tryz.sizeOf9
 v9:=Tryz.zeroValue9 }
def P9:Go.Shelf.Ren:=⟨fun | 284=>246 | 129=>262 | 317=>261 | 318=>263 | n=>n,fun | 53=>128 | 3=>3 | 212=>291 | 0=>0 | 4=>4 | 46=>219 | 5=>5 | 9=>9 | n=>n,fun | 17=>1 | n=>n⟩
theorem adY:Go.Proofs.LaysM.n284 Tryz.prog P9:={
 mixed:=by kernel_rfl
 f129:=Tryz.func262.trans (congrArg some (by kernel_rfl))
 f284:=Tryz.func246.trans (congrArg some (by kernel_rfl))
 f317:=Tryz.func261.trans (congrArg some (by kernel_rfl))
 f318:=Tryz.func263.trans (congrArg some (by kernel_rfl))
 t0:=Tryz.underlying0
 a0:=Tryz.isAgg0
 z0:=Tryz.sizeOf0
 v0:=Tryz.zeroValue0
 t3:=Tryz.underlying3
 a3:=Tryz.isAgg3
 z3:=Tryz.sizeOf3
 v3:=Tryz.zeroValue3
 t4:=Tryz.underlying4
 a4:=Tryz.isAgg4
 z4:=Tryz.sizeOf4
 v4:=Tryz.zeroValue4
 t5:=Tryz.underlying5
 a5:=Tryz.isAgg5
 z5:=Tryz.sizeOf5
 v5:=Tryz.zeroValue5
 t9:=Tryz.underlying9
 a9:=Tryz.isAgg9
 z9:=Tryz.sizeOf9
 v9:=Tryz.zeroValue9
 t46:=Tryz.underlying219
 a46:=Tryz.isAgg219
 z46:=Tryz.sizeOf219
 v46:=Tryz.zeroValue219
 t53:=Tryz.underlying128
 a53:=Tryz.isAgg128
 z53:=Tryz.sizeOf128
 v53:=Tryz.zeroValue128
 t212:=Tryz.underlying291
 a212:=Tryz.isAgg291
 z212:=Tryz.sizeOf291
 v212:=Tryz.zeroValue291
 g17:=by kernel_rfl
 i0:=by kernel_rfl
 i3:=by kernel_rfl
 i4:=by kernel_rfl
 i5:=by kernel_rfl
 i9:=by kernel_rfl
 i46:=by kernel_rfl
 i53:=by kernel_rfl
 i212:=by kernel_rfl
 m17:=by kernel_rfl }
def Qf:Go.Shelf.Ren:=⟨fun | 285=>247 | n=>n,fun | 37=>36 | 53=>128 | 3=>3 | 4=>4 | 51=>218 | 9=>9 | 5=>5 | 0=>0 | n=>n,fun | n=>n⟩
theorem abM:Go.Proofs.Lays.n285 Tryz.prog Qf:={
 mixed:=by kernel_rfl
 f285:=Tryz.func247.trans (congrArg some (by kernel_rfl))
 t0:=Tryz.underlying0
 a0:=Tryz.isAgg0
 z0:=Tryz.sizeOf0
 v0:=Tryz.zeroValue0
 t3:=Tryz.underlying3
 a3:=Tryz.isAgg3
 z3:=Tryz.sizeOf3
 v3:=Tryz.zeroValue3
 t4:=Tryz.underlying4
 a4:=Tryz.isAgg4
 z4:=Tryz.sizeOf4
 v4:=Tryz.zeroValue4
 t5:=Tryz.underlying5
 a5:=Tryz.isAgg5
 z5:=Tryz.sizeOf5
 v5:=Tryz.zeroValue5
 t9:=Tryz.underlying9
 a9:=Tryz.isAgg9
 z9:=Tryz.sizeOf9
 v9:=Tryz.zeroValue9
 t37:=Tryz.underlying36
 a37:=Tryz.isAgg36
 z37:=Tryz.sizeOf36
 v37:=Tryz.zeroValue36
 t51:=Tryz.underlying218
 a51:=Tryz.isAgg218
 z51:=Tryz.sizeOf218
 v51:=Tryz.zeroValue218
 t53:=Tryz.underlying128
 a53:=Tryz.isAgg128
 z53:=Tryz.sizeOf128
 v53:=Tryz.zeroValue128 }
def Nn:Go.Shelf.Ren:=⟨fun | 14=>217 | 16=>242 | 17=>243 | 19=>255 | 20=>256 | 21=>257 | 22=>258 | 23=>259 | 24=>260 | 25=>268 | 27=>270 | 26=>269 | 28=>273 | 29=>274 | 30=>245 | 31=>246 | 32=>247 | 33=>248 | 35=>262 | 34=>261 | 36=>263 | 37=>264 | 38=>265 | 39=>271 | 40=>272 | n=>n,fun | 9=>9 | 3=>3 | 22=>128 | 24=>233 | 25=>252 | 4=>4 | 34=>285 | 5=>5 | 36=>219 | 37=>36 | 0=>0 | 39=>287 | 21=>21 | 44=>298 | 47=>266 | 50=>302 | 48=>300 | 2=>2 | 52=>276 | 55=>279 | 59=>291 | 60=>218 | 20=>20 | 61=>292 | 65=>303 | 66=>304 | 67=>129 | n=>n,fun | 0=>2 | 1=>3 | 2=>1 | 3=>4 | 4=>5 | n=>n⟩
theorem Zc:Go.Proofs.LaysPu.n14 Tryz.prog Nn:={
 mixed:=by kernel_rfl
 f14:=Tryz.func217.trans (congrArg some (by kernel_rfl))
 f16:=Tryz.func242.trans (congrArg some (by kernel_rfl))
 f17:=Tryz.func243.trans (congrArg some (by kernel_rfl))
 f19:=Tryz.func255.trans (congrArg some (by kernel_rfl))
 f20:=Tryz.func256.trans (congrArg some (by kernel_rfl))
 f21:=Tryz.func257.trans (congrArg some (by kernel_rfl))
 f22:=Tryz.func258.trans (congrArg some (by kernel_rfl))
 f23:=Tryz.func259.trans (congrArg some (by kernel_rfl))
 f24:=Tryz.func260.trans (congrArg some (by kernel_rfl))
 f25:=Tryz.func268.trans (congrArg some (by kernel_rfl))
 f26:=Tryz.func269.trans (congrArg some (by kernel_rfl))
 f27:=Tryz.func270.trans (congrArg some (by kernel_rfl))
 f28:=Tryz.func273.trans (congrArg some (by kernel_rfl))
 f29:=Tryz.func274.trans (congrArg some (by kernel_rfl))
 f30:=Tryz.func245.trans (congrArg some (by kernel_rfl))
 f31:=Tryz.func246.trans (congrArg some (by kernel_rfl))
 f32:=Tryz.func247.trans (congrArg some (by kernel_rfl))
 f33:=Tryz.func248.trans (congrArg some (by kernel_rfl))
 f34:=Tryz.func261.trans (congrArg some (by kernel_rfl))
 f35:=Tryz.func262.trans (congrArg some (by kernel_rfl))
 f36:=Tryz.func263.trans (congrArg some (by kernel_rfl))
 f37:=Tryz.func264.trans (congrArg some (by kernel_rfl))
 f38:=Tryz.func265.trans (congrArg some (by kernel_rfl))
 f39:=Tryz.func271.trans (congrArg some (by kernel_rfl))
 f40:=Tryz.func272.trans (congrArg some (by kernel_rfl))
 t0:=Tryz.underlying0
 a0:=Tryz.isAgg0
 z0:=Tryz.sizeOf0
 v0:=Tryz.zeroValue0
 i0:=by kernel_rfl
 t2:=Tryz.underlying2
 a2:=Tryz.isAgg2
 z2:=Tryz.sizeOf2
 v2:=Tryz.zeroValue2
 i2:=by kernel_rfl
 t3:=Tryz.underlying3
 a3:=Tryz.isAgg3
 z3:=Tryz.sizeOf3
 v3:=Tryz.zeroValue3
 i3:=by kernel_rfl
 t4:=Tryz.underlying4
 a4:=Tryz.isAgg4
 z4:=Tryz.sizeOf4
 v4:=Tryz.zeroValue4
 i4:=by kernel_rfl
 t5:=Tryz.underlying5
 a5:=Tryz.isAgg5
 z5:=Tryz.sizeOf5
 v5:=Tryz.zeroValue5
 i5:=by kernel_rfl
 t9:=Tryz.underlying9
 a9:=Tryz.isAgg9
 z9:=Tryz.sizeOf9
 v9:=Tryz.zeroValue9
 i9:=by kernel_rfl
 t20:=Tryz.underlying20
 a20:=Tryz.isAgg20
 z20:=Tryz.sizeOf20
 v20:=Tryz.zeroValue20
 i20:=by kernel_rfl
 t21:=Tryz.underlying21
 a21:=Tryz.isAgg21
 z21:=Tryz.sizeOf21
 v21:=Tryz.zeroValue21
 i21:=by kernel_rfl
 t22:=Tryz.underlying128
 a22:=Tryz.isAgg128
 z22:=Tryz.sizeOf128
 v22:=Tryz.zeroValue128
 i22:=by kernel_rfl
 t24:=Tryz.underlying233
 a24:=Tryz.isAgg233
 z24:=Tryz.sizeOf233
 v24:=Tryz.zeroValue233
 i24:=by kernel_rfl
 t25:=Tryz.underlying252
 a25:=Tryz.isAgg252
 z25:=Tryz.sizeOf252
 v25:=Tryz.zeroValue252
 i25:=by kernel_rfl
 t34:=Tryz.underlying285
 a34:=Tryz.isAgg285
 z34:=Tryz.sizeOf285
 v34:=Tryz.zeroValue285
 i34:=by kernel_rfl
 c34:=by kernel_rfl
 t36:=Tryz.underlying219
 a36:=Tryz.isAgg219
 z36:=Tryz.sizeOf219
 v36:=Tryz.zeroValue219
 i36:=by kernel_rfl
 t37:=Tryz.underlying36
 a37:=Tryz.isAgg36
 z37:=Tryz.sizeOf36
 v37:=Tryz.zeroValue36
 i37:=by kernel_rfl
 t39:=Tryz.underlying287
 a39:=Tryz.isAgg287
 z39:=Tryz.sizeOf287
 v39:=Tryz.zeroValue287
 i39:=by kernel_rfl
 t44:=Tryz.underlying298
 a44:=Tryz.isAgg298
 z44:=Tryz.sizeOf298
 v44:=Tryz.zeroValue298
 i44:=by kernel_rfl
 t47:=Tryz.underlying266
 a47:=Tryz.isAgg266
 z47:=Tryz.sizeOf266
 v47:=Tryz.zeroValue266
 i47:=by kernel_rfl
 t48:=Tryz.underlying300
 a48:=Tryz.isAgg300
 z48:=Tryz.sizeOf300
 v48:=Tryz.zeroValue300
 i48:=by kernel_rfl
 t50:=Tryz.underlying302
 a50:=Tryz.isAgg302
 z50:=Tryz.sizeOf302
 v50:=Tryz.zeroValue302
 i50:=by kernel_rfl
 t52:=Tryz.underlying276
 a52:=Tryz.isAgg276
 z52:=Tryz.sizeOf276
 v52:=Tryz.zeroValue276
 i52:=by kernel_rfl
 t55:=Tryz.underlying279
 a55:=Tryz.isAgg279
 z55:=Tryz.sizeOf279
 v55:=Tryz.zeroValue279
 i55:=by kernel_rfl
 t59:=Tryz.underlying291
 a59:=Tryz.isAgg291
 z59:=Tryz.sizeOf291
 v59:=Tryz.zeroValue291
 i59:=by kernel_rfl
 t60:=Tryz.underlying218
 a60:=Tryz.isAgg218
 z60:=Tryz.sizeOf218
 v60:=Tryz.zeroValue218
 i60:=by kernel_rfl
 t61:=Tryz.underlying292
 a61:=Tryz.isAgg292
 z61:=Tryz.sizeOf292
 t65:=Tryz.underlying303
 a65:=Tryz.isAgg303
 z65:=Tryz.sizeOf303
 v65:=Tryz.zeroValue303
 i65:=by kernel_rfl
 t66:=Tryz.underlying304
 a66:=Tryz.isAgg304
 z66:=Tryz.sizeOf304
 v66:=Tryz.zeroValue304
 i66:=by kernel_rfl
 t67:=Tryz.underlying129
 a67:=Tryz.isAgg129
 z67:=Tryz.sizeOf129
 v67:=Tryz.zeroValue129
 i67:=by kernel_rfl
 g0:=by kernel_rfl
 m0:=by kernel_rfl
 g1:=by kernel_rfl
 m1:=by kernel_rfl
 g2:=by kernel_rfl
 m2:=by kernel_rfl
 g3:=by kernel_rfl
 m3:=by kernel_rfl
 g4:=by kernel_rfl
 m4:=by kernel_rfl }
def Rh:Go.Shelf.Ren:=⟨fun | 219=>241 | 217=>251 | 225=>252 | 224=>253 | 267=>254 | 266=>266 | 314=>267 | n=>n,fun | 9=>9 | 3=>3 | 4=>4 | 5=>5 | 46=>219 | 146=>262 | 51=>218 | n=>n,fun | 1=>0 | n=>n⟩
theorem adC:Go.Proofs.Lays.n219 Tryz.prog Rh:={
 mixed:=by kernel_rfl
 f217:=Tryz.func251.trans (congrArg some (by kernel_rfl))
 f219:=Tryz.func241.trans (congrArg some (by kernel_rfl))
 f224:=Tryz.func253.trans (congrArg some (by kernel_rfl))
 f225:=Tryz.func252.trans (congrArg some (by kernel_rfl))
 f266:=Tryz.func266.trans (congrArg some (by kernel_rfl))
 f267:=Tryz.func254.trans (congrArg some (by kernel_rfl))
 f314:=Tryz.func267.trans (congrArg some (by kernel_rfl))
 t3:=Tryz.underlying3
 a3:=Tryz.isAgg3
 z3:=Tryz.sizeOf3
 v3:=Tryz.zeroValue3
 t4:=Tryz.underlying4
 a4:=Tryz.isAgg4
 z4:=Tryz.sizeOf4
 v4:=Tryz.zeroValue4
 t5:=Tryz.underlying5
 a5:=Tryz.isAgg5
 z5:=Tryz.sizeOf5
 v5:=Tryz.zeroValue5
 t9:=Tryz.underlying9
 a9:=Tryz.isAgg9
 z9:=Tryz.sizeOf9
 v9:=Tryz.zeroValue9
 t46:=Tryz.underlying219
 a46:=Tryz.isAgg219
 z46:=Tryz.sizeOf219
 v46:=Tryz.zeroValue219
 t51:=Tryz.underlying218
 a51:=Tryz.isAgg218
 z51:=Tryz.sizeOf218
 v51:=Tryz.zeroValue218
 t146:=Tryz.underlying262
 a146:=Tryz.isAgg262
 z146:=Tryz.sizeOf262
 v146:=Tryz.zeroValue262
 g1:=by kernel_rfl }
def Ie:Go.Shelf.Ren:=⟨fun | 105=>103 | 212=>187 | 99=>188 | 165=>189 | 166=>190 | 170=>191 | 169=>192 | 263=>227 | 264=>228 | 206=>229 | 240=>230 | 241=>231 | 276=>249 | 277=>250 | n=>n,fun | 9=>9 | 3=>3 | 4=>4 | 20=>20 | 0=>0 | 46=>219 | 109=>226 | 5=>5 | 72=>230 | 76=>234 | 51=>218 | 146=>262 | 53=>128 | 148=>264 | 70=>228 | 37=>36 | 75=>233 | 127=>266 | 164=>281 | 80=>129 | n=>n,fun | n=>n⟩
theorem acR:Go.Proofs.Lays.n105 Tryz.prog Ie:={
 mixed:=by kernel_rfl
 f99:=Tryz.func188.trans (congrArg some (by kernel_rfl))
 f105:=Tryz.func103.trans (congrArg some (by kernel_rfl))
 f165:=Tryz.func189.trans (congrArg some (by kernel_rfl))
 f166:=Tryz.func190.trans (congrArg some (by kernel_rfl))
 f169:=Tryz.func192.trans (congrArg some (by kernel_rfl))
 f170:=Tryz.func191.trans (congrArg some (by kernel_rfl))
 f206:=Tryz.func229.trans (congrArg some (by kernel_rfl))
 f212:=Tryz.func187.trans (congrArg some (by kernel_rfl))
 f240:=Tryz.func230.trans (congrArg some (by kernel_rfl))
 f241:=Tryz.func231.trans (congrArg some (by kernel_rfl))
 f263:=Tryz.func227.trans (congrArg some (by kernel_rfl))
 f264:=Tryz.func228.trans (congrArg some (by kernel_rfl))
 f276:=Tryz.func249.trans (congrArg some (by kernel_rfl))
 f277:=Tryz.func250.trans (congrArg some (by kernel_rfl))
 t0:=Tryz.underlying0
 a0:=Tryz.isAgg0
 z0:=Tryz.sizeOf0
 v0:=Tryz.zeroValue0
 t3:=Tryz.underlying3
 a3:=Tryz.isAgg3
 z3:=Tryz.sizeOf3
 v3:=Tryz.zeroValue3
 t4:=Tryz.underlying4
 a4:=Tryz.isAgg4
 z4:=Tryz.sizeOf4
 v4:=Tryz.zeroValue4
 t5:=Tryz.underlying5
 a5:=Tryz.isAgg5
 z5:=Tryz.sizeOf5
 v5:=Tryz.zeroValue5
 t9:=Tryz.underlying9
 a9:=Tryz.isAgg9
 z9:=Tryz.sizeOf9
 v9:=Tryz.zeroValue9
 t20:=Tryz.underlying20
 a20:=Tryz.isAgg20
 z20:=Tryz.sizeOf20
 v20:=Tryz.zeroValue20
 t37:=Tryz.underlying36
 a37:=Tryz.isAgg36
 z37:=Tryz.sizeOf36
 v37:=Tryz.zeroValue36
 t46:=Tryz.underlying219
 a46:=Tryz.isAgg219
 z46:=Tryz.sizeOf219
 v46:=Tryz.zeroValue219
 t51:=Tryz.underlying218
 a51:=Tryz.isAgg218
 z51:=Tryz.sizeOf218
 v51:=Tryz.zeroValue218
 t53:=Tryz.underlying128
 a53:=Tryz.isAgg128
 z53:=Tryz.sizeOf128
 v53:=Tryz.zeroValue128
 t70:=Tryz.underlying228
 a70:=Tryz.isAgg228
 z70:=Tryz.sizeOf228
 v70:=Tryz.zeroValue228
 t72:=Tryz.underlying230
 a72:=Tryz.isAgg230
 z72:=Tryz.sizeOf230
 v72:=Tryz.zeroValue230
 t75:=Tryz.underlying233
 a75:=Tryz.isAgg233
 z75:=Tryz.sizeOf233
 v75:=Tryz.zeroValue233
 t76:=Tryz.underlying234
 a76:=Tryz.isAgg234
 z76:=Tryz.sizeOf234
 v76:=Tryz.zeroValue234
 t109:=Tryz.underlying226
 a109:=Tryz.isAgg226
 z109:=Tryz.sizeOf226
 v109:=Tryz.zeroValue226
 t127:=Tryz.underlying266
 a127:=Tryz.isAgg266
 z127:=Tryz.sizeOf266
 v127:=Tryz.zeroValue266
 t146:=Tryz.underlying262
 a146:=Tryz.isAgg262
 z146:=Tryz.sizeOf262
 v146:=Tryz.zeroValue262
 t148:=Tryz.underlying264
 a148:=Tryz.isAgg264
 z148:=Tryz.sizeOf264
 v148:=Tryz.zeroValue264
 t164:=Tryz.underlying281
 a164:=Tryz.isAgg281
 z164:=Tryz.sizeOf281
 v164:=Tryz.zeroValue281 }
theorem Y3:Builder.Extra Tryz.prog Ie:={
 sizeBuilder:=by kernel_rfl
 liesBuilder:=by kernel_rfl
 t5:=Tryz.underlying5
 a5:=Tryz.isAgg5
 z5:=Tryz.sizeOf5
 v5:=Tryz.zeroValue5
 infoByte:=by kernel_rfl
 cellsByte:=by kernel_rfl
 sizeByte:=by kernel_rfl
 neB5:=by decide }
end Go.Proofs
namespace Go.Proofs
open Go.Shelf Go.RowKit Go.Sort Go.Lib
abbrev Qc:UInt8→Value:=fun b=>Value.int .u8 (b.toNat:Int)
theorem TL (w:World) (T:TypeId) (nd:Nat) (hs:nd≤24):Holds Qc (w.alloc (.cells Lib.zeros24 T)) w.heap.size 0 (Array.replicate nd (0:UInt8)):=fun j hj=>by
 have hj':j<nd:=by simpa using hj
 refine⟨?_,World.frozen?_alloc_new _ _ _ _⟩
 rw[World.cell?_alloc_new,Lib.zeros24_at _ (by omega),getElem!_pos _ j hj]
 simp
theorem uC (w:World) (o:Obj) (dk:Array UInt8) (k:Nat):Below w.heap.size w ((putRow Qc (w.alloc o) w.heap.size 0 dk).drewN k):=by
 rw[alloc_eq_grow]
 obtain⟨os',_,e⟩:=putRow_grow_new Qc w #[o] w.heap.size 0 dk (Nat.le_refl _)
 rw[e]
 refine⟨rfl,rfl,rfl,by show w.heap.size≤(w.heap++os').size;simp,fun i hi => ?_⟩
 show (w.heap++os')[i]? = _
 rw[Array.getElem?_append_left hi]
set_option maxHeartbeats 6400000 in
set_option maxRecDepth 100000 in
theorem abA (u:Nat) (Xk:u<18446744073709551616) (w:World) (acF:Lib.TabIs Tryz.prog w "internal/strconv.uint64pow10" .u64 Lib.pow10Tab) :
  Calls Tryz.prog 226 #[.int .u64 u,.int .i64 10] w fun e w'=>e = .returned (.string ⟨(Lib.decDigits u).toArray⟩)∧Below w.heap.size w w':=by
 by_cases hs:u<100
 ·go_enter Tryz.func226,Tryz.ntmps226
  go_wp2_with (go_at_call 245;refine(Any.internal_strconv_small abL u hs _).mono ?_;rintro e w' ⟨rfl,rfl⟩)
  go_ret
  exact⟨rfl,Below.refl _ _⟩
 ·have X7:1≤u:=by omega
  have arV:Lib.nDigits u≤20:=by have:=Lib.numDigits_eq u X7 Xk;split at this<;>omega
  have hH0:=TL w 276 (Lib.nDigits u) (by omega)
  have aiD:=Any.internal_strconv_formatBase10 abM w.heap.size 0 24 u (Array.replicate (Lib.nDigits u) 0) (w.alloc (.cells Lib.zeros24 276)) hH0 (by rw[Array.size_replicate];exact Lib.lt_pow_nDigits u) Xk (by rw[Array.size_replicate];omega)
  rw[Array.size_replicate] at aiD
  have HH0:=Lib.hid hH0
  have hal:Tryz.prog.arrayLen 276=24:=by simp[Program.arrayLen,Tryz.underlying276]
  have Mj:∀W,(Instr.sliceAt 276 (.pointer (some ⟨w.heap.size,0,none⟩)) none (some (.int .i64 (Lib.nDigits u:Int))) none).run Tryz.prog W = .ok (.slice (some ⟨w.heap.size,0,none⟩) (Lib.nDigits u) 24) W:=fun W=>by
   rw[run_sliceAt_array_h W 276 ⟨w.heap.size,0,none⟩ (by simp[Program.arrayLen,Program.elem,Tryz.underlying276]) .i64 (Lib.nDigits u:Int) (by omega) (by rw[hal];omega)]
   go_simp
  clear hH0 hal
  go_enter Tryz.func226,Tryz.ntmps226
  go_wp2_with (first
   | (go_at_call 246;refine(Any.internal_strconv_numDigits adY u X7 Xk _ (Lib.tabIs_alloc acF _)).mono ?_;rintro e w' ⟨rfl,rfl⟩))
  go_at_call 247
  refine aiD.mono ?_
  rintro e w' ⟨rfl,k,v',dk,rfl,hF⟩
  have hcv:(convert 36 9 (.slice (some ⟨w.heap.size,0,none⟩) (Lib.nDigits u) 24)).run Tryz.prog ((putRow Qc (w.alloc (.cells Lib.zeros24 276)) w.heap.size 0 dk).drewN k) = .ok (.string ⟨(Lib.decDigits u).toArray⟩) ((putRow Qc (w.alloc (.cells Lib.zeros24 276)) w.heap.size 0 dk).drewN k):=by
   have h:=run_convert_bytes_back (P:=Tryz.prog) ((putRow Qc (w.alloc (.cells Lib.zeros24 276)) w.heap.size 0 dk).drewN k) 36 9 5 ⟨w.heap.size,0,none⟩ 24 (Lib.decDigits u) Tryz.underlying36 Tryz.underlying5 Tryz.underlying9 (fun j hj=>by
    rw[Lib.row_is_numeral hF j hj,Lib.add_plain,World.cell?_drewN]
    exact cell?_putRow Qc _ w.heap.size 0 _ dk HH0.out (by rw[hF.size,Array.size_replicate]) j (by rw[hF.size];rw[Lib.decDigits_length] at hj;exact hj))
   rw[Lib.decDigits_length] at h
   exact h
  go_wp2
  go_ret
  exact⟨rfl,uC w _ dk k⟩
theorem XK (u:Nat) (Xk:u<18446744073709551616) (w:World) (acF:Lib.TabIs Tryz.prog w "internal/strconv.uint64pow10" .u64 Lib.pow10Tab) :
  Calls Tryz.prog 184 #[.int .u64 u,.int .i64 10] w fun e w'=>e = .returned (.string ⟨(Lib.decDigits u).toArray⟩)∧Below w.heap.size w w':=by
 go_enter Tryz.func184,Tryz.ntmps184
 go_wp2_with (go_at_call 226;refine(abA u Xk _ acF).mono ?_;rintro e w' ⟨rfl,hb⟩)
 go_ret
 exact⟨rfl,hb⟩
end Go.Proofs
namespace Go.PM
open Go.Proofs Go.RowKit
theorem Below.yA {w w':World} (h:Below w.heap.size w w'):w.heap.size≤w'.heap.size∧(∀rb,rb<w.heap.size→w'.heap[rb]? = w.heap[rb]?)∧w'.os=w.os∧w'.output=w.output∧w'.tape=w.tape :=
 ⟨h.size,h.block,h.os,h.output,h.tape⟩
theorem yJ {w:World}:w.heap.size≤w.heap.size∧(∀rb,rb<w.heap.size→w.heap[rb]? = w.heap[rb]?)∧w.os=w.os∧w.output=w.output∧w.tape=w.tape :=
 ⟨Nat.le_refl _,fun _ _=>rfl,rfl,rfl,rfl⟩
def B0 (f:Nat) (p:List Value→aD→Option Value):Prop :=
 IH Tryz.prog f∧∀L0 args H v,p args H=some v→∀m w fT,Rel m L0 H w→RL m args fT →
  Calls Tryz.prog f fT.toArray w fun e w'=>∃rv,e = .returned rv∧RV m v rv∧w.heap.size≤w'.heap.size∧(∀rb,rb<w.heap.size→w'.heap[rb]? = w.heap[rb]?)∧w'.os=w.os∧w'.output=w.output∧w'.tape=w.tape
theorem RL.one {m:cS} {x:Value} {ys:List Value} (h:RL m [x] ys):∃y,ys=[y]∧RV m x y:=by
 match ys,h with
 | [y],h=>exact⟨y,rfl,h.iU.1⟩
 | [],h=>exact absurd h.1 (by simp)
 | _::_::_,h=>exact absurd h.1 (by simp)
theorem RL.two {m:cS} {x x':Value} {ys:List Value} (h:RL m [x,x'] ys):∃y y',ys=[y,y']∧RV m x y∧RV m x' y':=by
 match ys,h with
 | [y,y'],h=>exact⟨y,y',rfl,h.iU.1,h.iU.2.iU.1⟩
 | [],h=>exact absurd h.1 (by simp)
 | [_],h=>exact absurd h.1 (by simp)
 | _::_::_::_,h=>exact absurd h.1 (by simp)
theorem RL.three {m:cS} {x x' x'':Value} {ys:List Value} (h:RL m [x,x',x''] ys):∃y y' y'',ys=[y,y',y'']∧RV m x y∧RV m x' y'∧RV m x'' y'':=by
 match ys,h with
 | [y,y',y''],h=>exact⟨y,y',y'',rfl,h.iU.1,h.iU.2.iU.1,h.iU.2.iU.2.iU.1⟩
 | [],h=>exact absurd h.1 (by simp)
 | [_],h=>exact absurd h.1 (by simp)
 | [_,_],h=>exact absurd h.1 (by simp)
 | _::_::_::_::_,h=>exact absurd h.1 (by simp)
theorem C3 {m:cS}:∀ {cs rs:List Value} {xs:List ByteArray},strCells cs=some xs→RL m cs rs→rs=xs.map .string
 |
  [],rs,xs,h,hr=>by
  cases h
  match rs,hr with
  | [],_=>rfl
  | _::_,hr=>exact absurd hr.1 (by simp)
 |
  c::cs,rs,xs,h,hr=>by
  match rs,hr with
  | [],hr=>exact absurd hr.1 (by simp)
  |
   r::rs,hr =>
   obtain⟨h1,h2⟩:=hr.iU
   cases c with
   |
    string s =>
    rw[strCells] at h
    cases hc:strCells cs with
    | none=>rw[hc] at h;cases h
    |
     some ys =>
     rw[hc] at h
     cases h
     cases h1
     rw[C3 hc h2]
     rfl
   | _=>cases h
theorem GL:B0 219 Bk:=by
 refine⟨⟨_,Tryz.func219,by kernel_rfl,by kernel_rfl⟩,fun L0 args H v hp m w fT hR hr => ?_⟩
 unfold Bk at hp
 split at hp
 case h_2=>cases hp
 rename_i x
 split at hp
 case isFalse=>cases hp
 rename_i hx
 cases hp
 obtain⟨y,rfl,h1⟩:=hr.one
 cases h1
 refine(Any.bits_LeadingZeros32 adL x w hx.1 hx.2).mono ?_
 rintro e w' ⟨rfl,rfl⟩
 exact⟨_,rfl,.int _ _,yJ⟩
theorem Jw:B0 103 D0:=by
 refine⟨⟨_,Tryz.func103,by kernel_rfl,by kernel_rfl⟩,fun L0 args H v hp m w fT hR hr => ?_⟩
 unfold D0 at hp
 split at hp
 case h_2=>cases hp
 rename_i s c
 split at hp
 case isFalse=>cases hp
 rename_i hx
 cases hp
 obtain⟨y,y',rfl,h1,h2⟩:=hr.two
 cases h1
 cases h2
 obtain⟨k,rfl⟩:∃k:Nat,c=k:=⟨c.toNat,by omega⟩
 refine(Any.strings_Repeat acR Y3 s k w (by omega) hx.2.2).mono ?_
 rintro e w' ⟨rfl,hb⟩
 exact⟨_,rfl,.str _,Below.yA hb⟩
theorem NT:B0 186 OG:=by
 refine⟨⟨_,Tryz.func186,by kernel_rfl,by kernel_rfl⟩,fun L0 args H v hp m w fT hR hr => ?_⟩
 unfold OG at hp
 split at hp
 case h_3=>cases hp
 ·cases hp
  obtain⟨y,y',rfl,h1,h2⟩:=hr.two
  cases h1
  cases h2
  refine(Any.strings_Join_none QZ L5 none 0 _ w).mono ?_
  rintro e w' ⟨rfl,rfl⟩
  exact⟨_,rfl,.str _,yJ⟩
 ·rename_i b o n c sep
  obtain⟨y,y',rfl,h1,h2⟩:=hr.two
  cases h2
  cases h1 with
  |
   slice _ _ _ _ l ra rc h hn hc hx ha =>
   split at hp
   ·rename_i UT
    subst UT
    cases hp
    refine(Any.strings_Join_none QZ L5 (some ra) rc _ w).mono ?_
    rintro e w' ⟨rfl,rfl⟩
    exact⟨_,rfl,.str _,yJ⟩
   ·rename_i UT
    split at hp
    case h_2=>cases hp
    rename_i xs M7
    split at hp
    case isFalse=>cases hp
    rename_i OL
    cases hp
    obtain⟨cs,R3,Lo⟩:=Option.bind_eq_some_iff.1 M7
    obtain⟨rs,r1,r2,_,r4⟩:=vR hR h R3
    have hrs:=C3 Lo r1
    subst hrs
    rcases ha with ha | ⟨rfl,ha⟩
    ·omega
    obtain⟨arr,e0,fz0,v1,_⟩:=hR.valid b l h
    have Bc:l.rb<w.heap.size:=(Array.getElem?_eq_some_iff.1 v1).1
    obtain⟨c1,c2,c3,c4⟩:=OL
    subst c1
    refine(Any.strings_Join QZ L5 l.rb (l.base+o) rc xs sep w (fun j x hj => ?_) Bc c3 (by omega) c4).mono ?_
    ·have:=r4 j (.string x) (by simp[hj])
     rw[Addr.add_lit] at this
     exact this
    ·rintro e w' ⟨rfl,hb⟩
     exact⟨_,rfl,.str _,Below.yA hb⟩
theorem Q0 {m:cS} {L0:Nat} {H:aD} {w:World} (hR:Rel m L0 H w):Lib.TabIs Tryz.prog w "internal/strconv.uint64pow10" .u64 Lib.pow10Tab:=by
 obtain⟨e,fz,h⟩:=(hR.BK (1,(Lib.pow10Tab.map fun z=>Value.int .u64 z).toArray) (by simp[Zr])).1
 have hg:Tryz.prog.globalNamed "internal/strconv.uint64pow10"=some 1:=by kernel_rfl
 unfold Lib.TabIs World.var?
 rw[hg]
 simp only[Option.bind_some,h]
theorem No:B0 184 sL:=by
 refine⟨⟨_,Tryz.func184,by kernel_rfl,by kernel_rfl⟩,fun L0 args H v hp m w fT hR hr => ?_⟩
 unfold sL at hp
 split at hp
 case h_2=>cases hp
 rename_i n b
 split at hp
 case isFalse=>cases hp
 rename_i hx
 cases hp
 obtain⟨y,y',rfl,h1,h2⟩:=hr.two
 cases h1
 cases h2
 obtain⟨rfl,h0,h1⟩:=hx
 obtain⟨u,rfl⟩:∃u:Nat,n=u:=⟨n.toNat,by omega⟩
 refine(XK u (by omega) w (Q0 hR)).mono ?_
 rintro e w' ⟨rfl,hb⟩
 exact⟨_,rfl,.str _,Below.yA hb⟩
theorem Lt:B0 241 Mu:=by
 refine⟨⟨_,Tryz.func241,by kernel_rfl,by kernel_rfl⟩,fun L0 args H v hp m w fT hR hr => ?_⟩
 unfold Mu at hp
 split at hp
 case h_2=>cases hp
 rename_i s p
 split at hp
 case h_2=>cases hp
 rename_i c hc
 cases hp
 obtain⟨y,y',rfl,h1,h2⟩:=hr.two
 cases h1
 cases h2
 have hp:p=⟨#[c]⟩:=by
  obtain⟨a⟩:=p
  obtain⟨l⟩:=a
  have:l=[c]:=hc
  rw[this]
 subst hp
 refine(Any.stringslite_Index_one adC s c w).mono ?_
 rintro e w' ⟨rfl,rfl⟩
 exact⟨_,rfl,.int _ _,yJ⟩
theorem Ld:B0 217 vV:=by
 refine⟨⟨_,Tryz.func217,by kernel_rfl,by kernel_rfl⟩,fun L0 args H v hp m w fT hR hr => ?_⟩
 unfold vV at hp
 split at hp
 case h_2=>cases hp
 rename_i s b z
 split at hp
 case isFalse=>cases hp
 rename_i hx
 obtain⟨rfl,rfl,hs⟩:=hx
 split at hp
 case h_2=>cases hp
 rename_i u hu
 cases hp
 obtain⟨y,y',y'',rfl,h1,h2,h3⟩:=hr.three
 cases h1
 cases h2
 cases h3
 refine(Any.strconv_ParseUint_10_at64_ok Zc s hs u hu w).mono ?_
 have hv:∀m,RV m (.tuple #[.int .u64 (u:Int),.nilIface]) (.tuple #[.int .u64 (u:Int),.nilIface]):=fun m => .tuple _ _ rfl fun i hi=>by
  match i,hi with
  | 0,_=>exact .int _ _
  | 1,_=>exact .nilIface
  | n+2,hi=>exact absurd hi (by simp)
 rintro e w' ⟨rfl,rfl | rfl⟩
 ·exact⟨_,rfl,hv m,yJ⟩
 ·exact⟨_,rfl,hv m,Below.yA (Lib.bytesWorld_below _ _ _)⟩
theorem aaX {L0:Nat}:VJ Tryz.prog cfg L0:=by
 intro f p hp
 have A7:G5 f=some p:=hp
 unfold G5 at A7
 split at A7
 ·rename_i h;subst h;cases A7;exact⟨No.1,No.2 L0⟩
 split at A7
 ·rename_i h;subst h;cases A7;exact⟨Jw.1,Jw.2 L0⟩
 split at A7
 ·rename_i h;subst h;cases A7;exact⟨NT.1,NT.2 L0⟩
 split at A7
 ·rename_i h;subst h;cases A7;exact⟨GL.1,GL.2 L0⟩
 split at A7
 ·rename_i h;subst h;cases A7;exact⟨Lt.1,Lt.2 L0⟩
 split at A7
 ·rename_i h;subst h;cases A7;exact⟨Ld.1,Ld.2 L0⟩
 cases A7
end Go.PM
namespace Go.PM
open Go.ChangeShapes Go.WideShapes Go.ChangeAt Go.RowKit
open Go.Proofs
structure In (m:cS) (H:aD) (W:World):Prop where
 UY:∀b l,m b=some l→b<H.length
 valid:∀b l,m b=some l→∃arr e fz,W.heap[l.rb]? = some (.cells arr e fz)∧arr.size=l.MT
 row:∀b l cs e p,m b=some l→H[b]? = some (.row cs e p)→l.eR=e∧l.Pz=p∧l.base+cs.length≤l.MT ∧
  ∀i,i<cs.length→∃rv,W.cell? ⟨l.rb,l.base+i,none⟩=some rv∧RV m (cs.getD i Go.undef) rv∧PM.fR (cs.getD i Go.undef)=true
section
variable {m:cS} {H:aD} {W:World}
theorem In.empty:In (fun _=>none) [] W:=⟨fun _ _ h=>(by cases h),fun _ _ h=>(by cases h),fun _ _ _ _ _ h=>(by cases h)⟩
theorem In.rel (h:In m H W) (hg:LJ W):Rel m H.length H W :=
 ⟨fun b l hb=>by
  obtain⟨arr,e,fz,h1,h2⟩:=h.valid b l hb
  exact⟨arr,e,fz,h1,h2,fun hl=>by have:=h.UY b l hb;omega⟩,h.row,fun b1 b2 l1 l2 hl h1 _ _ _ _=>by have:=h.UY b1 l1 h1;omega,fun x hx=>⟨hg x hx,fun b l hb hm _=>by have:=h.UY b l hm;omega⟩⟩
theorem In.PG (h:In m H W) {b:Nat} (hb:H.length≤b):m b=none:=by
 cases hm:m b with
 | none=>rfl
 | some l=>have:=h.UY b l hm;omega
theorem In.add (h:In m H W) {rb base eR:Nat} {arr:Array Value} {e:TypeId} {fz:Nat×Nat} {cs:List Value} (hb:W.heap[rb]? = some (.cells arr e fz)) (uL:base+cs.length≤arr.size)
  (hc:∀i,i<cs.length→∃rv,W.cell? ⟨rb,base+i,none⟩=some rv∧RV (rY m H.length ⟨rb,base,eR,arr.size,false⟩) (cs.getD i Go.undef) rv∧PM.fR (cs.getD i Go.undef)=true) :
  In (rY m H.length ⟨rb,base,eR,arr.size,false⟩) (H++[.row cs eR false]) W:=by
 have hn:=h.PG (Nat.le_refl H.length)
 refine⟨fun b l sW => ?_,fun b l sW => ?_,fun b l ds e' p sW Fi => ?_⟩
 ·by_cases he:b=H.length
  ·subst he;simp
  ·rw[cF he] at sW
   have:=h.UY b l sW
   simp;omega
 ·by_cases he:b=H.length
  ·subst he
   rw[bM] at sW
   cases sW
   exact⟨arr,e,fz,hb,rfl⟩
  ·rw[cF he] at sW
   exact h.valid b l sW
 ·by_cases he:b=H.length
  ·subst he
   rw[bM] at sW
   cases sW
   rw[RJ] at Fi
   cases Fi
   exact⟨rfl,rfl,uL,hc⟩
  ·rw[cF he] at sW
   have aX:=h.UY b l sW
   rw[ME aX] at Fi
   obtain⟨h1,h2,h3,h4⟩:=h.row b l ds e' p sW Fi
   refine⟨h1,h2,h3,fun i hi => ?_⟩
   obtain⟨rv,g1,g2,g3⟩:=h4 i hi
   exact⟨rv,g1,g2.mono (rJ hn),g3⟩
end
theorem Sy {α:Type} (p:Nat→α→Prop):∀c,(∀i,i<c→∃x,p i x)→∃xs:List α,xs.length=c∧∀i x,xs[i]? = some x→p i x
 | 0,_=>⟨[],rfl,fun i x hx=>by simp at hx⟩
 |
  c+1,h=>by
  obtain⟨xs,h1,h2⟩:=Sy p c fun i hi=>h i (by omega)
  obtain⟨x,h3⟩:=h c (by omega)
  refine⟨xs++[x],by simp[h1],fun i y hy => ?_⟩
  rcases Nat.lt_or_ge i xs.length with hi | hi
  ·rw[List.getElem?_append_left hi] at hy
   exact h2 i y hy
  ·rw[List.getElem?_append_right hi] at hy
   have Zw:i-xs.length=0:=by
    rcases Nat.eq_zero_or_pos (i-xs.length) with h | h
    ·exact h
    ·rw[List.getElem?_eq_none (by simp;omega)] at hy;cases hy
   rw[Zw] at hy
   cases hy
   have:i=c:=by omega
   subst this
   exact h3
theorem Xv {f:Nat} {args fT:List Value} {H H':aD} {v:Value} {m:cS} {W:World} (hI:In m H W) (hr:RL m args fT) (h:pC f args H.length H=some (v,H')) (hg:LJ W:=by first | assumption | exact fun x hx=>nomatch hx) :
  Calls Tryz.prog f fT.toArray W fun e W'=>∃m' rv,e = .returned rv∧RV m' v rv∧Below W.heap.size W W':=by
 obtain⟨n,hn⟩:=(sM cfg hJ).1 h
 refine(E5 Tryz.checked.mixed aaX abZ n f args H.length H v H' hn m W fT (hI.rel hg) (Nat.le_refl _) (Nat.le_refl _) hr (fun b hb _=>hI.PG hb)).2.mono ?_
 rintro e W' ⟨m',rv,rfl,h1,_,h3⟩
 refine⟨m',rv,rfl,h1,⟨h3.same.1,h3.same.2.2,h3.same.2.1,h3.size,fun k hk=>h3.eZ k hk fun b l hb hm _ => ?_⟩⟩
 rw[hI.PG hb] at hm
 cases hm
end Go.PM
namespace Go.PM
def P5 (c:eT):Prop:=(0≤c.t∧c.t≤10000)∧(1≤c.w∧c.w≤1000)∧(0≤c.k∧c.k≤9)
instance (c:eT):Decidable (P5 c):=by unfold P5;infer_instance
def abY (cs:List eT) (i:Nat) (c:eT):Prop:=P5 c∧∀b,0<i→cs[i-1]? = some b→b.t≤c.t
def iW (cs:List eT):Prop:=(∀i c,cs[i]? = some c→abY cs i c)∧cs.length≤24
noncomputable instance (cs:List eT):Decidable (iW cs):=Classical.propDecidable _
theorem iW.at {cs:List eT} (h:iW cs) {i:Nat} {c:eT} (hc:cs[i]? = some c):(0≤c.t∧c.t≤10000)∧(1≤c.w∧c.w≤1000)∧(0≤c.k∧c.k≤9):=(h.1 i c hc).1
def w64 (n:Int):Prop := -9223372036854775808≤n∧n≤9223372036854775807
def wl (time:Int):List eT→Int→Int→Int
 | [],l,s=>max (l-(time-s)) 0
 | c::cs,l,s=>if time<c.t then max (l-(time-s)) 0 else wl time cs (max (l-(c.t-s)) 0+c.w) c.t
def aoV (cs:List eT) (time:Int):Prop:=iW cs∧(0≤time∧time≤1000000000)
noncomputable instance (cs:List eT) (time:Int):Decidable (aoV cs time):=Classical.propDecidable _
def afW (cs:List eT) (ls:List Int):Prop:=iW cs∧ls.length=cs.length∧∀x∈ls,0≤x∧x≤1000000000
noncomputable instance (cs:List eT) (ls:List Int):Decidable (afW cs ls):=Classical.propDecidable _
def afJ (cs:List eT) (ls:List Int) (time:Int):Prop:=afW cs ls∧(0≤time∧time≤1000000000)
noncomputable instance (cs:List eT) (ls:List Int) (time:Int):Decidable (afJ cs ls time):=Classical.propDecidable _
def alT (cs:List eT) (ps:List Int):Prop:=iW cs∧ps.length=cs.length∧∀x∈ps,0≤x∧x≤10000
noncomputable instance (cs:List eT) (ps:List Int):Decidable (alT cs ps):=Classical.propDecidable _
end Go.PM
namespace Go.Proofs.YtodamlihdkalfaaGreatDoor
open Go.ChangeShapes Go.WideShapes Go.ChangeAt Go.RowKit Go.PM
theorem own:ownKnob Tryz.prog.godebug=none:=by kernel_rfl
theorem laidOut:laidOutB Tryz.prog=true:=by kernel_rfl
theorem adQ {n:Int} (h:(Lit.int .i64 n).wf=true):w64 n:=by
 simp only[Lit.wf,Bool.and_eq_true,decide_eq_true_eq] at h
 exact h
theorem three {α:Type} {l:List α} (h:l.length=3):∃a b c,l=[a,b,c]:=by
 rcases l with _ | ⟨a,_ | ⟨b,_ | ⟨c,_ | ⟨d,l⟩⟩⟩⟩
 ·cases h
 ·cases h
 ·cases h
 ·exact⟨a,b,c,rfl⟩
 ·simp at h
end Go.Proofs.YtodamlihdkalfaaGreatDoor
namespace Go.PM
def CC:List Nat:=[]
 ++ [52]
 ++ [55]
 ++ [56]
 ++ [43]
 ++ [45]
 ++ [50]
 ++ [67]
 ++ [70]
 ++ [71]
 ++ [76]
 ++ [78]
 ++ [79]
 ++ [60]
 ++ [62]
 ++ [72]
 ++ [17]
 ++ [19]
 ++ [23]
 ++ [53]
 ++ [51]
 ++ [21]
 ++ [20]
 ++ [49]
 ++ [48]
 ++ [64]
 ++ [63]
 ++ [68]
 ++ [66]
 ++ [77]
 ++ [75]
 ++ [182]
 ++ [220]
 ++ [221]
 ++ [239]
 ++ [240]
 ++ [202]
 ++ [185]
 ++ [84]
 ++ [87]
 ++ [165]
 ++ [85]
 ++ [85]
 ++ [86]
 ++ [26]
 ++ [111]
 ++ [200]
 ++ [132]
 ++ [149]
 ++ [204]
 ++ [143]
 ++ [129]
 ++ [125]
 ++ [128]
 ++ [123]
 ++ [127]
 ++ [122]
 ++ [207]
 ++ [150]
 ++ [144]
 ++ [131]
 ++ [148]
 ++ [142]
end Go.PM
namespace Go.PM
inductive TK where
 | op
 | cl (e:Nat)
 | nil
 deriving DecidableEq
inductive VV where
 | any
 | sc (v:Value)
 | agg (cs:List VV)
 | eQ (vs:List VV)
 | tree (es:List VV) (k:TK)
 | cO (x:VV) (off:Nat)
 | ref (b g o n c:Nat)
 | ptr (b g j off:Nat)
 | sY (f:Nat) (fA:List VV)
 deriving Inhabited
inductive iY where
 | dead
 | row (g:Nat) (es:List VV) (e:Nat) (w:Bool)
 deriving Inhabited
abbrev aA:=List iY
abbrev cR:=Nat→VV
def nX:VV := .eQ []
def lS:Value→Bool
 | .bool _ | .int _ _ | .string _ | .pointer none | .nilFunc | .nilIface=>true
 | _=>false
def iL:Value→VV
 | .slice none 0 0 => .tree [] .nil
 | v=>if lS v then .sc v else .any
def inj:Value→VV
 | .agg cs => .agg (cs.toList.map iL)
 | .tuple vs=>if vs.isEmpty then .eQ [] else .any
 | v=>iL v
def dI (ρ:cR):Operand→VV
 | .tmp t=>ρ t
 | .const v=>inj v
 | .global _ => .any
 | .func f => .sY f []
def HA (ρ:cR):Option Nat→VV→cR
 | none,_=>ρ
 | some d,v=>fun k=>if k=d then v else ρ k
def aB:VV→List VV
 | .agg cs=>cs
 | v=>[v]
def elemOf:List VV→VV
 | [x]=>x
 | cs => .agg cs
def cH:VV→Bool
 | .any | .agg _ | .eQ _=>false
 | _=>true
def uni:List VV→Bool
 | []=>true
 | x::xs=>xs.all fun y=>(aB y).length == (aB x).length
mutual
def aR:VV→Bool
 | .any=>false
 | .sc v=>lS v
 | .agg cs=>aJ cs
 | .eQ vs=>aJ vs
 | .tree es k=>decide (k = .op)&&aJ es&&uni es
 | .cO x _=>aR x
 | .ref .. => false
 | .ptr .. => false
 | .sY _ fA=>aJ fA
def aJ:List VV→Bool
 | []=>true
 | x::xs=>aR x&&aJ xs
end
def xR:VV→Bool
 | .agg [_]=>false
 | _=>true
mutual
def gO:VV→Bool
 | .any=>false
 | .sc v=>lS v
 | .agg cs=>pM cs
 | .eQ vs=>pM vs
 | .tree es k=>decide (k = .op)&&pM es&&uni es&&es.all xR
 | .cO _ _=>false
 | .ref .. => false
 | .ptr .. => false
 | .sY _ _=>false
def pM:List VV→Bool
 | []=>true
 | x::xs=>gO x&&pM xs
end
mutual
def Gf:VV→Bool
 | .sc v=>lS v
 | .agg cs=>O8 cs
 | .eQ vs=>O8 vs
 | _=>false
def O8:List VV→Bool
 | []=>true
 | x::xs=>Gf x&&O8 xs
end
mutual
def below (k:Nat):VV→Bool
 | .any=>true
 | .sc _=>true
 | .agg cs=>jZ k cs
 | .eQ vs=>jZ k vs
 | .tree es _=>jZ k es
 | .cO x _=>below k x
 | .ref b _ _ _ _=>decide (b<k)
 | .ptr b _ _ _=>decide (b<k)
 | .sY _ fA=>jZ k fA
def jZ (k:Nat):List VV→Bool
 | []=>true
 | x::xs=>below k x&&jZ k xs
end
def C0 (k:Nat) (v:VV):VV:=if below k v then v else .any
def aQ (H:aA) (b g:Nat):Option (List VV×Nat×Bool) :=
 match H[b]? with
 | some (.row g' es e w)=>if g'=g then some (es,e,w) else none
 | _=>none
def oI:List CK→List VV→List VV→Option Bool
 | [],[],[]=>some true
 |
  k::ks,.sc x::xs,.sc y::ys=>match rV k x y with
  | some true=>oI ks xs ys
  | some false=>some false
  | none=>none
 | _,_,_=>none
def cL (cs:List VV) (o:Nat) (new:List VV):List VV:=cs.take o++new++cs.drop (o+new.length)
def isAny:VV→Bool
 | .any=>true
 | _=>false
def vH (places:List (Nat×Nat)) (cells:List VV):List (Nat×VV)→Option (List VV)
 | []=>some cells
 |
  (i,v)::rest =>
  match places[i]? with
  | none=>none
  |
   some (off,size) =>
   if (aB v).length=size∧off+size≤cells.length∧isAny v=false then
    vH places (cells.take off++aB v++cells.drop (off+size)) rest
   else none
def tX (e:Nat) (es:List VV):List (Nat×VV)→Option (List VV)
 | []=>some es
 | (i,v)::rest=>if i<es.length∧(aB v).length=e∧(aB v).all cH then tX e (es.set i v) rest else none
def D5:Option VV→Option (Option Value)
 | none=>some none
 | some (.sc v)=>some (some v)
 | some _=>none
def dW (agg:Bool) (size:Nat) (x:VV) (o:Nat):Option VV :=
 if agg then (if o+size≤(aB x).length then some (.agg (((aB x).drop o).take size)) else none) else (aB x)[o]?
structure Fl where
 bf:Bool
 lr:Bool
def dU (agg:Bool) (size:Nat) (p:VV) (H:aA):Option VV :=
 match p with
 | .cO x o=>dW agg size x o
 |
  .ptr b g j o=>match aQ H b g with
  |
   some (es,_,_)=>match es[j]? with
   | some x=>dW agg size x o
   | none=>none
  | none=>none
 | _=>none
def bE (size:Nat) (x i:VV) (H:aA):Option VV :=
 match x,i with
 |
  .tree es _,.sc (.int _ i)=>if 0≤i then match es[i.toNat]? with
  | some x=>if (aB x).length=size then some (.cO x 0) else none
  | none=>none
  else none
 |
  .ref b g o n _,.sc (.int _ i)=>match aQ H b g with
  | some (_,e,_)=>if e=size∧0≤i∧i<n then some (.ptr b g (o+i.toNat) 0) else none
  | none=>none
 | _,_=>none
def Ei (size:Nat) (x:VV) (l h m:Option VV) (H:aA):Option VV :=
 match D5 l,D5 h,D5 m with
 |
  some lv,some hv,some mv =>
  match x with
  |
   .tree (y::ys) _ =>
   if (aB y).length=size then
    match dR mv (some (ys.length+1)) (ys.length+1) with
    | none=>none
    |
     some m=>match dR hv (if mv.isSome then none else some (ys.length+1)) m with
     | none=>none
     |
      some h=>match dR lv (some 0) h with
      | none=>none
      | some l=>if mv.isSome∧m=l then some (.tree [] (.cl size)) else some (.tree (((y::ys).drop l).take (h-l)) .op)
   else none
  |
   .ref b g o n c =>
   match aQ H b g with
   |
    some (_,e,_) =>
    if e=size then
     match dR mv (some c) c with
     | none=>none
     |
      some m=>match dR hv (if mv.isSome then none else some n) m with
      | none=>none
      |
       some h=>match dR lv (some 0) h with
       | none=>none
       | some l=>if mv.isSome∧m=l then some (.tree [] (.cl size)) else some (.ref b g (o+l) (h-l) (m-l))
    else none
   | none=>none
  | _=>none
 | _,_,_=>none
def Fh:List VV→Option (List UInt8)
 | []=>some []
 | .sc (.int .u8 n)::r=>(Fh r).map (UInt8.ofNat n.toNat :: ·)
 | _=>none
def eX (size:Nat) (y:VV) (H:aA):Option (List VV) :=
 match y with
 | .tree es _=>if es.all fun x=>(aB x).length == size&&(aB x).all cH then some es else none
 |
  .ref b g o n _=>match aQ H b g with
  | some (es,e,_)=>if e=size∧o+n≤es.length∧(((es.drop o).take n).all fun x=>(aB x).all cH) then some ((es.drop o).take n) else none
  | none=>none
 | .sc (.string s)=>if size=1 then some (s.data.toList.map fun b => .sc (.int .u8 b.toNat)) else none
 | _=>none
def gH (lo size bytes:Nat) (x:VV) (new:List VV) (H:aA):Option (VV×aA) :=
 if 1≤bytes∧1≤size then
  match x with
  | .tree [] .nil=>if new.length=0 then some (x,H) else if new.length*bytes≤140737488355328 then some (.ref H.length 0 0 new.length new.length,H++[.row 0 new size true]) else none
  | .tree es (.cl e)=>if e=size then (if new.length=0 then some (x,H) else if (es.length+new.length)*bytes≤140737488355328 then some (.ref H.length 0 0 (es.length+new.length) (es.length+new.length),H++[.row 0 (es++new) size true]) else none) else none
  |
   .ref b g o n c=>match aQ H b g with
   |
    some (es,e,true) =>
    if e=size∧lo≤b∧o+n≤es.length then
     if n+new.length≤c then
      if new.length=0 then some (x,H)
      else if o+n+new.length≤es.length then some (.ref b g o (n+new.length) c,H.set b (.row g (cL es (o+n) new) e true))
      else none
     else if (n+new.length)*bytes≤140737488355328 then some (.ref b (g+1) 0 (n+new.length) (n+new.length),H.set b (.row (g+1) ((es.drop o).take n++new) e true))
     else none
    else none
   | _=>none
  | _=>none
 else none
def cQ (lo size:Nat) (p v:VV) (H:aA):Option aA :=
 match p with
 |
  .ptr b g j o=>match aQ H b g with
  |
   some (es,e,true)=>match es[j]? with
   |
    some x =>
    if (aB v).length=size∧lo≤b∧(aB v).all cH then
     if o=0∧size=e then some (H.set b (.row g (es.set j v) e true))
     else if 2≤e∧o+size≤e then some (H.set b (.row g (es.set j (.agg (cL (aB x) o (aB v)))) e true))
     else none
    else none
   | none=>none
  | _=>none
 | _=>none
def yK (zero:List Value) (bytes:Nat) (l c:VV) (H:aA):Option (VV×aA) :=
 match l,c with
 | .sc (.int .i64 l),.sc (.int .i64 c)=>if 0≤l∧l≤c∧c*bytes≤281474976710656∧c≤9223372036854775807 then
  some (.ref H.length 0 0 l.toNat c.toNat,H++[.row 0 (List.replicate c.toNat (elemOf (zero.map iL))) zero.length true]) else none
 | _,_=>none
def rN (lr:Bool) (zero:List Value) (n:Nat) (parts:List (Nat×VV)) (H:aA):Option (VV×aA) :=
 match tX zero.length (List.replicate n (elemOf (zero.map iL))) parts with
 | some es=>if (zero.map iL).all cH then (if n=0∨lr=true then some (.ref H.length 0 0 n n,H++[.row 0 es zero.length true]) else some (.tree es (.cl zero.length),H)) else none
 | none=>none
def Ls (lo size:Nat) (x y:VV) (H:aA):Option (VV×aA) :=
 match x,eX size y H with
 | .tree [] .nil,some _=>some (.sc (.int .i64 0),H)
 |
  .ref b g o d _,some new=>match aQ H b g with
  | some (es,e,true)=>if e=size∧lo≤b∧o+(new.take d).length≤es.length then some (.sc (.int .i64 (new.take d).length),H.set b (.row g (cL es o (new.take d)) e true)) else none
  | _=>none
 | _,_=>none
def Mq (lo:Nat) (zero:List Value) (x:VV) (H:aA):Option aA :=
 match x with
 |
  .ref b g o n _=>match aQ H b g with
  | some (es,e,true)=>if n=0 then some H else if e=zero.length∧lo≤b∧o+n≤es.length∧(zero.map iL).all cH then some (H.set b (.row g (cL es o (List.replicate n (elemOf (zero.map iL)))) e true)) else none
  | _=>none
 | _=>none
def Dh (neg:Bool) (x:VV) (H:aA):Option VV :=
 match x with
 | .tree [] .nil=>some (.sc (.bool (true != neg)))
 | .tree [] (.cl _)=>some (.sc (.bool (false != neg)))
 | .tree (_::_) _=>some (.sc (.bool (false != neg)))
 | .ref b g _ _ _=>(aQ H b g).map fun _ => .sc (.bool (false != neg))
 | _=>none
def oG (x:VV) (H:aA):Option VV :=
 match x with
 | .tree es _=>some (.sc (.int .i64 es.length))
 | .ref b g _ n _=>(aQ H b g).map fun _ => .sc (.int .i64 n)
 | _=>none
def EX (off:Nat) (x:VV) (H:aA):Option VV :=
 match x with
 | .cO x o=>some (.cO x (o+off))
 | .ptr b g j o=>(aQ H b g).map fun _ => .ptr b g j (o+off)
 | _=>none
def Uf (x:VV) (H:aA):Option VV :=
 match x with
 | .cO x o=>some (.cO x o)
 | .ptr b g j o=>(aQ H b g).map fun _ => .ptr b g j o
 | _=>none
def sS (x:VV) (l h:Option VV):Option VV :=
 match x,D5 l,D5 h with
 |
  .sc (.string s),some lv,some hv=>match xF lv hv s.size with
  | some (l,h)=>some (.sc (.string (s.extract l h)))
  | none=>none
 | _,_,_=>none
def Y2 (agg:Bool) (off size:Nat) (x:VV):Option VV :=
 match x with
 | .agg cs=>if agg then (if off+size≤cs.length then some (.agg ((cs.drop off).take size)) else none) else cs[off]?
 | _=>none
def Io (f:Value→Option Value) (x:VV):Option VV :=
 match x with
 | .sc a=>(f a).map .sc
 | _=>none
def Fv (f:Value→Value→Option Value) (x y:VV):Option VV :=
 match x,y with
 | .sc a,.sc b=>(f a b).map .sc
 | _,_=>none
def Pf (c a b:VV):Option VV :=
 match c with
 | .sc (.bool t)=>some (if t then a else b)
 | _=>none
def Vf (i:Nat) (x:VV):Option VV :=
 match x with
 | .eQ vs=>vs[i]?
 | _=>none
def QD (neg:Bool) (ks:List CK) (x y:VV):Option VV :=
 match x,y with
 | .agg a,.agg b=>(oI ks a b).map fun t => .sc (.bool (t != neg))
 | _,_=>none
def SX:Value→Option Value
 | .string s=>some (.string s)
 | _=>none
def yD:Value→Option Value
 | .string s=>some (.int .i64 s.size)
 | _=>none
def EI:Value→Value→Option Value
 | .string s,.int _ i=>if 0≤i∧i<s.size then some (.int .u8 ((s.data.toList.getD i.toNat 0).toNat:Int)) else none
 | _,_=>none
def vop (fl:Fl) (lo:Nat) (o:lT) (ρ:cR) (H:aA):Option (VV×aA) :=
 match o with
 | .mv x=>some (dI ρ x,H)
 | .pick c a b=>(Pf (dI ρ c) (dI ρ a) (dI ρ b)).map (·,H)
 | .bin op x y=>(Fv (cX op) (dI ρ x) (dI ρ y)).map (·,H)
 | .eqb neg x y=>(Fv (MS neg) (dI ρ x) (dI ρ y)).map (·,H)
 | .isnil neg x=>(Dh neg (dI ρ x) H).map (·,H)
 | .eqagg neg ks x y=>(QD neg ks (dI ρ x) (dI ρ y)).map (·,H)
 | .un op x=>(Io (VO op) (dI ρ x)).map (·,H)
 | .cvt k x=>(Io (Re k) (dI ρ x)).map (·,H)
 | .cvs x=>(Io SX (dI ρ x)).map (·,H)
 | .ext x i=>(Vf i (dI ρ x)).map (·,H)
 | .fld agg off size x=>(Y2 agg off size (dI ρ x)).map (·,H)
 | .build zero places parts=>(vH places (zero.map iL) (parts.map fun(i,x)=>(i,dI ρ x))).map fun cs=>(.agg cs,H)
 | .chk x=>(Uf (dI ρ x) H).map (·,H)
 | .faddr off x=>(EX off (dI ρ x) H).map (·,H)
 | .iaddr size x i=>(bE size (dI ρ x) (dI ρ i) H).map (·,H)
 | .sidx x i=>(Fv EI (dI ρ x) (dI ρ i)).map (·,H)
 | .ssub x l h=>(sS (dI ρ x) (l.map (dI ρ)) (h.map (dI ρ))).map (·,H)
 | .mkfn f fA=>some (.sY f (fA.map (dI ρ)),H)
 | .len x=>(oG (dI ρ x) H).map (·,H)
 | .slen x=>(Io yD (dI ρ x)).map (·,H)
 | .min x y=>(Fv PL (dI ρ x) (dI ρ y)).map (·,H)
 | .max x y=>(Fv PH (dI ρ x) (dI ρ y)).map (·,H)
 | .load agg size p=>(dU agg size (dI ρ p) H).map (·,H)
 | .sub size x l h m=>(Ei size (dI ρ x) (l.map (dI ρ)) (h.map (dI ρ)) (m.map (dI ρ)) H).map (·,H)
 |
  .b2s x=>match dI ρ x with
  | .sc _=>none
  |
   y=>match eX 1 y H with
   | some es=>(Fh es).map fun bs=>(.sc (.string ⟨bs.toArray⟩),H)
   | none=>none
 | .new zero=>if (zero.map iL).all cH then some (.ptr H.length 0 0 0,H++[.row 0 [elemOf (zero.map iL)] zero.length true]) else none
 | .box x=>if (aB (dI ρ x)).all cH then (if fl.bf then some (.cO (dI ρ x) 0,H) else some (.ptr H.length 0 0 0,H++[.row 0 [dI ρ x] (aB (dI ρ x)).length true])) else none
 | .make zero bytes l c=>if (zero.map iL).all cH then yK zero bytes (dI ρ l) (dI ρ c) H else none
 | .lit zero n parts=>rN fl.lr zero n (parts.map fun(i,x)=>(i,dI ρ x)) H
 | .store size p v=>(cQ lo size (dI ρ p) (dI ρ v) H).map fun H'=>(nX,H')
 |
  .app size bytes x y=>match eX size (dI ρ y) H with
  | some new=>gH lo size bytes (dI ρ x) new H
  | none=>none
 |
  .appz zero bytes x n=>match dI ρ n with
  | .sc (.int .i64 n)=>if 0≤n∧n*bytes≤140737488355328∧(zero.map iL).all cH then gH lo zero.length bytes (dI ρ x) (List.replicate n.toNat (elemOf (zero.map iL))) H else none
  | _=>none
 | .copy size x y=>Ls lo size (dI ρ x) (dI ρ y) H
 | .clear zero x=>(Mq lo zero (dI ρ x) H).map fun H'=>(nX,H')
 | _=>none
inductive VBx where
 | no
 | row (i:Nat) (w:Bool)
 | AW (i:Nat)
 | tree
 | bad
def nW (H:aA):VV→VBx
 | .tree [] .nil => .no
 | .tree _ _ => .tree
 | .cO _ _ => .tree
 |
  .ref b g _ _ _=>match aQ H b g with
  | some (_,_,w) => .row b w
  | none => .AW b
 |
  .ptr b g _ _=>match aQ H b g with
  | some (_,_,w) => .row b w
  | none => .AW b
 | .any => .bad
 | _ => .no
def kJ (H:aA) (x y:VV):Bool :=
 match nW H x,nW H y with
 | .bad,_=>false
 | _,.bad=>false
 | .no,_=>true
 | _,.no=>true
 | .row i _,.row j _=>i != j
 | .row i _,.AW j=>i != j
 | .AW i,.row j _=>i != j
 | .AW _,.AW _=>false
 | .AW _,.tree=>false
 | .tree,.AW _=>false
 | .row _ w,.tree=>w
 | .tree,.row _ w=>w
 | .tree,.tree=>false
def gJ (ρ:cR) (H:aA) (c:Operand×Operand):Bool:=kJ H (dI ρ c.1) (dI ρ c.2)
def zM (g:Option (Nat×Bool)) (ρ:cR):Option Bool :=
 match g with
 | none=>some true
 |
  some (t,want)=>match ρ t with
  | .sc (.bool b)=>some (b == want)
  | .eQ _=>some false
  | _=>none
def fz:Nat→aA→VV→Option VV
 | 0,_,_=>none
 |
  d+1,H,v =>
  if aR v then some v else
  match v with
  | .agg cs=>(cs.mapM (fz d H)).map .agg
  | .eQ vs=>(vs.mapM (fz d H)).map .eQ
  | .tree es _=>(es.mapM (fz d H)).map (.tree · .op)
  | .cO x o=>(fz d H x).map (.cO · o)
  |
   .ref b g o n c=>match aQ H b g with
   | some (es,_,_)=>if o+n≤es.length∧n≤c then (((es.drop o).take n).mapM (fz d H)).map (.tree · .op) else none
   | none=>none
  |
   .ptr b g j o=>match aQ H b g with
   |
    some (es,_,_)=>match es[j]? with
    | some x=>(fz d H x).map (.cO · o)
    | none=>none
   | none=>none
  | .sY f fA=>(fA.mapM (fz d H)).map (.sY f ·)
  | _=>none
def iB:Nat→aA→VV→List Nat
 | 0,_,_=>[]
 |
  d+1,H,v =>
  if aR v then [] else
  match v with
  | .agg cs=>cs.flatMap (iB d H)
  | .eQ vs=>vs.flatMap (iB d H)
  | .tree es _=>es.flatMap (iB d H)
  | .cO x _=>iB d H x
  |
   .ref b g o n _=>match aQ H b g with
   | some (es,_,_)=>b::((es.drop o).take n).flatMap (iB d H)
   | none=>[]
  |
   .ptr b g j _=>match aQ H b g with
   |
    some (es,_,_)=>match es[j]? with
    | some x=>b::iB d H x
    | none=>[]
   | none=>[]
  | .sY _ fA=>fA.flatMap (iB d H)
  | _=>[]
def Ac (H:aA) (b:Nat):aA :=
 match H[b]? with
 | some (.row g es e _)=>H.set b (.row g es e false)
 | _=>H
def cJ (H:aA) (ids:List Nat):aA:=ids.foldl Ac H
def depth:Nat:=8
end Go.PM