/- Texts of a claim, in one: part 3. -/
import Derived.Lib.ItoaNum
import Derived.Lib.Join
import Derived.Lib.BitFns
import Derived.Lib.Repeat
import Derived.Lib.Bytealg
import Derived.Lib.ParseIntB
import Derived.Test.YtodamlihdkalfaaGreatDoorChecked
import Derived.Laws.BitsLemmas
import Derived.Shelf.Strings.OnBuilder
import Derived.Shelf.Strings.Repeat
import Derived.Shelf.Small.Bits
import Derived.Shelf.Strconv.Itoa1
import Derived.Shelf.Strconv.Itoa2
import Derived.Shelf.LaysM
import Derived.Shelf.Strings.Search2
import Derived.Shelf.Pu.ParseUintPublic10
import Derived.KernelRfl
import Derived.Test.YtodamlihdkalfaaGreatDoorProg
import Derived.Lib.Walk
import Derived.Lib.ItoaMem
import Derived.WalkKit
import Derived.BigCall
import Derived.BigGuard
import Derived.Below
import Derived.Shelf.Strings.Search2
import Derived.Shelf.Pu.ParseUintPublic10
import Derived.Shelf.Strings.OnBuilder
import Derived.Shelf.Strings.Repeat
import Derived.Shelf.Small.Bits
import Derived.ProofKit
import Derived.OpenShut
import Derived.ShutString
import Derived.ChangeOld
import Derived.Carry
import Derived.SizedLaws
import Derived.Test.YtodamlihdkalfaaGreatDoorRows
import Derived.Test.YtodamlihdkalfaaGreatDoorKTb
set_option linter.unusedSimpArgs false
set_option linter.unusedVariables false
namespace Go.PM
def akZ:Ex→Exit
 | .normal => .normal
 | .exit id => .exit id
 | .ret => .ret
section
variable {P:Program} {E:zV} {n:Nat} {call:fO} {lo L0:Nat}
def MM (P:Program) (n lo L0:Nat) (c:Code) (run:Env→aD→Option (Ex×Env×aD)):Prop :=
 ∀ρ H x aS H',run ρ H=some (x,aS,H')→∀m a w,Gp n L0 m ρ H a w→L0≤H.length→(∀b,H.length≤b→b<H'.length→m b=none) →
  ∀Q:Exit→Act→World→Prop,(∀m' a' w',Gp n L0 m' aS H' a' w'→Trans lo m H w m' H' w'→Q (akZ x) a' w')→c.wp P Q a w
theorem YT {c:Code} {run:Env→aD→Option (Ex×Env×aD)} (hc:MM P n lo L0 c run) (he:∀ρ H x aS H',run ρ H=some (x,aS,H')→Ext lo H H') (N:Nat):MM P n lo L0 (.loop c) (vF run N):=by
 intro ρ H x aS H' hr m a w h hl hf Q hQ
 apply wp_loop_rounds N
 have key:∀N ρ H,vF run N ρ H=some (x,aS,H')→∀m a w,Gp n L0 m ρ H a w→L0≤H.length→(∀b,H.length≤b→b<H'.length→m b=none) →
   (∀m' a' w',Gp n L0 m' aS H' a' w'→Trans lo m H w m' H' w'→Q (akZ x) a' w')→Code.rounds P c Q N a w:=by
  intro N
  induction N with
  | zero=>intro ρ H h;cases h
  |
   succ N ih =>
   intro ρ H hr m a w h hl hf hQ
   rw[rounds_succ]
   rw[vF] at hr
   split at hr
   ·rename_i uA H1 h1
    have e1:=he _ _ _ _ _ h1
    have e2:=FQ he N hr
    refine hc ρ H _ uA H1 h1 m a w h hl (fun b Bv hb2=>hf b Bv (Nat.lt_of_lt_of_le hb2 e2.len)) _ fun m1 a1 w1 hh hT => ?_
    exact ih uA H1 hr m1 a1 w1 hh (Nat.le_trans hl e1.len) (hT.fresh e1.len hf) fun m2 a2 w2 h2 hT2=>hQ m2 a2 w2 h2 (Trans.trans hf e1 e2 hT hT2)
   ·rename_i eV
    refine hc ρ H _ aS H' hr m a w h hl hf _ fun m1 a1 w1 hh hT => ?_
    have:=hQ m1 a1 w1 hh hT
    cases x with
    | normal=>exact absurd hr (eV aS H')
    | exit id=>exact this
    | ret=>exact this
 exact key N ρ H hr m a w h hl hf hQ
theorem mN (Bp:P.follows .mixedOrders=true) (mA:uE P L0 call) (oR:pM call) (eI:L0≤lo) (N:Nat):∀(c:Code) (pc:aE),gO P E n c=some pc→MM P n lo L0 c (dJ call lo N pc)
 |
  .skip,pc,hp=>by
  cases hp
  intro ρ H x aS H' hr m a w h hl hf Q hQ
  cases hr
  exact wp_skip (hQ m a w h (Trans.refl _ _ _ _))
 |
  .region id ops draw,pc,hp=>by
  rw[gO] at hp
  cases hpr:vH P E n ops draw with
  | none=>rw[hpr] at hp;cases hp
  |
   some qY =>
   rw[hpr] at hp
   cases hp
   intro ρ H x aS H' hr m a w h hl hf Q hQ
   rw[dJ] at hr
   cases hs:gH call lo qY ρ H with
   | none=>rw[hs] at hr;cases hr
   |
    some q =>
    obtain⟨uA,H1⟩:=q
    rw[hs] at hr
    cases hr
    exact Q6 Bp mA oR hpr hs h eI hl hf hQ
 |
  .seq x y,pc,hp=>by
  rw[gO] at hp
  split at hp
  ·rename_i px py Sw hpy
   cases hp
   intro ρ H e aS H' hr m a w h hl hf Q hQ
   rw[dJ] at hr
   apply wp_seq
   split at hr
   ·rename_i uA H1 h1
    have e1:=iN oR px h1
    have e2:=iN oR py hr
    refine mN Bp mA oR eI N x px Sw ρ H _ uA H1 h1 m a w h hl (fun b Bv hb2=>hf b Bv (Nat.lt_of_lt_of_le hb2 e2.len)) _ fun m1 a1 w1 hh hT => ?_
    exact mN Bp mA oR eI N y py hpy uA H1 _ aS H' hr m1 a1 w1 hh (Nat.le_trans hl e1.len) (hT.fresh e1.len hf) Q fun m2 a2 w2 h2 hT2=>hQ m2 a2 w2 h2 (Trans.trans hf e1 e2 hT hT2)
   ·rename_i eV
    refine mN Bp mA oR eI N x px Sw ρ H _ aS H' hr m a w h hl hf _ fun m1 a1 w1 hh hT => ?_
    have:=hQ m1 a1 w1 hh hT
    cases e with
    | normal=>exact absurd hr (eV aS H')
    | exit id=>exact this
    | ret=>exact this
  ·cases hp
 |
  .cond o x y,pc,hp=>by
  rw[gO] at hp
  split at hp
  ·rename_i AI
   split at hp
   ·rename_i px py Sw hpy
    cases hp
    intro ρ H e aS H' hr m a w h hl hf Q hQ
    rw[dJ] at hr
    split at hr
    ·rename_i t ht
     have QK:=R2 (a:=a) (m:=m) (ρ:=ρ) AI fun t _=>h.env t
     rw[ht] at QK
     generalize hev:a.eval o=ro at QK
     cases QK
     refine wp_cond hev ?_
     cases t with
     | true=>exact mN Bp mA oR eI N x px Sw ρ H _ aS H' hr m a w h hl hf Q hQ
     | false=>exact mN Bp mA oR eI N y py hpy ρ H _ aS H' hr m a w h hl hf Q hQ
    ·cases hr
   ·cases hp
  ·cases hp
 |
  .block id x,pc,hp=>by
  rw[gO] at hp
  cases Sw:gO P E n x with
  | none=>rw[Sw] at hp;cases hp
  |
   some px =>
   rw[Sw] at hp
   cases hp
   intro ρ H e aS H' hr m a w h hl hf Q hQ
   rw[dJ] at hr
   apply wp_block
   split at hr
   ·rename_i OA uA H1 h1
    split at hr
    ·rename_i hid
     cases hr
     refine mN Bp mA oR eI N x px Sw ρ H _ aS H' h1 m a w h hl hf _ fun m1 a1 w1 hh hT => ?_
     have:=hQ m1 a1 w1 hh hT
     show Exit.inBlock id Q (.exit OA) a1 w1
     simp only[Exit.inBlock,if_pos hid]
     exact this
    ·rename_i hid
     cases hr
     refine mN Bp mA oR eI N x px Sw ρ H _ aS H' h1 m a w h hl hf _ fun m1 a1 w1 hh hT => ?_
     have:=hQ m1 a1 w1 hh hT
     show Exit.inBlock id Q (.exit OA) a1 w1
     simp only[Exit.inBlock,if_neg hid]
     exact this
   ·rename_i eV
    refine mN Bp mA oR eI N x px Sw ρ H _ aS H' hr m a w h hl hf _ fun m1 a1 w1 hh hT => ?_
    have:=hQ m1 a1 w1 hh hT
    cases e with
    | normal=>exact this
    | exit OA=>exact absurd hr (eV OA aS H')
    | ret=>exact this
 |
  .loop x,pc,hp=>by
  rw[gO] at hp
  cases Sw:gO P E n x with
  | none=>rw[Sw] at hp;cases hp
  |
   some px =>
   rw[Sw] at hp
   cases hp
   have hx:=mN Bp mA oR eI N x px Sw
   intro ρ H e aS H' hr
   rw[dJ] at hr
   exact YT hx (fun ρ H x aS H' h=>iN oR px h) N ρ H e aS H' hr
 |
  .exit id,pc,hp=>by
  cases hp
  intro ρ H x aS H' hr m a w h hl hf Q hQ
  cases hr
  exact wp_exit (hQ m a w h (Trans.refl _ _ _ _))
 |
  .ret,pc,hp=>by
  cases hp
  intro ρ H x aS H' hr m a w h hl hf Q hQ
  cases hr
  exact wp_ret (hQ m a w h (Trans.refl _ _ _ _))
 | .rangeFunc ..,pc,hp=>by cases hp
 | .scope _,pc,hp=>by cases hp
 | .label _,pc,hp=>by cases hp
 | .goto _,pc,hp=>by cases hp
 | .refuse _,pc,hp=>by cases hp
def wX (P:Program):ResultVar→Option yZ
 | .tmp t=>some (.tmp t)
 | .cell t ty=>(kM P ty).map fun(agg,size,_,_) => .cell t agg size
def J7 (a:Act):ResultVar→Sem Value
 | .tmp t=>pure (a.tmps.getD t undef)
 | .cell x t=>do loadVar t (←asAddr (a.tmps.getD x undef))
theorem apE {m:dC} {ρ:Env} {H:aD} {a:Act} {w:World} (h:Gp n L0 m ρ H a w) {r:ResultVar} {pr:yZ} (hp:wX P r=some pr) {v:Value} (hv:SO ρ H pr=some v) :
  ∃rv,RV m v rv∧(J7 a r).run P w = .ok rv w:=by
 cases r with
 |
  tmp t =>
  cases hp
  cases hv
  exact⟨_,h.env t,rfl⟩
 |
  cell x t =>
  simp only[wX] at hp
  cases ht:kM P t with
  | none=>rw[ht] at hp;cases hp
  |
   some q =>
   obtain⟨agg,size,z,nb⟩:=q
   rw[ht] at hp
   cases hp
   obtain⟨rv,h1,h2⟩:=Mk ht hv h.rel (h.env x)
   refine⟨rv,h1,?_⟩
   unfold J7
   have hpv:=h.env x
   simp only[SO,lW] at hv
   split at hv
   ·rename_i b o hb
    rw[hb] at hpv
    show (do loadVar t (←asAddr (a.tmps.getD x undef)):Sem Value).run P w=_
    generalize a.tmps.getD x undef=rp at h2 hpv ⊢
    cases hpv
    exact h2
   ·cases hv
theorem WK {m:dC} {ρ:Env} {H:aD} {a:Act} {w:World} (h:Gp n L0 m ρ H a w):∀ {rs:List ResultVar} {prs:List yZ} {vs:List Value},rs.mapM (wX P)=some prs→Ae ρ H prs=some vs →
  ∃V6,RL m vs V6∧(rs.mapM (J7 a)).run P w = .ok V6 w
 |
  [],prs,vs,hp,hv=>by
  simp at hp
  subst hp
  cases hv
  exact⟨[],RL.nil m,rfl⟩
 |
  r::rs,prs,vs,hp,hv=>by
  simp only[List.mapM_cons,Option.pure_def,Option.bind_eq_bind] at hp
  cases h1:wX P r with
  | none=>rw[h1] at hp;cases hp
  |
   some pr =>
   rw[h1] at hp
   cases h2:rs.mapM (wX P) with
   | none=>rw[h2] at hp;cases hp
   |
    some aA8 =>
    rw[h2] at hp
    cases hp
    simp only[Ae] at hv
    split at hv
    ·rename_i v vs' hv1 hv2
     cases hv
     obtain⟨rv,g1,g2⟩:=apE h h1 hv1
     obtain⟨V6,g3,g4⟩:=WK h h2 hv2
     refine⟨rv::V6,RL.cons g1 g3,?_⟩
     rw[List.mapM_cons,Sem.run_bind,g2,Result.andThen_ok,Sem.run_bind,g4]
     rfl
    ·cases hv
theorem GI {m:dC} {ρ:Env} {H:aD} {a:Act} {w:World} (h:Gp n L0 m ρ H a w) {fn:Func} {prs:List yZ} (hp:fn.results.toList.mapM (wX P)=some prs) {v:Value} (hv:oM prs ρ H=some v) :
  ∃rv,RV m v rv∧(results fn a.tmps).run P w = .ok rv w:=by
 unfold oM at hv
 cases nF:Ae ρ H prs with
 | none=>rw[nF] at hv;cases hv
 |
  some vs =>
  obtain⟨V6,h1,h2⟩:=WK h hp nF
  rw[nF] at hv
  have nC:∀rv,(if h:V6.toArray.size=1 then V6.toArray[0] else .tuple V6.toArray)=rv→(results fn a.tmps).run P w = .ok rv w:=by
   intro rv QK
   have e:results fn a.tmps=(do let vs ←fn.results.mapM (J7 a);pure (if h:vs.size=1 then vs[0] else .tuple vs)):=by
    unfold results
    congr 2
   rw[e,Array.mapM_eq_mapM_toList,Sem.run_bind]
   have:(List.toArray <$> fn.results.toList.mapM (J7 a)).run P w = .ok V6.toArray w:=by
    rw[map_eq_pure_bind,Sem.run_bind,h2]
    rfl
   rw[this,←QK]
   rfl
  clear h2 nF
  rcases vs with _ | ⟨x,_ | ⟨y,xs⟩⟩
  ·rcases V6 with _ | ⟨x',ys⟩
   ·cases hv
    exact⟨_,h1.Sy,nC _ rfl⟩
   ·cases h1.1
  ·rcases V6 with _ | ⟨x',_ | ⟨y',ys⟩⟩
   ·cases h1.1
   ·cases hv
    exact⟨x',h1.iT.1,nC x' rfl⟩
   ·cases h1.1
  ·rcases V6 with _ | ⟨x',_ | ⟨y',ys⟩⟩
   ·cases h1.1
   ·cases h1.1
   ·cases hv
    exact⟨_,h1.Sy,nC _ (by simp)⟩
end
end Go.PM
namespace Go.PM
def YL (P:Program) (E:zV) (L0:Nat):Prop :=
 ∀f p,E.zD f=some p→Jd P f∧∀args H v,p args H=some v→∀m w fX,Rel m L0 H w→RL m args fX →
  Calls P f fX.toArray w fun e w'=>∃rv,e = .returned rv∧RV m v rv∧w.heap.size≤w'.heap.size∧(∀rb,rb<w.heap.size→w'.heap[rb]? = w.heap[rb]?)∧w'.os=w.os∧w'.output=w.output∧w'.tape=w.tape
theorem Rel.more {m:dC} {L0:Nat} {H:aD} {w w':World} (h:Rel m L0 H w) (hk:∀rb,rb<w.heap.size→w'.heap[rb]? = w.heap[rb]?):Rel m L0 H w':=by
 have hv:∀b l,m b=some l→l.rb<w.heap.size:=fun b l hb=>by
  obtain⟨arr,e,fz,h1,_⟩:=h.valid b l hb
  exact(Array.getElem?_eq_some_iff.1 h1).1
 refine⟨fun b l hb=>by rw[hk _ (hv b l hb)];exact h.valid b l hb,fun b l cs e p hm hb => ?_,h.inj,fun x hx=>⟨?_,(h.BB x hx).2⟩⟩
 ·obtain⟨h1,h2,h3,h4⟩:=h.row b l cs e p hm hb
  refine⟨h1,h2,h3,fun i hi => ?_⟩
  obtain⟨rv,g1,g2⟩:=h4 i hi
  refine⟨rv,?_,g2⟩
  rw[←g1]
  unfold World.cell?
  simp only[hk _ (hv b l hm)]
 ·obtain⟨e,fz,g1⟩:=(h.BB x hx).1
  exact⟨e,fz,by rw[hk _ (Array.getElem?_eq_some_iff.1 g1).1];exact g1⟩
theorem XV {P:Program} {E:zV} {f:Nat} {pf:aT} (h:OW P E f=some pf):∃fn c,P.funcs[f]? = some fn∧fn.body=some c∧(fn.name == "runtime.NumGoroutine")=false∧fn.results.toList.mapM (wX P)=some pf.res∧gO P E fn.ntmps c=some pf.body∧pf.ntmps=fn.ntmps:=by
 unfold OW at h
 cases hf:P.funcs[f]? with
 | none=>rw[hf] at h;cases h
 |
  some fn =>
  rw[hf] at h
  have h':Jp P E fn=some pf:=h
  unfold Jp at h'
  cases hb:fn.body with
  | none=>rw[hb] at h';cases h'
  |
   some c =>
   rw[hb] at h'
   simp only at h'
   split at h'
   ·cases h'
   ·rename_i WL
    split at h'
    ·cases h'
    ·rename_i res Xe
     cases hc:gO P E fn.ntmps c with
     | none=>rw[hc] at h';cases h'
     |
      some body =>
      rw[hc] at h'
      cases h'
      refine⟨fn,c,rfl,hb,by simpa using WL,?_,hc,rfl⟩
      have e:(fun(r:ResultVar)=>match r with
       | .tmp t=>some (yZ.tmp t)
       | .cell t ty=>(kM P ty).map fun(agg,size,_,_) => .cell t agg size)=wX P:=by
       funext r
       cases r<;>rfl
      rw[←e]
      exact Xe
theorem Fx {P:Program} {E:zV} {T:Xs} {L0:Nat} (Bp:P.follows .mixedOrders=true) (Yd:YL P E L0) (hT:∀f pf,T f=some pf→OW P E f=some pf):∀n,uE P L0 (kO E T n)
 | 0=>fun f args lo H v H' h=>by cases h
 |
  n+1=>fun f args lo H v H' h m w fX hR eI hlen Qz hf=>by
  have oR:=Cy E T n
  rw[kO] at h
  split at h
  ·rename_i p hp
   obtain⟨hco,apO⟩:=Yd f p hp
   refine⟨hco,?_⟩
   cases hpv:p args H with
   | none=>rw[hpv] at h;cases h
   |
    some u =>
    rw[hpv] at h
    cases h
    refine(apO args H v hpv m w fX hR Qz).mono ?_
    rintro e w' ⟨rv,rfl,h1,h2,h3,h4⟩
    exact⟨m,rv,rfl,h1,hR.more h3,fun _ _ h=>h,fun b l hb hn=>(by rw[hb] at hn;cases hn),h2,fun rb BV _=>h3 rb BV,h4⟩
  ·split at h
   ·cases h
   ·rename_i pf hpf
    obtain⟨fn,c,h1,h2,h3,h4,h5,h6⟩:=XV (hT _ _ hpf)
    split at h
    case isFalse=>cases h
    rename_i vK
    refine⟨⟨fn,h1,h3,by rw[h2];rfl⟩,calls_of_wp h1 h2 ?_⟩
    have Bf:fX.toArray.size≤fn.ntmps:=by
     have:=Qz.1
     simp;omega
    have hH:Gp fn.ntmps L0 m (VF args) H { tmps:=fX.toArray++Array.replicate (fn.ntmps-fX.toArray.size) undef,defers:=[] } w:=by
     refine⟨by simp at Bf ⊢;omega,rfl,fun t => ?_,hR⟩
     rcases Nat.lt_or_ge t args.length with ht | ht
     ·have h7:=Qz.2 t ht
      have ZI:t<fX.length:=by rw[←Qz.1];exact ht
      have e:(fX.toArray++Array.replicate (fn.ntmps-fX.toArray.size) undef).getD t undef=fX.getD t undef:=by
       rw[Array.getD_eq_getD_getElem?,Array.getElem?_append_left (by simpa using ZI)]
       simp
      show RV m (args.getD t undef) _
      rw[e]
      exact h7
     ·have e1:args.getD t undef=undef:=by simp[List.getD_eq_getElem?_getD,List.getElem?_eq_none ht]
      have ZI:fX.length≤t:=by rw[←Qz.1];exact ht
      have e2:(fX.toArray++Array.replicate (fn.ntmps-fX.toArray.size) undef).getD t undef=undef:=by
       rw[Array.getD_eq_getD_getElem?,Array.getElem?_append_right (by simpa using ZI)]
       rw[Array.getElem?_replicate]
       split<;>rfl
      show RV m (args.getD t undef) _
      rw[e1,e2]
      exact RV.undef m
    split at h
    ·rename_i uA H1 nC
     cases hr:oM pf.res uA H1 with
     | none=>rw[hr] at h;cases h
     |
      some u =>
      rw[hr] at h
      cases h
      refine mN Bp (Fx Bp Yd hT n) oR eI n c pf.body h5 _ _ _ _ _ nC m _ w hH hlen hf _ fun m' a' w' hh hTr => ?_
      obtain⟨rv,g1,g2⟩:=GI hh h4 hr
      exact⟨hh.defs,rv,g2,m',rv,rfl,g1,hh.rel,hTr⟩
    ·rename_i uA H1 nC
     cases hr:oM pf.res uA H1 with
     | none=>rw[hr] at h;cases h
     |
      some u =>
      rw[hr] at h
      cases h
      refine mN Bp (Fx Bp Yd hT n) oR eI n c pf.body h5 _ _ _ _ _ nC m _ w hH hlen hf _ fun m' a' w' hh hTr => ?_
      obtain⟨rv,g1,g2⟩:=GI hh h4 hr
      exact⟨hh.defs,rv,g2,m',rv,rfl,g1,hh.rel,hTr⟩
    ·cases h
end Go.PM
namespace Go.PM
def CLe (c c':fO):Prop:=∀f args lo H r,c f args lo H=some r→c' f args lo H=some r
section
variable {c c':fO} {lo:Nat}
theorem Me (h:CLe c c') {i:PI} {ρ:Env} {H:aD} {r:Value×aD} (hr:wV c lo i ρ H=some r):wV c' lo i ρ H=some r:=by
 unfold wV at hr ⊢
 split at hr
 ·cases hr
 ·exact hr
 ·split at hr
  ·rename_i NO
   rw[if_pos NO]
   split at hr
   ·exact hr
   ·exact h _ _ _ _ _ hr
   ·cases hr
  ·cases hr
theorem Ro (h:CLe c c') {i:PI} {ρ:Env} {H:aD} {r:Env×aD} (hr:wC c lo i ρ H=some r):wC c' lo i ρ H=some r:=by
 unfold wC at hr ⊢
 split at hr
 ·rename_i v H' hv
  rw[Me h hv]
  exact hr
 ·cases hr
theorem xM (h:CLe c c'):∀ {is:List PI} {ρ:Env} {H:aD} {r:Env×aD},gH c lo is ρ H=some r→gH c' lo is ρ H=some r
 | [],_,_,_,hr=>hr
 |
  i::is,ρ,H,r,hr=>by
  rw[gH] at hr ⊢
  split at hr
  ·rename_i h1
   rw[Ro h h1]
   exact xM h hr
  ·cases hr
theorem vL {b b':Env→aD→Option (Ex×Env×aD)} (h:∀ρ H r,b ρ H=some r→b' ρ H=some r):∀ {n n':Nat} {ρ:Env} {H:aD} {r:Ex×Env×aD},n≤n'→vF b n ρ H=some r→vF b' n' ρ H=some r
 | 0,_,_,_,_,_,hr=>by cases hr
 | n+1,0,_,_,_,hn,_=>by omega
 |
  n+1,n'+1,ρ,H,r,hn,hr=>by
  rw[vF] at hr ⊢
  split at hr
  ·rename_i h1
   rw[h _ _ _ h1]
   exact vL h (by omega) hr
  ·rename_i eV
   rw[h _ _ _ hr]
   split
   ·rename_i aS H' he
    cases he
    exact absurd hr (eV _ _)
   ·rfl
theorem eJ (h:CLe c c') {n n':Nat} (hn:n≤n'):∀(p:aE) {ρ:Env} {H:aD} {r:Ex×Env×aD},dJ c lo n p ρ H=some r→dJ c' lo n' p ρ H=some r
 | .skip,_,_,_,hr=>hr
 |
  .eG ops,ρ,H,r,hr=>by
  rw[dJ] at hr ⊢
  cases hs:gH c lo ops ρ H with
  | none=>rw[hs] at hr;cases hr
  | some q=>rw[hs] at hr;rw[xM h hs];exact hr
 |
  .seq a b,ρ,H,r,hr=>by
  rw[dJ] at hr ⊢
  split at hr
  ·rename_i h1
   rw[eJ h hn a h1]
   exact eJ h hn b hr
  ·rename_i eV
   rw[eJ h hn a hr]
   split
   ·rename_i he;cases he;exact absurd hr (eV _ _)
   ·rfl
 |
  .cond x a b,ρ,H,r,hr=>by
  rw[dJ] at hr ⊢
  split at hr
  ·split at hr
   ·rename_i ht;rw[if_pos ht];exact eJ h hn a hr
   ·rename_i ht;rw[if_neg ht];exact eJ h hn b hr
  ·cases hr
 |
  .block id a,ρ,H,r,hr=>by
  rw[dJ] at hr ⊢
  split at hr
  ·rename_i h1
   rw[eJ h hn a h1]
   exact hr
  ·rename_i eV
   rw[eJ h hn a hr]
   split
   ·rename_i he;cases he;exact absurd hr (eV _ _ _)
   ·rfl
 |
  .loop a,ρ,H,r,hr=>by
  rw[dJ] at hr ⊢
  exact vL (fun ρ H r hr=>eJ h hn a hr) hn hr
 | .exit id,_,_,_,hr=>hr
 | .ret,_,_,_,hr=>hr
theorem AE (E:zV) (T:Xs):∀n,CLe (kO E T n) (kO E T (n+1))
 | 0,_,_,_,_,_,hr=>by cases hr
 |
  n+1,f,args,lo,H,r,hr=>by
  rw[kO] at hr ⊢
  split at hr
  ·exact hr
  ·split at hr
   ·cases hr
   ·split at hr
    ·rename_i pf _ ha
     rw[if_pos ha]
     split at hr
     ·rename_i h1
      rw[eJ (AE E T n) (Nat.le_succ n) pf.body h1]
      exact hr
     ·rename_i h1
      rw[eJ (AE E T n) (Nat.le_succ n) pf.body h1]
      exact hr
     ·cases hr
    ·cases hr
theorem mE (E:zV) (T:Xs) {n n':Nat} (h:n≤n'):CLe (kO E T n) (kO E T n'):=by
 induction h with
 | refl=>exact fun _ _ _ _ _ h=>h
 | step _ ih=>exact fun f args lo H r hr=>AE E T _ f args lo H r (ih f args lo H r hr)
end
section
variable (E:zV) (T:Xs)
open Classical in
noncomputable def lim {α:Type} (run:Nat→Option α):Option α:=if h:∃r,∃n,run n=some r then some (Classical.choose h) else none
theorem Tc {α:Type} {run:Nat→Option α} (hm:∀n n' r,n≤n'→run n=some r→run n'=some r) {r:α}:lim run=some r↔∃n,run n=some r:=by
 unfold lim
 constructor
 ·intro h
  split at h
  ·rename_i hx
   cases h
   exact Classical.choose_spec hx
  ·cases h
 ·rintro⟨n,hn⟩
  have hx:∃r,∃n,run n=some r:=⟨r,n,hn⟩
  rw[dif_pos hx]
  obtain⟨n',hn'⟩:=Classical.choose_spec hx
  have h1:=hm n (max n n') r (Nat.le_max_left _ _) hn
  have h2:=hm n' (max n n') _ (Nat.le_max_right _ _) hn'
  rw[h1] at h2
  injection h2 with h2
  rw[←h2]
noncomputable def call:fO:=fun f args lo H=>lim fun n=>kO E T n f args lo H
noncomputable def code (lo:Nat) (c:aE) (ρ:Env) (H:aD):Option (Ex×Env×aD):=lim fun n=>dJ (kO E T n) lo n c ρ H
theorem sI {f:Nat} {args:List Value} {lo:Nat} {H:aD} {r:Value×aD}:call E T f args lo H=some r↔∃n,kO E T n f args lo H=some r :=
 Tc fun _ _ r h hr=>mE E T h f args lo H r hr
theorem cA {lo:Nat} {c:aE} {ρ:Env} {H:aD} {r:Ex×Env×aD}:code E T lo c ρ H=some r↔∃n,dJ (kO E T n) lo n c ρ H=some r :=
 Tc fun _ _ _ h hr=>eJ (mE E T h) h c hr
theorem Je {lo:Nat}:∀ {is:List PI} {ρ:Env} {H:aD} {r:Env×aD},gH (call E T) lo is ρ H=some r↔∃n,gH (kO E T n) lo is ρ H=some r:=by
 have le:∀n,CLe (kO E T n) (call E T):=fun n f args lo H r hr=>(sI E T).2 ⟨n,hr⟩
 have val:∀ {i:PI} {ρ:Env} {H:aD} {r:Value×aD},wV (call E T) lo i ρ H=some r→∃n,wV (kO E T n) lo i ρ H=some r:=by
  intro i ρ H r hr
  unfold wV at hr ⊢
  split at hr
  ·cases hr
  ·exact⟨0,hr⟩
  ·split at hr
   ·rename_i NO
    split at hr
    ·exact⟨0,by rw[if_pos NO];exact hr⟩
    ·obtain⟨n,hn⟩:=(sI E T).1 hr
     exact⟨n,by rw[if_pos NO];exact hn⟩
    ·cases hr
   ·cases hr
 intro is
 induction is with
 | nil=>exact fun {ρ H r}=>⟨fun h=>⟨0,h⟩,fun⟨_,h⟩=>h⟩
 |
  cons i is ih =>
  intro ρ H r
  constructor
  ·intro h
   rw[gH] at h
   split at h
   ·rename_i uA H1 h1
    obtain⟨v,hv,rfl⟩:=vO h1
    obtain⟨n1,hn1⟩:=val hv
    obtain⟨n2,hn2⟩:=ih.1 h
    refine⟨max n1 n2,?_⟩
    rw[gH]
    have e:wC (kO E T (max n1 n2)) lo i ρ H=some (put ρ i.dst v,H1):=by
     unfold wC
     rw[Me (mE E T (Nat.le_max_left n1 n2)) hn1]
    rw[e]
    exact xM (mE E T (Nat.le_max_right n1 n2)) hn2
   ·cases h
  ·rintro⟨n,h⟩
   exact xM (le n) h
theorem Aj {α:Type} {a b:Option α} (h:∀r,a=some r↔b=some r):a=b:=by
 cases a with
 |
  none =>
  cases b with
  | none=>rfl
  | some y=>exact((h y).2 rfl)
 | some x=>exact((h x).1 rfl).symm
variable {lo:Nat} {ρ:Env} {H:aD}
theorem U6:code E T lo .skip ρ H=some (.normal,ρ,H):=(cA E T).2 ⟨0,rfl⟩
theorem U2 {id:Nat}:code E T lo (.exit id) ρ H=some (.exit id,ρ,H):=(cA E T).2 ⟨0,rfl⟩
theorem Yp:code E T lo .ret ρ H=some (.ret,ρ,H):=(cA E T).2 ⟨0,rfl⟩
theorem W3 {ops:List PI}:code E T lo (.eG ops) ρ H=(gH (call E T) lo ops ρ H).map fun(aS,H')=>(.normal,aS,H'):=by
 refine Aj fun r => ?_
 rw[cA]
 constructor
 ·rintro⟨n,h⟩
  rw[dJ] at h
  cases hs:gH (kO E T n) lo ops ρ H with
  | none=>rw[hs] at h;cases h
  |
   some q =>
   rw[hs] at h
   rw[(Je E T).2 ⟨n,hs⟩]
   exact h
 ·intro h
  cases hs:gH (call E T) lo ops ρ H with
  | none=>rw[hs] at h;cases h
  |
   some q =>
   rw[hs] at h
   obtain⟨n,hn⟩:=(Je E T).1 hs
   exact⟨n,by rw[dJ,hn];exact h⟩
theorem YP {a b:aE}:code E T lo (.seq a b) ρ H=match code E T lo a ρ H with
  | some (.normal,aS,H')=>code E T lo b aS H'
  | r=>r:=by
 refine Aj fun r => ?_
 rw[cA]
 constructor
 ·rintro⟨n,h⟩
  rw[dJ] at h
  split at h
  ·rename_i h1
   rw[(cA E T).2 ⟨n,h1⟩]
   exact(cA E T).2 ⟨n,h⟩
  ·rename_i eV
   rw[(cA E T).2 ⟨n,h⟩]
   split
   ·rename_i he;cases he;exact absurd h (eV _ _)
   ·rfl
 ·intro h
  split at h
  ·rename_i h1
   obtain⟨n1,h1⟩:=(cA E T).1 h1
   obtain⟨n2,h2⟩:=(cA E T).1 h
   refine⟨max n1 n2,?_⟩
   rw[dJ,eJ (mE E T (Nat.le_max_left n1 n2)) (Nat.le_max_left n1 n2) a h1]
   exact eJ (mE E T (Nat.le_max_right n1 n2)) (Nat.le_max_right n1 n2) b h2
  ·rename_i eV
   obtain⟨n,h1⟩:=(cA E T).1 h
   refine⟨n,?_⟩
   rw[dJ,h1]
   split
   ·rename_i he;cases he;exact absurd h (eV _ _)
   ·rfl
theorem Vn {x:Operand} {a b:aE}:code E T lo (.cond x a b) ρ H=match ev ρ x with
  | .bool t=>if t then code E T lo a ρ H else code E T lo b ρ H
  | _=>none:=by
 refine Aj fun r => ?_
 rw[cA]
 constructor
 ·rintro⟨n,h⟩
  rw[dJ] at h
  split at h
  ·rename_i t he
   rw[he]
   show (if t=true then code E T lo a ρ H else code E T lo b ρ H)=some r
   split at h
   ·rename_i ht;rw[if_pos ht];exact(cA E T).2 ⟨n,h⟩
   ·rename_i ht;rw[if_neg ht];exact(cA E T).2 ⟨n,h⟩
  ·cases h
 ·intro h
  split at h
  ·rename_i t he
   split at h
   ·rename_i ht
    obtain⟨n,h⟩:=(cA E T).1 h
    refine⟨n,?_⟩
    rw[dJ,he]
    show (if t=true then _ else _)=_
    rw[if_pos ht]
    exact h
   ·rename_i ht
    obtain⟨n,h⟩:=(cA E T).1 h
    refine⟨n,?_⟩
    rw[dJ,he]
    show (if t=true then _ else _)=_
    rw[if_neg ht]
    exact h
  ·cases h
theorem Sb {id:Nat} {a:aE}:code E T lo (.block id a) ρ H=match code E T lo a ρ H with
  | some (.exit OA,aS,H')=>if OA=id then some (.normal,aS,H') else some (.exit OA,aS,H')
  | r=>r:=by
 refine Aj fun r => ?_
 rw[cA]
 constructor
 ·rintro⟨n,h⟩
  rw[dJ] at h
  split at h
  ·rename_i h1
   rw[(cA E T).2 ⟨n,h1⟩]
   exact h
  ·rename_i eV
   rw[(cA E T).2 ⟨n,h⟩]
   split
   ·rename_i he;cases he;exact absurd h (eV _ _ _)
   ·rfl
 ·intro h
  split at h
  ·rename_i h1
   obtain⟨n,h1⟩:=(cA E T).1 h1
   exact⟨n,by rw[dJ,h1];exact h⟩
  ·rename_i eV
   obtain⟨n,h1⟩:=(cA E T).1 h
   refine⟨n,?_⟩
   rw[dJ,h1]
   split
   ·rename_i he;cases he;exact absurd h (eV _ _ _)
   ·rfl
theorem T6 {a:aE}:code E T lo (.loop a) ρ H=match code E T lo a ρ H with
  | some (.normal,aS,H')=>code E T lo (.loop a) aS H'
  | r=>r:=by
 refine Aj fun r => ?_
 rw[cA]
 constructor
 ·rintro⟨n,h⟩
  rw[dJ] at h
  cases n with
  | zero=>cases h
  |
   succ n =>
   rw[vF] at h
   split at h
   ·rename_i h1
    rw[(cA E T).2 ⟨n+1,h1⟩]
    refine(cA E T).2 ⟨n+1,?_⟩
    rw[dJ]
    exact vL (fun _ _ _ h=>h) (Nat.le_succ n) h
   ·rename_i eV
    rw[(cA E T).2 ⟨n+1,h⟩]
    split
    ·rename_i he;cases he;exact absurd h (eV _ _)
    ·rfl
 ·intro h
  split at h
  ·rename_i h1
   obtain⟨n1,h1⟩:=(cA E T).1 h1
   obtain⟨n2,h2⟩:=(cA E T).1 h
   refine⟨max n1 n2+1,?_⟩
   have g1:=eJ (mE E T (show n1≤max n1 n2+1 by omega)) (show n1≤max n1 n2+1 by omega) a h1
   rw[dJ,vF,g1]
   rw[dJ] at h2
   exact vL (fun _ _ _ h=>eJ (mE E T (show n2≤max n1 n2+1 by omega)) (show n2≤max n1 n2+1 by omega) a h) (show n2≤max n1 n2 by omega) h2
  ·rename_i eV
   obtain⟨n,h1⟩:=(cA E T).1 h
   refine⟨n+1,?_⟩
   rw[dJ,vF,eJ (AE E T n) (Nat.le_succ n) a h1]
   split
   ·rename_i he;cases he;exact absurd h (eV _ _)
   ·rfl
noncomputable def afQ (lo:Nat) (pf:aT) (args:List Value) (H:aD):Option (Value×aD) :=
 if args.length≤pf.ntmps then
  match code E T lo pf.body (VF args) H with
  | some (.normal,ρ,H') | some (.ret,ρ,H')=>(oM pf.res ρ H').map (·,H')
  | _=>none
 else none
theorem Uc {f:Nat} {p:List Value→aD→Option Value} (h:E.zD f=some p) {args:List Value}:call E T f args lo H=(p args H).map (·,H):=by
 refine Aj fun r => ?_
 rw[sI]
 constructor
 ·rintro⟨n,hr⟩
  cases n with
  | zero=>cases hr
  | succ n=>rw[kO,h] at hr;exact hr
 ·intro hr
  exact⟨1,by rw[kO,h];exact hr⟩
theorem abM {f:Nat} {pf:aT} (hp:E.zD f=none) (h:T f=some pf) {args:List Value}:call E T f args lo H=afQ E T lo pf args H:=by
 refine Aj fun r => ?_
 rw[sI]
 unfold afQ
 constructor
 ·rintro⟨n,hr⟩
  cases n with
  | zero=>cases hr
  |
   succ n =>
   rw[kO,hp,h] at hr
   simp only at hr
   split at hr
   ·rename_i ha
    rw[if_pos ha]
    split at hr
    ·rename_i h1
     rw[(cA E T).2 ⟨n,h1⟩]
     exact hr
    ·rename_i h1
     rw[(cA E T).2 ⟨n,h1⟩]
     exact hr
    ·cases hr
   ·cases hr
 ·intro hr
  split at hr
  ·rename_i ha
   split at hr
   ·rename_i h1
    obtain⟨n,h1⟩:=(cA E T).1 h1
    exact⟨n+1,by rw[kO,hp,h];simp only;rw[if_pos ha,h1];exact hr⟩
   ·rename_i h1
    obtain⟨n,h1⟩:=(cA E T).1 h1
    exact⟨n+1,by rw[kO,hp,h];simp only;rw[if_pos ha,h1];exact hr⟩
   ·cases hr
  ·cases hr
end
end Go.PM
namespace Go.PM
theorem Ch {H H':aD} {lo jF b o:Nat} {new:List Value} (hl:jF≤lo) (h:H.write lo b o new=some H'):H.write jF b o new=some H':=by
 unfold aD.write at h ⊢
 split at h
 ·split at h
  ·rename_i hc
   rw[if_pos ⟨by omega,hc.2⟩]
   exact h
  ·cases h
 ·cases h
theorem Ax {α β:Type} {a b:Option α} {f:α→β} {r:β} (Io:∀x,a=some x→b=some x) (h:a.map f=some r):b.map f=some r:=by
 cases a with
 | none=>cases h
 | some x=>rw[Io x rfl];exact h
theorem He {lo jF size bytes add:Nat} {x:Value} {new:List Value} {H:aD} {r:Value×aD} (hl:jF≤lo) (h:dX lo size bytes x add new H=some r):dX jF size bytes x add new H=some r:=by
 unfold dX at h ⊢
 split at h
 case isFalse=>cases h
 rename_i hc
 rw[if_pos hc]
 split at h
 ·exact h
 ·split at h
  ·split at h
   ·rename_i h1
    skip
    rw[if_pos h1]
    split at h
    ·rename_i h2
     rw[if_pos h2]
     split at h
     ·rename_i h3;rw[if_pos h3];exact h
     ·rename_i h3
      rw[if_neg h3]
      exact Ax (fun H' hw=>Ch hl hw) h
    ·rename_i h2
     rw[if_neg h2]
     split at h
     ·rename_i h3
      rw[if_pos h3]
      split at h
      ·rename_i h4
       rw[if_pos h4]
       split at h
       ·rename_i h5;rw[if_pos (by omega)];exact h
       ·cases h
      ·rename_i h4;rw[if_neg h4];exact h
     ·cases h
   ·cases h
  ·cases h
 ·cases h
theorem TP {lo jF:Nat} {p:lM} {ρ:Env} {H:aD} {o:Out} (hl:jF≤lo) (h:pop lo p ρ H=some o):pop jF p ρ H=some o:=by
 cases p<;>first | exact h | skip
 case store size q v =>
  simp only[pop] at h ⊢
  split at h
  ·split at h
   ·rename_i h1
    skip
    rw[if_pos h1]
    exact Ax (fun H' hw=>Ch hl hw) h
   ·cases h
  ·cases h
 case app size bytes x y =>
  simp only[pop] at h ⊢
  split at h
  ·split at h
   ·skip
    exact Ax (fun H' hw=>He hl hw) h
   ·cases h
  ·cases h
 case appz z bytes x n =>
  simp only[pop] at h ⊢
  split at h
  ·split at h
   ·rename_i h1
    skip
    rw[if_pos h1]
    exact Ax (fun H' hw=>He hl hw) h
   ·cases h
  ·cases h
 case copy size x y =>
  simp only[pop] at h ⊢
  split at h
  ·exact h
  ·split at h
   ·skip
    exact Ax (fun H' hw=>Ch hl hw) h
   ·cases h
  ·cases h
 case clear z x =>
  simp only[pop] at h ⊢
  split at h
  ·exact h
  ·skip
   split at h
   ·rename_i h1;rw[if_pos h1];exact h
   ·rename_i h1
    rw[if_neg h1]
    exact Ax (fun H' hw=>Ch hl hw) h
  ·cases h
def Ye (c:fO):Prop:=∀f args lo jF H r,jF≤lo→c f args lo H=some r→c f args jF H=some r
section
variable {c:fO} {lo jF:Nat}
theorem JM (hc:Ye c) (hl:jF≤lo):∀ {is:List PI} {ρ:Env} {H:aD} {r:Env×aD},gH c lo is ρ H=some r→gH c jF is ρ H=some r
 | [],_,_,_,h=>h
 |
  i::is,ρ,H,r,h=>by
  rw[gH] at h ⊢
  split at h
  ·rename_i uA H1 h1
   have e:wC c jF i ρ H=some (uA,H1):=by
    unfold wC at h1 ⊢
    split at h1
    ·rename_i v H2 hv
     have:wV c jF i ρ H=some (v,H2):=by
      unfold wV at hv ⊢
      split at hv
      ·cases hv
      ·exact hv
      ·split at hv
       ·rename_i NO
        rw[if_pos NO]
        split at hv
        ·rename_i hp;rw[TP hl hp];exact hv
        ·rename_i hp
         rw[TP hl hp]
         show c _ _ (if i.quiet=true then H.length else jF) H=_
         cases hq:i.quiet with
         | true=>rw[hq] at hv;exact hv
         | false=>rw[hq] at hv;exact hc _ _ _ _ _ _ hl hv
        ·cases hv
       ·cases hv
     rw[this]
     exact h1
    ·cases h1
   rw[e]
   exact JM hc hl h
  ·cases h
theorem UD {b b':Env→aD→Option (Ex×Env×aD)} (h:∀ρ H r,b ρ H=some r→b' ρ H=some r):∀ {n:Nat} {ρ:Env} {H:aD} {r:Ex×Env×aD},vF b n ρ H=some r→vF b' n ρ H=some r :=
 fun hr=>vL h (Nat.le_refl _) hr
theorem lK (hc:Ye c) (hl:jF≤lo) {n:Nat}:∀(p:aE) {ρ:Env} {H:aD} {r:Ex×Env×aD},dJ c lo n p ρ H=some r→dJ c jF n p ρ H=some r
 | .skip,_,_,_,hr=>hr
 |
  .eG ops,ρ,H,r,hr=>by
  rw[dJ] at hr ⊢
  exact Ax (fun _ h=>JM hc hl h) hr
 |
  .seq a b,ρ,H,r,hr=>by
  rw[dJ] at hr ⊢
  split at hr
  ·rename_i h1
   rw[lK hc hl a h1]
   exact lK hc hl b hr
  ·rename_i eV
   rw[lK hc hl a hr]
   split
   ·rename_i he;cases he;exact absurd hr (eV _ _)
   ·rfl
 |
  .cond x a b,ρ,H,r,hr=>by
  rw[dJ] at hr ⊢
  split at hr
  ·split at hr
   ·rename_i ht;rw[if_pos ht];exact lK hc hl a hr
   ·rename_i ht;rw[if_neg ht];exact lK hc hl b hr
  ·cases hr
 |
  .block id a,ρ,H,r,hr=>by
  rw[dJ] at hr ⊢
  split at hr
  ·rename_i h1
   rw[lK hc hl a h1]
   exact hr
  ·rename_i eV
   rw[lK hc hl a hr]
   split
   ·rename_i he;cases he;exact absurd hr (eV _ _ _)
   ·rfl
 |
  .loop a,ρ,H,r,hr=>by
  rw[dJ] at hr ⊢
  exact UD (fun ρ H r hr=>lK hc hl a hr) hr
 | .exit id,_,_,_,hr=>hr
 | .ret,_,_,_,hr=>hr
end
theorem FM (E:zV) (T:Xs):∀n,Ye (kO E T n)
 | 0,_,_,_,_,_,_,_,h=>by cases h
 |
  n+1,f,args,lo,jF,H,r,hl,h=>by
  rw[kO] at h ⊢
  split at h
  ·exact h
  ·split at h
   ·cases h
   ·split at h
    ·rename_i pf _ ha
     rw[if_pos ha]
     split at h
     ·rename_i h1;rw[lK (FM E T n) hl pf.body h1];exact h
     ·rename_i h1;rw[lK (FM E T n) hl pf.body h1];exact h
     ·cases h
    ·cases h
section
variable {E:zV} {T:Xs}
theorem Wy {f:Nat} {args:List Value} {lo jF:Nat} {H:aD} {r:Value×aD} (hl:jF≤lo) (h:call E T f args lo H=some r):call E T f args jF H=some r:=by
 obtain⟨n,hn⟩:=(sI E T).1 h
 exact(sI E T).2 ⟨n,FM E T n f args lo jF H r hl hn⟩
theorem XZ {f:Nat} {args:List Value} {lo:Nat} {H H':aD} {v:Value} (h:call E T f args lo H=some (v,H')):Ext lo H H':=by
 obtain⟨n,hn⟩:=(sI E T).1 h
 exact Cy E T n f args lo H v H' hn
theorem Ext.more {H H':aD} (h:Ext H.length H H'):∃K,H'=H++K:=by
 refine⟨H'.drop H.length,?_⟩
 apply List.ext_getElem?
 intro i
 rcases Nat.lt_or_ge i H.length with hi | hi
 ·rw[List.getElem?_append_left hi]
  exact h.low i hi hi
 ·rw[List.getElem?_append_right hi,List.getElem?_drop,show H.length+(i-H.length)=i by omega]
def Tj (E:zV) (T:Xs) (f:Nat) (args:List Value) (H:aD) (R:Value→aD→Prop):Prop :=
 ∃v K,call E T f args H.length H=some (v,H++K)∧R v (H++K)
theorem Tj.at {f:Nat} {args:List Value} {H:aD} {R:Value→aD→Prop} (h:Tj E T f args H R) {lo:Nat} (hl:lo≤H.length):∃v K,call E T f args lo H=some (v,H++K)∧R v (H++K):=by
 obtain⟨v,K,h1,h2⟩:=h
 exact⟨v,K,Wy hl h1,h2⟩
theorem Tj.mk {f:Nat} {args:List Value} {H H':aD} {v:Value} {R:Value→aD→Prop} (h:call E T f args H.length H=some (v,H')) (hr:R v H'):Tj E T f args H R:=by
 obtain⟨K,rfl⟩:=(XZ h).more
 exact⟨v,K,h,hr⟩
end
end Go.PM
namespace Go.PM
def strCells:List Value→Option (List ByteArray)
 | []=>some []
 | .string s::r=>(strCells r).map (s :: ·)
 | _=>none
def sD:List Value→aD→Option Value
 | [.int .u64 n,.int .i64 b],_=>if b=10∧0≤n∧n<18446744073709551616 then some (.string ⟨(Lib.decDigits n.toNat).toArray⟩) else none
 | _,_=>none
def E9:List Value→aD→Option Value
 | [.string s,.int .i64 c],_=>if 0≤c∧c≤9223372036854775807∧s.size*c.toNat≤140737488355328 then some (.string ⟨(Lib.repeatL s.data.toList c.toNat).toArray⟩) else none
 | _,_=>none
def BC:List Value→aD→Option Value
 | [.int .u32 x],_=>if 0≤x∧x≤4294967295 then some (.int .i64 (32-(Lib.bitLen x.toNat:Int))) else none
 | _,_=>none
def N7:List Value→aD→Option Value
 | [.slice none 0 0,.string _],_=>some (.string ⟨#[]⟩)
 |
  [.slice (some ⟨b,o,none⟩) n c,.string sep],H =>
  if n=0 then some (.string ⟨#[]⟩) else
  match (H.read b o n).bind strCells with
  | some xs=>if xs.length=n∧n≤c∧n≤140737488355328∧(Lib.join (xs.map (·.data.toList)) sep.data.toList).length≤140737488355328 then some (.string ⟨(Lib.join (xs.map (·.data.toList)) sep.data.toList).toArray⟩) else none
  | none=>none
 | _,_=>none
def MY:List Value→aD→Option Value
 |
  [.string s,.string p],_=>match p.data.toList with
  | [c]=>some (.int .i64 (Lib.indexByte s.data.toList c))
  | _=>none
 | _,_=>none
def wG:List Value→aD→Option Value
 |
  [.string s,.int .i64 b,.int .i64 z],_=>if b=10∧z=64∧s.size≤9223372036854775806 then
   match Lib.parseUintB 64 s.data.toList with
   | .ok u=>some (.tuple #[.int .u64 (u:Int),.nilIface])
   | _=>none
  else none
 | _,_=>none
end Go.PM
namespace Go.PM
open Go.Proofs
def arH:List Nat:=[]
 ++ [56]
 ++ [221]
 ++ [239]
 ++ [240]
def Hh (f:Nat):Option (List Value→aD→Option Value) :=
 if f=184 then some sD else
 if f=103 then some E9 else
 if f=186 then some N7 else
 if f=219 then some BC else
 if f=241 then some MY else
 if f=217 then some wG else
 (fun _=>none) f
def cfg:zV:={ zD:=Hh,eff:=fun f=>arH.contains f }
noncomputable def hC:Xs:=fun f=>if (Hh f).isSome then none else OW Tryz.prog cfg f
theorem aeW (f:Nat) (pf:aT) (h:hC f=some pf):OW Tryz.prog cfg f=some pf:=by
 unfold hC at h
 split at h
 ·cases h
 ·exact h
theorem RS {f:Nat} {pf:aT} (h:hC f=some pf):cfg.zD f=none:=by
 unfold hC at h
 split at h
 ·cases h
 ·rename_i h1
  show Hh f=none
  cases hp:Hh f with
  | none=>rfl
  | some p=>rw[hp] at h1;exact absurd rfl h1
end Go.PM
namespace Go.PM
noncomputable abbrev pC:fO:=call cfg hC
def W (lo:Nat) (c:aE) (Q:Ex→Env→aD→Prop) (ρ:Env) (H:aD):Prop:=∃x aS H',code cfg hC lo c ρ H=some (x,aS,H')∧Q x aS H'
def WS (lo:Nat) (is:List PI) (K:Env→aD→Prop) (ρ:Env) (H:aD):Prop:=∃aS H',gH pC lo is ρ H=some (aS,H')∧K aS H'
def apS (lo:Nat) (b:aE) (Q:Ex→Env→aD→Prop):Ex→Env→aD→Prop
 | .normal,ρ,H=>W lo b Q ρ H
 | x,ρ,H=>Q x ρ H
def amC (id:Nat) (Q:Ex→Env→aD→Prop):Ex→Env→aD→Prop
 | .exit OA,ρ,H=>if OA=id then Q .normal ρ H else Q (.exit OA) ρ H
 | x,ρ,H=>Q x ρ H
def asW (res:List yZ) (R:Value→aD→Prop):Ex→Env→aD→Prop
 | .exit _,_,_=>False
 | _,ρ,H=>∃v,oM res ρ H=some v∧R v H
def alX (J:Env→aD→Prop) (Q:Ex→Env→aD→Prop):Ex→Env→aD→Prop
 | .normal,ρ,H=>J ρ H
 | x,ρ,H=>Q x ρ H
section
variable {lo:Nat} {Q:Ex→Env→aD→Prop} {K:Env→aD→Prop} {ρ:Env} {H:aD} {b:aE} {id:Nat} {R:Value→aD→Prop} {res:List yZ} {J:Env→aD→Prop}
theorem Fy {i:Nat}:amC id Q (.exit i) ρ H=if i=id then Q .normal ρ H else Q (.exit i) ρ H:=rfl
theorem afT:W lo .skip Q ρ H=Q .normal ρ H:=by
 unfold W
 rw[U6]
 exact propext ⟨fun⟨_,_,_,h,hq⟩=>(by cases h;exact hq),fun h=>⟨_,_,_,rfl,h⟩⟩
theorem adY {i:Nat}:W lo (.exit i) Q ρ H=Q (.exit i) ρ H:=by
 unfold W
 rw[U2]
 exact propext ⟨fun⟨_,_,_,h,hq⟩=>(by cases h;exact hq),fun h=>⟨_,_,_,rfl,h⟩⟩
theorem amD:W lo .ret Q ρ H=Q .ret ρ H:=by
 unfold W
 rw[Yp]
 exact propext ⟨fun⟨_,_,_,h,hq⟩=>(by cases h;exact hq),fun h=>⟨_,_,_,rfl,h⟩⟩
theorem alM {ops:List PI}:W lo (.eG ops) Q ρ H=WS lo ops (Q .normal) ρ H:=by
 unfold W WS
 rw[W3]
 apply propext
 constructor
 ·rintro⟨x,aS,H',h,hq⟩
  cases hs:gH (call cfg hC) lo ops ρ H with
  | none=>rw[hs] at h;cases h
  |
   some q =>
   rw[hs] at h
   cases h
   exact⟨_,_,rfl,hq⟩
 ·rintro⟨aS,H',h,hq⟩
  exact⟨_,_,_,by rw[h];rfl,hq⟩
theorem ajD {a:aE}:W lo (.seq a b) Q ρ H=W lo a (apS lo b Q) ρ H:=by
 unfold W
 rw[YP]
 apply propext
 constructor
 ·rintro⟨x,aS,H',h,hq⟩
  split at h
  ·rename_i uA H1 h1
   exact⟨_,_,_,h1,x,aS,H',h,hq⟩
  ·rename_i eV
   refine⟨x,aS,H',h,?_⟩
   cases x with
   | normal=>exact absurd h (eV _ _)
   | exit i=>exact hq
   | ret=>exact hq
 ·rintro⟨x,aS,H',h,hq⟩
  rw[h]
  cases x with
  | normal=>exact hq
  | exit i=>exact⟨_,_,_,rfl,hq⟩
  | ret=>exact⟨_,_,_,rfl,hq⟩
theorem abI {a:aE}:W lo (.block id a) Q ρ H=W lo a (amC id Q) ρ H:=by
 unfold W
 rw[Sb]
 apply propext
 constructor
 ·rintro⟨x,aS,H',h,hq⟩
  split at h
  ·rename_i OA uA H1 h1
   refine⟨_,_,_,h1,?_⟩
   rw[Fy]
   split at h
   ·rename_i he;cases h;rw[if_pos he];exact hq
   ·rename_i he;cases h;rw[if_neg he];exact hq
  ·rename_i eV
   refine⟨x,aS,H',h,?_⟩
   cases x with
   | normal=>exact hq
   | exit i=>exact absurd h (eV _ _ _)
   | ret=>exact hq
 ·rintro⟨x,aS,H',h,hq⟩
  rw[h]
  cases x with
  | normal=>exact⟨_,_,_,rfl,hq⟩
  |
   exit i =>
   rw[Fy] at hq
   show ∃x zQ H'',(if i=id then some (Ex.normal,aS,H') else some (Ex.exit i,aS,H'))=some (x,zQ,H'')∧Q x zQ H''
   split at hq
   ·rename_i he;rw[if_pos he];exact⟨_,_,_,rfl,hq⟩
   ·rename_i he;rw[if_neg he];exact⟨_,_,_,rfl,hq⟩
  | ret=>exact⟨_,_,_,rfl,hq⟩
theorem adZ {x:Operand} {a:aE}:W lo (.cond x a b) Q ρ H=∃t,ev ρ x = .bool t∧((t=true→W lo a Q ρ H)∧(t=false→W lo b Q ρ H)):=by
 unfold W
 rw[Vn]
 apply propext
 constructor
 ·rintro⟨y,aS,H',h,hq⟩
  split at h
  ·rename_i t ht
   cases t with
   | true=>exact⟨true,ht,fun _=>⟨y,aS,H',h,hq⟩,fun h=>by cases h⟩
   | false=>exact⟨false,ht,fun h=>(by cases h),fun _=>⟨y,aS,H',h,hq⟩⟩
  ·cases h
 ·rintro⟨t,ht,h1,h2⟩
  rw[ht]
  cases t with
  | true=>exact h1 rfl
  | false=>exact h2 rfl
theorem W.mono {Q':Ex→Env→aD→Prop} {c:aE} (h:W lo c Q ρ H) (hq:∀x ρ H,Q x ρ H→Q' x ρ H):W lo c Q' ρ H:=by
 obtain⟨x,aS,H',h1,h2⟩:=h
 exact⟨x,aS,H',h1,hq _ _ _ h2⟩
noncomputable def iR (lo:Nat) (q:Bool) (op:lM) (ρ:Env) (H:aD):Option (Value×aD) :=
 match pop lo op ρ H with
 | some (.val v H')=>some (v,H')
 | some (.call f args)=>pC f args (if q then H.length else lo) H
 | none=>none
theorem afP:WS lo [] K ρ H=K ρ H:=by
 unfold WS
 apply propext
 constructor
 ·rintro⟨aS,H',h,hk⟩;cases h;exact hk
 ·intro h;exact⟨ρ,H,rfl,h⟩
theorem ajG {i:PI} {is:List PI}:WS lo (i::is) K ρ H=∃v H',wV pC lo i ρ H=some (v,H')∧WS lo is K (put ρ i.dst v) H':=by
 unfold WS
 apply propext
 constructor
 ·rintro⟨aS,H',h,hk⟩
  rw[gH] at h
  split at h
  ·rename_i uA H1 h1
   obtain⟨v,hv,rfl⟩:=vO h1
   exact⟨v,H1,hv,aS,H',h,hk⟩
  ·cases h
 ·rintro⟨v,H1,hv,aS,H',h,hk⟩
  refine⟨aS,H',?_,hk⟩
  rw[gH]
  unfold wC
  rw[hv]
  exact h
variable {q:Bool}
theorem dK {op:lM} (h:rR op=true):iR lo q op ρ H=(gU op ρ).map (·,H):=by
 unfold iR
 rw[vR h]
 cases gU op ρ<;>rfl
theorem ZO {x:Operand}:iR lo q (.mv x) ρ H=some (ev ρ x,H):=rfl
theorem UK {c a b:Operand}:iR lo q (.pick c a b) ρ H=(match ev ρ c with | .bool t=>some ((if t=true then ev ρ a else ev ρ b),H) | _=>none):=by
 rw[dK rfl]
 simp only[gU]
 cases ev ρ c<;>rfl
theorem XO {op:BinOp} {x y:Operand}:iR lo q (.bin op x y) ρ H=(cV op (ev ρ x) (ev ρ y)).map (·,H):=dK rfl
theorem ZW {op:UnOp} {x:Operand}:iR lo q (.un op x) ρ H=(YK op (ev ρ x)).map (·,H):=dK rfl
theorem Uj {f:Nat} {args:List Operand}:iR lo q (.call f args) ρ H=pC f (args.map (ev ρ)) (if q then H.length else lo) H:=rfl
end
theorem XS {f lo:Nat} {pf:aT} {args:List Value} {H:aD} {R:Value→aD→Prop} (ht:hC f=some pf) (ha:args.length≤pf.ntmps) (h:W lo pf.body (asW pf.res R) (VF args) H):∃v H',pC f args lo H=some (v,H')∧R v H':=by
 obtain⟨x,aS,H',h1,h2⟩:=h
 show ∃v H',call cfg hC f args lo H=some (v,H')∧R v H'
 rw[abM cfg hC (RS ht) ht]
 unfold afQ
 rw[if_pos ha,h1]
 cases x with
 | exit i=>exact h2.elim
 |
  normal =>
  obtain⟨v,h3,h4⟩:=h2
  exact⟨v,H',by simp only;rw[h3];rfl,h4⟩
 |
  ret =>
  obtain⟨v,h3,h4⟩:=h2
  exact⟨v,H',by simp only;rw[h3];rfl,h4⟩
end Go.PM
namespace Go.PM
theorem wrap64 {x:Int} (h1 : -9223372036854775808≤x) (h2:x≤9223372036854775807):IntKind.i64.wrap x=x:=by
 rw[IntKind.wrap_i64]
 omega
section
variable {k:IntKind} {a b:Int}
theorem PF:cV .add (.int k a) (.int k b)=some (.int k (k.wrap (a+b))):=by simp[cV]
theorem Pe:cV .sub (.int k a) (.int k b)=some (.int k (k.wrap (a-b))):=by simp[cV]
theorem Ph:cV .mul (.int k a) (.int k b)=some (.int k (k.wrap (a*b))):=by simp[cV]
theorem Qh (h:b≠0):cV .rem (.int k a) (.int k b)=some (.int k (a.tmod b)):=by simp[cV,h]
theorem Pr:cV .lss (.int k a) (.int k b)=some (.bool (decide (a<b))):=by simp[cV]
theorem OO:cV .leq (.int k a) (.int k b)=some (.bool (decide (a≤b))):=by simp[cV]
theorem O7:cV .gtr (.int k a) (.int k b)=some (.bool (decide (b<a))):=by simp[cV]
theorem P6:cV .geq (.int k a) (.int k b)=some (.bool (decide (b≤a))):=by simp[cV]
theorem OZ:cV .eql (.int k a) (.int k b)=some (.bool (decide (a=b))):=by
 simp only[cV,if_true]
 rfl
theorem N9:cV .neq (.int k a) (.int k b)=some (.bool (!decide (a=b))):=by
 simp only[cV,if_true]
 rfl
theorem Ty:YK .neg (.int k a)=some (.int k (k.wrap (0-a))):=rfl
theorem SG {t:Bool}:YK .not (.bool t)=some (.bool (!t)):=rfl
end
def afU:Value→Option Value
 | .slice _ n _=>some (.int .i64 n)
 | _=>none
def OE (neg:Bool):Value→Value→Option Value
 | .bool a,.bool b=>some (.bool ((a == b) != neg))
 | _,_=>none
def YG (neg:Bool):Value→Option Value
 | .slice none _ _=>some (.bool (true != neg))
 | .slice (some _) _ _=>some (.bool (false != neg))
 | _=>none
def Yk (neg:Bool) (ks:List CK):Value→Value→Option Value
 | .agg a,.agg b=>(mZ ks a.toList b.toList).map fun t => .bool (t != neg)
 | _,_=>none
def Rf (k:IntKind):Value→Option Value
 | .int _ n=>some (.int k (k.wrap n))
 | _=>none
def afF (i:Nat):Value→Option Value
 | .tuple vs=>vs[i]?
 | _=>none
def Z9 (agg:Bool) (off size:Nat):Value→Option Value
 | .agg cs=>if agg then (if off+size≤cs.size then some (.agg (cs.extract off (off+size))) else none) else cs[off]?
 | _=>none
def alR:Value→Option Value
 | .pointer (some a)=>some (.pointer (some a))
 | _=>none
def Xz (off:Nat):Value→Option Value
 | .pointer (some ⟨b,o,none⟩)=>some (.pointer (some ⟨b,o+off,none⟩))
 | _=>none
def Nu (size:Nat):Value→Value→Option Value
 | .slice (some ⟨b,o,none⟩) n _,.int _ i=>if 0≤i∧i<n then some (.pointer (some ⟨b,o+i.toNat*size,none⟩)) else none
 | _,_=>none
def ON:Value→Value→Option Value
 | .int k a,.int _ b=>some (.int k (if b<a then b else a))
 | _,_=>none
def OG:Value→Value→Option Value
 | .int k a,.int _ b=>some (.int k (if b>a then b else a))
 | _,_=>none
section
variable {lo:Nat} {ρ:Env} {H:aD} {q:Bool}
theorem nD {op:lM} {r:Option (Value×aD)} (h:pop lo op ρ H=r.map fun(v,H') => .val v H'):iR lo q op ρ H=r:=by
 unfold iR
 rw[h]
 cases r<;>rfl
theorem Y5 {x:Operand}:iR lo q (.len x) ρ H=(afU (ev ρ x)).map (·,H):=dK rfl
theorem X3 {neg:Bool} {x y:Operand}:iR lo q (.eqb neg x y) ρ H=(OE neg (ev ρ x) (ev ρ y)).map (·,H):=dK rfl
theorem Sf {neg:Bool} {x:Operand}:iR lo q (.isnil neg x) ρ H=(YG neg (ev ρ x)).map (·,H):=dK rfl
theorem QX {neg:Bool} {ks:List CK} {x y:Operand}:iR lo q (.eqagg neg ks x y) ρ H=(Yk neg ks (ev ρ x) (ev ρ y)).map (·,H):=dK rfl
theorem WM {k:IntKind} {x:Operand}:iR lo q (.cvt k x) ρ H=(Rf k (ev ρ x)).map (·,H):=dK rfl
theorem Xu {i:Nat} {x:Operand}:iR lo q (.ext x i) ρ H=(afF i (ev ρ x)).map (·,H):=dK rfl
theorem Y6 {agg:Bool} {off size:Nat} {x:Operand}:iR lo q (.fld agg off size x) ρ H=(Z9 agg off size (ev ρ x)).map (·,H):=dK rfl
theorem R6 {z:List Value} {places:List (Nat×Nat)} {parts:List (Nat×Operand)}:iR lo q (.build z places parts) ρ H=((tH places z (parts.map fun(i,x)=>(i,ev ρ x))).map fun cs=>Value.agg cs.toArray).map (·,H):=dK rfl
theorem YV {x:Operand}:iR lo q (.chk x) ρ H=(alR (ev ρ x)).map (·,H):=dK rfl
theorem Sk {off:Nat} {x:Operand}:iR lo q (.faddr off x) ρ H=(Xz off (ev ρ x)).map (·,H):=dK rfl
theorem Ri {size:Nat} {x i:Operand}:iR lo q (.iaddr size x i) ρ H=(Nu size (ev ρ x) (ev ρ i)).map (·,H):=dK rfl
theorem Ui {f:Nat} {fE:List Operand}:iR lo q (.mkfn f fE) ρ H=some (.func (.func f) #[] (fE.map (ev ρ)).toArray,H):=dK rfl
theorem X7 {x y:Operand}:iR lo q (.min x y) ρ H=(ON (ev ρ x) (ev ρ y)).map (·,H):=dK rfl
theorem Yb {x y:Operand}:iR lo q (.max x y) ρ H=(OG (ev ρ x) (ev ρ y)).map (·,H):=dK rfl
theorem Uk {agg:Bool} {size:Nat} {p:Operand}:iR lo q (.load agg size p) ρ H=(lW agg size (ev ρ p) H).map (·,H):=by
 unfold iR
 simp only[pop]
 cases lW agg size (ev ρ p) H<;>rfl
theorem XR {size:Nat} {x:Operand} {l h m:Option Operand}:iR lo q (.sub size x l h m) ρ H=A5 size (ev ρ x) (l.map (ev ρ)) (h.map (ev ρ)) (m.map (ev ρ)) H:=by
 unfold iR
 simp only[pop]
 cases A5 size (ev ρ x) (l.map (ev ρ)) (h.map (ev ρ)) (m.map (ev ρ)) H<;>rfl
theorem Yy {z:List Value}:iR lo q (.new z) ρ H=some (.pointer (some ⟨H.length,0,none⟩),H++[.row z z.length false]):=rfl
theorem Yf {x:Operand}:iR lo q (.box x) ρ H=if (aK (ev ρ x)).all fD then some (.pointer (some ⟨H.length,0,none⟩),H++[.row (aK (ev ρ x)) (aK (ev ρ x)).length false]) else none:=by
 apply nD
 simp only[pop]
 by_cases h:(aK (ev ρ x)).all fD=true
 ·rw[if_pos h,if_pos h];rfl
 ·rw[if_neg h,if_neg h];rfl
def TO (z:List Value) (bytes:Nat) (l c:Value) (H:aD):Option (Value×aD) :=
 match l,c with
 | .int .i64 l,.int .i64 c=>if 0≤l∧l≤c∧c*bytes≤281474976710656∧c≤9223372036854775807 then
  some (.slice (some ⟨H.length,0,none⟩) l.toNat c.toNat,H++[.row (cR c.toNat z) z.length false]) else none
 | _,_=>none
theorem Uh {z:List Value} {bytes:Nat} {l c:Operand}:iR lo q (.make z bytes l c) ρ H=TO z bytes (ev ρ l) (ev ρ c) H:=by
 apply nD
 simp only[pop]
 unfold TO
 split
 ·rename_i l c h1 h2
  simp only[h1,h2]
  split<;>rfl
 ·rename_i h1
  split
  ·rename_i h2 h3
   exact(h1 _ _ h2 h3).elim
  ·rfl
def ZB (z:List Value) (n:Nat) (parts:List (Nat×Value)) (H:aD):Option (Value×aD) :=
 match tH ((List.range n).map fun i=>(i*z.length,z.length)) (cR n z) parts with
 | some cs=>if cs.all fD then some (.slice (some ⟨H.length,0,none⟩) n n,H++[.row cs z.length false]) else none
 | none=>none
theorem Xl {z:List Value} {n:Nat} {parts:List (Nat×Operand)}:iR lo q (.lit z n parts) ρ H=ZB z n (parts.map fun(i,x)=>(i,ev ρ x)) H:=by
 apply nD
 simp only[pop]
 unfold ZB
 split
 ·rename_i cs h1
  simp only[h1]
  split<;>rfl
 ·rename_i h1
  simp only[h1]
  rfl
def DS (lo size:Nat) (p v:Value) (H:aD):Option (Value×aD) :=
 match p with
 | .pointer (some ⟨b,o,none⟩)=>if (aK v).length=size then (H.write lo b o (aK v)).map fun H'=>(undef,H') else none
 | _=>none
theorem RN {size:Nat} {p v:Operand}:iR lo q (.store size p v) ρ H=DS lo size (ev ρ p) (ev ρ v) H:=by
 apply nD
 simp only[pop]
 unfold DS
 split
 ·rename_i b o h1
  simp only[h1]
  split
  ·cases H.write lo b o (aK (ev ρ v))<;>rfl
  ·rfl
 ·rename_i h1
  split
  ·rename_i h2
   exact(h1 _ _ h2).elim
  ·rfl
def aeT (lo size bytes:Nat) (x y:Value) (H:aD):Option (Value×aD) :=
 match pU y with
 |
  some n=>match iF H size n y with
  | some new=>dX lo size bytes x n new H
  | none=>none
 | none=>none
theorem XB {size bytes:Nat} {x y:Operand}:iR lo q (.app size bytes x y) ρ H=aeT lo size bytes (ev ρ x) (ev ρ y) H:=by
 apply nD
 simp only[pop]
 unfold aeT
 cases pU (ev ρ y) with
 | none=>rfl
 |
  some n =>
  cases hs:iF H size n (ev ρ y) with
  | none=>simp only[hs];rfl
  | some new=>simp only[hs]
def W1 (lo:Nat) (z:List Value) (bytes:Nat) (x n:Value) (H:aD):Option (Value×aD) :=
 match n with
 | .int .i64 n=>if 0≤n∧n*bytes≤140737488355328 then dX lo z.length bytes x n.toNat (cR n.toNat z) H else none
 | _=>none
theorem Vf {z:List Value} {bytes:Nat} {x n:Operand}:iR lo q (.appz z bytes x n) ρ H=W1 lo z bytes (ev ρ x) (ev ρ n) H:=by
 apply nD
 simp only[pop]
 unfold W1
 split
 ·rename_i n h1
  simp only[h1]
  split<;>rfl
 ·rename_i h1
  split
  ·rename_i h2
   exact(h1 _ h2).elim
  ·rfl
def copyV (lo size:Nat) (x y:Value) (H:aD):Option (Value×aD) :=
 match x,pU y with
 | .slice none _ _,some _=>some (.int .i64 0,H)
 |
  .slice (some ⟨b,o,none⟩) d _,some s=>match iF H size (Nat.min s d) y with
  | some new=>(H.write lo b o new).map fun H'=>(.int .i64 (Nat.min s d),H')
  | none=>none
 | _,_=>none
theorem Vb {size:Nat} {x y:Operand}:iR lo q (.copy size x y) ρ H=copyV lo size (ev ρ x) (ev ρ y) H:=by
 apply nD
 simp only[pop]
 unfold copyV
 split
 ·rename_i h1 h2
  simp only[h1,h2]
  rfl
 ·rename_i b o d _ s h1 h2
  simp only[h1,h2]
  cases hs:iF H size (Nat.min s d) (ev ρ y) with
  | none=>rfl
  |
   some new =>
   simp only
   cases H.write lo b o new<;>rfl
 ·rename_i h1 h2
  split
  ·rename_i h3 h4
   exact(h1 _ _ _ h3 h4).elim
  ·rename_i h3 h4
   exact(h2 _ _ _ _ _ h3 h4).elim
  ·rfl
def MB (lo:Nat) (z:List Value) (x:Value) (H:aD):Option (Value×aD) :=
 match x with
 | .slice none _ _=>some (undef,H)
 | .slice (some ⟨b,o,none⟩) n _=>if n=0 then some (undef,H) else (H.write lo b o (cR n z)).map fun H'=>(undef,H')
 | _=>none
theorem Rs {z:List Value} {x:Operand}:iR lo q (.clear z x) ρ H=MB lo z (ev ρ x) H:=by
 apply nD
 simp only[pop]
 unfold MB
 split
 ·rename_i h1
  simp only[h1]
  rfl
 ·rename_i b o n _ h1
  simp only[h1]
  split
  ·rfl
  ·cases H.write lo b o (cR n z)<;>rfl
 ·rename_i h1 h2
  split
  ·rename_i h3
   exact(h1 _ _ h3).elim
  ·rename_i h3
   exact(h2 _ _ _ _ h3).elim
  ·rfl
noncomputable def WX (lo:Nat) (fv:Value) (args:List Value) (H:aD):Option (Value×aD) :=
 match fv with
 | .func (.func f) first fE=>pC f (first.toList++args++fE.toList) lo H
 | _=>none
theorem Rt {fv:Operand} {args:List Operand}:iR lo q (.callv fv args) ρ H=WX (if q then H.length else lo) (ev ρ fv) (args.map (ev ρ)) H:=by
 unfold iR
 simp only[pop]
 unfold WX
 generalize ev ρ fv=v
 cases v with
 | func fn f c=>cases fn<;>rfl
 | _=>rfl
end
end Go.PM
namespace Go.PM
section
variable {lo:Nat} {Q:Ex→Env→aD→Prop} {K:Env→aD→Prop} {ρ:Env} {H:aD} {q:Bool}
def ajF (u v:Value):Bool:=match iA u,iA v with
 | some a,some b=>a != b
 | _,_=>true
end
theorem SL {k:IntKind} {a b:Int}:OG (.int k a) (.int k b)=some (.int k (max a b)):=by
 simp only[OG]
 congr 2
 split<;>omega
theorem TE {k:IntKind} {a b:Int}:ON (.int k a) (.int k b)=some (.int k (min a b)):=by
 simp only[ON]
 congr 2
 split<;>omega
end Go.PM
namespace Go.PM
abbrev ptr (b o:Nat):Value := .pointer (some ⟨b,o,none⟩)
abbrev I (n:Int):Value := .int .i64 n
section
variable {H H':aD} {lo b o n size:Nat} {cs r:List Value} {L K:aD} {v:Value}
theorem MJ (hb:b<H.length):(H++L)[b]? = H[b]? := List.getElem?_append_left hb
theorem Tl {x:KC}:(H++x::L)[H.length]? = some x:=by simp
theorem Wj (hb:b<H.length):(H++L).read b o n=H.read b o n:=DV (MJ hb)
theorem zT {e:Nat} {p:Bool} (h:H[b]? = some (.row r e p)) (hn:o+n≤r.length):H.read b o n=some ((r.drop o).take n):=by
 unfold aD.read
 rw[h]
 simp only[hn,if_true]
structure BL (H:aD) (b o:Nat) (cs:List Value):Prop where
 lt:b<H.length
 rd:H.read b o cs.length=some cs
theorem BL.app (h:BL H b o cs):BL (H++L) b o cs:=⟨by have:=h.lt;simp;omega,by rw[Wj h.lt];exact h.rd⟩
theorem BL.pre (h:BL H b o cs) (hp:H <+: H'):BL H' b o cs:=by
 obtain⟨L,rfl⟩:=hp
 exact h.app
theorem BL.all (h:BL H b o cs) (hs:cs.length=size):lW true size (.pointer (some ⟨b,o,none⟩)) H=some (.agg cs.toArray):=by
 subst hs
 simp only[lW,if_true,h.rd]
 rfl
theorem BL.one {u:Value} (h:BL H b o [u]):lW false size (.pointer (some ⟨b,o,none⟩)) H=some u:=by
 have:=h.rd
 simp only[List.length_cons,List.length_nil] at this
 simp only[lW,this]
 rfl
theorem BL.sub {k:Nat} {u:Value} (h:BL H b o cs) (hk:cs[k]? = some u):BL H b (o+k) [u]:=by
 refine⟨h.lt,?_⟩
 have h1:=h.rd
 unfold aD.read at h1 ⊢
 split at h1
 ·rename_i r e p hb
  split at h1
  ·rename_i hl
   have V4:=(List.getElem?_eq_some_iff.1 hk).1
   simp only[List.length_cons,List.length_nil]
   rw[if_pos (by simp;omega)]
   injection h1 with h1
   rw[←h1] at hk
   rw[List.getElem?_take,if_pos (by omega),List.getElem?_drop] at hk
   have aU:=(List.getElem?_eq_some_iff.1 hk).1
   rw[List.drop_eq_getElem_cons aU]
   simp only[List.take_succ_cons,List.take_zero]
   rw[List.getElem?_eq_getElem aU] at hk
   injection hk with hk
   rw[hk]
  ·cases h1
 ·cases h1
theorem BL.fld {k:Nat} {u:Value} (h:BL H b o cs) (hk:cs[k]? = some u):lW false size (.pointer (some ⟨b,o+k,none⟩)) H=some u:=(h.sub hk).one
theorem Qr {a:Nat} {c:Nat} {i:Int} {k:IntKind} (h0:0≤i) (h1:i<n):Nu size (.slice (some ⟨b,a,none⟩) n c) (.int k i)=some (.pointer (some ⟨b,a+i.toNat*size,none⟩)):=by
 simp only[Nu]
 rw[if_pos ⟨h0,h1⟩]
structure Arr {α:Type} (enc:α→List Value) (eY:Nat) (H:aD) (a:Option Addr) (n:Nat) (xs:List α):Prop where
 len:n=xs.length
 el:∀(i:Nat) x,xs[i]? = some x→∃b o,a=some ⟨b,o,none⟩∧BL H b (o+i*eY) (enc x)
theorem Arr.pre {α:Type} {enc:α→List Value} {eY:Nat} {a:Option Addr} {xs:List α} (h:Arr enc eY H a n xs) (hp:H <+: H'):Arr enc eY H' a n xs :=
 ⟨h.len,fun i x hx=>by obtain⟨b,o,h1,h2⟩:=h.el i x hx;exact⟨b,o,h1,h2.pre hp⟩⟩
end
structure iZ where
 t:Int
 w:Int
 k:Int
 deriving DecidableEq
def cc (c:iZ):List Value:=[I c.t,I c.w,I c.k]
def ci (n:Int):List Value:=[I n]
end Go.PM
namespace Go.PM
structure Hw {α:Type} (enc:α→List Value) (eY:Nat):Prop where
 len:∀x,(enc x).length=eY
 sc:∀x,(enc x).all fD=true
 pos:1≤eY
section
variable {α:Type} {enc:α→List Value} {eY:Nat} {H H':aD} {lo b:Nat} {xs ys:List α} {p:Bool}
theorem JS (e:Hw enc eY):(xs.flatMap enc).length=xs.length*eY:=by
 induction xs with
 | nil=>simp
 | cons x xs ih=>simp only[List.flatMap_cons,List.length_append,e.len,ih,List.length_cons,Nat.succ_mul];omega
theorem FL (e:Hw enc eY) (i:Nat):(xs.flatMap enc).drop (i*eY)=(xs.drop i).flatMap enc:=by
 induction i generalizing xs with
 | zero=>simp
 |
  succ i ih =>
  cases xs with
  | nil=>simp
  |
   cons x xs =>
   rw[List.flatMap_cons,List.drop_succ_cons,←ih,show (i+1)*eY=(enc x).length+i*eY by rw[e.len,Nat.succ_mul];omega,List.drop_append]
   simp
theorem KR (e:Hw enc eY) (i:Nat):(xs.flatMap enc).take (i*eY)=(xs.take i).flatMap enc:=by
 induction i generalizing xs with
 | zero=>simp
 |
  succ i ih =>
  cases xs with
  | nil=>simp
  |
   cons x xs =>
   rw[List.flatMap_cons,List.take_succ_cons,List.flatMap_cons,←ih,show (i+1)*eY=(enc x).length+i*eY by rw[e.len,Nat.succ_mul];omega,List.take_append]
   simp
   exact List.take_of_length_le (by omega)
theorem NU (e:Hw enc eY) {i:Nat} (x:α) (hi:i<xs.length):gZ (xs.flatMap enc) (i*eY) (enc x)=(xs.set i x).flatMap enc:=by
 unfold gZ
 rw[KR e,e.len,show i*eY+eY=(i+1)*eY by rw[Nat.succ_mul],FL e,List.set_eq_take_append_cons_drop,if_pos hi]
 simp
def Row (enc:α→List Value) (eY:Nat) (H:aD) (b:Nat) (p:Bool) (xs:List α):Prop:=H[b]? = some (.row (xs.flatMap enc) eY p)
theorem Row.lt (h:Row enc eY H b p xs):b<H.length:=(List.getElem?_eq_some_iff.1 h).1
theorem Row.pre (h:Row enc eY H b p xs) (hp:H <+: H'):Row enc eY H' b p xs:=by
 obtain⟨L,rfl⟩:=hp
 unfold Row
 rw[MJ h.lt]
 exact h
theorem Row.elem (h:Row enc eY H b p xs) (e:Hw enc eY) {i:Nat} {x:α} (hx:xs[i]? = some x):BL H b (i*eY) (enc x):=by
 refine⟨h.lt,?_⟩
 have hi:=(List.getElem?_eq_some_iff.1 hx).1
 have hm:(i+1)*eY≤xs.length*eY:=Nat.mul_le_mul_right _ hi
 rw[Nat.succ_mul] at hm
 rw[zT h (by rw[e.len,JS e];omega),FL e,e.len]
 have:=KR (xs:=xs.drop i) e 1
 rw[Nat.one_mul] at this
 rw[this,List.drop_eq_getElem_cons hi]
 rw[List.getElem?_eq_getElem hi] at hx
 injection hx with hx
 simp[hx]
theorem Row.arr (h:Row enc eY H b p xs) (e:Hw enc eY) {n:Nat} (hn:n≤xs.length):Arr enc eY H (some ⟨b,0,none⟩) n (xs.take n):=by
 refine⟨by simp;omega,fun i x hx=>⟨b,0,rfl,?_⟩⟩
 rw[Nat.zero_add]
 refine h.elem e ?_
 rw[List.getElem?_take] at hx
 split at hx
 ·exact hx
 ·cases hx
theorem Row.store (h:Row enc eY H b p xs) (e:Hw enc eY) {i:Nat} {x:α} {u:Value} (hu:aK u=enc x) (hi:i<xs.length) (hl:lo≤b):DS lo eY (.pointer (some ⟨b,i*eY,none⟩)) u H=some (undef,H.set b (.row ((xs.set i x).flatMap enc) eY p)):=by
 simp only[DS,aD.write,hu,e.len,if_true]
 have h':H[b]? = some (.row (xs.flatMap enc) eY p):=h
 have hm:(i+1)*eY≤xs.length*eY:=Nat.mul_le_mul_right _ hi
 rw[Nat.succ_mul] at hm
 simp only[h']
 rw[if_pos ⟨hl,by rw[JS e];omega,e.sc x⟩,NU e x hi]
 rfl
theorem Row.set (h:Row enc eY H b p xs) (ys:List α):Row enc eY (H.set b (.row (ys.flatMap enc) eY p)) b p ys:=by
 unfold Row
 rw[List.getElem?_set_self h.lt]
theorem Oi (e:Hw enc eY) {n:Nat} {x:α}:cR n (enc x)=(List.replicate n x).flatMap enc:=by
 have jB:=e.pos
 have hlen:=e.len x
 apply List.ext_getElem?
 intro i
 unfold cR
 rw[List.getElem?_map,hlen]
 rcases Nat.lt_or_ge i (n*eY) with hi | hi
 ·rw[List.getElem?_range hi]
  have hq:i / eY<n:=Nat.div_lt_of_lt_mul (by rw[Nat.mul_comm];exact hi)
  have h1:((List.replicate n x).flatMap enc)[i]? = (((List.replicate n x).flatMap enc).drop (i / eY*eY))[i % eY]? := by
   rw[List.getElem?_drop]
   congr 1
   rw[Nat.mul_comm]
   exact(Nat.div_add_mod i eY).symm
  have hr:i % eY<(enc x).length:=by rw[hlen];exact Nat.mod_lt _ (by omega)
  rw[h1,FL e,List.drop_replicate,show n-i / eY=(n-i / eY-1)+1 by omega,List.replicate_succ,List.flatMap_cons,List.getElem?_append_left hr]
  simp[List.getD_eq_getElem?_getD,List.getElem?_eq_getElem hr]
 ·rw[List.getElem?_eq_none (by simpa using hi),List.getElem?_eq_none (by rw[JS e];simpa using hi)]
  rfl
theorem Row.top {K:aD}:Row enc eY (H ++ .row (xs.flatMap enc) eY p::K) H.length p xs:=Tl
end
end Go.PM
namespace Go.PM
section
variable {H L:aD} {lo k o size:Nat} {agg:Bool} {u:Value}
end
end Go.PM
namespace Go.Proofs
open Go.Shelf
def Jx:Go.Shelf.Ren:=⟨fun | 156=>186 | 165=>189 | 166=>190 | 169=>192 | 240=>230 | 241=>231 | 276=>249 | 277=>250 | n=>n,fun | 31=>22 | 9=>9 | 3=>3 | 4=>4 | 0=>0 | 20=>20 | 72=>230 | 76=>234 | 70=>228 | 37=>36 | 75=>233 | 127=>266 | 164=>281 | 5=>5 | 80=>129 | n=>n,fun | n=>n⟩
theorem QY:Go.Proofs.Lays.n156 Tryz.prog Jx:={
 mixed:=by kernel_rfl
 f156:=Tryz.func186.trans (congrArg some (by kernel_rfl))
 f165:=Tryz.func189.trans (congrArg some (by kernel_rfl))
 f166:=Tryz.func190.trans (congrArg some (by kernel_rfl))
 f169:=Tryz.func192.trans (congrArg some (by kernel_rfl))
 f240:=Tryz.func230.trans (congrArg some (by kernel_rfl))
 f241:=Tryz.func231.trans (congrArg some (by kernel_rfl))
 f276:=Tryz.func249.trans (congrArg some (by kernel_rfl))
 f277:=Tryz.func250.trans (congrArg some (by kernel_rfl))
 t0:=Tryz.underlying0
 a0:=Tryz.isAgg0
 z0:=Tryz.sizeOf0
 v0:=Tryz.zeroValue0
 t3:=Tryz.underlying3
 a3:=Tryz.isAgg3
 z3:=Tryz.sizeOf3
 v3:=Tryz.zeroValue3
 t4:=Tryz.underlying4
 a4:=Tryz.isAgg4
 z4:=Tryz.sizeOf4
 v4:=Tryz.zeroValue4
 t9:=Tryz.underlying9
 a9:=Tryz.isAgg9
 z9:=Tryz.sizeOf9
 v9:=Tryz.zeroValue9
 t20:=Tryz.underlying20
 a20:=Tryz.isAgg20
 z20:=Tryz.sizeOf20
 v20:=Tryz.zeroValue20
 t31:=Tryz.underlying22
 a31:=Tryz.isAgg22
 z31:=Tryz.sizeOf22
 v31:=Tryz.zeroValue22
 t37:=Tryz.underlying36
 a37:=Tryz.isAgg36
 z37:=Tryz.sizeOf36
 v37:=Tryz.zeroValue36
 t70:=Tryz.underlying228
 a70:=Tryz.isAgg228
 z70:=Tryz.sizeOf228
 v70:=Tryz.zeroValue228
 t72:=Tryz.underlying230
 a72:=Tryz.isAgg230
 z72:=Tryz.sizeOf230
 v72:=Tryz.zeroValue230
 t75:=Tryz.underlying233
 a75:=Tryz.isAgg233
 z75:=Tryz.sizeOf233
 v75:=Tryz.zeroValue233
 t76:=Tryz.underlying234
 a76:=Tryz.isAgg234
 z76:=Tryz.sizeOf234
 v76:=Tryz.zeroValue234
 t127:=Tryz.underlying266
 a127:=Tryz.isAgg266
 z127:=Tryz.sizeOf266
 v127:=Tryz.zeroValue266
 t164:=Tryz.underlying281
 a164:=Tryz.isAgg281
 z164:=Tryz.sizeOf281
 v164:=Tryz.zeroValue281 }
theorem MN:Builder.Extra Tryz.prog Jx:={
 sizeBuilder:=by kernel_rfl
 liesBuilder:=by kernel_rfl
 t5:=Tryz.underlying5
 a5:=Tryz.isAgg5
 z5:=Tryz.sizeOf5
 v5:=Tryz.zeroValue5
 infoByte:=by kernel_rfl
 cellsByte:=by kernel_rfl
 sizeByte:=by kernel_rfl
 neB5:=by decide }
def QO:Go.Shelf.Ren:=⟨fun | 133=>219 | 128=>244 | n=>n,fun | 51=>218 | 3=>3 | 4=>4 | 46=>219 | 5=>5 | 9=>9 | n=>n,fun | n=>n⟩
theorem adS:Go.Proofs.Lays.n133 Tryz.prog QO:={
 mixed:=by kernel_rfl
 f128:=Tryz.func244.trans (congrArg some (by kernel_rfl))
 f133:=Tryz.func219.trans (congrArg some (by kernel_rfl))
 t3:=Tryz.underlying3
 a3:=Tryz.isAgg3
 z3:=Tryz.sizeOf3
 v3:=Tryz.zeroValue3
 t4:=Tryz.underlying4
 a4:=Tryz.isAgg4
 z4:=Tryz.sizeOf4
 v4:=Tryz.zeroValue4
 t5:=Tryz.underlying5
 a5:=Tryz.isAgg5
 z5:=Tryz.sizeOf5
 v5:=Tryz.zeroValue5
 t9:=Tryz.underlying9
 a9:=Tryz.isAgg9
 z9:=Tryz.sizeOf9
 v9:=Tryz.zeroValue9
 t46:=Tryz.underlying219
 a46:=Tryz.isAgg219
 z46:=Tryz.sizeOf219
 v46:=Tryz.zeroValue219
 t51:=Tryz.underlying218
 a51:=Tryz.isAgg218
 z51:=Tryz.sizeOf218
 v51:=Tryz.zeroValue218 }
def Rv:Go.Shelf.Ren:=⟨fun | 283=>245 | n=>n,fun | 3=>3 | 9=>9 | 4=>4 | n=>n,fun | n=>n⟩
theorem afS:Go.Proofs.Lays.n283 Tryz.prog Rv:={
 mixed:=by kernel_rfl
 f283:=Tryz.func245.trans (congrArg some (by kernel_rfl))
 t3:=Tryz.underlying3
 a3:=Tryz.isAgg3
 z3:=Tryz.sizeOf3
 v3:=Tryz.zeroValue3
 t4:=Tryz.underlying4
 a4:=Tryz.isAgg4
 z4:=Tryz.sizeOf4
 v4:=Tryz.zeroValue4
 t9:=Tryz.underlying9
 a9:=Tryz.isAgg9
 z9:=Tryz.sizeOf9
 v9:=Tryz.zeroValue9 }
def RE:Go.Shelf.Ren:=⟨fun | 284=>246 | 129=>262 | 317=>261 | 318=>263 | n=>n,fun | 53=>128 | 3=>3 | 212=>291 | 0=>0 | 4=>4 | 46=>219 | 5=>5 | 9=>9 | n=>n,fun | 17=>1 | n=>n⟩
theorem aeL:Go.Proofs.LaysM.n284 Tryz.prog RE:={
 mixed:=by kernel_rfl
 f129:=Tryz.func262.trans (congrArg some (by kernel_rfl))
 f284:=Tryz.func246.trans (congrArg some (by kernel_rfl))
 f317:=Tryz.func261.trans (congrArg some (by kernel_rfl))
 f318:=Tryz.func263.trans (congrArg some (by kernel_rfl))
 t0:=Tryz.underlying0
 a0:=Tryz.isAgg0
 z0:=Tryz.sizeOf0
 v0:=Tryz.zeroValue0
 t3:=Tryz.underlying3
 a3:=Tryz.isAgg3
 z3:=Tryz.sizeOf3
 v3:=Tryz.zeroValue3
 t4:=Tryz.underlying4
 a4:=Tryz.isAgg4
 z4:=Tryz.sizeOf4
 v4:=Tryz.zeroValue4
 t5:=Tryz.underlying5
 a5:=Tryz.isAgg5
 z5:=Tryz.sizeOf5
 v5:=Tryz.zeroValue5
 t9:=Tryz.underlying9
 a9:=Tryz.isAgg9
 z9:=Tryz.sizeOf9
 v9:=Tryz.zeroValue9
 t46:=Tryz.underlying219
 a46:=Tryz.isAgg219
 z46:=Tryz.sizeOf219
 v46:=Tryz.zeroValue219
 t53:=Tryz.underlying128
 a53:=Tryz.isAgg128
 z53:=Tryz.sizeOf128
 v53:=Tryz.zeroValue128
 t212:=Tryz.underlying291
 a212:=Tryz.isAgg291
 z212:=Tryz.sizeOf291
 v212:=Tryz.zeroValue291
 g17:=by kernel_rfl
 i0:=by kernel_rfl
 i3:=by kernel_rfl
 i4:=by kernel_rfl
 i5:=by kernel_rfl
 i9:=by kernel_rfl
 i46:=by kernel_rfl
 i53:=by kernel_rfl
 i212:=by kernel_rfl
 m17:=by kernel_rfl }
def RI:Go.Shelf.Ren:=⟨fun | 285=>247 | n=>n,fun | 37=>36 | 53=>128 | 3=>3 | 4=>4 | 51=>218 | 9=>9 | 5=>5 | 0=>0 | n=>n,fun | n=>n⟩
theorem ahA:Go.Proofs.Lays.n285 Tryz.prog RI:={
 mixed:=by kernel_rfl
 f285:=Tryz.func247.trans (congrArg some (by kernel_rfl))
 t0:=Tryz.underlying0
 a0:=Tryz.isAgg0
 z0:=Tryz.sizeOf0
 v0:=Tryz.zeroValue0
 t3:=Tryz.underlying3
 a3:=Tryz.isAgg3
 z3:=Tryz.sizeOf3
 v3:=Tryz.zeroValue3
 t4:=Tryz.underlying4
 a4:=Tryz.isAgg4
 z4:=Tryz.sizeOf4
 v4:=Tryz.zeroValue4
 t5:=Tryz.underlying5
 a5:=Tryz.isAgg5
 z5:=Tryz.sizeOf5
 v5:=Tryz.zeroValue5
 t9:=Tryz.underlying9
 a9:=Tryz.isAgg9
 z9:=Tryz.sizeOf9
 v9:=Tryz.zeroValue9
 t37:=Tryz.underlying36
 a37:=Tryz.isAgg36
 z37:=Tryz.sizeOf36
 v37:=Tryz.zeroValue36
 t51:=Tryz.underlying218
 a51:=Tryz.isAgg218
 z51:=Tryz.sizeOf218
 v51:=Tryz.zeroValue218
 t53:=Tryz.underlying128
 a53:=Tryz.isAgg128
 z53:=Tryz.sizeOf128
 v53:=Tryz.zeroValue128 }
def Ot:Go.Shelf.Ren:=⟨fun | 14=>217 | 16=>242 | 17=>243 | 19=>255 | 20=>256 | 21=>257 | 22=>258 | 23=>259 | 24=>260 | 25=>268 | 27=>270 | 26=>269 | 28=>273 | 29=>274 | 30=>245 | 31=>246 | 32=>247 | 33=>248 | 35=>262 | 34=>261 | 36=>263 | 37=>264 | 38=>265 | 39=>271 | 40=>272 | n=>n,fun | 9=>9 | 3=>3 | 22=>128 | 24=>233 | 25=>252 | 4=>4 | 34=>285 | 5=>5 | 36=>219 | 37=>36 | 0=>0 | 39=>287 | 21=>21 | 44=>298 | 47=>266 | 50=>302 | 48=>300 | 2=>2 | 52=>276 | 55=>279 | 59=>291 | 60=>218 | 20=>20 | 61=>292 | 65=>303 | 66=>304 | 67=>129 | n=>n,fun | 0=>2 | 1=>3 | 2=>1 | 3=>4 | 4=>5 | n=>n⟩
theorem aaP:Go.Proofs.LaysPu.n14 Tryz.prog Ot:={
 mixed:=by kernel_rfl
 f14:=Tryz.func217.trans (congrArg some (by kernel_rfl))
 f16:=Tryz.func242.trans (congrArg some (by kernel_rfl))
 f17:=Tryz.func243.trans (congrArg some (by kernel_rfl))
 f19:=Tryz.func255.trans (congrArg some (by kernel_rfl))
 f20:=Tryz.func256.trans (congrArg some (by kernel_rfl))
 f21:=Tryz.func257.trans (congrArg some (by kernel_rfl))
 f22:=Tryz.func258.trans (congrArg some (by kernel_rfl))
 f23:=Tryz.func259.trans (congrArg some (by kernel_rfl))
 f24:=Tryz.func260.trans (congrArg some (by kernel_rfl))
 f25:=Tryz.func268.trans (congrArg some (by kernel_rfl))
 f26:=Tryz.func269.trans (congrArg some (by kernel_rfl))
 f27:=Tryz.func270.trans (congrArg some (by kernel_rfl))
 f28:=Tryz.func273.trans (congrArg some (by kernel_rfl))
 f29:=Tryz.func274.trans (congrArg some (by kernel_rfl))
 f30:=Tryz.func245.trans (congrArg some (by kernel_rfl))
 f31:=Tryz.func246.trans (congrArg some (by kernel_rfl))
 f32:=Tryz.func247.trans (congrArg some (by kernel_rfl))
 f33:=Tryz.func248.trans (congrArg some (by kernel_rfl))
 f34:=Tryz.func261.trans (congrArg some (by kernel_rfl))
 f35:=Tryz.func262.trans (congrArg some (by kernel_rfl))
 f36:=Tryz.func263.trans (congrArg some (by kernel_rfl))
 f37:=Tryz.func264.trans (congrArg some (by kernel_rfl))
 f38:=Tryz.func265.trans (congrArg some (by kernel_rfl))
 f39:=Tryz.func271.trans (congrArg some (by kernel_rfl))
 f40:=Tryz.func272.trans (congrArg some (by kernel_rfl))
 t0:=Tryz.underlying0
 a0:=Tryz.isAgg0
 z0:=Tryz.sizeOf0
 v0:=Tryz.zeroValue0
 i0:=by kernel_rfl
 t2:=Tryz.underlying2
 a2:=Tryz.isAgg2
 z2:=Tryz.sizeOf2
 v2:=Tryz.zeroValue2
 i2:=by kernel_rfl
 t3:=Tryz.underlying3
 a3:=Tryz.isAgg3
 z3:=Tryz.sizeOf3
 v3:=Tryz.zeroValue3
 i3:=by kernel_rfl
 t4:=Tryz.underlying4
 a4:=Tryz.isAgg4
 z4:=Tryz.sizeOf4
 v4:=Tryz.zeroValue4
 i4:=by kernel_rfl
 t5:=Tryz.underlying5
 a5:=Tryz.isAgg5
 z5:=Tryz.sizeOf5
 v5:=Tryz.zeroValue5
 i5:=by kernel_rfl
 t9:=Tryz.underlying9
 a9:=Tryz.isAgg9
 z9:=Tryz.sizeOf9
 v9:=Tryz.zeroValue9
 i9:=by kernel_rfl
 t20:=Tryz.underlying20
 a20:=Tryz.isAgg20
 z20:=Tryz.sizeOf20
 v20:=Tryz.zeroValue20
 i20:=by kernel_rfl
 t21:=Tryz.underlying21
 a21:=Tryz.isAgg21
 z21:=Tryz.sizeOf21
 v21:=Tryz.zeroValue21
 i21:=by kernel_rfl
 t22:=Tryz.underlying128
 a22:=Tryz.isAgg128
 z22:=Tryz.sizeOf128
 v22:=Tryz.zeroValue128
 i22:=by kernel_rfl
 t24:=Tryz.underlying233
 a24:=Tryz.isAgg233
 z24:=Tryz.sizeOf233
 v24:=Tryz.zeroValue233
 i24:=by kernel_rfl
 t25:=Tryz.underlying252
 a25:=Tryz.isAgg252
 z25:=Tryz.sizeOf252
 v25:=Tryz.zeroValue252
 i25:=by kernel_rfl
 t34:=Tryz.underlying285
 a34:=Tryz.isAgg285
 z34:=Tryz.sizeOf285
 v34:=Tryz.zeroValue285
 i34:=by kernel_rfl
 c34:=by kernel_rfl
 t36:=Tryz.underlying219
 a36:=Tryz.isAgg219
 z36:=Tryz.sizeOf219
 v36:=Tryz.zeroValue219
 i36:=by kernel_rfl
 t37:=Tryz.underlying36
 a37:=Tryz.isAgg36
 z37:=Tryz.sizeOf36
 v37:=Tryz.zeroValue36
 i37:=by kernel_rfl
 t39:=Tryz.underlying287
 a39:=Tryz.isAgg287
 z39:=Tryz.sizeOf287
 v39:=Tryz.zeroValue287
 i39:=by kernel_rfl
 t44:=Tryz.underlying298
 a44:=Tryz.isAgg298
 z44:=Tryz.sizeOf298
 v44:=Tryz.zeroValue298
 i44:=by kernel_rfl
 t47:=Tryz.underlying266
 a47:=Tryz.isAgg266
 z47:=Tryz.sizeOf266
 v47:=Tryz.zeroValue266
 i47:=by kernel_rfl
 t48:=Tryz.underlying300
 a48:=Tryz.isAgg300
 z48:=Tryz.sizeOf300
 v48:=Tryz.zeroValue300
 i48:=by kernel_rfl
 t50:=Tryz.underlying302
 a50:=Tryz.isAgg302
 z50:=Tryz.sizeOf302
 v50:=Tryz.zeroValue302
 i50:=by kernel_rfl
 t52:=Tryz.underlying276
 a52:=Tryz.isAgg276
 z52:=Tryz.sizeOf276
 v52:=Tryz.zeroValue276
 i52:=by kernel_rfl
 t55:=Tryz.underlying279
 a55:=Tryz.isAgg279
 z55:=Tryz.sizeOf279
 v55:=Tryz.zeroValue279
 i55:=by kernel_rfl
 t59:=Tryz.underlying291
 a59:=Tryz.isAgg291
 z59:=Tryz.sizeOf291
 v59:=Tryz.zeroValue291
 i59:=by kernel_rfl
 t60:=Tryz.underlying218
 a60:=Tryz.isAgg218
 z60:=Tryz.sizeOf218
 v60:=Tryz.zeroValue218
 i60:=by kernel_rfl
 t61:=Tryz.underlying292
 a61:=Tryz.isAgg292
 z61:=Tryz.sizeOf292
 t65:=Tryz.underlying303
 a65:=Tryz.isAgg303
 z65:=Tryz.sizeOf303
 v65:=Tryz.zeroValue303
 i65:=by kernel_rfl
 t66:=Tryz.underlying304
 a66:=Tryz.isAgg304
 z66:=Tryz.sizeOf304
 v66:=Tryz.zeroValue304
 i66:=by kernel_rfl
 t67:=Tryz.underlying129
 a67:=Tryz.isAgg129
 z67:=Tryz.sizeOf129
 v67:=Tryz.zeroValue129
 i67:=by kernel_rfl
 g0:=by kernel_rfl
 m0:=by kernel_rfl
 g1:=by kernel_rfl
 m1:=by kernel_rfl
 g2:=by kernel_rfl
 m2:=by kernel_rfl
 g3:=by kernel_rfl
 m3:=by kernel_rfl
 g4:=by kernel_rfl
 m4:=by kernel_rfl }
def Si:Go.Shelf.Ren:=⟨fun | 219=>241 | 217=>251 | 225=>252 | 224=>253 | 267=>254 | 266=>266 | 314=>267 | n=>n,fun | 9=>9 | 3=>3 | 4=>4 | 5=>5 | 46=>219 | 146=>262 | 51=>218 | n=>n,fun | 1=>0 | n=>n⟩
theorem ahE:Go.Proofs.Lays.n219 Tryz.prog Si:={
 mixed:=by kernel_rfl
 f217:=Tryz.func251.trans (congrArg some (by kernel_rfl))
 f219:=Tryz.func241.trans (congrArg some (by kernel_rfl))
 f224:=Tryz.func253.trans (congrArg some (by kernel_rfl))
 f225:=Tryz.func252.trans (congrArg some (by kernel_rfl))
 f266:=Tryz.func266.trans (congrArg some (by kernel_rfl))
 f267:=Tryz.func254.trans (congrArg some (by kernel_rfl))
 f314:=Tryz.func267.trans (congrArg some (by kernel_rfl))
 t3:=Tryz.underlying3
 a3:=Tryz.isAgg3
 z3:=Tryz.sizeOf3
 v3:=Tryz.zeroValue3
 t4:=Tryz.underlying4
 a4:=Tryz.isAgg4
 z4:=Tryz.sizeOf4
 v4:=Tryz.zeroValue4
 t5:=Tryz.underlying5
 a5:=Tryz.isAgg5
 z5:=Tryz.sizeOf5
 v5:=Tryz.zeroValue5
 t9:=Tryz.underlying9
 a9:=Tryz.isAgg9
 z9:=Tryz.sizeOf9
 v9:=Tryz.zeroValue9
 t46:=Tryz.underlying219
 a46:=Tryz.isAgg219
 z46:=Tryz.sizeOf219
 v46:=Tryz.zeroValue219
 t51:=Tryz.underlying218
 a51:=Tryz.isAgg218
 z51:=Tryz.sizeOf218
 v51:=Tryz.zeroValue218
 t146:=Tryz.underlying262
 a146:=Tryz.isAgg262
 z146:=Tryz.sizeOf262
 v146:=Tryz.zeroValue262
 g1:=by kernel_rfl }
def Jf:Go.Shelf.Ren:=⟨fun | 105=>103 | 212=>187 | 99=>188 | 165=>189 | 166=>190 | 170=>191 | 169=>192 | 263=>227 | 264=>228 | 206=>229 | 240=>230 | 241=>231 | 276=>249 | 277=>250 | n=>n,fun | 9=>9 | 3=>3 | 4=>4 | 20=>20 | 0=>0 | 46=>219 | 109=>226 | 5=>5 | 72=>230 | 76=>234 | 51=>218 | 146=>262 | 53=>128 | 148=>264 | 70=>228 | 37=>36 | 75=>233 | 127=>266 | 164=>281 | 80=>129 | n=>n,fun | n=>n⟩
theorem agM:Go.Proofs.Lays.n105 Tryz.prog Jf:={
 mixed:=by kernel_rfl
 f99:=Tryz.func188.trans (congrArg some (by kernel_rfl))
 f105:=Tryz.func103.trans (congrArg some (by kernel_rfl))
 f165:=Tryz.func189.trans (congrArg some (by kernel_rfl))
 f166:=Tryz.func190.trans (congrArg some (by kernel_rfl))
 f169:=Tryz.func192.trans (congrArg some (by kernel_rfl))
 f170:=Tryz.func191.trans (congrArg some (by kernel_rfl))
 f206:=Tryz.func229.trans (congrArg some (by kernel_rfl))
 f212:=Tryz.func187.trans (congrArg some (by kernel_rfl))
 f240:=Tryz.func230.trans (congrArg some (by kernel_rfl))
 f241:=Tryz.func231.trans (congrArg some (by kernel_rfl))
 f263:=Tryz.func227.trans (congrArg some (by kernel_rfl))
 f264:=Tryz.func228.trans (congrArg some (by kernel_rfl))
 f276:=Tryz.func249.trans (congrArg some (by kernel_rfl))
 f277:=Tryz.func250.trans (congrArg some (by kernel_rfl))
 t0:=Tryz.underlying0
 a0:=Tryz.isAgg0
 z0:=Tryz.sizeOf0
 v0:=Tryz.zeroValue0
 t3:=Tryz.underlying3
 a3:=Tryz.isAgg3
 z3:=Tryz.sizeOf3
 v3:=Tryz.zeroValue3
 t4:=Tryz.underlying4
 a4:=Tryz.isAgg4
 z4:=Tryz.sizeOf4
 v4:=Tryz.zeroValue4
 t5:=Tryz.underlying5
 a5:=Tryz.isAgg5
 z5:=Tryz.sizeOf5
 v5:=Tryz.zeroValue5
 t9:=Tryz.underlying9
 a9:=Tryz.isAgg9
 z9:=Tryz.sizeOf9
 v9:=Tryz.zeroValue9
 t20:=Tryz.underlying20
 a20:=Tryz.isAgg20
 z20:=Tryz.sizeOf20
 v20:=Tryz.zeroValue20
 t37:=Tryz.underlying36
 a37:=Tryz.isAgg36
 z37:=Tryz.sizeOf36
 v37:=Tryz.zeroValue36
 t46:=Tryz.underlying219
 a46:=Tryz.isAgg219
 z46:=Tryz.sizeOf219
 v46:=Tryz.zeroValue219
 t51:=Tryz.underlying218
 a51:=Tryz.isAgg218
 z51:=Tryz.sizeOf218
 v51:=Tryz.zeroValue218
 t53:=Tryz.underlying128
 a53:=Tryz.isAgg128
 z53:=Tryz.sizeOf128
 v53:=Tryz.zeroValue128
 t70:=Tryz.underlying228
 a70:=Tryz.isAgg228
 z70:=Tryz.sizeOf228
 v70:=Tryz.zeroValue228
 t72:=Tryz.underlying230
 a72:=Tryz.isAgg230
 z72:=Tryz.sizeOf230
 v72:=Tryz.zeroValue230
 t75:=Tryz.underlying233
 a75:=Tryz.isAgg233
 z75:=Tryz.sizeOf233
 v75:=Tryz.zeroValue233
 t76:=Tryz.underlying234
 a76:=Tryz.isAgg234
 z76:=Tryz.sizeOf234
 v76:=Tryz.zeroValue234
 t109:=Tryz.underlying226
 a109:=Tryz.isAgg226
 z109:=Tryz.sizeOf226
 v109:=Tryz.zeroValue226
 t127:=Tryz.underlying266
 a127:=Tryz.isAgg266
 z127:=Tryz.sizeOf266
 v127:=Tryz.zeroValue266
 t146:=Tryz.underlying262
 a146:=Tryz.isAgg262
 z146:=Tryz.sizeOf262
 v146:=Tryz.zeroValue262
 t148:=Tryz.underlying264
 a148:=Tryz.isAgg264
 z148:=Tryz.sizeOf264
 v148:=Tryz.zeroValue264
 t164:=Tryz.underlying281
 a164:=Tryz.isAgg281
 z164:=Tryz.sizeOf281
 v164:=Tryz.zeroValue281 }
theorem abE:Builder.Extra Tryz.prog Jf:={
 sizeBuilder:=by kernel_rfl
 liesBuilder:=by kernel_rfl
 t5:=Tryz.underlying5
 a5:=Tryz.isAgg5
 z5:=Tryz.sizeOf5
 v5:=Tryz.zeroValue5
 infoByte:=by kernel_rfl
 cellsByte:=by kernel_rfl
 sizeByte:=by kernel_rfl
 neB5:=by decide }
end Go.Proofs
namespace Go.Proofs
open Go.Shelf Go.RowKit Go.Sort Go.Lib
abbrev QS:UInt8→Value:=fun b=>Value.int .u8 (b.toNat:Int)
theorem U9 (w:World) (T:TypeId) (nd:Nat) (hs:nd≤24):Holds QS (w.alloc (.cells Lib.zeros24 T)) w.heap.size 0 (Array.replicate nd (0:UInt8)):=fun j hj=>by
 have hj':j<nd:=by simpa using hj
 refine⟨?_,World.frozen?_alloc_new _ _ _ _⟩
 rw[World.cell?_alloc_new,Lib.zeros24_at _ (by omega),getElem!_pos _ j hj]
 simp
theorem zR (w:World) (o:Obj) (dk:Array UInt8) (k:Nat):Below w.heap.size w ((putRow QS (w.alloc o) w.heap.size 0 dk).drewN k):=by
 rw[alloc_eq_grow]
 obtain⟨os',_,e⟩:=putRow_grow_new QS w #[o] w.heap.size 0 dk (Nat.le_refl _)
 rw[e]
 refine⟨rfl,rfl,rfl,by show w.heap.size≤(w.heap++os').size;simp,fun i hi => ?_⟩
 show (w.heap++os')[i]? = _
 rw[Array.getElem?_append_left hi]
set_option maxHeartbeats 6400000 in
set_option maxRecDepth 100000 in
theorem adV (u:Nat) (XE:u<18446744073709551616) (w:World) (agI:Lib.TabIs Tryz.prog w "internal/strconv.uint64pow10" .u64 Lib.pow10Tab) :
  Calls Tryz.prog 226 #[.int .u64 u,.int .i64 10] w fun e w'=>e = .returned (.string ⟨(Lib.decDigits u).toArray⟩)∧Below w.heap.size w w':=by
 by_cases hs:u<100
 ·go_enter Tryz.func226,Tryz.ntmps226
  go_wp2_with (go_at_call 245;refine(Any.internal_strconv_small afS u hs _).mono ?_;rintro e w' ⟨rfl,rfl⟩)
  go_ret
  exact⟨rfl,Below.refl _ _⟩
 ·have Zr:1≤u:=by omega
  have awI:Lib.nDigits u≤20:=by have:=Lib.numDigits_eq u Zr XE;split at this<;>omega
  have QB:=U9 w 276 (Lib.nDigits u) (by omega)
  have akO:=Any.internal_strconv_formatBase10 ahA w.heap.size 0 24 u (Array.replicate (Lib.nDigits u) 0) (w.alloc (.cells Lib.zeros24 276)) QB (by rw[Array.size_replicate];exact Lib.lt_pow_nDigits u) XE (by rw[Array.size_replicate];omega)
  rw[Array.size_replicate] at akO
  have HH0:=Lib.hid QB
  have hal:Tryz.prog.arrayLen 276=24:=by simp[Program.arrayLen,Tryz.underlying276]
  have Rm:∀W,(Instr.sliceAt 276 (.pointer (some ⟨w.heap.size,0,none⟩)) none (some (.int .i64 (Lib.nDigits u:Int))) none).run Tryz.prog W = .ok (.slice (some ⟨w.heap.size,0,none⟩) (Lib.nDigits u) 24) W:=fun W=>by
   rw[run_sliceAt_array_h W 276 ⟨w.heap.size,0,none⟩ (by simp[Program.arrayLen,Program.elem,Tryz.underlying276]) .i64 (Lib.nDigits u:Int) (by omega) (by rw[hal];omega)]
   go_simp
  clear QB hal
  go_enter Tryz.func226,Tryz.ntmps226
  go_wp2_with (first
   | (go_at_call 246;refine(Any.internal_strconv_numDigits aeL u Zr XE _ (Lib.tabIs_alloc agI _)).mono ?_;rintro e w' ⟨rfl,rfl⟩))
  go_at_call 247
  refine akO.mono ?_
  rintro e w' ⟨rfl,k,v',dk,rfl,hF⟩
  have hcv:(convert 36 9 (.slice (some ⟨w.heap.size,0,none⟩) (Lib.nDigits u) 24)).run Tryz.prog ((putRow QS (w.alloc (.cells Lib.zeros24 276)) w.heap.size 0 dk).drewN k) = .ok (.string ⟨(Lib.decDigits u).toArray⟩) ((putRow QS (w.alloc (.cells Lib.zeros24 276)) w.heap.size 0 dk).drewN k):=by
   have h:=run_convert_bytes_back (P:=Tryz.prog) ((putRow QS (w.alloc (.cells Lib.zeros24 276)) w.heap.size 0 dk).drewN k) 36 9 5 ⟨w.heap.size,0,none⟩ 24 (Lib.decDigits u) Tryz.underlying36 Tryz.underlying5 Tryz.underlying9 (fun j hj=>by
    rw[Lib.row_is_numeral hF j hj,Lib.add_plain,World.cell?_drewN]
    exact cell?_putRow QS _ w.heap.size 0 _ dk HH0.out (by rw[hF.size,Array.size_replicate]) j (by rw[hF.size];rw[Lib.decDigits_length] at hj;exact hj))
   rw[Lib.decDigits_length] at h
   exact h
  go_wp2
  go_ret
  exact⟨rfl,zR w _ dk k⟩
theorem Ys (u:Nat) (XE:u<18446744073709551616) (w:World) (agI:Lib.TabIs Tryz.prog w "internal/strconv.uint64pow10" .u64 Lib.pow10Tab) :
  Calls Tryz.prog 184 #[.int .u64 u,.int .i64 10] w fun e w'=>e = .returned (.string ⟨(Lib.decDigits u).toArray⟩)∧Below w.heap.size w w':=by
 go_enter Tryz.func184,Tryz.ntmps184
 go_wp2_with (go_at_call 226;refine(adV u XE _ agI).mono ?_;rintro e w' ⟨rfl,hb⟩)
 go_ret
 exact⟨rfl,hb⟩
end Go.Proofs
namespace Go.PM
open Go.Proofs Go.RowKit
theorem Below.zD {w w':World} (h:Below w.heap.size w w'):w.heap.size≤w'.heap.size∧(∀rb,rb<w.heap.size→w'.heap[rb]? = w.heap[rb]?)∧w'.os=w.os∧w'.output=w.output∧w'.tape=w.tape :=
 ⟨h.size,h.block,h.os,h.output,h.tape⟩
theorem zN {w:World}:w.heap.size≤w.heap.size∧(∀rb,rb<w.heap.size→w.heap[rb]? = w.heap[rb]?)∧w.os=w.os∧w.output=w.output∧w.tape=w.tape :=
 ⟨Nat.le_refl _,fun _ _=>rfl,rfl,rfl,rfl⟩
def Cq (f:Nat) (p:List Value→aD→Option Value):Prop :=
 Jd Tryz.prog f∧∀L0 args H v,p args H=some v→∀m w fX,Rel m L0 H w→RL m args fX →
  Calls Tryz.prog f fX.toArray w fun e w'=>∃rv,e = .returned rv∧RV m v rv∧w.heap.size≤w'.heap.size∧(∀rb,rb<w.heap.size→w'.heap[rb]? = w.heap[rb]?)∧w'.os=w.os∧w'.output=w.output∧w'.tape=w.tape
theorem RL.one {m:dC} {x:Value} {ys:List Value} (h:RL m [x] ys):∃y,ys=[y]∧RV m x y:=by
 match ys,h with
 | [y],h=>exact⟨y,rfl,h.iT.1⟩
 | [],h=>exact absurd h.1 (by simp)
 | _::_::_,h=>exact absurd h.1 (by simp)
theorem RL.two {m:dC} {x x':Value} {ys:List Value} (h:RL m [x,x'] ys):∃y y',ys=[y,y']∧RV m x y∧RV m x' y':=by
 match ys,h with
 | [y,y'],h=>exact⟨y,y',rfl,h.iT.1,h.iT.2.iT.1⟩
 | [],h=>exact absurd h.1 (by simp)
 | [_],h=>exact absurd h.1 (by simp)
 | _::_::_::_,h=>exact absurd h.1 (by simp)
theorem RL.three {m:dC} {x x' x'':Value} {ys:List Value} (h:RL m [x,x',x''] ys):∃y y' y'',ys=[y,y',y'']∧RV m x y∧RV m x' y'∧RV m x'' y'':=by
 match ys,h with
 | [y,y',y''],h=>exact⟨y,y',y'',rfl,h.iT.1,h.iT.2.iT.1,h.iT.2.iT.2.iT.1⟩
 | [],h=>exact absurd h.1 (by simp)
 | [_],h=>exact absurd h.1 (by simp)
 | [_,_],h=>exact absurd h.1 (by simp)
 | _::_::_::_::_,h=>exact absurd h.1 (by simp)
theorem Dj {m:dC}:∀ {cs rs:List Value} {xs:List ByteArray},strCells cs=some xs→RL m cs rs→rs=xs.map .string
 |
  [],rs,xs,h,hr=>by
  cases h
  match rs,hr with
  | [],_=>rfl
  | _::_,hr=>exact absurd hr.1 (by simp)
 |
  c::cs,rs,xs,h,hr=>by
  match rs,hr with
  | [],hr=>exact absurd hr.1 (by simp)
  |
   r::rs,hr =>
   obtain⟨h1,h2⟩:=hr.iT
   cases c with
   |
    string s =>
    rw[strCells] at h
    cases hc:strCells cs with
    | none=>rw[hc] at h;cases h
    |
     some ys =>
     rw[hc] at h
     cases h
     cases h1
     rw[Dj hc h2]
     rfl
   | _=>cases h
theorem Hp:Cq 219 BC:=by
 refine⟨⟨_,Tryz.func219,by kernel_rfl,by kernel_rfl⟩,fun L0 args H v hp m w fX hR hr => ?_⟩
 unfold BC at hp
 split at hp
 case h_2=>cases hp
 rename_i x
 split at hp
 case isFalse=>cases hp
 rename_i hx
 cases hp
 obtain⟨y,rfl,h1⟩:=hr.one
 cases h1
 refine(Any.bits_LeadingZeros32 adS x w hx.1 hx.2).mono ?_
 rintro e w' ⟨rfl,rfl⟩
 exact⟨_,rfl,.int _ _,zN⟩
theorem JR:Cq 103 E9:=by
 refine⟨⟨_,Tryz.func103,by kernel_rfl,by kernel_rfl⟩,fun L0 args H v hp m w fX hR hr => ?_⟩
 unfold E9 at hp
 split at hp
 case h_2=>cases hp
 rename_i s c
 split at hp
 case isFalse=>cases hp
 rename_i hx
 cases hp
 obtain⟨y,y',rfl,h1,h2⟩:=hr.two
 cases h1
 cases h2
 obtain⟨k,rfl⟩:∃k:Nat,c=k:=⟨c.toNat,by omega⟩
 refine(Any.strings_Repeat agM abE s k w (by omega) hx.2.2).mono ?_
 rintro e w' ⟨rfl,hb⟩
 exact⟨_,rfl,.str _,Below.zD hb⟩
theorem NQ:Cq 186 N7:=by
 refine⟨⟨_,Tryz.func186,by kernel_rfl,by kernel_rfl⟩,fun L0 args H v hp m w fX hR hr => ?_⟩
 unfold N7 at hp
 split at hp
 case h_3=>cases hp
 ·cases hp
  obtain⟨y,y',rfl,h1,h2⟩:=hr.two
  cases h1
  cases h2
  refine(Any.strings_Join_none QY MN none 0 _ w).mono ?_
  rintro e w' ⟨rfl,rfl⟩
  exact⟨_,rfl,.str _,zN⟩
 ·rename_i b o n c sep
  obtain⟨y,y',rfl,h1,h2⟩:=hr.two
  cases h2
  cases h1 with
  |
   slice _ _ _ _ l ra rc h hn hc hx ha =>
   split at hp
   ·rename_i V9
    subst V9
    cases hp
    refine(Any.strings_Join_none QY MN (some ra) rc _ w).mono ?_
    rintro e w' ⟨rfl,rfl⟩
    exact⟨_,rfl,.str _,zN⟩
   ·rename_i V9
    split at hp
    case h_2=>cases hp
    rename_i xs NJ
    split at hp
    case isFalse=>cases hp
    rename_i Od
    cases hp
    obtain⟨cs,Qw,KS⟩:=Option.bind_eq_some_iff.1 NJ
    obtain⟨rs,r1,r2,_,r4⟩:=uM hR h Qw
    have HV:=Dj KS r1
    subst HV
    rcases ha with ha | ⟨rfl,ha⟩
    ·omega
    obtain⟨arr,e0,fz0,v1,_⟩:=hR.valid b l h
    have Bf:l.rb<w.heap.size:=(Array.getElem?_eq_some_iff.1 v1).1
    obtain⟨c1,c2,c3,c4⟩:=Od
    subst c1
    refine(Any.strings_Join QY MN l.rb (l.base+o) rc xs sep w (fun j x hj => ?_) Bf c3 (by omega) c4).mono ?_
    ·have:=r4 j (.string x) (by simp[hj])
     rw[Addr.add_lit] at this
     exact this
    ·rintro e w' ⟨rfl,hb⟩
     exact⟨_,rfl,.str _,Below.zD hb⟩
theorem Se {m:dC} {L0:Nat} {H:aD} {w:World} (hR:Rel m L0 H w):Lib.TabIs Tryz.prog w "internal/strconv.uint64pow10" .u64 Lib.pow10Tab:=by
 obtain⟨e,fz,h⟩:=(hR.BB (1,(Lib.pow10Tab.map fun z=>Value.int .u64 z).toArray) (by simp[abD])).1
 have hg:Tryz.prog.globalNamed "internal/strconv.uint64pow10"=some 1:=by kernel_rfl
 unfold Lib.TabIs World.var?
 rw[hg]
 simp only[Option.bind_some,h]
theorem NV:Cq 184 sD:=by
 refine⟨⟨_,Tryz.func184,by kernel_rfl,by kernel_rfl⟩,fun L0 args H v hp m w fX hR hr => ?_⟩
 unfold sD at hp
 split at hp
 case h_2=>cases hp
 rename_i n b
 split at hp
 case isFalse=>cases hp
 rename_i hx
 cases hp
 obtain⟨y,y',rfl,h1,h2⟩:=hr.two
 cases h1
 cases h2
 obtain⟨rfl,h0,h1⟩:=hx
 obtain⟨u,rfl⟩:∃u:Nat,n=u:=⟨n.toNat,by omega⟩
 refine(Ys u (by omega) w (Se hR)).mono ?_
 rintro e w' ⟨rfl,hb⟩
 exact⟨_,rfl,.str _,Below.zD hb⟩
theorem Ms:Cq 241 MY:=by
 refine⟨⟨_,Tryz.func241,by kernel_rfl,by kernel_rfl⟩,fun L0 args H v hp m w fX hR hr => ?_⟩
 unfold MY at hp
 split at hp
 case h_2=>cases hp
 rename_i s p
 split at hp
 case h_2=>cases hp
 rename_i c hc
 cases hp
 obtain⟨y,y',rfl,h1,h2⟩:=hr.two
 cases h1
 cases h2
 have hp:p=⟨#[c]⟩:=by
  obtain⟨a⟩:=p
  obtain⟨l⟩:=a
  have:l=[c]:=hc
  rw[this]
 subst hp
 refine(Any.stringslite_Index_one ahE s c w).mono ?_
 rintro e w' ⟨rfl,rfl⟩
 exact⟨_,rfl,.int _ _,zN⟩
theorem Li:Cq 217 wG:=by
 refine⟨⟨_,Tryz.func217,by kernel_rfl,by kernel_rfl⟩,fun L0 args H v hp m w fX hR hr => ?_⟩
 unfold wG at hp
 split at hp
 case h_2=>cases hp
 rename_i s b z
 split at hp
 case isFalse=>cases hp
 rename_i hx
 obtain⟨rfl,rfl,hs⟩:=hx
 split at hp
 case h_2=>cases hp
 rename_i u hu
 cases hp
 obtain⟨y,y',y'',rfl,h1,h2,h3⟩:=hr.three
 cases h1
 cases h2
 cases h3
 refine(Any.strconv_ParseUint_10_at64_ok aaP s hs u hu w).mono ?_
 have hv:∀m,RV m (.tuple #[.int .u64 (u:Int),.nilIface]) (.tuple #[.int .u64 (u:Int),.nilIface]):=fun m => .tuple _ _ rfl fun i hi=>by
  match i,hi with
  | 0,_=>exact .int _ _
  | 1,_=>exact .nilIface
  | n+2,hi=>exact absurd hi (by simp)
 rintro e w' ⟨rfl,rfl | rfl⟩
 ·exact⟨_,rfl,hv m,zN⟩
 ·exact⟨_,rfl,hv m,Below.zD (Lib.bytesWorld_below _ _ _)⟩
theorem ahS {L0:Nat}:YL Tryz.prog cfg L0:=by
 intro f p hp
 have Bs:Hh f=some p:=hp
 unfold Hh at Bs
 split at Bs
 ·rename_i h;subst h;cases Bs;exact⟨NV.1,NV.2 L0⟩
 split at Bs
 ·rename_i h;subst h;cases Bs;exact⟨JR.1,JR.2 L0⟩
 split at Bs
 ·rename_i h;subst h;cases Bs;exact⟨NQ.1,NQ.2 L0⟩
 split at Bs
 ·rename_i h;subst h;cases Bs;exact⟨Hp.1,Hp.2 L0⟩
 split at Bs
 ·rename_i h;subst h;cases Bs;exact⟨Ms.1,Ms.2 L0⟩
 split at Bs
 ·rename_i h;subst h;cases Bs;exact⟨Li.1,Li.2 L0⟩
 cases Bs
end Go.PM
namespace Go.PM
open Go.ChangeShapes Go.WideShapes Go.ChangeAt Go.RowKit
open Go.Proofs
structure In (m:dC) (H:aD) (W:World):Prop where
 Wa:∀b l,m b=some l→b<H.length
 valid:∀b l,m b=some l→∃arr e fz,W.heap[l.rb]? = some (.cells arr e fz)∧arr.size=l.Nf
 row:∀b l cs e p,m b=some l→H[b]? = some (.row cs e p)→l.eY=e∧l.OB=p∧l.base+cs.length≤l.Nf ∧
  ∀i,i<cs.length→∃rv,W.cell? ⟨l.rb,l.base+i,none⟩=some rv∧RV m (cs.getD i Go.undef) rv∧PM.fD (cs.getD i Go.undef)=true
section
variable {m:dC} {H:aD} {W:World}
theorem In.empty:In (fun _=>none) [] W:=⟨fun _ _ h=>(by cases h),fun _ _ h=>(by cases h),fun _ _ _ _ _ h=>(by cases h)⟩
theorem In.rel (h:In m H W) (hg:My W):Rel m H.length H W :=
 ⟨fun b l hb=>by
  obtain⟨arr,e,fz,h1,h2⟩:=h.valid b l hb
  exact⟨arr,e,fz,h1,h2,fun hl=>by have:=h.Wa b l hb;omega⟩,h.row,fun b1 b2 l1 l2 hl h1 _ _ _ _=>by have:=h.Wa b1 l1 h1;omega,fun x hx=>⟨hg x hx,fun b l hb hm _=>by have:=h.Wa b l hm;omega⟩⟩
theorem In.Pb (h:In m H W) {b:Nat} (hb:H.length≤b):m b=none:=by
 cases hm:m b with
 | none=>rfl
 | some l=>have:=h.Wa b l hm;omega
theorem In.add (h:In m H W) {rb base eY:Nat} {arr:Array Value} {e:TypeId} {fz:Nat×Nat} {cs:List Value} (hb:W.heap[rb]? = some (.cells arr e fz)) (oW:base+cs.length≤arr.size)
  (hc:∀i,i<cs.length→∃rv,W.cell? ⟨rb,base+i,none⟩=some rv∧RV (rN m H.length ⟨rb,base,eY,arr.size,false⟩) (cs.getD i Go.undef) rv∧PM.fD (cs.getD i Go.undef)=true) :
  In (rN m H.length ⟨rb,base,eY,arr.size,false⟩) (H++[.row cs eY false]) W:=by
 have hn:=h.Pb (Nat.le_refl H.length)
 refine⟨fun b l wQ => ?_,fun b l wQ => ?_,fun b l ds e' p wQ mU => ?_⟩
 ·by_cases he:b=H.length
  ·subst he;simp
  ·rw[cL he] at wQ
   have:=h.Wa b l wQ
   simp;omega
 ·by_cases he:b=H.length
  ·subst he
   rw[bP] at wQ
   cases wQ
   exact⟨arr,e,fz,hb,rfl⟩
  ·rw[cL he] at wQ
   exact h.valid b l wQ
 ·by_cases he:b=H.length
  ·subst he
   rw[bP] at wQ
   cases wQ
   rw[Tl] at mU
   cases mU
   exact⟨rfl,rfl,oW,hc⟩
  ·rw[cL he] at wQ
   have aU:=h.Wa b l wQ
   rw[MJ aU] at mU
   obtain⟨h1,h2,h3,h4⟩:=h.row b l ds e' p wQ mU
   refine⟨h1,h2,h3,fun i hi => ?_⟩
   obtain⟨rv,g1,g2,g3⟩:=h4 i hi
   exact⟨rv,g1,g2.mono (rD hn),g3⟩
end
theorem Ta {α:Type} (p:Nat→α→Prop):∀c,(∀i,i<c→∃x,p i x)→∃xs:List α,xs.length=c∧∀i x,xs[i]? = some x→p i x
 | 0,_=>⟨[],rfl,fun i x hx=>by simp at hx⟩
 |
  c+1,h=>by
  obtain⟨xs,h1,h2⟩:=Ta p c fun i hi=>h i (by omega)
  obtain⟨x,h3⟩:=h c (by omega)
  refine⟨xs++[x],by simp[h1],fun i y hy => ?_⟩
  rcases Nat.lt_or_ge i xs.length with hi | hi
  ·rw[List.getElem?_append_left hi] at hy
   exact h2 i y hy
  ·rw[List.getElem?_append_right hi] at hy
   have hi0:i-xs.length=0:=by
    rcases Nat.eq_zero_or_pos (i-xs.length) with h | h
    ·exact h
    ·rw[List.getElem?_eq_none (by simp;omega)] at hy;cases hy
   rw[hi0] at hy
   cases hy
   have:i=c:=by omega
   subst this
   exact h3
theorem XY {f:Nat} {args fX:List Value} {H H':aD} {v:Value} {m:dC} {W:World} (hI:In m H W) (hr:RL m args fX) (h:pC f args H.length H=some (v,H')) (hg:My W:=by first | assumption | exact fun x hx=>nomatch hx) :
  Calls Tryz.prog f fX.toArray W fun e W'=>∃m' rv,e = .returned rv∧RV m' v rv∧Below W.heap.size W W':=by
 obtain⟨n,hn⟩:=(sI cfg hC).1 h
 refine(Fx Tryz.checked.mixed ahS aeW n f args H.length H v H' hn m W fX (hI.rel hg) (Nat.le_refl _) (Nat.le_refl _) hr (fun b hb _=>hI.Pb hb)).2.mono ?_
 rintro e W' ⟨m',rv,rfl,h1,_,h3⟩
 refine⟨m',rv,rfl,h1,⟨h3.same.1,h3.same.2.2,h3.same.2.1,h3.size,fun k hk=>h3.bO k hk fun b l hb hm _ => ?_⟩⟩
 rw[hI.Pb hb] at hm
 cases hm
end Go.PM
namespace Go.PM
def Rl (c:iZ):Prop:=(0≤c.t∧c.t≤10000)∧(1≤c.w∧c.w≤1000)∧(0≤c.k∧c.k≤9)
instance (c:iZ):Decidable (Rl c):=by unfold Rl;infer_instance
def agE (cs:List iZ) (i:Nat) (c:iZ):Prop:=Rl c∧∀b,0<i→cs[i-1]? = some b→b.t≤c.t
def kT (cs:List iZ):Prop:=(∀i c,cs[i]? = some c→agE cs i c)∧cs.length≤24
noncomputable instance (cs:List iZ):Decidable (kT cs):=Classical.propDecidable _
theorem kT.at {cs:List iZ} (h:kT cs) {i:Nat} {c:iZ} (hc:cs[i]? = some c):(0≤c.t∧c.t≤10000)∧(1≤c.w∧c.w≤1000)∧(0≤c.k∧c.k≤9):=(h.1 i c hc).1
def wl (time:Int):List iZ→Int→Int→Int
 | [],l,s=>max (l-(time-s)) 0
 | c::cs,l,s=>if time<c.t then max (l-(time-s)) 0 else wl time cs (max (l-(c.t-s)) 0+c.w) c.t
def aoS (cs:List iZ) (time:Int):Prop:=kT cs∧(0≤time∧time≤1000000000)
noncomputable instance (cs:List iZ) (time:Int):Decidable (aoS cs time):=Classical.propDecidable _
def alC (cs:List iZ) (ls:List Int):Prop:=kT cs∧ls.length=cs.length∧∀x∈ls,0≤x∧x≤1000000000
noncomputable instance (cs:List iZ) (ls:List Int):Decidable (alC cs ls):=Classical.propDecidable _
def alB (cs:List iZ) (ls:List Int) (time:Int):Prop:=alC cs ls∧(0≤time∧time≤1000000000)
noncomputable instance (cs:List iZ) (ls:List Int) (time:Int):Decidable (alB cs ls time):=Classical.propDecidable _
def arZ (cs:List iZ) (ps:List Int):Prop:=kT cs∧ps.length=cs.length∧∀x∈ps,0≤x∧x≤10000
noncomputable instance (cs:List iZ) (ps:List Int):Decidable (arZ cs ps):=Classical.propDecidable _
end Go.PM
namespace Go.Proofs.YtodamlihdkalfaaGreatDoor
open Go.ChangeShapes Go.WideShapes Go.ChangeAt Go.RowKit Go.PM
theorem own:ownKnob Tryz.prog.godebug=none:=by kernel_rfl
theorem laidOut:laidOutB Tryz.prog=true:=by kernel_rfl
theorem three {α:Type} {l:List α} (h:l.length=3):∃a b c,l=[a,b,c]:=by
 rcases l with _ | ⟨a,_ | ⟨b,_ | ⟨c,_ | ⟨d,l⟩⟩⟩⟩
 ·cases h
 ·cases h
 ·cases h
 ·exact⟨a,b,c,rfl⟩
 ·simp at h
end Go.Proofs.YtodamlihdkalfaaGreatDoor
namespace Go.PM
def Au:List Nat:=[]
 ++ [52]
 ++ [55]
 ++ [56]
 ++ [43]
 ++ [45]
 ++ [50]
 ++ [67]
 ++ [70]
 ++ [71]
 ++ [76]
 ++ [78]
 ++ [79]
 ++ [60]
 ++ [62]
 ++ [72]
 ++ [17]
 ++ [19]
 ++ [23]
 ++ [53]
 ++ [51]
 ++ [21]
 ++ [20]
 ++ [49]
 ++ [48]
 ++ [64]
 ++ [63]
 ++ [68]
 ++ [66]
 ++ [77]
 ++ [75]
 ++ [182]
 ++ [220]
 ++ [221]
 ++ [239]
 ++ [240]
 ++ [202]
 ++ [185]
 ++ [84]
 ++ [87]
 ++ [165]
 ++ [85]
 ++ [85]
 ++ [86]
 ++ [26]
 ++ [111]
 ++ [200]
 ++ [132]
 ++ [149]
 ++ [204]
 ++ [143]
 ++ [129]
 ++ [125]
 ++ [128]
 ++ [123]
 ++ [127]
 ++ [122]
 ++ [207]
 ++ [150]
 ++ [144]
 ++ [131]
 ++ [148]
 ++ [142]
end Go.PM
namespace Go.PM
inductive TK where
 | op
 | cl (e:Nat)
 | nil
 deriving DecidableEq
inductive VV where
 | any
 | sc (v:Value)
 | agg (cs:List VV)
 | dS (vs:List VV)
 | tree (es:List VV) (k:TK)
 | dA (x:VV) (off:Nat)
 | ref (b g o n c:Nat)
 | ptr (b g j off:Nat)
 | sU (f:Nat) (fE:List VV)
 deriving Inhabited
inductive bM where
 | dead
 | row (g:Nat) (es:List VV) (e:Nat) (w:Bool)
 deriving Inhabited
abbrev aA:=List bM
abbrev dI:=Nat→VV
def nS:VV := .dS []
def jW:Value→Bool
 | .bool _ | .int _ _ | .string _ | .pointer none | .nilFunc | .nilIface=>true
 | _=>false
def iO:Value→VV
 | .slice none 0 0 => .tree [] .nil
 | v=>if jW v then .sc v else .any
def inj:Value→VV
 | .agg cs => .agg (cs.toList.map iO)
 | .tuple vs=>if vs.isEmpty then .dS [] else .any
 | v=>iO v
def dW (ρ:dI):Operand→VV
 | .tmp t=>ρ t
 | .const v=>inj v
 | .global _ => .any
 | .func f => .sU f []
def HB (ρ:dI):Option Nat→VV→dI
 | none,_=>ρ
 | some d,v=>fun k=>if k=d then v else ρ k
def aB:VV→List VV
 | .agg cs=>cs
 | v=>[v]
def elemOf:List VV→VV
 | [x]=>x
 | cs => .agg cs
def aZ:VV→Bool
 | .any | .agg _ | .dS _=>false
 | _=>true
def uni:List VV→Bool
 | []=>true
 | x::xs=>xs.all fun y=>(aB y).length == (aB x).length
mutual
def aN:VV→Bool
 | .any=>false
 | .sc v=>jW v
 | .agg cs=>aM cs
 | .dS vs=>aM vs
 | .tree es k=>decide (k = .op)&&aM es&&uni es
 | .dA x _=>aN x
 | .ref .. => false
 | .ptr .. => false
 | .sU _ fE=>aM fE
def aM:List VV→Bool
 | []=>true
 | x::xs=>aN x&&aM xs
end
def yB:VV→Bool
 | .agg [_]=>false
 | _=>true
mutual
def gA:VV→Bool
 | .any=>false
 | .sc v=>jW v
 | .agg cs=>oS cs
 | .dS vs=>oS vs
 | .tree es k=>decide (k = .op)&&oS es&&uni es&&es.all yB
 | .dA _ _=>false
 | .ref .. => false
 | .ptr .. => false
 | .sU _ _=>false
def oS:List VV→Bool
 | []=>true
 | x::xs=>gA x&&oS xs
end
mutual
def Ip:VV→Bool
 | .sc v=>jW v
 | .agg cs=>Qe cs
 | .dS vs=>Qe vs
 | _=>false
def Qe:List VV→Bool
 | []=>true
 | x::xs=>Ip x&&Qe xs
end
mutual
def below (k:Nat):VV→Bool
 | .any=>true
 | .sc _=>true
 | .agg cs=>kH k cs
 | .dS vs=>kH k vs
 | .tree es _=>kH k es
 | .dA x _=>below k x
 | .ref b _ _ _ _=>decide (b<k)
 | .ptr b _ _ _=>decide (b<k)
 | .sU _ fE=>kH k fE
def kH (k:Nat):List VV→Bool
 | []=>true
 | x::xs=>below k x&&kH k xs
end
def GC (k:Nat) (v:VV):VV:=if below k v then v else .any
def aF (H:aA) (b g:Nat):Option (List VV×Nat×Bool) :=
 match H[b]? with
 | some (.row g' es e w)=>if g'=g then some (es,e,w) else none
 | _=>none
def nZ:List CK→List VV→List VV→Option Bool
 | [],[],[]=>some true
 |
  k::ks,.sc x::xs,.sc y::ys=>match rX k x y with
  | some true=>nZ ks xs ys
  | some false=>some false
  | none=>none
 | _,_,_=>none
def cP (cs:List VV) (o:Nat) (new:List VV):List VV:=cs.take o++new++cs.drop (o+new.length)
def isAny:VV→Bool
 | .any=>true
 | _=>false
def vZ (places:List (Nat×Nat)) (cells:List VV):List (Nat×VV)→Option (List VV)
 | []=>some cells
 |
  (i,v)::rest =>
  match places[i]? with
  | none=>none
  |
   some (off,size) =>
   if (aB v).length=size∧off+size≤cells.length∧isAny v=false then
    vZ places (cells.take off++aB v++cells.drop (off+size)) rest
   else none
def tP (e:Nat) (es:List VV):List (Nat×VV)→Option (List VV)
 | []=>some es
 | (i,v)::rest=>if i<es.length∧(aB v).length=e∧(aB v).all aZ then tP e (es.set i v) rest else none
def D5:Option VV→Option (Option Value)
 | none=>some none
 | some (.sc v)=>some (some v)
 | some _=>none
def dP (agg:Bool) (size:Nat) (x:VV) (o:Nat):Option VV :=
 if agg then (if o+size≤(aB x).length then some (.agg (((aB x).drop o).take size)) else none) else (aB x)[o]?
structure Fl where
 bf:Bool
 lr:Bool
def cQ (agg:Bool) (size:Nat) (p:VV) (H:aA):Option VV :=
 match p with
 | .dA x o=>dP agg size x o
 |
  .ptr b g j o=>match aF H b g with
  |
   some (es,_,_)=>match es[j]? with
   | some x=>dP agg size x o
   | none=>none
  | none=>none
 | _=>none
def bJ (size:Nat) (x i:VV) (H:aA):Option VV :=
 match x,i with
 |
  .tree es _,.sc (.int _ i)=>if 0≤i then match es[i.toNat]? with
  | some x=>if (aB x).length=size then some (.dA x 0) else none
  | none=>none
  else none
 |
  .ref b g o n _,.sc (.int _ i)=>match aF H b g with
  | some (_,e,_)=>if e=size∧0≤i∧i<n then some (.ptr b g (o+i.toNat) 0) else none
  | none=>none
 | _,_=>none
def CW (size:Nat) (x:VV) (l h m:Option VV) (H:aA):Option VV :=
 match D5 l,D5 h,D5 m with
 |
  some lv,some hv,some mv =>
  match x with
  |
   .tree (y::ys) _ =>
   if (aB y).length=size then
    match eA mv (some (ys.length+1)) (ys.length+1) with
    | none=>none
    |
     some m=>match eA hv (if mv.isSome then none else some (ys.length+1)) m with
     | none=>none
     |
      some h=>match eA lv (some 0) h with
      | none=>none
      | some l=>if mv.isSome∧m=l then some (.tree [] (.cl size)) else some (.tree (((y::ys).drop l).take (h-l)) .op)
   else none
  |
   .ref b g o n c =>
   match aF H b g with
   |
    some (_,e,_) =>
    if e=size then
     match eA mv (some c) c with
     | none=>none
     |
      some m=>match eA hv (if mv.isSome then none else some n) m with
      | none=>none
      |
       some h=>match eA lv (some 0) h with
       | none=>none
       | some l=>if mv.isSome∧m=l then some (.tree [] (.cl size)) else some (.ref b g (o+l) (h-l) (m-l))
    else none
   | none=>none
  | _=>none
 | _,_,_=>none
def Gi:List VV→Option (List UInt8)
 | []=>some []
 | .sc (.int .u8 n)::r=>(Gi r).map (UInt8.ofNat n.toNat :: ·)
 | _=>none
def cN (size:Nat) (y:VV) (H:aA):Option (List VV) :=
 match y with
 | .tree es _=>if es.all fun x=>(aB x).length == size&&(aB x).all aZ then some es else none
 |
  .ref b g o n _=>match aF H b g with
  | some (es,e,_)=>if e=size∧o+n≤es.length∧(((es.drop o).take n).all fun x=>(aB x).all aZ) then some ((es.drop o).take n) else none
  | none=>none
 | .sc (.string s)=>if size=1 then some (s.data.toList.map fun b => .sc (.int .u8 b.toNat)) else none
 | _=>none
def eK (lo size bytes:Nat) (x:VV) (new:List VV) (H:aA):Option (VV×aA) :=
 if 1≤bytes∧1≤size then
  match x with
  | .tree [] .nil=>if new.length=0 then some (x,H) else if new.length*bytes≤140737488355328 then some (.ref H.length 0 0 new.length new.length,H++[.row 0 new size true]) else none
  | .tree es (.cl e)=>if e=size then (if new.length=0 then some (x,H) else if (es.length+new.length)*bytes≤140737488355328 then some (.ref H.length 0 0 (es.length+new.length) (es.length+new.length),H++[.row 0 (es++new) size true]) else none) else none
  |
   .ref b g o n c=>match aF H b g with
   |
    some (es,e,true) =>
    if e=size∧lo≤b∧o+n≤es.length then
     if n+new.length≤c then
      if new.length=0 then some (x,H)
      else if o+n+new.length≤es.length then some (.ref b g o (n+new.length) c,H.set b (.row g (cP es (o+n) new) e true))
      else none
     else if (n+new.length)*bytes≤140737488355328 then some (.ref b (g+1) 0 (n+new.length) (n+new.length),H.set b (.row (g+1) ((es.drop o).take n++new) e true))
     else none
    else none
   | _=>none
  | _=>none
 else none
def bX (lo size:Nat) (p v:VV) (H:aA):Option aA :=
 match p with
 |
  .ptr b g j o=>match aF H b g with
  |
   some (es,e,true)=>match es[j]? with
   |
    some x =>
    if (aB v).length=size∧lo≤b∧(aB v).all aZ then
     if o=0∧size=e then some (H.set b (.row g (es.set j v) e true))
     else if 2≤e∧o+size≤e then some (H.set b (.row g (es.set j (.agg (cP (aB x) o (aB v)))) e true))
     else none
    else none
   | none=>none
  | _=>none
 | _=>none
def yY (zero:List Value) (bytes:Nat) (l c:VV) (H:aA):Option (VV×aA) :=
 match l,c with
 | .sc (.int .i64 l),.sc (.int .i64 c)=>if 0≤l∧l≤c∧c*bytes≤281474976710656∧c≤9223372036854775807 then
  some (.ref H.length 0 0 l.toNat c.toNat,H++[.row 0 (List.replicate c.toNat (elemOf (zero.map iO))) zero.length true]) else none
 | _,_=>none
def jX (lr:Bool) (zero:List Value) (n:Nat) (parts:List (Nat×VV)) (H:aA):Option (VV×aA) :=
 match tP zero.length (List.replicate n (elemOf (zero.map iO))) parts with
 | some es=>if (zero.map iO).all aZ then (if n=0∨lr=true then some (.ref H.length 0 0 n n,H++[.row 0 es zero.length true]) else some (.tree es (.cl zero.length),H)) else none
 | none=>none
def GU (lo size:Nat) (x y:VV) (H:aA):Option (VV×aA) :=
 match x,cN size y H with
 | .tree [] .nil,some _=>some (.sc (.int .i64 0),H)
 |
  .ref b g o d _,some new=>match aF H b g with
  | some (es,e,true)=>if e=size∧lo≤b∧o+(new.take d).length≤es.length then some (.sc (.int .i64 (new.take d).length),H.set b (.row g (cP es o (new.take d)) e true)) else none
  | _=>none
 | _,_=>none
def MO (lo:Nat) (zero:List Value) (x:VV) (H:aA):Option aA :=
 match x with
 |
  .ref b g o n _=>match aF H b g with
  | some (es,e,true)=>if n=0 then some H else if e=zero.length∧lo≤b∧o+n≤es.length∧(zero.map iO).all aZ then some (H.set b (.row g (cP es o (List.replicate n (elemOf (zero.map iO)))) e true)) else none
  | _=>none
 | _=>none
def DW (neg:Bool) (x:VV) (H:aA):Option VV :=
 match x with
 | .tree [] .nil=>some (.sc (.bool (true != neg)))
 | .tree [] (.cl _)=>some (.sc (.bool (false != neg)))
 | .tree (_::_) _=>some (.sc (.bool (false != neg)))
 | .ref b g _ _ _=>(aF H b g).map fun _ => .sc (.bool (false != neg))
 | _=>none
def nR (x:VV) (H:aA):Option VV :=
 match x with
 | .tree es _=>some (.sc (.int .i64 es.length))
 | .ref b g _ n _=>(aF H b g).map fun _ => .sc (.int .i64 n)
 | _=>none
def FJ (off:Nat) (x:VV) (H:aA):Option VV :=
 match x with
 | .dA x o=>some (.dA x (o+off))
 | .ptr b g j o=>(aF H b g).map fun _ => .ptr b g j (o+off)
 | _=>none
def UN (x:VV) (H:aA):Option VV :=
 match x with
 | .dA x o=>some (.dA x o)
 | .ptr b g j o=>(aF H b g).map fun _ => .ptr b g j o
 | _=>none
def sE (x:VV) (l h:Option VV):Option VV :=
 match x,D5 l,D5 h with
 |
  .sc (.string s),some lv,some hv=>match xJ lv hv s.size with
  | some (l,h)=>some (.sc (.string (s.extract l h)))
  | none=>none
 | _,_,_=>none
def abR (agg:Bool) (off size:Nat) (x:VV):Option VV :=
 match x with
 | .agg cs=>if agg then (if off+size≤cs.length then some (.agg ((cs.drop off).take size)) else none) else cs[off]?
 | _=>none
def Jy (f:Value→Option Value) (x:VV):Option VV :=
 match x with
 | .sc a=>(f a).map .sc
 | _=>none
def FN (f:Value→Value→Option Value) (x y:VV):Option VV :=
 match x,y with
 | .sc a,.sc b=>(f a b).map .sc
 | _,_=>none
def Oe (c a b:VV):Option VV :=
 match c with
 | .sc (.bool t)=>some (if t then a else b)
 | _=>none
def Ym (i:Nat) (x:VV):Option VV :=
 match x with
 | .dS vs=>vs[i]?
 | _=>none
def Sh (neg:Bool) (ks:List CK) (x y:VV):Option VV :=
 match x,y with
 | .agg a,.agg b=>(nZ ks a b).map fun t => .sc (.bool (t != neg))
 | _,_=>none
def Ug:Value→Option Value
 | .string s=>some (.string s)
 | _=>none
def yK:Value→Option Value
 | .string s=>some (.int .i64 s.size)
 | _=>none
def E0:Value→Value→Option Value
 | .string s,.int _ i=>if 0≤i∧i<s.size then some (.int .u8 ((s.data.toList.getD i.toNat 0).toNat:Int)) else none
 | _,_=>none
def vop (fl:Fl) (lo:Nat) (o:lM) (ρ:dI) (H:aA):Option (VV×aA) :=
 match o with
 | .mv x=>some (dW ρ x,H)
 | .pick c a b=>(Oe (dW ρ c) (dW ρ a) (dW ρ b)).map (·,H)
 | .bin op x y=>(FN (cV op) (dW ρ x) (dW ρ y)).map (·,H)
 | .eqb neg x y=>(FN (OE neg) (dW ρ x) (dW ρ y)).map (·,H)
 | .isnil neg x=>(DW neg (dW ρ x) H).map (·,H)
 | .eqagg neg ks x y=>(Sh neg ks (dW ρ x) (dW ρ y)).map (·,H)
 | .un op x=>(Jy (YK op) (dW ρ x)).map (·,H)
 | .cvt k x=>(Jy (Rf k) (dW ρ x)).map (·,H)
 | .cvs x=>(Jy Ug (dW ρ x)).map (·,H)
 | .ext x i=>(Ym i (dW ρ x)).map (·,H)
 | .fld agg off size x=>(abR agg off size (dW ρ x)).map (·,H)
 | .build zero places parts=>(vZ places (zero.map iO) (parts.map fun(i,x)=>(i,dW ρ x))).map fun cs=>(.agg cs,H)
 | .chk x=>(UN (dW ρ x) H).map (·,H)
 | .faddr off x=>(FJ off (dW ρ x) H).map (·,H)
 | .iaddr size x i=>(bJ size (dW ρ x) (dW ρ i) H).map (·,H)
 | .sidx x i=>(FN E0 (dW ρ x) (dW ρ i)).map (·,H)
 | .ssub x l h=>(sE (dW ρ x) (l.map (dW ρ)) (h.map (dW ρ))).map (·,H)
 | .mkfn f fE=>some (.sU f (fE.map (dW ρ)),H)
 | .len x=>(nR (dW ρ x) H).map (·,H)
 | .slen x=>(Jy yK (dW ρ x)).map (·,H)
 | .min x y=>(FN ON (dW ρ x) (dW ρ y)).map (·,H)
 | .max x y=>(FN OG (dW ρ x) (dW ρ y)).map (·,H)
 | .load agg size p=>(cQ agg size (dW ρ p) H).map (·,H)
 | .sub size x l h m=>(CW size (dW ρ x) (l.map (dW ρ)) (h.map (dW ρ)) (m.map (dW ρ)) H).map (·,H)
 |
  .b2s x=>match dW ρ x with
  | .sc _=>none
  |
   y=>match cN 1 y H with
   | some es=>(Gi es).map fun bs=>(.sc (.string ⟨bs.toArray⟩),H)
   | none=>none
 | .new zero=>if (zero.map iO).all aZ then some (.ptr H.length 0 0 0,H++[.row 0 [elemOf (zero.map iO)] zero.length true]) else none
 | .box x=>if (aB (dW ρ x)).all aZ then (if fl.bf then some (.dA (dW ρ x) 0,H) else some (.ptr H.length 0 0 0,H++[.row 0 [dW ρ x] (aB (dW ρ x)).length true])) else none
 | .make zero bytes l c=>if (zero.map iO).all aZ then yY zero bytes (dW ρ l) (dW ρ c) H else none
 | .lit zero n parts=>jX fl.lr zero n (parts.map fun(i,x)=>(i,dW ρ x)) H
 | .store size p v=>(bX lo size (dW ρ p) (dW ρ v) H).map fun H'=>(nS,H')
 |
  .app size bytes x y=>match cN size (dW ρ y) H with
  | some new=>eK lo size bytes (dW ρ x) new H
  | none=>none
 |
  .appz zero bytes x n=>match dW ρ n with
  | .sc (.int .i64 n)=>if 0≤n∧n*bytes≤140737488355328∧(zero.map iO).all aZ then eK lo zero.length bytes (dW ρ x) (List.replicate n.toNat (elemOf (zero.map iO))) H else none
  | _=>none
 | .copy size x y=>GU lo size (dW ρ x) (dW ρ y) H
 | .clear zero x=>(MO lo zero (dW ρ x) H).map fun H'=>(nS,H')
 | _=>none
inductive VBx where
 | no
 | row (i:Nat) (w:Bool)
 | Ah (i:Nat)
 | tree
 | bad
def As (H:aA):VV→VBx
 | .tree [] .nil => .no
 | .tree _ _ => .tree
 | .dA _ _ => .tree
 |
  .ref b g _ _ _=>match aF H b g with
  | some (_,_,w) => .row b w
  | none => .Ah b
 |
  .ptr b g _ _=>match aF H b g with
  | some (_,_,w) => .row b w
  | none => .Ah b
 | .any => .bad
 | _ => .no
def zJ (H:aA) (x y:VV):Bool :=
 match As H x,As H y with
 | .bad,_=>false
 | _,.bad=>false
 | .no,_=>true
 | _,.no=>true
 | .row i _,.row j _=>i != j
 | .row i _,.Ah j=>i != j
 | .Ah i,.row j _=>i != j
 | .Ah _,.Ah _=>false
 | .Ah _,.tree=>false
 | .tree,.Ah _=>false
 | .row _ w,.tree=>w
 | .tree,.row _ w=>w
 | .tree,.tree=>false
def sR (ρ:dI) (H:aA) (c:Operand×Operand):Bool:=zJ H (dW ρ c.1) (dW ρ c.2)
def AG (g:Option (Nat×Bool)) (ρ:dI):Option Bool :=
 match g with
 | none=>some true
 |
  some (t,want)=>match ρ t with
  | .sc (.bool b)=>some (b == want)
  | .dS _=>some false
  | _=>none
def fz:Nat→aA→VV→Option VV
 | 0,_,_=>none
 |
  d+1,H,v =>
  if aN v then some v else
  match v with
  | .agg cs=>(cs.mapM (fz d H)).map .agg
  | .dS vs=>(vs.mapM (fz d H)).map .dS
  | .tree es _=>(es.mapM (fz d H)).map (.tree · .op)
  | .dA x o=>(fz d H x).map (.dA · o)
  |
   .ref b g o n c=>match aF H b g with
   | some (es,_,_)=>if o+n≤es.length∧n≤c then (((es.drop o).take n).mapM (fz d H)).map (.tree · .op) else none
   | none=>none
  |
   .ptr b g j o=>match aF H b g with
   |
    some (es,_,_)=>match es[j]? with
    | some x=>(fz d H x).map (.dA · o)
    | none=>none
   | none=>none
  | .sU f fE=>(fE.mapM (fz d H)).map (.sU f ·)
  | _=>none
def hJ:Nat→aA→VV→List Nat
 | 0,_,_=>[]
 |
  d+1,H,v =>
  if aN v then [] else
  match v with
  | .agg cs=>cs.flatMap (hJ d H)
  | .dS vs=>vs.flatMap (hJ d H)
  | .tree es _=>es.flatMap (hJ d H)
  | .dA x _=>hJ d H x
  |
   .ref b g o n _=>match aF H b g with
   | some (es,_,_)=>b::((es.drop o).take n).flatMap (hJ d H)
   | none=>[]
  |
   .ptr b g j _=>match aF H b g with
   |
    some (es,_,_)=>match es[j]? with
    | some x=>b::hJ d H x
    | none=>[]
   | none=>[]
  | .sU _ fE=>fE.flatMap (hJ d H)
  | _=>[]
def AF (H:aA) (b:Nat):aA :=
 match H[b]? with
 | some (.row g es e _)=>H.set b (.row g es e false)
 | _=>H
def cS (H:aA) (ids:List Nat):aA:=ids.foldl AF H
def depth:Nat:=8
end Go.PM