/- Texts of a claim, in one: part 3. -/
import Derived.Lib.ItoaNum
import Derived.Lib.Join
import Derived.Lib.BitFns
import Derived.Lib.Repeat
import Derived.Lib.Bytealg
import Derived.Lib.ParseIntB
import Derived.Test.YtjmflicajplclaaGreatDoorChecked
import Derived.Laws.BitsLemmas
import Derived.Shelf.Strings.OnBuilder
import Derived.Shelf.Strings.Repeat
import Derived.Shelf.Small.Bits
import Derived.Shelf.Strconv.Itoa1
import Derived.Shelf.Strconv.Itoa2
import Derived.Shelf.LaysM
import Derived.Shelf.Strings.Search2
import Derived.Shelf.Pu.ParseUintPublic10
import Derived.KernelRfl
import Derived.Test.YtjmflicajplclaaGreatDoorProg
import Derived.Lib.Walk
import Derived.Lib.ItoaMem
import Derived.WalkKit
import Derived.BigCall
import Derived.BigGuard
import Derived.Below
import Derived.Shelf.Strings.Search2
import Derived.Shelf.Pu.ParseUintPublic10
import Derived.Shelf.Strings.OnBuilder
import Derived.Shelf.Strings.Repeat
import Derived.Shelf.Small.Bits
import Derived.ProofKit
import Derived.OpenShut
import Derived.ShutString
import Derived.ChangeOld
import Derived.Carry
import Derived.SizedLaws
import Derived.Test.YtjmflicajplclaaGreatDoorRows
import Derived.Test.YtjmflicajplclaaGreatDoorKEb
open Array renaming getD_eq_getD_getElem? → aLm,getElem?_append_left → aLX,getElem?_eq_some_iff → aLn,replicate → aLW,size_replicate → aL5
open List renaming drop_eq_getElem_cons → aLj,flatMap_cons → aL2,getD_eq_getElem?_getD → aLb,getElem?_append_left → aLv,getElem?_append_right → aLw,getElem?_drop → aLc,getElem?_eq_getElem → aLl,getElem?_eq_none → aLE,getElem?_eq_some_iff → aLd,length_cons → aLo,replicate → aL4,take_succ_cons → aL1
open Nat renaming le_max_left → aLZ,le_max_right → aL0,le_refl → aLe,le_succ → aLY,lt_or_ge → aLh,mul_le_mul_right → aLF,succ_mul → aL3
set_option linter.unusedSimpArgs false
set_option linter.unusedVariables false
namespace Go.PM
def aCg:Ex→Exit
 | .normal => .normal
 | .exit id => .exit id
 | .ret => .ret
section
variable {P:Program} {E:Dj} {n:Nat} {call:iB} {lo L0:Nat}
def S7 (P:Program) (n lo L0:Nat) (c:Code) (run:Env→aH→Option (Ex×Env×aH)):Prop :=
 ∀ρ H x aP H',run ρ H=some (x,aP,H')→∀m a w,La n L0 m ρ H a w→L0≤H.length→(∀b,H.length≤b→b<H'.length→m b=none) →
  ∀Q:Exit→Act→World→Prop,(∀m' a' w',La n L0 m' aP H' a' w'→Trans lo m H w m' H' w'→Q (aCg x) a' w')→c.wp P Q a w
theorem aoI {c:Code} {run:Env→aH→Option (Ex×Env×aH)} (hc:S7 P n lo L0 c run) (he:∀ρ H x aP H',run ρ H=some (x,aP,H')→Ext lo H H') (N:Nat):S7 P n lo L0 (.loop c) (BB run N):=by
 intro ρ H x aP H' hr m a w h hl hf Q hQ
 apply wp_loop_rounds N
 have key:∀N ρ H,BB run N ρ H=some (x,aP,H')→∀m a w,La n L0 m ρ H a w→L0≤H.length→(∀b,H.length≤b→b<H'.length→m b=none) →
   (∀m' a' w',La n L0 m' aP H' a' w'→Trans lo m H w m' H' w'→Q (aCg x) a' w')→Code.rounds P c Q N a w:=by
  intro N
  induction N with
  | zero=>intro ρ H h;cases h
  |
   succ N ih =>
   intro ρ H hr m a w h hl hf hQ
   rw[rounds_succ]
   rw[BB] at hr
   split at hr
   ·rename_i AN H1 h1
    have e1:=he _ _ _ _ _ h1
    have e2:=LP he N hr
    refine hc ρ H _ AN H1 h1 m a w h hl (fun b Dh hb2=>hf b Dh (Nat.lt_of_lt_of_le hb2 e2.len)) _ fun m1 a1 w1 hh hT => ?_
    exact ih AN H1 hr m1 a1 w1 hh (Nat.le_trans hl e1.len) (hT.fresh e1.len hf) fun m2 a2 w2 h2 Rg=>hQ m2 a2 w2 h2 (Trans.trans hf e1 e2 hT Rg)
   ·rename_i fN
    refine hc ρ H _ aP H' hr m a w h hl hf _ fun m1 a1 w1 hh hT => ?_
    have:=hQ m1 a1 w1 hh hT
    cases x with
    | normal=>exact absurd hr (fN aP H')
    | exit id=>exact this
    | ret=>exact this
 exact key N ρ H hr m a w h hl hf hQ
theorem sH (F2:P.follows .mixedOrders=true) (qO:AS P L0 call) (vA:vJ call) (eT:L0≤lo) (N:Nat):∀(c:Code) (pc:aE),jP P E n c=some pc→S7 P n lo L0 c (dU call lo N pc)
 |
  .skip,pc,hp=>by
  cases hp
  intro ρ H x aP H' hr m a w h hl hf Q hQ
  cases hr
  exact wp_skip (hQ m a w h (Trans.refl _ _ _ _))
 |
  .region id ops draw,pc,hp=>by
  rw[jP] at hp
  cases hpr:By P E n ops draw with
  | none=>rw[hpr] at hp;cases hp
  |
   some xK =>
   rw[hpr] at hp
   cases hp
   intro ρ H x aP H' hr m a w h hl hf Q hQ
   rw[dU] at hr
   cases hs:jB call lo xK ρ H with
   | none=>rw[hs] at hr;cases hr
   |
    some q =>
    obtain⟨AN,H1⟩:=q
    rw[hs] at hr
    cases hr
    exact YL F2 qO vA hpr hs h eT hl hf hQ
 |
  .seq x y,pc,hp=>by
  rw[jP] at hp
  split at hp
  ·rename_i px py hpx hpy
   cases hp
   intro ρ H e aP H' hr m a w h hl hf Q hQ
   rw[dU] at hr
   apply wp_seq
   split at hr
   ·rename_i AN H1 h1
    have e1:=lD vA px h1
    have e2:=lD vA py hr
    refine sH F2 qO vA eT N x px hpx ρ H _ AN H1 h1 m a w h hl (fun b Dh hb2=>hf b Dh (Nat.lt_of_lt_of_le hb2 e2.len)) _ fun m1 a1 w1 hh hT => ?_
    exact sH F2 qO vA eT N y py hpy AN H1 _ aP H' hr m1 a1 w1 hh (Nat.le_trans hl e1.len) (hT.fresh e1.len hf) Q fun m2 a2 w2 h2 Rg=>hQ m2 a2 w2 h2 (Trans.trans hf e1 e2 hT Rg)
   ·rename_i fN
    refine sH F2 qO vA eT N x px hpx ρ H _ aP H' hr m a w h hl hf _ fun m1 a1 w1 hh hT => ?_
    have:=hQ m1 a1 w1 hh hT
    cases e with
    | normal=>exact absurd hr (fN aP H')
    | exit id=>exact this
    | ret=>exact this
  ·cases hp
 |
  .cond o x y,pc,hp=>by
  rw[jP] at hp
  split at hp
  ·rename_i CU
   split at hp
   ·rename_i px py hpx hpy
    cases hp
    intro ρ H e aP H' hr m a w h hl hf Q hQ
    rw[dU] at hr
    split at hr
    ·rename_i t ht
     have Yy:=X6 (a:=a) (m:=m) (ρ:=ρ) CU fun t _=>h.env t
     rw[ht] at Yy
     generalize hev:a.eval o=ro at Yy
     cases Yy
     refine wp_cond hev ?_
     cases t with
     | true=>exact sH F2 qO vA eT N x px hpx ρ H _ aP H' hr m a w h hl hf Q hQ
     | false=>exact sH F2 qO vA eT N y py hpy ρ H _ aP H' hr m a w h hl hf Q hQ
    ·cases hr
   ·cases hp
  ·cases hp
 |
  .block id x,pc,hp=>by
  rw[jP] at hp
  cases hpx:jP P E n x with
  | none=>rw[hpx] at hp;cases hp
  |
   some px =>
   rw[hpx] at hp
   cases hp
   intro ρ H e aP H' hr m a w h hl hf Q hQ
   rw[dU] at hr
   apply wp_block
   split at hr
   ·rename_i Wz AN H1 h1
    split at hr
    ·rename_i hid
     cases hr
     refine sH F2 qO vA eT N x px hpx ρ H _ aP H' h1 m a w h hl hf _ fun m1 a1 w1 hh hT => ?_
     have:=hQ m1 a1 w1 hh hT
     show Exit.inBlock id Q (.exit Wz) a1 w1
     simp only[Exit.inBlock,if_pos hid]
     exact this
    ·rename_i hid
     cases hr
     refine sH F2 qO vA eT N x px hpx ρ H _ aP H' h1 m a w h hl hf _ fun m1 a1 w1 hh hT => ?_
     have:=hQ m1 a1 w1 hh hT
     show Exit.inBlock id Q (.exit Wz) a1 w1
     simp only[Exit.inBlock,if_neg hid]
     exact this
   ·rename_i fN
    refine sH F2 qO vA eT N x px hpx ρ H _ aP H' hr m a w h hl hf _ fun m1 a1 w1 hh hT => ?_
    have:=hQ m1 a1 w1 hh hT
    cases e with
    | normal=>exact this
    | exit Wz=>exact absurd hr (fN Wz aP H')
    | ret=>exact this
 |
  .loop x,pc,hp=>by
  rw[jP] at hp
  cases hpx:jP P E n x with
  | none=>rw[hpx] at hp;cases hp
  |
   some px =>
   rw[hpx] at hp
   cases hp
   have hx:=sH F2 qO vA eT N x px hpx
   intro ρ H e aP H' hr
   rw[dU] at hr
   exact aoI hx (fun ρ H x aP H' h=>lD vA px h) N ρ H e aP H' hr
 |
  .exit id,pc,hp=>by
  cases hp
  intro ρ H x aP H' hr m a w h hl hf Q hQ
  cases hr
  exact wp_exit (hQ m a w h (Trans.refl _ _ _ _))
 |
  .ret,pc,hp=>by
  cases hp
  intro ρ H x aP H' hr m a w h hl hf Q hQ
  cases hr
  exact wp_ret (hQ m a w h (Trans.refl _ _ _ _))
 | .rangeFunc ..,pc,hp=>by cases hp
 | .scope _,pc,hp=>by cases hp
 | .label _,pc,hp=>by cases hp
 | .goto _,pc,hp=>by cases hp
 | .refuse _,pc,hp=>by cases hp
def Cm (P:Program):ResultVar→Option DI
 | .tmp t=>some (.tmp t)
 | .cell t ty=>(oH P ty).map fun(agg,size,_,_) => .cell t agg size
def PD (a:Act):ResultVar→Sem Value
 | .tmp t=>pure (a.tmps.getD t undef)
 | .cell x t=>do loadVar t (←asAddr (a.tmps.getD x undef))
theorem aEB {m:dS} {ρ:Env} {H:aH} {a:Act} {w:World} (h:La n L0 m ρ H a w) {r:ResultVar} {pr:DI} (hp:Cm P r=some pr) {v:Value} (hv:aaP ρ H pr=some v) :
  ∃rv,RV m v rv∧(PD a r).run P w = .ok rv w:=by
 cases r with
 |
  tmp t =>
  cases hp
  cases hv
  exact⟨_,h.env t,rfl⟩
 |
  cell x t =>
  simp only[Cm] at hp
  cases ht:oH P t with
  | none=>rw[ht] at hp;cases hp
  |
   some q =>
   obtain⟨agg,size,z,nb⟩:=q
   rw[ht] at hp
   cases hp
   obtain⟨rv,h1,h2⟩:=Ri ht hv h.rel (h.env x)
   refine⟨rv,h1,?_⟩
   unfold PD
   have hpv:=h.env x
   simp only[aaP,rB] at hv
   split at hv
   ·rename_i b o hb
    rw[hb] at hpv
    show (do loadVar t (←asAddr (a.tmps.getD x undef)):Sem Value).run P w=_
    generalize a.tmps.getD x undef=rp at h2 hpv ⊢
    cases hpv
    exact h2
   ·cases hv
theorem alH {m:dS} {ρ:Env} {H:aH} {a:Act} {w:World} (h:La n L0 m ρ H a w):∀ {rs:List ResultVar} {prs:List DI} {vs:List Value},rs.mapM (Cm P)=some prs→Eo ρ H prs=some vs →
  ∃rvs,RL m vs rvs∧(rs.mapM (PD a)).run P w = .ok rvs w
 |
  [],prs,vs,hp,hv=>by
  simp at hp
  subst hp
  cases hv
  exact⟨[],RL.nil m,rfl⟩
 |
  r::rs,prs,vs,hp,hv=>by
  simp only[List.mapM_cons,Option.pure_def,Option.bind_eq_bind] at hp
  cases h1:Cm P r with
  | none=>rw[h1] at hp;cases hp
  |
   some pr =>
   rw[h1] at hp
   cases h2:rs.mapM (Cm P) with
   | none=>rw[h2] at hp;cases hp
   |
    some aHV =>
    rw[h2] at hp
    cases hp
    simp only[Eo] at hv
    split at hv
    ·rename_i v vs' hv1 hv2
     cases hv
     obtain⟨rv,g1,g2⟩:=aEB h h1 hv1
     obtain⟨rvs,g3,g4⟩:=alH h h2 hv2
     refine⟨rv::rvs,RL.cons g1 g3,?_⟩
     rw[List.mapM_cons,Sem.run_bind,g2,Result.andThen_ok,Sem.run_bind,g4]
     rfl
    ·cases hv
theorem MJ {m:dS} {ρ:Env} {H:aH} {a:Act} {w:World} (h:La n L0 m ρ H a w) {fn:Func} {prs:List DI} (hp:fn.results.toList.mapM (Cm P)=some prs) {v:Value} (hv:uK prs ρ H=some v) :
  ∃rv,RV m v rv∧(results fn a.tmps).run P w = .ok rv w:=by
 unfold uK at hv
 cases kV:Eo ρ H prs with
 | none=>rw[kV] at hv;cases hv
 |
  some vs =>
  obtain⟨rvs,h1,h2⟩:=alH h hp kV
  rw[kV] at hv
  have sS:∀rv,(if h:rvs.toArray.size=1 then rvs.toArray[0] else .tuple rvs.toArray)=rv→(results fn a.tmps).run P w = .ok rv w:=by
   intro rv Yy
   have e:results fn a.tmps=(do let vs ←fn.results.mapM (PD a);pure (if h:vs.size=1 then vs[0] else .tuple vs)):=by
    unfold results
    congr 2
   rw[e,Array.mapM_eq_mapM_toList,Sem.run_bind]
   have:(List.toArray <$> fn.results.toList.mapM (PD a)).run P w = .ok rvs.toArray w:=by
    rw[map_eq_pure_bind,Sem.run_bind,h2]
    rfl
   rw[this,←Yy]
   rfl
  clear h2 kV
  rcases vs with _ | ⟨x,_ | ⟨y,xs⟩⟩
  ·rcases rvs with _ | ⟨x',ys⟩
   ·cases hv
    exact⟨_,h1.ZT,sS _ rfl⟩
   ·cases h1.1
  ·rcases rvs with _ | ⟨x',_ | ⟨y',ys⟩⟩
   ·cases h1.1
   ·cases hv
    exact⟨x',h1.lG.1,sS x' rfl⟩
   ·cases h1.1
  ·rcases rvs with _ | ⟨x',_ | ⟨y',ys⟩⟩
   ·cases h1.1
   ·cases h1.1
   ·cases hv
    exact⟨_,h1.ZT,sS _ (by simp)⟩
end
end Go.PM
namespace Go.PM
def aiT (P:Program) (E:Dj) (L0:Nat):Prop :=
 ∀f p,E.DB f=some p→Pa P f∧∀args H v,p args H=some v→∀m w iW,Rel m L0 H w→RL m args iW →
  Calls P f iW.toArray w fun e w'=>∃rv,e = .returned rv∧RV m v rv∧w.heap.size≤w'.heap.size∧(∀rb,rb<w.heap.size→w'.heap[rb]? = w.heap[rb]?)∧w'.os=w.os∧w'.output=w.output∧w'.tape=w.tape
theorem Rel.more {m:dS} {L0:Nat} {H:aH} {w w':World} (h:Rel m L0 H w) (hk:∀rb,rb<w.heap.size→w'.heap[rb]? = w.heap[rb]?):Rel m L0 H w':=by
 have hv:∀b l,m b=some l→l.rb<w.heap.size:=fun b l hb=>by
  obtain⟨arr,e,fz,h1,_⟩:=h.valid b l hb
  exact(aLn.1 h1).1
 refine⟨fun b l hb=>by rw[hk _ (hv b l hb)];exact h.valid b l hb,fun b l cs e p hm hb => ?_,h.inj,fun x hx=>⟨?_,(h.Ff x hx).2⟩⟩
 ·obtain⟨h1,h2,h3,h4⟩:=h.row b l cs e p hm hb
  refine⟨h1,h2,h3,fun i hi => ?_⟩
  obtain⟨rv,g1,g2⟩:=h4 i hi
  refine⟨rv,?_,g2⟩
  rw[←g1]
  unfold World.cell?
  simp only[hk _ (hv b l hm)]
 ·obtain⟨e,fz,g1⟩:=(h.Ff x hx).1
  exact⟨e,fz,by rw[hk _ (aLn.1 g1).1];exact g1⟩
theorem aoT {P:Program} {E:Dj} {f:Nat} {pf:aZ} (h:U2 P E f=some pf):∃fn c,P.funcs[f]? = some fn∧fn.body=some c∧(fn.name == "runtime.NumGoroutine")=false∧fn.results.toList.mapM (Cm P)=some pf.res∧jP P E fn.ntmps c=some pf.body∧pf.ntmps=fn.ntmps:=by
 unfold U2 at h
 cases hf:P.funcs[f]? with
 | none=>rw[hf] at h;cases h
 |
  some fn =>
  rw[hf] at h
  have h':Ol P E fn=some pf:=h
  unfold Ol at h'
  cases hb:fn.body with
  | none=>rw[hb] at h';cases h'
  |
   some c =>
   rw[hb] at h'
   simp only at h'
   split at h'
   ·cases h'
   ·rename_i aoX
    split at h'
    ·cases h'
    ·rename_i res XM
     cases hc:jP P E fn.ntmps c with
     | none=>rw[hc] at h';cases h'
     |
      some body =>
      rw[hc] at h'
      cases h'
      refine⟨fn,c,rfl,hb,by simpa using aoX,?_,hc,rfl⟩
      have e:(fun(r:ResultVar)=>match r with
       | .tmp t=>some (DI.tmp t)
       | .cell t ty=>(oH P ty).map fun(agg,size,_,_) => .cell t agg size)=Cm P:=by
       funext r
       cases r<;>rfl
      rw[←e]
      exact XM
theorem Ks {P:Program} {E:Dj} {T:Tab} {L0:Nat} (F2:P.follows .mixedOrders=true) (aoH:aiT P E L0) (hT:∀f pf,T f=some pf→U2 P E f=some pf):∀n,AS P L0 (oL E T n)
 | 0=>fun f args lo H v H' h=>by cases h
 |
  n+1=>fun f args lo H v H' h m w iW hR eT hlen W9 hf=>by
  have vA:=GV E T n
  rw[oL] at h
  split at h
  ·rename_i p hp
   obtain⟨hco,aEQ⟩:=aoH f p hp
   refine⟨hco,?_⟩
   cases hpv:p args H with
   | none=>rw[hpv] at h;cases h
   |
    some u =>
    rw[hpv] at h
    cases h
    refine(aEQ args H v hpv m w iW hR W9).mono ?_
    rintro e w' ⟨rv,rfl,h1,h2,h3,h4⟩
    exact⟨m,rv,rfl,h1,hR.more h3,fun _ _ h=>h,fun b l hb hn=>(by rw[hb] at hn;cases hn),h2,fun rb BW _=>h3 rb BW,h4⟩
  ·split at h
   ·cases h
   ·rename_i pf hpf
    obtain⟨fn,c,h1,h2,h3,h4,h5,h6⟩:=aoT (hT _ _ hpf)
    split at h
    case isFalse=>cases h
    rename_i AY
    refine⟨⟨fn,h1,h3,by rw[h2];rfl⟩,calls_of_wp h1 h2 ?_⟩
    have EX:iW.toArray.size≤fn.ntmps:=by
     have:=W9.1
     simp;omega
    have hH:La fn.ntmps L0 m (acZ args) H { tmps:=iW.toArray++aLW (fn.ntmps-iW.toArray.size) undef,defers:=[] } w:=by
     refine⟨by simp at EX ⊢;omega,rfl,fun t => ?_,hR⟩
     rcases aLh t args.length with ht | ht
     ·have h7:=W9.2 t ht
      have ht':t<iW.length:=by rw[←W9.1];exact ht
      have e:(iW.toArray++aLW (fn.ntmps-iW.toArray.size) undef).getD t undef=iW.getD t undef:=by
       rw[aLm,aLX (by simpa using ht')]
       simp
      show RV m (args.getD t undef) _
      rw[e]
      exact h7
     ·have e1:args.getD t undef=undef:=by simp[aLb,aLE ht]
      have ht':iW.length≤t:=by rw[←W9.1];exact ht
      have e2:(iW.toArray++aLW (fn.ntmps-iW.toArray.size) undef).getD t undef=undef:=by
       rw[aLm,Array.getElem?_append_right (by simpa using ht')]
       rw[Array.getElem?_replicate]
       split<;>rfl
      show RV m (args.getD t undef) _
      rw[e1,e2]
      exact RV.undef m
    split at h
    ·rename_i AN H1 sS
     cases hr:uK pf.res AN H1 with
     | none=>rw[hr] at h;cases h
     |
      some u =>
      rw[hr] at h
      cases h
      refine sH F2 (Ks F2 aoH hT n) vA eT n c pf.body h5 _ _ _ _ _ sS m _ w hH hlen hf _ fun m' a' w' hh hTr => ?_
      obtain⟨rv,g1,g2⟩:=MJ hh h4 hr
      exact⟨hh.defs,rv,g2,m',rv,rfl,g1,hh.rel,hTr⟩
    ·rename_i AN H1 sS
     cases hr:uK pf.res AN H1 with
     | none=>rw[hr] at h;cases h
     |
      some u =>
      rw[hr] at h
      cases h
      refine sH F2 (Ks F2 aoH hT n) vA eT n c pf.body h5 _ _ _ _ _ sS m _ w hH hlen hf _ fun m' a' w' hh hTr => ?_
      obtain⟨rv,g1,g2⟩:=MJ hh h4 hr
      exact⟨hh.defs,rv,g2,m',rv,rfl,g1,hh.rel,hTr⟩
    ·cases h
end Go.PM
namespace Go.PM
def CLe (c c':iB):Prop:=∀f args lo H r,c f args lo H=some r→c' f args lo H=some r
section
variable {c c':iB} {lo:Nat}
theorem QR (h:CLe c c') {i:PI} {ρ:Env} {H:aH} {r:Value×aH} (hr:BZ c lo i ρ H=some r):BZ c' lo i ρ H=some r:=by
 unfold BZ at hr ⊢
 split at hr
 ·cases hr
 ·exact hr
 ·split at hr
  ·rename_i TU
   rw[if_pos TU]
   split at hr
   ·exact hr
   ·exact h _ _ _ _ _ hr
   ·cases hr
  ·cases hr
theorem X8 (h:CLe c c') {i:PI} {ρ:Env} {H:aH} {r:Env×aH} (hr:Bz c lo i ρ H=some r):Bz c' lo i ρ H=some r:=by
 unfold Bz at hr ⊢
 split at hr
 ·rename_i v H' hv
  rw[QR h hv]
  exact hr
 ·cases hr
theorem Cc (h:CLe c c'):∀ {is:List PI} {ρ:Env} {H:aH} {r:Env×aH},jB c lo is ρ H=some r→jB c' lo is ρ H=some r
 | [],_,_,_,hr=>hr
 |
  i::is,ρ,H,r,hr=>by
  rw[jB] at hr ⊢
  split at hr
  ·rename_i h1
   rw[X8 h h1]
   exact Cc h hr
  ·cases hr
theorem Bf {b b':Env→aH→Option (Ex×Env×aH)} (h:∀ρ H r,b ρ H=some r→b' ρ H=some r):∀ {n n':Nat} {ρ:Env} {H:aH} {r:Ex×Env×aH},n≤n'→BB b n ρ H=some r→BB b' n' ρ H=some r
 | 0,_,_,_,_,_,hr=>by cases hr
 | n+1,0,_,_,_,hn,_=>by omega
 |
  n+1,n'+1,ρ,H,r,hn,hr=>by
  rw[BB] at hr ⊢
  split at hr
  ·rename_i h1
   rw[h _ _ _ h1]
   exact Bf h (by omega) hr
  ·rename_i fN
   rw[h _ _ _ hr]
   split
   ·rename_i aP H' he
    cases he
    exact absurd hr (fN _ _)
   ·rfl
theorem fP (h:CLe c c') {n n':Nat} (hn:n≤n'):∀(p:aE) {ρ:Env} {H:aH} {r:Ex×Env×aH},dU c lo n p ρ H=some r→dU c' lo n' p ρ H=some r
 | .skip,_,_,_,hr=>hr
 |
  .cT ops,ρ,H,r,hr=>by
  rw[dU] at hr ⊢
  cases hs:jB c lo ops ρ H with
  | none=>rw[hs] at hr;cases hr
  | some q=>rw[hs] at hr;rw[Cc h hs];exact hr
 |
  .seq a b,ρ,H,r,hr=>by
  rw[dU] at hr ⊢
  split at hr
  ·rename_i h1
   rw[fP h hn a h1]
   exact fP h hn b hr
  ·rename_i fN
   rw[fP h hn a hr]
   split
   ·rename_i he;cases he;exact absurd hr (fN _ _)
   ·rfl
 |
  .cond x a b,ρ,H,r,hr=>by
  rw[dU] at hr ⊢
  split at hr
  ·split at hr
   ·rename_i ht;rw[if_pos ht];exact fP h hn a hr
   ·rename_i ht;rw[if_neg ht];exact fP h hn b hr
  ·cases hr
 |
  .block id a,ρ,H,r,hr=>by
  rw[dU] at hr ⊢
  split at hr
  ·rename_i h1
   rw[fP h hn a h1]
   exact hr
  ·rename_i fN
   rw[fP h hn a hr]
   split
   ·rename_i he;cases he;exact absurd hr (fN _ _ _)
   ·rfl
 |
  .loop a,ρ,H,r,hr=>by
  rw[dU] at hr ⊢
  exact Bf (fun ρ H r hr=>fP h hn a hr) hn hr
 | .exit id,_,_,_,hr=>hr
 | .ret,_,_,_,hr=>hr
theorem DS (E:Dj) (T:Tab):∀n,CLe (oL E T n) (oL E T (n+1))
 | 0,_,_,_,_,_,hr=>by cases hr
 |
  n+1,f,args,lo,H,r,hr=>by
  rw[oL] at hr ⊢
  split at hr
  ·exact hr
  ·split at hr
   ·cases hr
   ·split at hr
    ·rename_i pf _ ha
     rw[if_pos ha]
     split at hr
     ·rename_i h1
      rw[fP (DS E T n) (aLY n) pf.body h1]
      exact hr
     ·rename_i h1
      rw[fP (DS E T n) (aLY n) pf.body h1]
      exact hr
     ·cases hr
    ·cases hr
theorem sE (E:Dj) (T:Tab) {n n':Nat} (h:n≤n'):CLe (oL E T n) (oL E T n'):=by
 induction h with
 | refl=>exact fun _ _ _ _ _ h=>h
 | step _ ih=>exact fun f args lo H r hr=>DS E T _ f args lo H r (ih f args lo H r hr)
end
section
variable (E:Dj) (T:Tab)
open Classical in
noncomputable def lim {α:Type} (run:Nat→Option α):Option α:=if h:∃r,∃n,run n=some r then some (Classical.choose h) else none
theorem Zc {α:Type} {run:Nat→Option α} (hm:∀n n' r,n≤n'→run n=some r→run n'=some r) {r:α}:lim run=some r↔∃n,run n=some r:=by
 unfold lim
 constructor
 ·intro h
  split at h
  ·rename_i hx
   cases h
   exact Classical.choose_spec hx
  ·cases h
 ·rintro⟨n,hn⟩
  have hx:∃r,∃n,run n=some r:=⟨r,n,hn⟩
  rw[dif_pos hx]
  obtain⟨n',Xa⟩:=Classical.choose_spec hx
  have h1:=hm n (max n n') r (aLZ _ _) hn
  have h2:=hm n' (max n n') _ (aL0 _ _) Xa
  rw[h1] at h2
  injection h2 with h2
  rw[←h2]
noncomputable def call:iB:=fun f args lo H=>lim fun n=>oL E T n f args lo H
noncomputable def code (lo:Nat) (c:aE) (ρ:Env) (H:aH):Option (Ex×Env×aH):=lim fun n=>dU (oL E T n) lo n c ρ H
theorem zI {f:Nat} {args:List Value} {lo:Nat} {H:aH} {r:Value×aH}:call E T f args lo H=some r↔∃n,oL E T n f args lo H=some r :=
 Zc fun _ _ r h hr=>sE E T h f args lo H r hr
theorem cO {lo:Nat} {c:aE} {ρ:Env} {H:aH} {r:Ex×Env×aH}:code E T lo c ρ H=some r↔∃n,dU (oL E T n) lo n c ρ H=some r :=
 Zc fun _ _ _ h hr=>fP (sE E T h) h c hr
theorem Oa {lo:Nat}:∀ {is:List PI} {ρ:Env} {H:aH} {r:Env×aH},jB (call E T) lo is ρ H=some r↔∃n,jB (oL E T n) lo is ρ H=some r:=by
 have le:∀n,CLe (oL E T n) (call E T):=fun n f args lo H r hr=>(zI E T).2 ⟨n,hr⟩
 have val:∀ {i:PI} {ρ:Env} {H:aH} {r:Value×aH},BZ (call E T) lo i ρ H=some r→∃n,BZ (oL E T n) lo i ρ H=some r:=by
  intro i ρ H r hr
  unfold BZ at hr ⊢
  split at hr
  ·cases hr
  ·exact⟨0,hr⟩
  ·split at hr
   ·rename_i TU
    split at hr
    ·exact⟨0,by rw[if_pos TU];exact hr⟩
    ·obtain⟨n,hn⟩:=(zI E T).1 hr
     exact⟨n,by rw[if_pos TU];exact hn⟩
    ·cases hr
   ·cases hr
 intro is
 induction is with
 | nil=>exact fun {ρ H r}=>⟨fun h=>⟨0,h⟩,fun⟨_,h⟩=>h⟩
 |
  cons i is ih =>
  intro ρ H r
  constructor
  ·intro h
   rw[jB] at h
   split at h
   ·rename_i AN H1 h1
    obtain⟨v,hv,rfl⟩:=BH h1
    obtain⟨n1,hn1⟩:=val hv
    obtain⟨n2,hn2⟩:=ih.1 h
    refine⟨max n1 n2,?_⟩
    rw[jB]
    have e:Bz (oL E T (max n1 n2)) lo i ρ H=some (put ρ i.dst v,H1):=by
     unfold Bz
     rw[QR (sE E T (aLZ n1 n2)) hn1]
    rw[e]
    exact Cc (sE E T (aL0 n1 n2)) hn2
   ·cases h
  ·rintro⟨n,h⟩
   exact Cc (le n) h
theorem DT {α:Type} {a b:Option α} (h:∀r,a=some r↔b=some r):a=b:=by
 cases a with
 |
  none =>
  cases b with
  | none=>rfl
  | some y=>exact((h y).2 rfl)
 | some x=>exact((h x).1 rfl).symm
variable {lo:Nat} {ρ:Env} {H:aH}
theorem afP:code E T lo .skip ρ H=some (.normal,ρ,H):=(cO E T).2 ⟨0,rfl⟩
theorem acA {id:Nat}:code E T lo (.exit id) ρ H=some (.exit id,ρ,H):=(cO E T).2 ⟨0,rfl⟩
theorem amL:code E T lo .ret ρ H=some (.ret,ρ,H):=(cO E T).2 ⟨0,rfl⟩
theorem aiR {ops:List PI}:code E T lo (.cT ops) ρ H=(jB (call E T) lo ops ρ H).map fun(aP,H')=>(.normal,aP,H'):=by
 refine DT fun r => ?_
 rw[cO]
 constructor
 ·rintro⟨n,h⟩
  rw[dU] at h
  cases hs:jB (oL E T n) lo ops ρ H with
  | none=>rw[hs] at h;cases h
  |
   some q =>
   rw[hs] at h
   rw[(Oa E T).2 ⟨n,hs⟩]
   exact h
 ·intro h
  cases hs:jB (call E T) lo ops ρ H with
  | none=>rw[hs] at h;cases h
  |
   some q =>
   rw[hs] at h
   obtain⟨n,hn⟩:=(Oa E T).1 hs
   exact⟨n,by rw[dU,hn];exact h⟩
theorem amP {a b:aE}:code E T lo (.seq a b) ρ H=match code E T lo a ρ H with
  | some (.normal,aP,H')=>code E T lo b aP H'
  | r=>r:=by
 refine DT fun r => ?_
 rw[cO]
 constructor
 ·rintro⟨n,h⟩
  rw[dU] at h
  split at h
  ·rename_i h1
   rw[(cO E T).2 ⟨n,h1⟩]
   exact(cO E T).2 ⟨n,h⟩
  ·rename_i fN
   rw[(cO E T).2 ⟨n,h⟩]
   split
   ·rename_i he;cases he;exact absurd h (fN _ _)
   ·rfl
 ·intro h
  split at h
  ·rename_i h1
   obtain⟨n1,h1⟩:=(cO E T).1 h1
   obtain⟨n2,h2⟩:=(cO E T).1 h
   refine⟨max n1 n2,?_⟩
   rw[dU,fP (sE E T (aLZ n1 n2)) (aLZ n1 n2) a h1]
   exact fP (sE E T (aL0 n1 n2)) (aL0 n1 n2) b h2
  ·rename_i fN
   obtain⟨n,h1⟩:=(cO E T).1 h
   refine⟨n,?_⟩
   rw[dU,h1]
   split
   ·rename_i he;cases he;exact absurd h (fN _ _)
   ·rfl
theorem aeD {x:Operand} {a b:aE}:code E T lo (.cond x a b) ρ H=match ev ρ x with
  | .bool t=>if t then code E T lo a ρ H else code E T lo b ρ H
  | _=>none:=by
 refine DT fun r => ?_
 rw[cO]
 constructor
 ·rintro⟨n,h⟩
  rw[dU] at h
  split at h
  ·rename_i t he
   rw[he]
   show (if t=true then code E T lo a ρ H else code E T lo b ρ H)=some r
   split at h
   ·rename_i ht;rw[if_pos ht];exact(cO E T).2 ⟨n,h⟩
   ·rename_i ht;rw[if_neg ht];exact(cO E T).2 ⟨n,h⟩
  ·cases h
 ·intro h
  split at h
  ·rename_i t he
   split at h
   ·rename_i ht
    obtain⟨n,h⟩:=(cO E T).1 h
    refine⟨n,?_⟩
    rw[dU,he]
    show (if t=true then _ else _)=_
    rw[if_pos ht]
    exact h
   ·rename_i ht
    obtain⟨n,h⟩:=(cO E T).1 h
    refine⟨n,?_⟩
    rw[dU,he]
    show (if t=true then _ else _)=_
    rw[if_neg ht]
    exact h
  ·cases h
theorem Yc {id:Nat} {a:aE}:code E T lo (.block id a) ρ H=match code E T lo a ρ H with
  | some (.exit Wz,aP,H')=>if Wz=id then some (.normal,aP,H') else some (.exit Wz,aP,H')
  | r=>r:=by
 refine DT fun r => ?_
 rw[cO]
 constructor
 ·rintro⟨n,h⟩
  rw[dU] at h
  split at h
  ·rename_i h1
   rw[(cO E T).2 ⟨n,h1⟩]
   exact h
  ·rename_i fN
   rw[(cO E T).2 ⟨n,h⟩]
   split
   ·rename_i he;cases he;exact absurd h (fN _ _ _)
   ·rfl
 ·intro h
  split at h
  ·rename_i h1
   obtain⟨n,h1⟩:=(cO E T).1 h1
   exact⟨n,by rw[dU,h1];exact h⟩
  ·rename_i fN
   obtain⟨n,h1⟩:=(cO E T).1 h
   refine⟨n,?_⟩
   rw[dU,h1]
   split
   ·rename_i he;cases he;exact absurd h (fN _ _ _)
   ·rfl
theorem aeR {a:aE}:code E T lo (.loop a) ρ H=match code E T lo a ρ H with
  | some (.normal,aP,H')=>code E T lo (.loop a) aP H'
  | r=>r:=by
 refine DT fun r => ?_
 rw[cO]
 constructor
 ·rintro⟨n,h⟩
  rw[dU] at h
  cases n with
  | zero=>cases h
  |
   succ n =>
   rw[BB] at h
   split at h
   ·rename_i h1
    rw[(cO E T).2 ⟨n+1,h1⟩]
    refine(cO E T).2 ⟨n+1,?_⟩
    rw[dU]
    exact Bf (fun _ _ _ h=>h) (aLY n) h
   ·rename_i fN
    rw[(cO E T).2 ⟨n+1,h⟩]
    split
    ·rename_i he;cases he;exact absurd h (fN _ _)
    ·rfl
 ·intro h
  split at h
  ·rename_i h1
   obtain⟨n1,h1⟩:=(cO E T).1 h1
   obtain⟨n2,h2⟩:=(cO E T).1 h
   refine⟨max n1 n2+1,?_⟩
   have g1:=fP (sE E T (show n1≤max n1 n2+1 by omega)) (show n1≤max n1 n2+1 by omega) a h1
   rw[dU,BB,g1]
   rw[dU] at h2
   exact Bf (fun _ _ _ h=>fP (sE E T (show n2≤max n1 n2+1 by omega)) (show n2≤max n1 n2+1 by omega) a h) (show n2≤max n1 n2 by omega) h2
  ·rename_i fN
   obtain⟨n,h1⟩:=(cO E T).1 h
   refine⟨n+1,?_⟩
   rw[dU,BB,fP (DS E T n) (aLY n) a h1]
   split
   ·rename_i he;cases he;exact absurd h (fN _ _)
   ·rfl
noncomputable def axH (lo:Nat) (pf:aZ) (args:List Value) (H:aH):Option (Value×aH) :=
 if args.length≤pf.ntmps then
  match code E T lo pf.body (acZ args) H with
  | some (.normal,ρ,H') | some (.ret,ρ,H')=>(uK pf.res ρ H').map (·,H')
  | _=>none
 else none
theorem abU {f:Nat} {p:List Value→aH→Option Value} (h:E.DB f=some p) {args:List Value}:call E T f args lo H=(p args H).map (·,H):=by
 refine DT fun r => ?_
 rw[zI]
 constructor
 ·rintro⟨n,hr⟩
  cases n with
  | zero=>cases hr
  | succ n=>rw[oL,h] at hr;exact hr
 ·intro hr
  exact⟨1,by rw[oL,h];exact hr⟩
theorem atU {f:Nat} {pf:aZ} (hp:E.DB f=none) (h:T f=some pf) {args:List Value}:call E T f args lo H=axH E T lo pf args H:=by
 refine DT fun r => ?_
 rw[zI]
 unfold axH
 constructor
 ·rintro⟨n,hr⟩
  cases n with
  | zero=>cases hr
  |
   succ n =>
   rw[oL,hp,h] at hr
   simp only at hr
   split at hr
   ·rename_i ha
    rw[if_pos ha]
    split at hr
    ·rename_i h1
     rw[(cO E T).2 ⟨n,h1⟩]
     exact hr
    ·rename_i h1
     rw[(cO E T).2 ⟨n,h1⟩]
     exact hr
    ·cases hr
   ·cases hr
 ·intro hr
  split at hr
  ·rename_i ha
   split at hr
   ·rename_i h1
    obtain⟨n,h1⟩:=(cO E T).1 h1
    exact⟨n+1,by rw[oL,hp,h];simp only;rw[if_pos ha,h1];exact hr⟩
   ·rename_i h1
    obtain⟨n,h1⟩:=(cO E T).1 h1
    exact⟨n+1,by rw[oL,hp,h];simp only;rw[if_pos ha,h1];exact hr⟩
   ·cases hr
  ·cases hr
end
end Go.PM
namespace Go.PM
theorem Gl {H H':aH} {lo fV b o:Nat} {new:List Value} (hl:fV≤lo) (h:H.write lo b o new=some H'):H.write fV b o new=some H':=by
 unfold aH.write at h ⊢
 split at h
 ·split at h
  ·rename_i hc
   rw[if_pos ⟨by omega,hc.2⟩]
   exact h
  ·cases h
 ·cases h
theorem Ed {α β:Type} {a b:Option α} {f:α→β} {r:β} (IV:∀x,a=some x→b=some x) (h:a.map f=some r):b.map f=some r:=by
 cases a with
 | none=>cases h
 | some x=>rw[IV x rfl];exact h
theorem MR {lo fV size bytes add:Nat} {x:Value} {new:List Value} {H:aH} {r:Value×aH} (hl:fV≤lo) (h:fK lo size bytes x add new H=some r):fK fV size bytes x add new H=some r:=by
 unfold fK at h ⊢
 split at h
 case isFalse=>cases h
 rename_i hc
 rw[if_pos hc]
 split at h
 ·exact h
 ·split at h
  ·split at h
   ·rename_i h1
    skip
    rw[if_pos h1]
    split at h
    ·rename_i h2
     rw[if_pos h2]
     split at h
     ·rename_i h3;rw[if_pos h3];exact h
     ·rename_i h3
      rw[if_neg h3]
      exact Ed (fun H' hw=>Gl hl hw) h
    ·rename_i h2
     rw[if_neg h2]
     split at h
     ·rename_i h3
      rw[if_pos h3]
      split at h
      ·rename_i h4
       rw[if_pos h4]
       split at h
       ·rename_i h5;rw[if_pos (by omega)];exact h
       ·cases h
      ·rename_i h4;rw[if_neg h4];exact h
     ·cases h
   ·cases h
  ·cases h
 ·cases h
theorem aaG {lo fV:Nat} {p:qN} {ρ:Env} {H:aH} {o:Out} (hl:fV≤lo) (h:pop lo p ρ H=some o):pop fV p ρ H=some o:=by
 cases p<;>first | exact h | skip
 case store size q v =>
  simp only[pop] at h ⊢
  split at h
  ·split at h
   ·rename_i h1
    skip
    rw[if_pos h1]
    exact Ed (fun H' hw=>Gl hl hw) h
   ·cases h
  ·cases h
 case app size bytes x y =>
  simp only[pop] at h ⊢
  split at h
  ·split at h
   ·skip
    exact Ed (fun H' hw=>MR hl hw) h
   ·cases h
  ·cases h
 case appz z bytes x n =>
  simp only[pop] at h ⊢
  split at h
  ·split at h
   ·rename_i h1
    skip
    rw[if_pos h1]
    exact Ed (fun H' hw=>MR hl hw) h
   ·cases h
  ·cases h
 case copy size x y =>
  simp only[pop] at h ⊢
  split at h
  ·exact h
  ·split at h
   ·skip
    exact Ed (fun H' hw=>Gl hl hw) h
   ·cases h
  ·cases h
 case clear z x =>
  simp only[pop] at h ⊢
  split at h
  ·exact h
  ·skip
   split at h
   ·rename_i h1;rw[if_pos h1];exact h
   ·rename_i h1
    rw[if_neg h1]
    exact Ed (fun H' hw=>Gl hl hw) h
  ·cases h
def amK (c:iB):Prop:=∀f args lo fV H r,fV≤lo→c f args lo H=some r→c f args fV H=some r
section
variable {c:iB} {lo fV:Nat}
theorem OE (hc:amK c) (hl:fV≤lo):∀ {is:List PI} {ρ:Env} {H:aH} {r:Env×aH},jB c lo is ρ H=some r→jB c fV is ρ H=some r
 | [],_,_,_,h=>h
 |
  i::is,ρ,H,r,h=>by
  rw[jB] at h ⊢
  split at h
  ·rename_i AN H1 h1
   have e:Bz c fV i ρ H=some (AN,H1):=by
    unfold Bz at h1 ⊢
    split at h1
    ·rename_i v H2 hv
     have:BZ c fV i ρ H=some (v,H2):=by
      unfold BZ at hv ⊢
      split at hv
      ·cases hv
      ·exact hv
      ·split at hv
       ·rename_i TU
        rw[if_pos TU]
        split at hv
        ·rename_i hp;rw[aaG hl hp];exact hv
        ·rename_i hp
         rw[aaG hl hp]
         show c _ _ (if i.quiet=true then H.length else fV) H=_
         cases hq:i.quiet with
         | true=>rw[hq] at hv;exact hv
         | false=>rw[hq] at hv;exact hc _ _ _ _ _ _ hl hv
        ·cases hv
       ·cases hv
     rw[this]
     exact h1
    ·cases h1
   rw[e]
   exact OE hc hl h
  ·cases h
theorem adC {b b':Env→aH→Option (Ex×Env×aH)} (h:∀ρ H r,b ρ H=some r→b' ρ H=some r):∀ {n:Nat} {ρ:Env} {H:aH} {r:Ex×Env×aH},BB b n ρ H=some r→BB b' n ρ H=some r :=
 fun hr=>Bf h (aLe _) hr
theorem qD (hc:amK c) (hl:fV≤lo) {n:Nat}:∀(p:aE) {ρ:Env} {H:aH} {r:Ex×Env×aH},dU c lo n p ρ H=some r→dU c fV n p ρ H=some r
 | .skip,_,_,_,hr=>hr
 |
  .cT ops,ρ,H,r,hr=>by
  rw[dU] at hr ⊢
  exact Ed (fun _ h=>OE hc hl h) hr
 |
  .seq a b,ρ,H,r,hr=>by
  rw[dU] at hr ⊢
  split at hr
  ·rename_i h1
   rw[qD hc hl a h1]
   exact qD hc hl b hr
  ·rename_i fN
   rw[qD hc hl a hr]
   split
   ·rename_i he;cases he;exact absurd hr (fN _ _)
   ·rfl
 |
  .cond x a b,ρ,H,r,hr=>by
  rw[dU] at hr ⊢
  split at hr
  ·split at hr
   ·rename_i ht;rw[if_pos ht];exact qD hc hl a hr
   ·rename_i ht;rw[if_neg ht];exact qD hc hl b hr
  ·cases hr
 |
  .block id a,ρ,H,r,hr=>by
  rw[dU] at hr ⊢
  split at hr
  ·rename_i h1
   rw[qD hc hl a h1]
   exact hr
  ·rename_i fN
   rw[qD hc hl a hr]
   split
   ·rename_i he;cases he;exact absurd hr (fN _ _ _)
   ·rfl
 |
  .loop a,ρ,H,r,hr=>by
  rw[dU] at hr ⊢
  exact adC (fun ρ H r hr=>qD hc hl a hr) hr
 | .exit id,_,_,_,hr=>hr
 | .ret,_,_,_,hr=>hr
end
theorem K5 (E:Dj) (T:Tab):∀n,amK (oL E T n)
 | 0,_,_,_,_,_,_,_,h=>by cases h
 |
  n+1,f,args,lo,fV,H,r,hl,h=>by
  rw[oL] at h ⊢
  split at h
  ·exact h
  ·split at h
   ·cases h
   ·split at h
    ·rename_i pf _ ha
     rw[if_pos ha]
     split at h
     ·rename_i h1;rw[qD (K5 E T n) hl pf.body h1];exact h
     ·rename_i h1;rw[qD (K5 E T n) hl pf.body h1];exact h
     ·cases h
    ·cases h
section
variable {E:Dj} {T:Tab}
theorem ajX {f:Nat} {args:List Value} {lo fV:Nat} {H:aH} {r:Value×aH} (hl:fV≤lo) (h:call E T f args lo H=some r):call E T f args fV H=some r:=by
 obtain⟨n,hn⟩:=(zI E T).1 h
 exact(zI E T).2 ⟨n,K5 E T n f args lo fV H r hl hn⟩
theorem akU {f:Nat} {args:List Value} {lo:Nat} {H H':aH} {v:Value} (h:call E T f args lo H=some (v,H')):Ext lo H H':=by
 obtain⟨n,hn⟩:=(zI E T).1 h
 exact GV E T n f args lo H v H' hn
theorem Ext.more {H H':aH} (h:Ext H.length H H'):∃K,H'=H++K:=by
 refine⟨H'.drop H.length,?_⟩
 apply List.ext_getElem?
 intro i
 rcases aLh i H.length with hi | hi
 ·rw[aLv hi]
  exact h.low i hi hi
 ·rw[aLw hi,aLc,show H.length+(i-H.length)=i by omega]
def ZI (E:Dj) (T:Tab) (f:Nat) (args:List Value) (H:aH) (R:Value→aH→Prop):Prop :=
 ∃v K,call E T f args H.length H=some (v,H++K)∧R v (H++K)
theorem ZI.at {f:Nat} {args:List Value} {H:aH} {R:Value→aH→Prop} (h:ZI E T f args H R) {lo:Nat} (hl:lo≤H.length):∃v K,call E T f args lo H=some (v,H++K)∧R v (H++K):=by
 obtain⟨v,K,h1,h2⟩:=h
 exact⟨v,K,ajX hl h1,h2⟩
theorem ZI.mk {f:Nat} {args:List Value} {H H':aH} {v:Value} {R:Value→aH→Prop} (h:call E T f args H.length H=some (v,H')) (hr:R v H'):ZI E T f args H R:=by
 obtain⟨K,rfl⟩:=(akU h).more
 exact⟨v,K,h,hr⟩
end
end Go.PM
namespace Go.PM
def strCells:List Value→Option (List ByteArray)
 | []=>some []
 | .string s::r=>(strCells r).map (s :: ·)
 | _=>none
def zL:List Value→aH→Option Value
 | [.int .u64 n,.int .i64 b],_=>if b=10∧0≤n∧n<18446744073709551616 then some (.string ⟨(Lib.decDigits n.toNat).toArray⟩) else none
 | _,_=>none
def IZ:List Value→aH→Option Value
 | [.string s,.int .i64 c],_=>if 0≤c∧c≤9223372036854775807∧s.size*c.toNat≤140737488355328 then some (.string ⟨(Lib.repeatL s.data.toList c.toNat).toArray⟩) else none
 | _,_=>none
def FY:List Value→aH→Option Value
 | [.int .u32 x],_=>if 0≤x∧x≤4294967295 then some (.int .i64 (32-(Lib.bitLen x.toNat:Int))) else none
 | _,_=>none
def Wf:List Value→aH→Option Value
 | [.slice none 0 0,.string _],_=>some (.string ⟨#[]⟩)
 |
  [.slice (some ⟨b,o,none⟩) n c,.string sep],H =>
  if n=0 then some (.string ⟨#[]⟩) else
  match (H.read b o n).bind strCells with
  | some xs=>if xs.length=n∧n≤c∧n≤140737488355328∧(Lib.join (xs.map (·.data.toList)) sep.data.toList).length≤140737488355328 then some (.string ⟨(Lib.join (xs.map (·.data.toList)) sep.data.toList).toArray⟩) else none
  | none=>none
 | _,_=>none
def SP:List Value→aH→Option Value
 |
  [.string s,.string p],_=>match p.data.toList with
  | [c]=>some (.int .i64 (Lib.indexByte s.data.toList c))
  | _=>none
 | _,_=>none
def Bs:List Value→aH→Option Value
 |
  [.string s,.int .i64 b,.int .i64 z],_=>if b=10∧z=64∧s.size≤9223372036854775806 then
   match Lib.parseUintB 64 s.data.toList with
   | .ok u=>some (.tuple #[.int .u64 (u:Int),.nilIface])
   | _=>none
  else none
 | _,_=>none
end Go.PM
namespace Go.PM
open Go.Proofs
def aDW:List Nat:=[]
 ++ [200]
 ++ [204]
 ++ [205]
 ++ [95]
 ++ [90]
 ++ [118]
 ++ [134]
 ++ [179]
def Me (f:Nat):Option (List Value→aH→Option Value) :=
 if f=214 then some zL else
 if f=215 then some IZ else
 if f=217 then some Wf else
 if f=198 then some FY else
 if f=209 then some SP else
 if f=192 then some Bs else
 (fun _=>none) f
def cfg:Dj:={ DB:=Me,eff:=fun f=>aDW.contains f }
noncomputable def gH:Tab:=fun f=>if (Me f).isSome then none else U2 Tryz.prog cfg f
theorem axA (f:Nat) (pf:aZ) (h:gH f=some pf):U2 Tryz.prog cfg f=some pf:=by
 unfold gH at h
 split at h
 ·cases h
 ·exact h
theorem XO {f:Nat} {pf:aZ} (h:gH f=some pf):cfg.DB f=none:=by
 unfold gH at h
 split at h
 ·cases h
 ·rename_i h1
  show Me f=none
  cases hp:Me f with
  | none=>rfl
  | some p=>rw[hp] at h1;exact absurd rfl h1
end Go.PM
namespace Go.PM
noncomputable abbrev vB:iB:=call cfg gH
def W (lo:Nat) (c:aE) (Q:Ex→Env→aH→Prop) (ρ:Env) (H:aH):Prop:=∃x aP H',code cfg gH lo c ρ H=some (x,aP,H')∧Q x aP H'
def WS (lo:Nat) (is:List PI) (K:Env→aH→Prop) (ρ:Env) (H:aH):Prop:=∃aP H',jB vB lo is ρ H=some (aP,H')∧K aP H'
def aFB (lo:Nat) (b:aE) (Q:Ex→Env→aH→Prop):Ex→Env→aH→Prop
 | .normal,ρ,H=>W lo b Q ρ H
 | x,ρ,H=>Q x ρ H
def aCy (id:Nat) (Q:Ex→Env→aH→Prop):Ex→Env→aH→Prop
 | .exit Wz,ρ,H=>if Wz=id then Q .normal ρ H else Q (.exit Wz) ρ H
 | x,ρ,H=>Q x ρ H
def aFL (res:List DI) (R:Value→aH→Prop):Ex→Env→aH→Prop
 | .exit _,_,_=>False
 | _,ρ,H=>∃v,uK res ρ H=some v∧R v H
def aCL (J:Env→aH→Prop) (Q:Ex→Env→aH→Prop):Ex→Env→aH→Prop
 | .normal,ρ,H=>J ρ H
 | x,ρ,H=>Q x ρ H
section
variable {lo:Nat} {Q:Ex→Env→aH→Prop} {K:Env→aH→Prop} {ρ:Env} {H:aH} {b:aE} {id:Nat} {R:Value→aH→Prop} {res:List DI} {J:Env→aH→Prop}
theorem KD {i:Nat}:aCy id Q (.exit i) ρ H=if i=id then Q .normal ρ H else Q (.exit i) ρ H:=rfl
theorem ayC:W lo .skip Q ρ H=Q .normal ρ H:=by
 unfold W
 rw[afP]
 exact propext ⟨fun⟨_,_,_,h,hq⟩=>(by cases h;exact hq),fun h=>⟨_,_,_,rfl,h⟩⟩
theorem awR {i:Nat}:W lo (.exit i) Q ρ H=Q (.exit i) ρ H:=by
 unfold W
 rw[acA]
 exact propext ⟨fun⟨_,_,_,h,hq⟩=>(by cases h;exact hq),fun h=>⟨_,_,_,rfl,h⟩⟩
theorem aCv:W lo .ret Q ρ H=Q .ret ρ H:=by
 unfold W
 rw[amL]
 exact propext ⟨fun⟨_,_,_,h,hq⟩=>(by cases h;exact hq),fun h=>⟨_,_,_,rfl,h⟩⟩
theorem aB1 {ops:List PI}:W lo (.cT ops) Q ρ H=WS lo ops (Q .normal) ρ H:=by
 unfold W WS
 rw[aiR]
 apply propext
 constructor
 ·rintro⟨x,aP,H',h,hq⟩
  cases hs:jB (call cfg gH) lo ops ρ H with
  | none=>rw[hs] at h;cases h
  |
   some q =>
   rw[hs] at h
   cases h
   exact⟨_,_,rfl,hq⟩
 ·rintro⟨aP,H',h,hq⟩
  exact⟨_,_,_,by rw[h];rfl,hq⟩
theorem aCe {a:aE}:W lo (.seq a b) Q ρ H=W lo a (aFB lo b Q) ρ H:=by
 unfold W
 rw[amP]
 apply propext
 constructor
 ·rintro⟨x,aP,H',h,hq⟩
  split at h
  ·rename_i AN H1 h1
   exact⟨_,_,_,h1,x,aP,H',h,hq⟩
  ·rename_i fN
   refine⟨x,aP,H',h,?_⟩
   cases x with
   | normal=>exact absurd h (fN _ _)
   | exit i=>exact hq
   | ret=>exact hq
 ·rintro⟨x,aP,H',h,hq⟩
  rw[h]
  cases x with
  | normal=>exact hq
  | exit i=>exact⟨_,_,_,rfl,hq⟩
  | ret=>exact⟨_,_,_,rfl,hq⟩
theorem auD {a:aE}:W lo (.block id a) Q ρ H=W lo a (aCy id Q) ρ H:=by
 unfold W
 rw[Yc]
 apply propext
 constructor
 ·rintro⟨x,aP,H',h,hq⟩
  split at h
  ·rename_i Wz AN H1 h1
   refine⟨_,_,_,h1,?_⟩
   rw[KD]
   split at h
   ·rename_i he;cases h;rw[if_pos he];exact hq
   ·rename_i he;cases h;rw[if_neg he];exact hq
  ·rename_i fN
   refine⟨x,aP,H',h,?_⟩
   cases x with
   | normal=>exact hq
   | exit i=>exact absurd h (fN _ _ _)
   | ret=>exact hq
 ·rintro⟨x,aP,H',h,hq⟩
  rw[h]
  cases x with
  | normal=>exact⟨_,_,_,rfl,hq⟩
  |
   exit i =>
   rw[KD] at hq
   show ∃x BY VU,(if i=id then some (Ex.normal,aP,H') else some (Ex.exit i,aP,H'))=some (x,BY,VU)∧Q x BY VU
   split at hq
   ·rename_i he;rw[if_pos he];exact⟨_,_,_,rfl,hq⟩
   ·rename_i he;rw[if_neg he];exact⟨_,_,_,rfl,hq⟩
  | ret=>exact⟨_,_,_,rfl,hq⟩
theorem axL {x:Operand} {a:aE}:W lo (.cond x a b) Q ρ H=∃t,ev ρ x = .bool t∧((t=true→W lo a Q ρ H)∧(t=false→W lo b Q ρ H)):=by
 unfold W
 rw[aeD]
 apply propext
 constructor
 ·rintro⟨y,aP,H',h,hq⟩
  split at h
  ·rename_i t ht
   cases t with
   | true=>exact⟨true,ht,fun _=>⟨y,aP,H',h,hq⟩,fun h=>by cases h⟩
   | false=>exact⟨false,ht,fun h=>(by cases h),fun _=>⟨y,aP,H',h,hq⟩⟩
  ·cases h
 ·rintro⟨t,ht,h1,h2⟩
  rw[ht]
  cases t with
  | true=>exact h1 rfl
  | false=>exact h2 rfl
theorem W.mono {Q':Ex→Env→aH→Prop} {c:aE} (h:W lo c Q ρ H) (hq:∀x ρ H,Q x ρ H→Q' x ρ H):W lo c Q' ρ H:=by
 obtain⟨x,aP,H',h1,h2⟩:=h
 exact⟨x,aP,H',h1,hq _ _ _ h2⟩
noncomputable def lS (lo:Nat) (q:Bool) (op:qN) (ρ:Env) (H:aH):Option (Value×aH) :=
 match pop lo op ρ H with
 | some (.val v H')=>some (v,H')
 | some (.call f args)=>vB f args (if q then H.length else lo) H
 | none=>none
theorem azM:WS lo [] K ρ H=K ρ H:=by
 unfold WS
 apply propext
 constructor
 ·rintro⟨aP,H',h,hk⟩;cases h;exact hk
 ·intro h;exact⟨ρ,H,rfl,h⟩
theorem aCw {i:PI} {is:List PI}:WS lo (i::is) K ρ H=∃v H',BZ vB lo i ρ H=some (v,H')∧WS lo is K (put ρ i.dst v) H':=by
 unfold WS
 apply propext
 constructor
 ·rintro⟨aP,H',h,hk⟩
  rw[jB] at h
  split at h
  ·rename_i AN H1 h1
   obtain⟨v,hv,rfl⟩:=BH h1
   exact⟨v,H1,hv,aP,H',h,hk⟩
  ·cases h
 ·rintro⟨v,H1,hv,aP,H',h,hk⟩
  refine⟨aP,H',?_,hk⟩
  rw[jB]
  unfold Bz
  rw[hv]
  exact h
variable {q:Bool}
theorem dW {op:qN} (h:yJ op=true):lS lo q op ρ H=(kA op ρ).map (·,H):=by
 unfold lS
 rw[A7 h]
 cases kA op ρ<;>rfl
theorem arR {x:Operand}:lS lo q (.mv x) ρ H=some (ev ρ x,H):=rfl
theorem aeI {c a b:Operand}:lS lo q (.pick c a b) ρ H=(match ev ρ c with | .bool t=>some ((if t=true then ev ρ a else ev ρ b),H) | _=>none):=by
 rw[dW rfl]
 simp only[kA]
 cases ev ρ c<;>rfl
theorem aoM {op:BinOp} {x y:Operand}:lS lo q (.bin op x y) ρ H=(dO op (ev ρ x) (ev ρ y)).map (·,H):=dW rfl
theorem arO {op:UnOp} {x:Operand}:lS lo q (.un op x) ρ H=(pun op (ev ρ x)).map (·,H):=dW rfl
theorem afC {f:Nat} {args:List Operand}:lS lo q (.call f args) ρ H=vB f (args.map (ev ρ)) (if q then H.length else lo) H:=rfl
end
theorem anK {f lo:Nat} {pf:aZ} {args:List Value} {H:aH} {R:Value→aH→Prop} (ht:gH f=some pf) (ha:args.length≤pf.ntmps) (h:W lo pf.body (aFL pf.res R) (acZ args) H):∃v H',vB f args lo H=some (v,H')∧R v H':=by
 obtain⟨x,aP,H',h1,h2⟩:=h
 show ∃v H',call cfg gH f args lo H=some (v,H')∧R v H'
 rw[atU cfg gH (XO ht) ht]
 unfold axH
 rw[if_pos ha,h1]
 cases x with
 | exit i=>exact h2.elim
 |
  normal =>
  obtain⟨v,h3,h4⟩:=h2
  exact⟨v,H',by simp only;rw[h3];rfl,h4⟩
 |
  ret =>
  obtain⟨v,h3,h4⟩:=h2
  exact⟨v,H',by simp only;rw[h3];rfl,h4⟩
end Go.PM
namespace Go.PM
theorem wrap64 {x:Int} (h1 : -9223372036854775808≤x) (h2:x≤9223372036854775807):IntKind.i64.wrap x=x:=by
 rw[IntKind.wrap_i64]
 omega
section
variable {k:IntKind} {a b:Int}
theorem WZ:dO .add (.int k a) (.int k b)=some (.int k (k.wrap (a+b))):=by simp[dO]
theorem WK:dO .sub (.int k a) (.int k b)=some (.int k (k.wrap (a-b))):=by simp[dO]
theorem WL:dO .mul (.int k a) (.int k b)=some (.int k (k.wrap (a*b))):=by simp[dO]
theorem WA (h:b≠0):dO .rem (.int k a) (.int k b)=some (.int k (a.tmod b)):=by simp[dO,h]
theorem W2:dO .lss (.int k a) (.int k b)=some (.bool (decide (a<b))):=by simp[dO]
theorem Uc:dO .leq (.int k a) (.int k b)=some (.bool (decide (a≤b))):=by simp[dO]
theorem Vw:dO .gtr (.int k a) (.int k b)=some (.bool (decide (b<a))):=by simp[dO]
theorem V4:dO .geq (.int k a) (.int k b)=some (.bool (decide (b≤a))):=by simp[dO]
theorem Ud:dO .eql (.int k a) (.int k b)=some (.bool (decide (a=b))):=by
 simp only[dO,if_true]
 rfl
theorem Ww:dO .neq (.int k a) (.int k b)=some (.bool (!decide (a=b))):=by
 simp only[dO,if_true]
 rfl
theorem ZK:pun .neg (.int k a)=some (.int k (k.wrap (0-a))):=rfl
theorem abB {t:Bool}:pun .not (.bool t)=some (.bool (!t)):=rfl
end
def aAf:Value→Option Value
 | .slice _ n _=>some (.int .i64 n)
 | _=>none
def NZ (neg:Bool):Value→Value→Option Value
 | .bool a,.bool b=>some (.bool ((a == b) != neg))
 | _,_=>none
def ahL (neg:Bool):Value→Option Value
 | .slice none _ _=>some (.bool (true != neg))
 | .slice (some _) _ _=>some (.bool (false != neg))
 | _=>none
def ajV (neg:Bool) (ks:List CK):Value→Value→Option Value
 | .agg a,.agg b=>(tA ks a.toList b.toList).map fun t => .bool (t != neg)
 | _,_=>none
def Xq (k:IntKind):Value→Option Value
 | .int _ n=>some (.int k (k.wrap n))
 | _=>none
def awF (i:Nat):Value→Option Value
 | .tuple vs=>vs[i]?
 | _=>none
def aqD (agg:Bool) (off size:Nat):Value→Option Value
 | .agg cs=>if agg then (if off+size≤cs.size then some (.agg (cs.extract off (off+size))) else none) else cs[off]?
 | _=>none
def aA5:Value→Option Value
 | .pointer (some a)=>some (.pointer (some a))
 | _=>none
def akR (off:Nat):Value→Option Value
 | .pointer (some ⟨b,o,none⟩)=>some (.pointer (some ⟨b,o+off,none⟩))
 | _=>none
def To (size:Nat):Value→Value→Option Value
 | .slice (some ⟨b,o,none⟩) n _,.int _ i=>if 0≤i∧i<n then some (.pointer (some ⟨b,o+i.toNat*size,none⟩)) else none
 | _,_=>none
def Um:Value→Value→Option Value
 | .int k a,.int _ b=>some (.int k (if b<a then b else a))
 | _,_=>none
def Uh:Value→Value→Option Value
 | .int k a,.int _ b=>some (.int k (if b>a then b else a))
 | _,_=>none
section
variable {lo:Nat} {ρ:Env} {H:aH} {q:Bool}
theorem sP {op:qN} {r:Option (Value×aH)} (h:pop lo op ρ H=r.map fun(v,H') => .val v H'):lS lo q op ρ H=r:=by
 unfold lS
 rw[h]
 cases r<;>rfl
theorem aiN {x:Operand}:lS lo q (.len x) ρ H=(aAf (ev ρ x)).map (·,H):=dW rfl
theorem alZ {neg:Bool} {x y:Operand}:lS lo q (.eqb neg x y) ρ H=(NZ neg (ev ρ x) (ev ρ y)).map (·,H):=dW rfl
theorem Yk {neg:Bool} {x:Operand}:lS lo q (.isnil neg x) ρ H=(ahL neg (ev ρ x)).map (·,H):=dW rfl
theorem Ya {neg:Bool} {ks:List CK} {x y:Operand}:lS lo q (.eqagg neg ks x y) ρ H=(ajV neg ks (ev ρ x) (ev ρ y)).map (·,H):=dW rfl
theorem aiQ {k:IntKind} {x:Operand}:lS lo q (.cvt k x) ρ H=(Xq k (ev ρ x)).map (·,H):=dW rfl
theorem aoU {i:Nat} {x:Operand}:lS lo q (.ext x i) ρ H=(awF i (ev ρ x)).map (·,H):=dW rfl
theorem amY {agg:Bool} {off size:Nat} {x:Operand}:lS lo q (.fld agg off size x) ρ H=(aqD agg off size (ev ρ x)).map (·,H):=dW rfl
theorem Yz {z:List Value} {places:List (Nat×Nat)} {parts:List (Nat×Operand)}:lS lo q (.build z places parts) ρ H=((Aq places z (parts.map fun(i,x)=>(i,ev ρ x))).map fun cs=>Value.agg cs.toArray).map (·,H):=dW rfl
theorem aiA {x:Operand}:lS lo q (.chk x) ρ H=(aA5 (ev ρ x)).map (·,H):=dW rfl
theorem Ys {off:Nat} {x:Operand}:lS lo q (.faddr off x) ρ H=(akR off (ev ρ x)).map (·,H):=dW rfl
theorem Y4 {size:Nat} {x i:Operand}:lS lo q (.iaddr size x i) ρ H=(To size (ev ρ x) (ev ρ i)).map (·,H):=dW rfl
theorem aeX {f:Nat} {gU:List Operand}:lS lo q (.mkfn f gU) ρ H=some (.func (.func f) #[] (gU.map (ev ρ)).toArray,H):=dW rfl
theorem alR {x y:Operand}:lS lo q (.min x y) ρ H=(Um (ev ρ x) (ev ρ y)).map (·,H):=dW rfl
theorem alT {x y:Operand}:lS lo q (.max x y) ρ H=(Uh (ev ρ x) (ev ρ y)).map (·,H):=dW rfl
theorem acJ {agg:Bool} {size:Nat} {p:Operand}:lS lo q (.load agg size p) ρ H=(rB agg size (ev ρ p) H).map (·,H):=by
 unfold lS
 simp only[pop]
 cases rB agg size (ev ρ p) H<;>rfl
theorem anU {size:Nat} {x:Operand} {l h m:Option Operand}:lS lo q (.sub size x l h m) ρ H=E1 size (ev ρ x) (l.map (ev ρ)) (h.map (ev ρ)) (m.map (ev ρ)) H:=by
 unfold lS
 simp only[pop]
 cases E1 size (ev ρ x) (l.map (ev ρ)) (h.map (ev ρ)) (m.map (ev ρ)) H<;>rfl
theorem aoP {z:List Value}:lS lo q (.new z) ρ H=some (.pointer (some ⟨H.length,0,none⟩),H++[.row z z.length false]):=rfl
theorem aoW {x:Operand}:lS lo q (.box x) ρ H=if (aV (ev ρ x)).all iR then some (.pointer (some ⟨H.length,0,none⟩),H++[.row (aV (ev ρ x)) (aV (ev ρ x)).length false]) else none:=by
 apply sP
 simp only[pop]
 by_cases h:(aV (ev ρ x)).all iR=true
 ·rw[if_pos h,if_pos h];rfl
 ·rw[if_neg h,if_neg h];rfl
def ZU (z:List Value) (bytes:Nat) (l c:Value) (H:aH):Option (Value×aH) :=
 match l,c with
 | .int .i64 l,.int .i64 c=>if 0≤l∧l≤c∧c*bytes≤281474976710656∧c≤9223372036854775807 then
  some (.slice (some ⟨H.length,0,none⟩) l.toNat c.toNat,H++[.row (dE c.toNat z) z.length false]) else none
 | _,_=>none
theorem abX {z:List Value} {bytes:Nat} {l c:Operand}:lS lo q (.make z bytes l c) ρ H=ZU z bytes (ev ρ l) (ev ρ c) H:=by
 apply sP
 simp only[pop]
 unfold ZU
 split
 ·rename_i l c h1 h2
  simp only[h1,h2]
  split<;>rfl
 ·rename_i h1
  split
  ·rename_i h2 h3
   exact(h1 _ _ h2 h3).elim
  ·rfl
def atL (z:List Value) (n:Nat) (parts:List (Nat×Value)) (H:aH):Option (Value×aH) :=
 match Aq ((List.range n).map fun i=>(i*z.length,z.length)) (dE n z) parts with
 | some cs=>if cs.all iR then some (.slice (some ⟨H.length,0,none⟩) n n,H++[.row cs z.length false]) else none
 | none=>none
theorem akP {z:List Value} {n:Nat} {parts:List (Nat×Operand)}:lS lo q (.lit z n parts) ρ H=atL z n (parts.map fun(i,x)=>(i,ev ρ x)) H:=by
 apply sP
 simp only[pop]
 unfold atL
 split
 ·rename_i cs h1
  simp only[h1]
  split<;>rfl
 ·rename_i h1
  simp only[h1]
  rfl
def It (lo size:Nat) (p v:Value) (H:aH):Option (Value×aH) :=
 match p with
 | .pointer (some ⟨b,o,none⟩)=>if (aV v).length=size then (H.write lo b o (aV v)).map fun H'=>(undef,H') else none
 | _=>none
theorem YZ {size:Nat} {p v:Operand}:lS lo q (.store size p v) ρ H=It lo size (ev ρ p) (ev ρ v) H:=by
 apply sP
 simp only[pop]
 unfold It
 split
 ·rename_i b o h1
  simp only[h1]
  split
  ·cases H.write lo b o (aV (ev ρ v))<;>rfl
  ·rfl
 ·rename_i h1
  split
  ·rename_i h2
   exact(h1 _ _ h2).elim
  ·rfl
def ayF (lo size bytes:Nat) (x y:Value) (H:aH):Option (Value×aH) :=
 match xG y with
 |
  some n=>match kU H size n y with
  | some new=>fK lo size bytes x n new H
  | none=>none
 | none=>none
theorem aiU {size bytes:Nat} {x y:Operand}:lS lo q (.app size bytes x y) ρ H=ayF lo size bytes (ev ρ x) (ev ρ y) H:=by
 apply sP
 simp only[pop]
 unfold ayF
 cases xG (ev ρ y) with
 | none=>rfl
 |
  some n =>
  cases hs:kU H size n (ev ρ y) with
  | none=>simp only[hs];rfl
  | some new=>simp only[hs]
def aiJ (lo:Nat) (z:List Value) (bytes:Nat) (x n:Value) (H:aH):Option (Value×aH) :=
 match n with
 | .int .i64 n=>if 0≤n∧n*bytes≤140737488355328 then fK lo z.length bytes x n.toNat (dE n.toNat z) H else none
 | _=>none
theorem acM {z:List Value} {bytes:Nat} {x n:Operand}:lS lo q (.appz z bytes x n) ρ H=aiJ lo z bytes (ev ρ x) (ev ρ n) H:=by
 apply sP
 simp only[pop]
 unfold aiJ
 split
 ·rename_i n h1
  simp only[h1]
  split<;>rfl
 ·rename_i h1
  split
  ·rename_i h2
   exact(h1 _ h2).elim
  ·rfl
def copyV (lo size:Nat) (x y:Value) (H:aH):Option (Value×aH) :=
 match x,xG y with
 | .slice none _ _,some _=>some (.int .i64 0,H)
 |
  .slice (some ⟨b,o,none⟩) d _,some s=>match kU H size (Nat.min s d) y with
  | some new=>(H.write lo b o new).map fun H'=>(.int .i64 (Nat.min s d),H')
  | none=>none
 | _,_=>none
theorem acD {size:Nat} {x y:Operand}:lS lo q (.copy size x y) ρ H=copyV lo size (ev ρ x) (ev ρ y) H:=by
 apply sP
 simp only[pop]
 unfold copyV
 split
 ·rename_i h1 h2
  simp only[h1,h2]
  rfl
 ·rename_i b o d _ s h1 h2
  simp only[h1,h2]
  cases hs:kU H size (Nat.min s d) (ev ρ y) with
  | none=>rfl
  |
   some new =>
   simp only
   cases H.write lo b o new<;>rfl
 ·rename_i h1 h2
  split
  ·rename_i h3 h4
   exact(h1 _ _ _ h3 h4).elim
  ·rename_i h3 h4
   exact(h2 _ _ _ _ _ h3 h4).elim
  ·rfl
def S4 (lo:Nat) (z:List Value) (x:Value) (H:aH):Option (Value×aH) :=
 match x with
 | .slice none _ _=>some (undef,H)
 | .slice (some ⟨b,o,none⟩) n _=>if n=0 then some (undef,H) else (H.write lo b o (dE n z)).map fun H'=>(undef,H')
 | _=>none
theorem X0 {z:List Value} {x:Operand}:lS lo q (.clear z x) ρ H=S4 lo z (ev ρ x) H:=by
 apply sP
 simp only[pop]
 unfold S4
 split
 ·rename_i h1
  simp only[h1]
  rfl
 ·rename_i b o n _ h1
  simp only[h1]
  split
  ·rfl
  ·cases H.write lo b o (dE n z)<;>rfl
 ·rename_i h1 h2
  split
  ·rename_i h3
   exact(h1 _ _ h3).elim
  ·rename_i h3
   exact(h2 _ _ _ _ h3).elim
  ·rfl
noncomputable def amE (lo:Nat) (fv:Value) (args:List Value) (H:aH):Option (Value×aH) :=
 match fv with
 | .func (.func f) first gU=>vB f (first.toList++args++gU.toList) lo H
 | _=>none
theorem YP {fv:Operand} {args:List Operand}:lS lo q (.callv fv args) ρ H=amE (if q then H.length else lo) (ev ρ fv) (args.map (ev ρ)) H:=by
 unfold lS
 simp only[pop]
 unfold amE
 generalize ev ρ fv=v
 cases v with
 | func fn f c=>cases fn<;>rfl
 | _=>rfl
end
end Go.PM
namespace Go.PM
section
variable {lo:Nat} {Q:Ex→Env→aH→Prop} {K:Env→aH→Prop} {ρ:Env} {H:aH} {q:Bool}
def aCj (u v:Value):Bool:=match kQ u,kQ v with
 | some a,some b=>a != b
 | _,_=>true
end
theorem aaO {k:IntKind} {a b:Int}:Uh (.int k a) (.int k b)=some (.int k (max a b)):=by
 simp only[Uh]
 congr 2
 split<;>omega
theorem Zu {k:IntKind} {a b:Int}:Um (.int k a) (.int k b)=some (.int k (min a b)):=by
 simp only[Um]
 congr 2
 split<;>omega
end Go.PM
namespace Go.PM
abbrev ptr (b o:Nat):Value := .pointer (some ⟨b,o,none⟩)
abbrev I (n:Int):Value := .int .i64 n
section
variable {H H':aH} {lo b o n size:Nat} {cs r:List Value} {L K:aH} {v:Value}
theorem SO (hb:b<H.length):(H++L)[b]? = H[b]? := aLv hb
theorem abT {x:QG}:(H++x::L)[H.length]? = some x:=by simp
theorem ahM (hb:b<H.length):(H++L).read b o n=H.read b o n:=Im (SO hb)
theorem C7 {e:Nat} {p:Bool} (h:H[b]? = some (.row r e p)) (hn:o+n≤r.length):H.read b o n=some ((r.drop o).take n):=by
 unfold aH.read
 rw[h]
 simp only[hn,if_true]
structure F1 (H:aH) (b o:Nat) (cs:List Value):Prop where
 lt:b<H.length
 rd:H.read b o cs.length=some cs
theorem F1.app (h:F1 H b o cs):F1 (H++L) b o cs:=⟨by have:=h.lt;simp;omega,by rw[ahM h.lt];exact h.rd⟩
theorem F1.pre (h:F1 H b o cs) (hp:H <+: H'):F1 H' b o cs:=by
 obtain⟨L,rfl⟩:=hp
 exact h.app
theorem F1.all (h:F1 H b o cs) (hs:cs.length=size):rB true size (.pointer (some ⟨b,o,none⟩)) H=some (.agg cs.toArray):=by
 subst hs
 simp only[rB,if_true,h.rd]
 rfl
theorem F1.one {u:Value} (h:F1 H b o [u]):rB false size (.pointer (some ⟨b,o,none⟩)) H=some u:=by
 have:=h.rd
 simp only[aLo,List.length_nil] at this
 simp only[rB,this]
 rfl
theorem F1.sub {k:Nat} {u:Value} (h:F1 H b o cs) (hk:cs[k]? = some u):F1 H b (o+k) [u]:=by
 refine⟨h.lt,?_⟩
 have h1:=h.rd
 unfold aH.read at h1 ⊢
 split at h1
 ·rename_i r e p hb
  split at h1
  ·rename_i hl
   have hk':=(aLd.1 hk).1
   simp only[aLo,List.length_nil]
   rw[if_pos (by simp;omega)]
   injection h1 with h1
   rw[←h1] at hk
   rw[List.getElem?_take,if_pos (by omega),aLc] at hk
   have bH:=(aLd.1 hk).1
   rw[aLj bH]
   simp only[aL1,List.take_zero]
   rw[aLl bH] at hk
   injection hk with hk
   rw[hk]
  ·cases h1
 ·cases h1
theorem F1.fld {k:Nat} {u:Value} (h:F1 H b o cs) (hk:cs[k]? = some u):rB false size (.pointer (some ⟨b,o+k,none⟩)) H=some u:=(h.sub hk).one
theorem UJ {a:Nat} {c:Nat} {i:Int} {k:IntKind} (h0:0≤i) (h1:i<n):To size (.slice (some ⟨b,a,none⟩) n c) (.int k i)=some (.pointer (some ⟨b,a+i.toNat*size,none⟩)):=by
 simp only[To]
 rw[if_pos ⟨h0,h1⟩]
structure Arr {α:Type} (enc:α→List Value) (gQ:Nat) (H:aH) (a:Option Addr) (n:Nat) (xs:List α):Prop where
 len:n=xs.length
 el:∀(i:Nat) x,xs[i]? = some x→∃b o,a=some ⟨b,o,none⟩∧F1 H b (o+i*gQ) (enc x)
theorem Arr.pre {α:Type} {enc:α→List Value} {gQ:Nat} {a:Option Addr} {xs:List α} (h:Arr enc gQ H a n xs) (hp:H <+: H'):Arr enc gQ H' a n xs :=
 ⟨h.len,fun i x hx=>by obtain⟨b,o,h1,h2⟩:=h.el i x hx;exact⟨b,o,h1,h2.pre hp⟩⟩
end
structure lH where
 t:Int
 w:Int
 k:Int
 deriving DecidableEq
def cc (c:lH):List Value:=[I c.t,I c.w,I c.k]
def ci (n:Int):List Value:=[I n]
end Go.PM
namespace Go.PM
structure Md {α:Type} (enc:α→List Value) (gQ:Nat):Prop where
 len:∀x,(enc x).length=gQ
 sc:∀x,(enc x).all iR=true
 pos:1≤gQ
section
variable {α:Type} {enc:α→List Value} {gQ:Nat} {H H':aH} {lo b:Nat} {xs ys:List α} {p:Bool}
theorem PL (e:Md enc gQ):(xs.flatMap enc).length=xs.length*gQ:=by
 induction xs with
 | nil=>simp
 | cons x xs ih=>simp only[aL2,List.length_append,e.len,ih,aLo,aL3];omega
theorem K1 (e:Md enc gQ) (i:Nat):(xs.flatMap enc).drop (i*gQ)=(xs.drop i).flatMap enc:=by
 induction i generalizing xs with
 | zero=>simp
 |
  succ i ih =>
  cases xs with
  | nil=>simp
  |
   cons x xs =>
   rw[aL2,List.drop_succ_cons,←ih,show (i+1)*gQ=(enc x).length+i*gQ by rw[e.len,aL3];omega,List.drop_append]
   simp
theorem RX (e:Md enc gQ) (i:Nat):(xs.flatMap enc).take (i*gQ)=(xs.take i).flatMap enc:=by
 induction i generalizing xs with
 | zero=>simp
 |
  succ i ih =>
  cases xs with
  | nil=>simp
  |
   cons x xs =>
   rw[aL2,aL1,aL2,←ih,show (i+1)*gQ=(enc x).length+i*gQ by rw[e.len,aL3];omega,List.take_append]
   simp
   exact List.take_of_length_le (by omega)
theorem VE (e:Md enc gQ) {i:Nat} (x:α) (hi:i<xs.length):kI (xs.flatMap enc) (i*gQ) (enc x)=(xs.set i x).flatMap enc:=by
 unfold kI
 rw[RX e,e.len,show i*gQ+gQ=(i+1)*gQ by rw[aL3],K1 e,List.set_eq_take_append_cons_drop,if_pos hi]
 simp
def Row (enc:α→List Value) (gQ:Nat) (H:aH) (b:Nat) (p:Bool) (xs:List α):Prop:=H[b]? = some (.row (xs.flatMap enc) gQ p)
theorem Row.lt (h:Row enc gQ H b p xs):b<H.length:=(aLd.1 h).1
theorem Row.pre (h:Row enc gQ H b p xs) (hp:H <+: H'):Row enc gQ H' b p xs:=by
 obtain⟨L,rfl⟩:=hp
 unfold Row
 rw[SO h.lt]
 exact h
theorem Row.elem (h:Row enc gQ H b p xs) (e:Md enc gQ) {i:Nat} {x:α} (hx:xs[i]? = some x):F1 H b (i*gQ) (enc x):=by
 refine⟨h.lt,?_⟩
 have hi:=(aLd.1 hx).1
 have hm:(i+1)*gQ≤xs.length*gQ:=aLF _ hi
 rw[aL3] at hm
 rw[C7 h (by rw[e.len,PL e];omega),K1 e,e.len]
 have:=RX (xs:=xs.drop i) e 1
 rw[Nat.one_mul] at this
 rw[this,aLj hi]
 rw[aLl hi] at hx
 injection hx with hx
 simp[hx]
theorem Row.arr (h:Row enc gQ H b p xs) (e:Md enc gQ) {n:Nat} (hn:n≤xs.length):Arr enc gQ H (some ⟨b,0,none⟩) n (xs.take n):=by
 refine⟨by simp;omega,fun i x hx=>⟨b,0,rfl,?_⟩⟩
 rw[Nat.zero_add]
 refine h.elem e ?_
 rw[List.getElem?_take] at hx
 split at hx
 ·exact hx
 ·cases hx
theorem Row.store (h:Row enc gQ H b p xs) (e:Md enc gQ) {i:Nat} {x:α} {u:Value} (hu:aV u=enc x) (hi:i<xs.length) (hl:lo≤b):It lo gQ (.pointer (some ⟨b,i*gQ,none⟩)) u H=some (undef,H.set b (.row ((xs.set i x).flatMap enc) gQ p)):=by
 simp only[It,aH.write,hu,e.len,if_true]
 have h':H[b]? = some (.row (xs.flatMap enc) gQ p):=h
 have hm:(i+1)*gQ≤xs.length*gQ:=aLF _ hi
 rw[aL3] at hm
 simp only[h']
 rw[if_pos ⟨hl,by rw[PL e];omega,e.sc x⟩,VE e x hi]
 rfl
theorem Row.set (h:Row enc gQ H b p xs) (ys:List α):Row enc gQ (H.set b (.row (ys.flatMap enc) gQ p)) b p ys:=by
 unfold Row
 rw[List.getElem?_set_self h.lt]
theorem UI (e:Md enc gQ) {n:Nat} {x:α}:dE n (enc x)=(aL4 n x).flatMap enc:=by
 have lQ:=e.pos
 have hlen:=e.len x
 apply List.ext_getElem?
 intro i
 unfold dE
 rw[List.getElem?_map,hlen]
 rcases aLh i (n*gQ) with hi | hi
 ·rw[List.getElem?_range hi]
  have hq:i / gQ<n:=Nat.div_lt_of_lt_mul (by rw[Nat.mul_comm];exact hi)
  have h1:((aL4 n x).flatMap enc)[i]? = (((aL4 n x).flatMap enc).drop (i / gQ*gQ))[i % gQ]? := by
   rw[aLc]
   congr 1
   rw[Nat.mul_comm]
   exact(Nat.div_add_mod i gQ).symm
  have hr:i % gQ<(enc x).length:=by rw[hlen];exact Nat.mod_lt _ (by omega)
  rw[h1,K1 e,List.drop_replicate,show n-i / gQ=(n-i / gQ-1)+1 by omega,List.replicate_succ,aL2,aLv hr]
  simp[aLb,aLl hr]
 ·rw[aLE (by simpa using hi),aLE (by rw[PL e];simpa using hi)]
  rfl
theorem Row.top {K:aH}:Row enc gQ (H ++ .row (xs.flatMap enc) gQ p::K) H.length p xs:=abT
end
end Go.PM
namespace Go.PM
section
variable {H L:aH} {lo k o size:Nat} {agg:Bool} {u:Value}
end
end Go.PM
namespace Go.Proofs
open Go.Shelf
def Oh:Go.Shelf.Ren:=⟨fun | 156=>217 | 165=>232 | 166=>233 | 169=>235 | 240=>245 | 241=>246 | 276=>253 | 277=>254 | n=>n,fun | 31=>33 | 9=>9 | 3=>3 | 4=>4 | 0=>0 | 20=>20 | 72=>262 | 76=>264 | 70=>260 | 37=>187 | 75=>220 | 127=>276 | 164=>285 | 5=>5 | 80=>227 | n=>n,fun | n=>n⟩
theorem YB:Go.Proofs.Lays.n156 Tryz.prog Oh:={
 mixed:=by kernel_rfl
 f156:=Tryz.func217.trans (congrArg some (by kernel_rfl))
 f165:=Tryz.func232.trans (congrArg some (by kernel_rfl))
 f166:=Tryz.func233.trans (congrArg some (by kernel_rfl))
 f169:=Tryz.func235.trans (congrArg some (by kernel_rfl))
 f240:=Tryz.func245.trans (congrArg some (by kernel_rfl))
 f241:=Tryz.func246.trans (congrArg some (by kernel_rfl))
 f276:=Tryz.func253.trans (congrArg some (by kernel_rfl))
 f277:=Tryz.func254.trans (congrArg some (by kernel_rfl))
 t0:=Tryz.underlying0
 a0:=Tryz.isAgg0
 z0:=Tryz.sizeOf0
 v0:=Tryz.zeroValue0
 t3:=Tryz.underlying3
 a3:=Tryz.isAgg3
 z3:=Tryz.sizeOf3
 v3:=Tryz.zeroValue3
 t4:=Tryz.underlying4
 a4:=Tryz.isAgg4
 z4:=Tryz.sizeOf4
 v4:=Tryz.zeroValue4
 t9:=Tryz.underlying9
 a9:=Tryz.isAgg9
 z9:=Tryz.sizeOf9
 v9:=Tryz.zeroValue9
 t20:=Tryz.underlying20
 a20:=Tryz.isAgg20
 z20:=Tryz.sizeOf20
 v20:=Tryz.zeroValue20
 t31:=Tryz.underlying33
 a31:=Tryz.isAgg33
 z31:=Tryz.sizeOf33
 v31:=Tryz.zeroValue33
 t37:=Tryz.underlying187
 a37:=Tryz.isAgg187
 z37:=Tryz.sizeOf187
 v37:=Tryz.zeroValue187
 t70:=Tryz.underlying260
 a70:=Tryz.isAgg260
 z70:=Tryz.sizeOf260
 v70:=Tryz.zeroValue260
 t72:=Tryz.underlying262
 a72:=Tryz.isAgg262
 z72:=Tryz.sizeOf262
 v72:=Tryz.zeroValue262
 t75:=Tryz.underlying220
 a75:=Tryz.isAgg220
 z75:=Tryz.sizeOf220
 v75:=Tryz.zeroValue220
 t76:=Tryz.underlying264
 a76:=Tryz.isAgg264
 z76:=Tryz.sizeOf264
 v76:=Tryz.zeroValue264
 t127:=Tryz.underlying276
 a127:=Tryz.isAgg276
 z127:=Tryz.sizeOf276
 v127:=Tryz.zeroValue276
 t164:=Tryz.underlying285
 a164:=Tryz.isAgg285
 z164:=Tryz.sizeOf285
 v164:=Tryz.zeroValue285 }
theorem Tz:Builder.Extra Tryz.prog Oh:={
 sizeBuilder:=by kernel_rfl
 liesBuilder:=by kernel_rfl
 t5:=Tryz.underlying5
 a5:=Tryz.isAgg5
 z5:=Tryz.sizeOf5
 v5:=Tryz.zeroValue5
 infoByte:=by kernel_rfl
 cellsByte:=by kernel_rfl
 sizeByte:=by kernel_rfl
 neB5:=by decide }
def XF:Go.Shelf.Ren:=⟨fun | 133=>198 | 128=>218 | n=>n,fun | 51=>206 | 3=>3 | 4=>4 | 46=>207 | 5=>5 | 9=>9 | n=>n,fun | n=>n⟩
theorem aAb:Go.Proofs.Lays.n133 Tryz.prog XF:={
 mixed:=by kernel_rfl
 f128:=Tryz.func218.trans (congrArg some (by kernel_rfl))
 f133:=Tryz.func198.trans (congrArg some (by kernel_rfl))
 t3:=Tryz.underlying3
 a3:=Tryz.isAgg3
 z3:=Tryz.sizeOf3
 v3:=Tryz.zeroValue3
 t4:=Tryz.underlying4
 a4:=Tryz.isAgg4
 z4:=Tryz.sizeOf4
 v4:=Tryz.zeroValue4
 t5:=Tryz.underlying5
 a5:=Tryz.isAgg5
 z5:=Tryz.sizeOf5
 v5:=Tryz.zeroValue5
 t9:=Tryz.underlying9
 a9:=Tryz.isAgg9
 z9:=Tryz.sizeOf9
 v9:=Tryz.zeroValue9
 t46:=Tryz.underlying207
 a46:=Tryz.isAgg207
 z46:=Tryz.sizeOf207
 v46:=Tryz.zeroValue207
 t51:=Tryz.underlying206
 a51:=Tryz.isAgg206
 z51:=Tryz.sizeOf206
 v51:=Tryz.zeroValue206 }
def XJ:Go.Shelf.Ren:=⟨fun | 283=>241 | n=>n,fun | 3=>3 | 9=>9 | 4=>4 | n=>n,fun | n=>n⟩
theorem awJ:Go.Proofs.Lays.n283 Tryz.prog XJ:={
 mixed:=by kernel_rfl
 f283:=Tryz.func241.trans (congrArg some (by kernel_rfl))
 t3:=Tryz.underlying3
 a3:=Tryz.isAgg3
 z3:=Tryz.sizeOf3
 v3:=Tryz.zeroValue3
 t4:=Tryz.underlying4
 a4:=Tryz.isAgg4
 z4:=Tryz.sizeOf4
 v4:=Tryz.zeroValue4
 t9:=Tryz.underlying9
 a9:=Tryz.isAgg9
 z9:=Tryz.sizeOf9
 v9:=Tryz.zeroValue9 }
def Yo:Go.Shelf.Ren:=⟨fun | 284=>242 | 129=>249 | 317=>248 | 318=>250 | n=>n,fun | 53=>171 | 3=>3 | 212=>281 | 0=>0 | 4=>4 | 46=>207 | 5=>5 | 9=>9 | n=>n,fun | 17=>3 | n=>n⟩
theorem axD:Go.Proofs.LaysM.n284 Tryz.prog Yo:={
 mixed:=by kernel_rfl
 f129:=Tryz.func249.trans (congrArg some (by kernel_rfl))
 f284:=Tryz.func242.trans (congrArg some (by kernel_rfl))
 f317:=Tryz.func248.trans (congrArg some (by kernel_rfl))
 f318:=Tryz.func250.trans (congrArg some (by kernel_rfl))
 t0:=Tryz.underlying0
 a0:=Tryz.isAgg0
 z0:=Tryz.sizeOf0
 v0:=Tryz.zeroValue0
 t3:=Tryz.underlying3
 a3:=Tryz.isAgg3
 z3:=Tryz.sizeOf3
 v3:=Tryz.zeroValue3
 t4:=Tryz.underlying4
 a4:=Tryz.isAgg4
 z4:=Tryz.sizeOf4
 v4:=Tryz.zeroValue4
 t5:=Tryz.underlying5
 a5:=Tryz.isAgg5
 z5:=Tryz.sizeOf5
 v5:=Tryz.zeroValue5
 t9:=Tryz.underlying9
 a9:=Tryz.isAgg9
 z9:=Tryz.sizeOf9
 v9:=Tryz.zeroValue9
 t46:=Tryz.underlying207
 a46:=Tryz.isAgg207
 z46:=Tryz.sizeOf207
 v46:=Tryz.zeroValue207
 t53:=Tryz.underlying171
 a53:=Tryz.isAgg171
 z53:=Tryz.sizeOf171
 v53:=Tryz.zeroValue171
 t212:=Tryz.underlying281
 a212:=Tryz.isAgg281
 z212:=Tryz.sizeOf281
 v212:=Tryz.zeroValue281
 g17:=by kernel_rfl
 i0:=by kernel_rfl
 i3:=by kernel_rfl
 i4:=by kernel_rfl
 i5:=by kernel_rfl
 i9:=by kernel_rfl
 i46:=by kernel_rfl
 i53:=by kernel_rfl
 i212:=by kernel_rfl
 m17:=by kernel_rfl }
def XP:Go.Shelf.Ren:=⟨fun | 285=>243 | n=>n,fun | 37=>187 | 53=>171 | 3=>3 | 4=>4 | 51=>206 | 9=>9 | 5=>5 | 0=>0 | n=>n,fun | n=>n⟩
theorem axQ:Go.Proofs.Lays.n285 Tryz.prog XP:={
 mixed:=by kernel_rfl
 f285:=Tryz.func243.trans (congrArg some (by kernel_rfl))
 t0:=Tryz.underlying0
 a0:=Tryz.isAgg0
 z0:=Tryz.sizeOf0
 v0:=Tryz.zeroValue0
 t3:=Tryz.underlying3
 a3:=Tryz.isAgg3
 z3:=Tryz.sizeOf3
 v3:=Tryz.zeroValue3
 t4:=Tryz.underlying4
 a4:=Tryz.isAgg4
 z4:=Tryz.sizeOf4
 v4:=Tryz.zeroValue4
 t5:=Tryz.underlying5
 a5:=Tryz.isAgg5
 z5:=Tryz.sizeOf5
 v5:=Tryz.zeroValue5
 t9:=Tryz.underlying9
 a9:=Tryz.isAgg9
 z9:=Tryz.sizeOf9
 v9:=Tryz.zeroValue9
 t37:=Tryz.underlying187
 a37:=Tryz.isAgg187
 z37:=Tryz.sizeOf187
 v37:=Tryz.zeroValue187
 t51:=Tryz.underlying206
 a51:=Tryz.isAgg206
 z51:=Tryz.sizeOf206
 v51:=Tryz.zeroValue206
 t53:=Tryz.underlying171
 a53:=Tryz.isAgg171
 z53:=Tryz.sizeOf171
 v53:=Tryz.zeroValue171 }
def UR:Go.Shelf.Ren:=⟨fun | 14=>192 | 16=>211 | 17=>212 | 19=>224 | 20=>225 | 21=>226 | 22=>227 | 23=>228 | 24=>229 | 25=>238 | 27=>240 | 26=>239 | 28=>247 | 29=>255 | 30=>241 | 31=>242 | 32=>243 | 33=>244 | 35=>249 | 34=>248 | 36=>250 | 37=>251 | 38=>252 | 39=>256 | 40=>257 | n=>n,fun | 9=>9 | 3=>3 | 22=>171 | 24=>220 | 25=>221 | 4=>4 | 34=>255 | 5=>5 | 36=>207 | 37=>187 | 0=>0 | 39=>257 | 21=>21 | 44=>269 | 47=>276 | 50=>279 | 48=>277 | 2=>2 | 52=>271 | 55=>274 | 59=>281 | 60=>206 | 20=>20 | 61=>282 | 65=>289 | 66=>290 | 67=>227 | n=>n,fun | 0=>1 | 1=>2 | 2=>3 | 3=>4 | 4=>5 | n=>n⟩
theorem arB:Go.Proofs.LaysPu.n14 Tryz.prog UR:={
 mixed:=by kernel_rfl
 f14:=Tryz.func192.trans (congrArg some (by kernel_rfl))
 f16:=Tryz.func211.trans (congrArg some (by kernel_rfl))
 f17:=Tryz.func212.trans (congrArg some (by kernel_rfl))
 f19:=Tryz.func224.trans (congrArg some (by kernel_rfl))
 f20:=Tryz.func225.trans (congrArg some (by kernel_rfl))
 f21:=Tryz.func226.trans (congrArg some (by kernel_rfl))
 f22:=Tryz.func227.trans (congrArg some (by kernel_rfl))
 f23:=Tryz.func228.trans (congrArg some (by kernel_rfl))
 f24:=Tryz.func229.trans (congrArg some (by kernel_rfl))
 f25:=Tryz.func238.trans (congrArg some (by kernel_rfl))
 f26:=Tryz.func239.trans (congrArg some (by kernel_rfl))
 f27:=Tryz.func240.trans (congrArg some (by kernel_rfl))
 f28:=Tryz.func247.trans (congrArg some (by kernel_rfl))
 f29:=Tryz.func255.trans (congrArg some (by kernel_rfl))
 f30:=Tryz.func241.trans (congrArg some (by kernel_rfl))
 f31:=Tryz.func242.trans (congrArg some (by kernel_rfl))
 f32:=Tryz.func243.trans (congrArg some (by kernel_rfl))
 f33:=Tryz.func244.trans (congrArg some (by kernel_rfl))
 f34:=Tryz.func248.trans (congrArg some (by kernel_rfl))
 f35:=Tryz.func249.trans (congrArg some (by kernel_rfl))
 f36:=Tryz.func250.trans (congrArg some (by kernel_rfl))
 f37:=Tryz.func251.trans (congrArg some (by kernel_rfl))
 f38:=Tryz.func252.trans (congrArg some (by kernel_rfl))
 f39:=Tryz.func256.trans (congrArg some (by kernel_rfl))
 f40:=Tryz.func257.trans (congrArg some (by kernel_rfl))
 t0:=Tryz.underlying0
 a0:=Tryz.isAgg0
 z0:=Tryz.sizeOf0
 v0:=Tryz.zeroValue0
 i0:=by kernel_rfl
 t2:=Tryz.underlying2
 a2:=Tryz.isAgg2
 z2:=Tryz.sizeOf2
 v2:=Tryz.zeroValue2
 i2:=by kernel_rfl
 t3:=Tryz.underlying3
 a3:=Tryz.isAgg3
 z3:=Tryz.sizeOf3
 v3:=Tryz.zeroValue3
 i3:=by kernel_rfl
 t4:=Tryz.underlying4
 a4:=Tryz.isAgg4
 z4:=Tryz.sizeOf4
 v4:=Tryz.zeroValue4
 i4:=by kernel_rfl
 t5:=Tryz.underlying5
 a5:=Tryz.isAgg5
 z5:=Tryz.sizeOf5
 v5:=Tryz.zeroValue5
 i5:=by kernel_rfl
 t9:=Tryz.underlying9
 a9:=Tryz.isAgg9
 z9:=Tryz.sizeOf9
 v9:=Tryz.zeroValue9
 i9:=by kernel_rfl
 t20:=Tryz.underlying20
 a20:=Tryz.isAgg20
 z20:=Tryz.sizeOf20
 v20:=Tryz.zeroValue20
 i20:=by kernel_rfl
 t21:=Tryz.underlying21
 a21:=Tryz.isAgg21
 z21:=Tryz.sizeOf21
 v21:=Tryz.zeroValue21
 i21:=by kernel_rfl
 t22:=Tryz.underlying171
 a22:=Tryz.isAgg171
 z22:=Tryz.sizeOf171
 v22:=Tryz.zeroValue171
 i22:=by kernel_rfl
 t24:=Tryz.underlying220
 a24:=Tryz.isAgg220
 z24:=Tryz.sizeOf220
 v24:=Tryz.zeroValue220
 i24:=by kernel_rfl
 t25:=Tryz.underlying221
 a25:=Tryz.isAgg221
 z25:=Tryz.sizeOf221
 v25:=Tryz.zeroValue221
 i25:=by kernel_rfl
 t34:=Tryz.underlying255
 a34:=Tryz.isAgg255
 z34:=Tryz.sizeOf255
 v34:=Tryz.zeroValue255
 i34:=by kernel_rfl
 c34:=by kernel_rfl
 t36:=Tryz.underlying207
 a36:=Tryz.isAgg207
 z36:=Tryz.sizeOf207
 v36:=Tryz.zeroValue207
 i36:=by kernel_rfl
 t37:=Tryz.underlying187
 a37:=Tryz.isAgg187
 z37:=Tryz.sizeOf187
 v37:=Tryz.zeroValue187
 i37:=by kernel_rfl
 t39:=Tryz.underlying257
 a39:=Tryz.isAgg257
 z39:=Tryz.sizeOf257
 v39:=Tryz.zeroValue257
 i39:=by kernel_rfl
 t44:=Tryz.underlying269
 a44:=Tryz.isAgg269
 z44:=Tryz.sizeOf269
 v44:=Tryz.zeroValue269
 i44:=by kernel_rfl
 t47:=Tryz.underlying276
 a47:=Tryz.isAgg276
 z47:=Tryz.sizeOf276
 v47:=Tryz.zeroValue276
 i47:=by kernel_rfl
 t48:=Tryz.underlying277
 a48:=Tryz.isAgg277
 z48:=Tryz.sizeOf277
 v48:=Tryz.zeroValue277
 i48:=by kernel_rfl
 t50:=Tryz.underlying279
 a50:=Tryz.isAgg279
 z50:=Tryz.sizeOf279
 v50:=Tryz.zeroValue279
 i50:=by kernel_rfl
 t52:=Tryz.underlying271
 a52:=Tryz.isAgg271
 z52:=Tryz.sizeOf271
 v52:=Tryz.zeroValue271
 i52:=by kernel_rfl
 t55:=Tryz.underlying274
 a55:=Tryz.isAgg274
 z55:=Tryz.sizeOf274
 v55:=Tryz.zeroValue274
 i55:=by kernel_rfl
 t59:=Tryz.underlying281
 a59:=Tryz.isAgg281
 z59:=Tryz.sizeOf281
 v59:=Tryz.zeroValue281
 i59:=by kernel_rfl
 t60:=Tryz.underlying206
 a60:=Tryz.isAgg206
 z60:=Tryz.sizeOf206
 v60:=Tryz.zeroValue206
 i60:=by kernel_rfl
 t61:=Tryz.underlying282
 a61:=Tryz.isAgg282
 z61:=Tryz.sizeOf282
 t65:=Tryz.underlying289
 a65:=Tryz.isAgg289
 z65:=Tryz.sizeOf289
 v65:=Tryz.zeroValue289
 i65:=by kernel_rfl
 t66:=Tryz.underlying290
 a66:=Tryz.isAgg290
 z66:=Tryz.sizeOf290
 v66:=Tryz.zeroValue290
 i66:=by kernel_rfl
 t67:=Tryz.underlying227
 a67:=Tryz.isAgg227
 z67:=Tryz.sizeOf227
 v67:=Tryz.zeroValue227
 i67:=by kernel_rfl
 g0:=by kernel_rfl
 m0:=by kernel_rfl
 g1:=by kernel_rfl
 m1:=by kernel_rfl
 g2:=by kernel_rfl
 m2:=by kernel_rfl
 g3:=by kernel_rfl
 m3:=by kernel_rfl
 g4:=by kernel_rfl
 m4:=by kernel_rfl }
def YQ:Go.Shelf.Ren:=⟨fun | 219=>209 | 217=>220 | 225=>221 | 224=>222 | 267=>223 | 266=>236 | 314=>237 | n=>n,fun | 9=>9 | 3=>3 | 4=>4 | 5=>5 | 46=>207 | 146=>240 | 51=>206 | n=>n,fun | 1=>0 | n=>n⟩
theorem axK:Go.Proofs.Lays.n219 Tryz.prog YQ:={
 mixed:=by kernel_rfl
 f217:=Tryz.func220.trans (congrArg some (by kernel_rfl))
 f219:=Tryz.func209.trans (congrArg some (by kernel_rfl))
 f224:=Tryz.func222.trans (congrArg some (by kernel_rfl))
 f225:=Tryz.func221.trans (congrArg some (by kernel_rfl))
 f266:=Tryz.func236.trans (congrArg some (by kernel_rfl))
 f267:=Tryz.func223.trans (congrArg some (by kernel_rfl))
 f314:=Tryz.func237.trans (congrArg some (by kernel_rfl))
 t3:=Tryz.underlying3
 a3:=Tryz.isAgg3
 z3:=Tryz.sizeOf3
 v3:=Tryz.zeroValue3
 t4:=Tryz.underlying4
 a4:=Tryz.isAgg4
 z4:=Tryz.sizeOf4
 v4:=Tryz.zeroValue4
 t5:=Tryz.underlying5
 a5:=Tryz.isAgg5
 z5:=Tryz.sizeOf5
 v5:=Tryz.zeroValue5
 t9:=Tryz.underlying9
 a9:=Tryz.isAgg9
 z9:=Tryz.sizeOf9
 v9:=Tryz.zeroValue9
 t46:=Tryz.underlying207
 a46:=Tryz.isAgg207
 z46:=Tryz.sizeOf207
 v46:=Tryz.zeroValue207
 t51:=Tryz.underlying206
 a51:=Tryz.isAgg206
 z51:=Tryz.sizeOf206
 v51:=Tryz.zeroValue206
 t146:=Tryz.underlying240
 a146:=Tryz.isAgg240
 z146:=Tryz.sizeOf240
 v146:=Tryz.zeroValue240
 g1:=by kernel_rfl }
def PV:Go.Shelf.Ren:=⟨fun | 105=>215 | 212=>187 | 99=>231 | 165=>232 | 166=>233 | 170=>234 | 169=>235 | 263=>206 | 264=>207 | 206=>210 | 240=>245 | 241=>246 | 276=>253 | 277=>254 | n=>n,fun | 9=>9 | 3=>3 | 4=>4 | 20=>20 | 0=>0 | 46=>207 | 109=>215 | 5=>5 | 72=>262 | 76=>264 | 51=>206 | 146=>240 | 53=>171 | 148=>242 | 70=>260 | 37=>187 | 75=>220 | 127=>276 | 164=>285 | 80=>227 | n=>n,fun | n=>n⟩
theorem axT:Go.Proofs.Lays.n105 Tryz.prog PV:={
 mixed:=by kernel_rfl
 f99:=Tryz.func231.trans (congrArg some (by kernel_rfl))
 f105:=Tryz.func215.trans (congrArg some (by kernel_rfl))
 f165:=Tryz.func232.trans (congrArg some (by kernel_rfl))
 f166:=Tryz.func233.trans (congrArg some (by kernel_rfl))
 f169:=Tryz.func235.trans (congrArg some (by kernel_rfl))
 f170:=Tryz.func234.trans (congrArg some (by kernel_rfl))
 f206:=Tryz.func210.trans (congrArg some (by kernel_rfl))
 f212:=Tryz.func187.trans (congrArg some (by kernel_rfl))
 f240:=Tryz.func245.trans (congrArg some (by kernel_rfl))
 f241:=Tryz.func246.trans (congrArg some (by kernel_rfl))
 f263:=Tryz.func206.trans (congrArg some (by kernel_rfl))
 f264:=Tryz.func207.trans (congrArg some (by kernel_rfl))
 f276:=Tryz.func253.trans (congrArg some (by kernel_rfl))
 f277:=Tryz.func254.trans (congrArg some (by kernel_rfl))
 t0:=Tryz.underlying0
 a0:=Tryz.isAgg0
 z0:=Tryz.sizeOf0
 v0:=Tryz.zeroValue0
 t3:=Tryz.underlying3
 a3:=Tryz.isAgg3
 z3:=Tryz.sizeOf3
 v3:=Tryz.zeroValue3
 t4:=Tryz.underlying4
 a4:=Tryz.isAgg4
 z4:=Tryz.sizeOf4
 v4:=Tryz.zeroValue4
 t5:=Tryz.underlying5
 a5:=Tryz.isAgg5
 z5:=Tryz.sizeOf5
 v5:=Tryz.zeroValue5
 t9:=Tryz.underlying9
 a9:=Tryz.isAgg9
 z9:=Tryz.sizeOf9
 v9:=Tryz.zeroValue9
 t20:=Tryz.underlying20
 a20:=Tryz.isAgg20
 z20:=Tryz.sizeOf20
 v20:=Tryz.zeroValue20
 t37:=Tryz.underlying187
 a37:=Tryz.isAgg187
 z37:=Tryz.sizeOf187
 v37:=Tryz.zeroValue187
 t46:=Tryz.underlying207
 a46:=Tryz.isAgg207
 z46:=Tryz.sizeOf207
 v46:=Tryz.zeroValue207
 t51:=Tryz.underlying206
 a51:=Tryz.isAgg206
 z51:=Tryz.sizeOf206
 v51:=Tryz.zeroValue206
 t53:=Tryz.underlying171
 a53:=Tryz.isAgg171
 z53:=Tryz.sizeOf171
 v53:=Tryz.zeroValue171
 t70:=Tryz.underlying260
 a70:=Tryz.isAgg260
 z70:=Tryz.sizeOf260
 v70:=Tryz.zeroValue260
 t72:=Tryz.underlying262
 a72:=Tryz.isAgg262
 z72:=Tryz.sizeOf262
 v72:=Tryz.zeroValue262
 t75:=Tryz.underlying220
 a75:=Tryz.isAgg220
 z75:=Tryz.sizeOf220
 v75:=Tryz.zeroValue220
 t76:=Tryz.underlying264
 a76:=Tryz.isAgg264
 z76:=Tryz.sizeOf264
 v76:=Tryz.zeroValue264
 t109:=Tryz.underlying215
 a109:=Tryz.isAgg215
 z109:=Tryz.sizeOf215
 v109:=Tryz.zeroValue215
 t127:=Tryz.underlying276
 a127:=Tryz.isAgg276
 z127:=Tryz.sizeOf276
 v127:=Tryz.zeroValue276
 t146:=Tryz.underlying240
 a146:=Tryz.isAgg240
 z146:=Tryz.sizeOf240
 v146:=Tryz.zeroValue240
 t148:=Tryz.underlying242
 a148:=Tryz.isAgg242
 z148:=Tryz.sizeOf242
 v148:=Tryz.zeroValue242
 t164:=Tryz.underlying285
 a164:=Tryz.isAgg285
 z164:=Tryz.sizeOf285
 v164:=Tryz.zeroValue285 }
theorem atK:Builder.Extra Tryz.prog PV:={
 sizeBuilder:=by kernel_rfl
 liesBuilder:=by kernel_rfl
 t5:=Tryz.underlying5
 a5:=Tryz.isAgg5
 z5:=Tryz.sizeOf5
 v5:=Tryz.zeroValue5
 infoByte:=by kernel_rfl
 cellsByte:=by kernel_rfl
 sizeByte:=by kernel_rfl
 neB5:=by decide }
end Go.Proofs
namespace Go.Proofs
open Go.Shelf Go.RowKit Go.Sort Go.Lib
abbrev YE:UInt8→Value:=fun b=>Value.int .u8 (b.toNat:Int)
theorem afV (w:World) (T:TypeId) (nd:Nat) (hs:nd≤24):Holds YE (w.alloc (.cells Lib.zeros24 T)) w.heap.size 0 (aLW nd (0:UInt8)):=fun j hj=>by
 have hj':j<nd:=by simpa using hj
 refine⟨?_,World.frozen?_alloc_new _ _ _ _⟩
 rw[World.cell?_alloc_new,Lib.zeros24_at _ (by omega),getElem!_pos _ j hj]
 simp
theorem Db (w:World) (o:Obj) (dk:Array UInt8) (k:Nat):Below w.heap.size w ((putRow YE (w.alloc o) w.heap.size 0 dk).drewN k):=by
 rw[alloc_eq_grow]
 obtain⟨os',_,e⟩:=putRow_grow_new YE w #[o] w.heap.size 0 dk (aLe _)
 rw[e]
 refine⟨rfl,rfl,rfl,by show w.heap.size≤(w.heap++os').size;simp,fun i hi => ?_⟩
 show (w.heap++os')[i]? = _
 rw[aLX hi]
set_option maxHeartbeats 6400000 in
set_option maxRecDepth 100000 in
theorem azH (u:Nat) (ahS:u<18446744073709551616) (w:World) (azB:Lib.TabIs Tryz.prog w "internal/strconv.uint64pow10" .u64 Lib.pow10Tab) :
  Calls Tryz.prog 230 #[.int .u64 u,.int .i64 10] w fun e w'=>e = .returned (.string ⟨(Lib.decDigits u).toArray⟩)∧Below w.heap.size w w':=by
 by_cases hs:u<100
 ·go_enter Tryz.func230,Tryz.ntmps230
  go_wp2_with (go_at_call 241;refine(Any.internal_strconv_small awJ u hs _).mono ?_;rintro e w' ⟨rfl,rfl⟩)
  go_ret
  exact⟨rfl,Below.refl _ _⟩
 ·have hu1:1≤u:=by omega
  have aHt:Lib.nDigits u≤20:=by have:=Lib.numDigits_eq u hu1 ahS;split at this<;>omega
  have hH0:=afV w 271 (Lib.nDigits u) (by omega)
  have aA0:=Any.internal_strconv_formatBase10 axQ w.heap.size 0 24 u (aLW (Lib.nDigits u) 0) (w.alloc (.cells Lib.zeros24 271)) hH0 (by rw[aL5];exact Lib.lt_pow_nDigits u) ahS (by rw[aL5];omega)
  rw[aL5] at aA0
  have HH0:=Lib.hid hH0
  have hal:Tryz.prog.arrayLen 271=24:=by simp[Program.arrayLen,Tryz.underlying271]
  have Sl:∀W,(Instr.sliceAt 271 (.pointer (some ⟨w.heap.size,0,none⟩)) none (some (.int .i64 (Lib.nDigits u:Int))) none).run Tryz.prog W = .ok (.slice (some ⟨w.heap.size,0,none⟩) (Lib.nDigits u) 24) W:=fun W=>by
   rw[run_sliceAt_array_h W 271 ⟨w.heap.size,0,none⟩ (by simp[Program.arrayLen,Program.elem,Tryz.underlying271]) .i64 (Lib.nDigits u:Int) (by omega) (by rw[hal];omega)]
   go_simp
  clear hH0 hal
  go_enter Tryz.func230,Tryz.ntmps230
  go_wp2_with (first
   | (go_at_call 242;refine(Any.internal_strconv_numDigits axD u hu1 ahS _ (Lib.tabIs_alloc azB _)).mono ?_;rintro e w' ⟨rfl,rfl⟩))
  go_at_call 243
  refine aA0.mono ?_
  rintro e w' ⟨rfl,k,v',dk,rfl,hF⟩
  have hcv:(convert 187 9 (.slice (some ⟨w.heap.size,0,none⟩) (Lib.nDigits u) 24)).run Tryz.prog ((putRow YE (w.alloc (.cells Lib.zeros24 271)) w.heap.size 0 dk).drewN k) = .ok (.string ⟨(Lib.decDigits u).toArray⟩) ((putRow YE (w.alloc (.cells Lib.zeros24 271)) w.heap.size 0 dk).drewN k):=by
   have h:=run_convert_bytes_back (P:=Tryz.prog) ((putRow YE (w.alloc (.cells Lib.zeros24 271)) w.heap.size 0 dk).drewN k) 187 9 5 ⟨w.heap.size,0,none⟩ 24 (Lib.decDigits u) Tryz.underlying187 Tryz.underlying5 Tryz.underlying9 (fun j hj=>by
    rw[Lib.row_is_numeral hF j hj,Lib.add_plain,World.cell?_drewN]
    exact cell?_putRow YE _ w.heap.size 0 _ dk HH0.out (by rw[hF.size,aL5]) j (by rw[hF.size];rw[Lib.decDigits_length] at hj;exact hj))
   rw[Lib.decDigits_length] at h
   exact h
  go_wp2
  go_ret
  exact⟨rfl,Db w _ dk k⟩
theorem akN (u:Nat) (ahS:u<18446744073709551616) (w:World) (azB:Lib.TabIs Tryz.prog w "internal/strconv.uint64pow10" .u64 Lib.pow10Tab) :
  Calls Tryz.prog 214 #[.int .u64 u,.int .i64 10] w fun e w'=>e = .returned (.string ⟨(Lib.decDigits u).toArray⟩)∧Below w.heap.size w w':=by
 go_enter Tryz.func214,Tryz.ntmps214
 go_wp2_with (go_at_call 230;refine(azH u ahS _ azB).mono ?_;rintro e w' ⟨rfl,hb⟩)
 go_ret
 exact⟨rfl,hb⟩
end Go.Proofs
namespace Go.PM
open Go.Proofs Go.RowKit
theorem Below.DB {w w':World} (h:Below w.heap.size w w'):w.heap.size≤w'.heap.size∧(∀rb,rb<w.heap.size→w'.heap[rb]? = w.heap[rb]?)∧w'.os=w.os∧w'.output=w.output∧w'.tape=w.tape :=
 ⟨h.size,h.block,h.os,h.output,h.tape⟩
theorem Dz {w:World}:w.heap.size≤w.heap.size∧(∀rb,rb<w.heap.size→w.heap[rb]? = w.heap[rb]?)∧w.os=w.os∧w.output=w.output∧w.tape=w.tape :=
 ⟨aLe _,fun _ _=>rfl,rfl,rfl,rfl⟩
def Ge (f:Nat) (p:List Value→aH→Option Value):Prop :=
 Pa Tryz.prog f∧∀L0 args H v,p args H=some v→∀m w iW,Rel m L0 H w→RL m args iW →
  Calls Tryz.prog f iW.toArray w fun e w'=>∃rv,e = .returned rv∧RV m v rv∧w.heap.size≤w'.heap.size∧(∀rb,rb<w.heap.size→w'.heap[rb]? = w.heap[rb]?)∧w'.os=w.os∧w'.output=w.output∧w'.tape=w.tape
theorem RL.one {m:dS} {x:Value} {ys:List Value} (h:RL m [x] ys):∃y,ys=[y]∧RV m x y:=by
 match ys,h with
 | [y],h=>exact⟨y,rfl,h.lG.1⟩
 | [],h=>exact absurd h.1 (by simp)
 | _::_::_,h=>exact absurd h.1 (by simp)
theorem RL.two {m:dS} {x x':Value} {ys:List Value} (h:RL m [x,x'] ys):∃y y',ys=[y,y']∧RV m x y∧RV m x' y':=by
 match ys,h with
 | [y,y'],h=>exact⟨y,y',rfl,h.lG.1,h.lG.2.lG.1⟩
 | [],h=>exact absurd h.1 (by simp)
 | [_],h=>exact absurd h.1 (by simp)
 | _::_::_::_,h=>exact absurd h.1 (by simp)
theorem RL.three {m:dS} {x x' x'':Value} {ys:List Value} (h:RL m [x,x',x''] ys):∃y y' y'',ys=[y,y',y'']∧RV m x y∧RV m x' y'∧RV m x'' y'':=by
 match ys,h with
 | [y,y',y''],h=>exact⟨y,y',y'',rfl,h.lG.1,h.lG.2.lG.1,h.lG.2.lG.2.lG.1⟩
 | [],h=>exact absurd h.1 (by simp)
 | [_],h=>exact absurd h.1 (by simp)
 | [_,_],h=>exact absurd h.1 (by simp)
 | _::_::_::_::_,h=>exact absurd h.1 (by simp)
theorem HI {m:dS}:∀ {cs rs:List Value} {xs:List ByteArray},strCells cs=some xs→RL m cs rs→rs=xs.map .string
 |
  [],rs,xs,h,hr=>by
  cases h
  match rs,hr with
  | [],_=>rfl
  | _::_,hr=>exact absurd hr.1 (by simp)
 |
  c::cs,rs,xs,h,hr=>by
  match rs,hr with
  | [],hr=>exact absurd hr.1 (by simp)
  |
   r::rs,hr =>
   obtain⟨h1,h2⟩:=hr.lG
   cases c with
   |
    string s =>
    rw[strCells] at h
    cases hc:strCells cs with
    | none=>rw[hc] at h;cases h
    |
     some ys =>
     rw[hc] at h
     cases h
     cases h1
     rw[HI hc h2]
     rfl
   | _=>cases h
theorem Mn:Ge 198 FY:=by
 refine⟨⟨_,Tryz.func198,by kernel_rfl,by kernel_rfl⟩,fun L0 args H v hp m w iW hR hr => ?_⟩
 unfold FY at hp
 split at hp
 case h_2=>cases hp
 rename_i x
 split at hp
 case isFalse=>cases hp
 rename_i hx
 cases hp
 obtain⟨y,rfl,h1⟩:=hr.one
 cases h1
 refine(Any.bits_LeadingZeros32 aAb x w hx.1 hx.2).mono ?_
 rintro e w' ⟨rfl,rfl⟩
 exact⟨_,rfl,.int _ _,Dz⟩
theorem Pe:Ge 215 IZ:=by
 refine⟨⟨_,Tryz.func215,by kernel_rfl,by kernel_rfl⟩,fun L0 args H v hp m w iW hR hr => ?_⟩
 unfold IZ at hp
 split at hp
 case h_2=>cases hp
 rename_i s c
 split at hp
 case isFalse=>cases hp
 rename_i hx
 cases hp
 obtain⟨y,y',rfl,h1,h2⟩:=hr.two
 cases h1
 cases h2
 obtain⟨k,rfl⟩:∃k:Nat,c=k:=⟨c.toNat,by omega⟩
 refine(Any.strings_Repeat axT atK s k w (by omega) hx.2.2).mono ?_
 rintro e w' ⟨rfl,hb⟩
 exact⟨_,rfl,.str _,Below.DB hb⟩
theorem T8:Ge 217 Wf:=by
 refine⟨⟨_,Tryz.func217,by kernel_rfl,by kernel_rfl⟩,fun L0 args H v hp m w iW hR hr => ?_⟩
 unfold Wf at hp
 split at hp
 case h_3=>cases hp
 ·cases hp
  obtain⟨y,y',rfl,h1,h2⟩:=hr.two
  cases h1
  cases h2
  refine(Any.strings_Join_none YB Tz none 0 _ w).mono ?_
  rintro e w' ⟨rfl,rfl⟩
  exact⟨_,rfl,.str _,Dz⟩
 ·rename_i b o n c sep
  obtain⟨y,y',rfl,h1,h2⟩:=hr.two
  cases h2
  cases h1 with
  |
   slice _ _ _ _ l ra rc h hn hc hx ha =>
   split at hp
   ·rename_i hn0
    subst hn0
    cases hp
    refine(Any.strings_Join_none YB Tz (some ra) rc _ w).mono ?_
    rintro e w' ⟨rfl,rfl⟩
    exact⟨_,rfl,.str _,Dz⟩
   ·rename_i hn0
    split at hp
    case h_2=>cases hp
    rename_i xs Nd
    split at hp
    case isFalse=>cases hp
    rename_i Wm
    cases hp
    obtain⟨cs,HS,OQ⟩:=Option.bind_eq_some_iff.1 Nd
    obtain⟨rs,r1,r2,_,r4⟩:=Bw hR h HS
    have hrs:=HI OQ r1
    subst hrs
    rcases ha with ha | ⟨rfl,ha⟩
    ·omega
    obtain⟨arr,e0,fz0,v1,_⟩:=hR.valid b l h
    have EX:l.rb<w.heap.size:=(aLn.1 v1).1
    obtain⟨c1,c2,c3,c4⟩:=Wm
    subst c1
    refine(Any.strings_Join YB Tz l.rb (l.base+o) rc xs sep w (fun j x hj => ?_) EX c3 (by omega) c4).mono ?_
    ·have:=r4 j (.string x) (by simp[hj])
     rw[Addr.add_lit] at this
     exact this
    ·rintro e w' ⟨rfl,hb⟩
     exact⟨_,rfl,.str _,Below.DB hb⟩
theorem XT {m:dS} {L0:Nat} {H:aH} {w:World} (hR:Rel m L0 H w):Lib.TabIs Tryz.prog w "internal/strconv.uint64pow10" .u64 Lib.pow10Tab:=by
 obtain⟨e,fz,h⟩:=(hR.Ff (3,(Lib.pow10Tab.map fun z=>Value.int .u64 z).toArray) (by simp[atI])).1
 have hg:Tryz.prog.globalNamed "internal/strconv.uint64pow10"=some 3:=by kernel_rfl
 unfold Lib.TabIs World.var?
 rw[hg]
 simp only[Option.bind_some,h]
theorem Us:Ge 214 zL:=by
 refine⟨⟨_,Tryz.func214,by kernel_rfl,by kernel_rfl⟩,fun L0 args H v hp m w iW hR hr => ?_⟩
 unfold zL at hp
 split at hp
 case h_2=>cases hp
 rename_i n b
 split at hp
 case isFalse=>cases hp
 rename_i hx
 cases hp
 obtain⟨y,y',rfl,h1,h2⟩:=hr.two
 cases h1
 cases h2
 obtain⟨rfl,h0,h1⟩:=hx
 obtain⟨u,rfl⟩:∃u:Nat,n=u:=⟨n.toNat,by omega⟩
 refine(akN u (by omega) w (XT hR)).mono ?_
 rintro e w' ⟨rfl,hb⟩
 exact⟨_,rfl,.str _,Below.DB hb⟩
theorem Sc:Ge 209 SP:=by
 refine⟨⟨_,Tryz.func209,by kernel_rfl,by kernel_rfl⟩,fun L0 args H v hp m w iW hR hr => ?_⟩
 unfold SP at hp
 split at hp
 case h_2=>cases hp
 rename_i s p
 split at hp
 case h_2=>cases hp
 rename_i c hc
 cases hp
 obtain⟨y,y',rfl,h1,h2⟩:=hr.two
 cases h1
 cases h2
 have hp:p=⟨#[c]⟩:=by
  obtain⟨a⟩:=p
  obtain⟨l⟩:=a
  have:l=[c]:=hc
  rw[this]
 subst hp
 refine(Any.stringslite_Index_one axK s c w).mono ?_
 rintro e w' ⟨rfl,rfl⟩
 exact⟨_,rfl,.int _ _,Dz⟩
theorem Rf:Ge 192 Bs:=by
 refine⟨⟨_,Tryz.func192,by kernel_rfl,by kernel_rfl⟩,fun L0 args H v hp m w iW hR hr => ?_⟩
 unfold Bs at hp
 split at hp
 case h_2=>cases hp
 rename_i s b z
 split at hp
 case isFalse=>cases hp
 rename_i hx
 obtain⟨rfl,rfl,hs⟩:=hx
 split at hp
 case h_2=>cases hp
 rename_i u hu
 cases hp
 obtain⟨y,y',y'',rfl,h1,h2,h3⟩:=hr.three
 cases h1
 cases h2
 cases h3
 refine(Any.strconv_ParseUint_10_at64_ok arB s hs u hu w).mono ?_
 have hv:∀m,RV m (.tuple #[.int .u64 (u:Int),.nilIface]) (.tuple #[.int .u64 (u:Int),.nilIface]):=fun m => .tuple _ _ rfl fun i hi=>by
  match i,hi with
  | 0,_=>exact .int _ _
  | 1,_=>exact .nilIface
  | n+2,hi=>exact absurd hi (by simp)
 rintro e w' ⟨rfl,rfl | rfl⟩
 ·exact⟨_,rfl,hv m,Dz⟩
 ·exact⟨_,rfl,hv m,Below.DB (Lib.bytesWorld_below _ _ _)⟩
theorem ayG {L0:Nat}:aiT Tryz.prog cfg L0:=by
 intro f p hp
 have B1:Me f=some p:=hp
 unfold Me at B1
 split at B1
 ·rename_i h;subst h;cases B1;exact⟨Us.1,Us.2 L0⟩
 split at B1
 ·rename_i h;subst h;cases B1;exact⟨Pe.1,Pe.2 L0⟩
 split at B1
 ·rename_i h;subst h;cases B1;exact⟨T8.1,T8.2 L0⟩
 split at B1
 ·rename_i h;subst h;cases B1;exact⟨Mn.1,Mn.2 L0⟩
 split at B1
 ·rename_i h;subst h;cases B1;exact⟨Sc.1,Sc.2 L0⟩
 split at B1
 ·rename_i h;subst h;cases B1;exact⟨Rf.1,Rf.2 L0⟩
 cases B1
end Go.PM
namespace Go.PM
open Go.ChangeShapes Go.WideShapes Go.ChangeAt Go.RowKit
open Go.Proofs
structure In (m:dS) (H:aH) (W:World):Prop where
 dom:∀b l,m b=some l→b<H.length
 valid:∀b l,m b=some l→∃arr e fz,W.heap[l.rb]? = some (.cells arr e fz)∧arr.size=l.Tf
 row:∀b l cs e p,m b=some l→H[b]? = some (.row cs e p)→l.gQ=e∧l.T2=p∧l.base+cs.length≤l.Tf ∧
  ∀i,i<cs.length→∃rv,W.cell? ⟨l.rb,l.base+i,none⟩=some rv∧RV m (cs.getD i Go.undef) rv∧PM.iR (cs.getD i Go.undef)=true
section
variable {m:dS} {H:aH} {W:World}
theorem In.empty:In (fun _=>none) [] W:=⟨fun _ _ h=>(by cases h),fun _ _ h=>(by cases h),fun _ _ _ _ _ h=>(by cases h)⟩
theorem In.rel (h:In m H W) (hg:Sp W):Rel m H.length H W :=
 ⟨fun b l hb=>by
  obtain⟨arr,e,fz,h1,h2⟩:=h.valid b l hb
  exact⟨arr,e,fz,h1,h2,fun hl=>by have:=h.dom b l hb;omega⟩,h.row,fun b1 b2 l1 l2 hl h1 _ _ _ _=>by have:=h.dom b1 l1 h1;omega,fun x hx=>⟨hg x hx,fun b l hb hm _=>by have:=h.dom b l hm;omega⟩⟩
theorem In.WH (h:In m H W) {b:Nat} (hb:H.length≤b):m b=none:=by
 cases hm:m b with
 | none=>rfl
 | some l=>have:=h.dom b l hm;omega
theorem In.add (h:In m H W) {rb base gQ:Nat} {arr:Array Value} {e:TypeId} {fz:Nat×Nat} {cs:List Value} (hb:W.heap[rb]? = some (.cells arr e fz)) (Bn:base+cs.length≤arr.size)
  (hc:∀i,i<cs.length→∃rv,W.cell? ⟨rb,base+i,none⟩=some rv∧RV (yQ m H.length ⟨rb,base,gQ,arr.size,false⟩) (cs.getD i Go.undef) rv∧PM.iR (cs.getD i Go.undef)=true) :
  In (yQ m H.length ⟨rb,base,gQ,arr.size,false⟩) (H++[.row cs gQ false]) W:=by
 have hn:=h.WH (aLe H.length)
 refine⟨fun b l yW => ?_,fun b l yW => ?_,fun b l ds e' p yW mA => ?_⟩
 ·by_cases he:b=H.length
  ·subst he;simp
  ·rw[cZ he] at yW
   have:=h.dom b l yW
   simp;omega
 ·by_cases he:b=H.length
  ·subst he
   rw[bZ] at yW
   cases yW
   exact⟨arr,e,fz,hb,rfl⟩
  ·rw[cZ he] at yW
   exact h.valid b l yW
 ·by_cases he:b=H.length
  ·subst he
   rw[bZ] at yW
   cases yW
   rw[abT] at mA
   cases mA
   exact⟨rfl,rfl,Bn,hc⟩
  ·rw[cZ he] at yW
   have bH:=h.dom b l yW
   rw[SO bH] at mA
   obtain⟨h1,h2,h3,h4⟩:=h.row b l ds e' p yW mA
   refine⟨h1,h2,h3,fun i hi => ?_⟩
   obtain⟨rv,g1,g2,g3⟩:=h4 i hi
   exact⟨rv,g1,g2.mono (xT hn),g3⟩
end
theorem Z9 {α:Type} (p:Nat→α→Prop):∀c,(∀i,i<c→∃x,p i x)→∃xs:List α,xs.length=c∧∀i x,xs[i]? = some x→p i x
 | 0,_=>⟨[],rfl,fun i x hx=>by simp at hx⟩
 |
  c+1,h=>by
  obtain⟨xs,h1,h2⟩:=Z9 p c fun i hi=>h i (by omega)
  obtain⟨x,h3⟩:=h c (by omega)
  refine⟨xs++[x],by simp[h1],fun i y hy => ?_⟩
  rcases aLh i xs.length with hi | hi
  ·rw[aLv hi] at hy
   exact h2 i y hy
  ·rw[aLw hi] at hy
   have hi0:i-xs.length=0:=by
    rcases Nat.eq_zero_or_pos (i-xs.length) with h | h
    ·exact h
    ·rw[aLE (by simp;omega)] at hy;cases hy
   rw[hi0] at hy
   cases hy
   have:i=c:=by omega
   subst this
   exact h3
theorem ahO {f:Nat} {args iW:List Value} {H H':aH} {v:Value} {m:dS} {W:World} (hI:In m H W) (hr:RL m args iW) (h:vB f args H.length H=some (v,H')) (hg:Sp W:=by first | assumption | exact fun x hx=>nomatch hx) :
  Calls Tryz.prog f iW.toArray W fun e W'=>∃m' rv,e = .returned rv∧RV m' v rv∧Below W.heap.size W W':=by
 obtain⟨n,hn⟩:=(zI cfg gH).1 h
 refine(Ks Tryz.checked.mixed ayG axA n f args H.length H v H' hn m W iW (hI.rel hg) (aLe _) (aLe _) hr (fun b hb _=>hI.WH hb)).2.mono ?_
 rintro e W' ⟨m',rv,rfl,h1,_,h3⟩
 refine⟨m',rv,rfl,h1,⟨h3.same.1,h3.same.2.2,h3.same.2.1,h3.size,fun k hk=>h3.cW k hk fun b l hb hm _ => ?_⟩⟩
 rw[hI.WH hb] at hm
 cases hm
end Go.PM
namespace Go.PM
def YW (c:lH):Prop:=(0≤c.t∧c.t≤10000)∧(1≤c.w∧c.w≤1000)∧(0≤c.k∧c.k≤9)
instance (c:lH):Decidable (YW c):=by unfold YW;infer_instance
def azK (cs:List lH) (i:Nat) (c:lH):Prop:=YW c∧∀b,0<i→cs[i-1]? = some b→b.t≤c.t
def oU (cs:List lH):Prop:=(∀i c,cs[i]? = some c→azK cs i c)∧cs.length≤24
noncomputable instance (cs:List lH):Decidable (oU cs):=Classical.propDecidable _
theorem oU.at {cs:List lH} (h:oU cs) {i:Nat} {c:lH} (hc:cs[i]? = some c):(0≤c.t∧c.t≤10000)∧(1≤c.w∧c.w≤1000)∧(0≤c.k∧c.k≤9):=(h.1 i c hc).1
def wl (time:Int):List lH→Int→Int→Int
 | [],l,s=>max (l-(time-s)) 0
 | c::cs,l,s=>if time<c.t then max (l-(time-s)) 0 else wl time cs (max (l-(c.t-s)) 0+c.w) c.t
def aEx (cs:List lH) (time:Int):Prop:=oU cs∧(0≤time∧time≤1000000000)
noncomputable instance (cs:List lH) (time:Int):Decidable (aEx cs time):=Classical.propDecidable _
def aBH (cs:List lH) (ls:List Int):Prop:=oU cs∧ls.length=cs.length∧∀x∈ls,0≤x∧x≤1000000000
noncomputable instance (cs:List lH) (ls:List Int):Decidable (aBH cs ls):=Classical.propDecidable _
def aBi (cs:List lH) (ls:List Int) (time:Int):Prop:=aBH cs ls∧(0≤time∧time≤1000000000)
noncomputable instance (cs:List lH) (ls:List Int) (time:Int):Decidable (aBi cs ls time):=Classical.propDecidable _
def aFz (cs:List lH) (ps:List Int):Prop:=oU cs∧ps.length=cs.length∧∀x∈ps,0≤x∧x≤10000
noncomputable instance (cs:List lH) (ps:List Int):Decidable (aFz cs ps):=Classical.propDecidable _
end Go.PM
namespace Go.Proofs.YtjmflicajplclaaGreatDoor
open Go.ChangeShapes Go.WideShapes Go.ChangeAt Go.RowKit Go.PM
theorem own:ownKnob Tryz.prog.godebug=none:=by kernel_rfl
theorem laidOut:laidOutB Tryz.prog=true:=by kernel_rfl
theorem three {α:Type} {l:List α} (h:l.length=3):∃a b c,l=[a,b,c]:=by
 rcases l with _ | ⟨a,_ | ⟨b,_ | ⟨c,_ | ⟨d,l⟩⟩⟩⟩
 ·cases h
 ·cases h
 ·cases h
 ·exact⟨a,b,c,rfl⟩
 ·simp at h
end Go.Proofs.YtjmflicajplclaaGreatDoor
namespace Go.PM
def G5:List Nat:=[]
 ++ [34]
 ++ [36]
 ++ [37]
 ++ [17]
 ++ [20]
 ++ [21]
 ++ [26]
 ++ [28]
 ++ [29]
 ++ [22]
 ++ [46]
 ++ [48]
 ++ [18]
 ++ [16]
 ++ [27]
 ++ [25]
 ++ [41]
 ++ [40]
 ++ [43]
 ++ [42]
 ++ [31]
 ++ [30]
 ++ [39]
 ++ [38]
 ++ [35]
 ++ [33]
 ++ [182]
 ++ [199]
 ++ [200]
 ++ [204]
 ++ [205]
 ++ [162]
 ++ [216]
 ++ [147]
 ++ [181]
 ++ [71]
 ++ [138]
 ++ [61]
 ++ [99]
 ++ [76]
 ++ [133]
 ++ [149]
 ++ [94]
 ++ [95]
 ++ [90]
 ++ [118]
 ++ [134]
 ++ [179]
 ++ [103]
 ++ [119]
 ++ [72]
 ++ [62]
 ++ [78]
 ++ [120]
 ++ [121]
 ++ [113]
 ++ [114]
 ++ [122]
 ++ [70]
 ++ [60]
end Go.PM