/- Texts of a claim, in one: part 3. -/
import Derived.Lib.ItoaNum
import Derived.Lib.Join
import Derived.Lib.BitFns
import Derived.Lib.Repeat
import Derived.Lib.Bytealg
import Derived.Lib.ParseIntB
import Derived.Test.YtjmflicajplclaaGreatDoorChecked
import Derived.Laws.BitsLemmas
import Derived.Shelf.Strings.OnBuilder
import Derived.Shelf.Strings.Repeat
import Derived.Shelf.Small.Bits
import Derived.Shelf.Strconv.Itoa1
import Derived.Shelf.Strconv.Itoa2
import Derived.Shelf.LaysM
import Derived.Shelf.Strings.Search2
import Derived.Shelf.Pu.ParseUintPublic10
import Derived.KernelRfl
import Derived.Test.YtjmflicajplclaaGreatDoorProg
import Derived.Lib.Walk
import Derived.Lib.ItoaMem
import Derived.WalkKit
import Derived.BigCall
import Derived.BigGuard
import Derived.Below
import Derived.Shelf.Strings.Search2
import Derived.Shelf.Pu.ParseUintPublic10
import Derived.Shelf.Strings.OnBuilder
import Derived.Shelf.Strings.Repeat
import Derived.Shelf.Small.Bits
import Derived.ProofKit
import Derived.OpenShut
import Derived.ShutString
import Derived.ChangeOld
import Derived.Carry
import Derived.SizedLaws
import Derived.Test.YtjmflicajplclaaGreatDoorRows
import Derived.Test.YtjmflicajplclaaGreatDoorKDb
open Array renaming getD_eq_getD_getElem? → aKt,getElem?_append_left → aK4,getElem?_eq_some_iff → aKu,replicate → aK3,size_replicate → aLc
open List renaming drop_eq_getElem_cons → aKq,flatMap_cons → aK9,getD_eq_getElem?_getD → aKi,getElem?_append_left → aKC,getElem?_append_right → aKD,getElem?_drop → aKj,getElem?_eq_getElem → aKs,getElem?_eq_none → aKL,getElem?_eq_some_iff → aKk,length_cons → aKv,replicate → aLb,take_succ_cons → aK8
open Nat renaming le_max_left → aK6,le_max_right → aK7,le_refl → aKl,le_succ → aK5,lt_or_ge → aKo,mul_le_mul_right → aKM,succ_mul → aLa
set_option linter.unusedSimpArgs false
set_option linter.unusedVariables false
namespace Go.PM
def aBT:Ex→Exit
 | .normal => .normal
 | .exit id => .exit id
 | .ret => .ret
section
variable {P:Program} {E:CS} {n:Nat} {call:iG} {lo L0:Nat}
def Sk (P:Program) (n lo L0:Nat) (c:Code) (run:Env→aJ→Option (Ex×Env×aJ)):Prop :=
 ∀ρ H x aP H',run ρ H=some (x,aP,H')→∀m a w,Kh n L0 m ρ H a w→L0≤H.length→(∀b,H.length≤b→b<H'.length→m b=none) →
  ∀Q:Exit→Act→World→Prop,(∀m' a' w',Kh n L0 m' aP H' a' w'→Trans lo m H w m' H' w'→Q (aBT x) a' w')→c.wp P Q a w
theorem akI {c:Code} {run:Env→aJ→Option (Ex×Env×aJ)} (hc:Sk P n lo L0 c run) (he:∀ρ H x aP H',run ρ H=some (x,aP,H')→Ext lo H H') (N:Nat):Sk P n lo L0 (.loop c) (Bj run N):=by
 intro ρ H x aP H' hr m a w h hl hf Q hQ
 apply wp_loop_rounds N
 have key:∀N ρ H,Bj run N ρ H=some (x,aP,H')→∀m a w,Kh n L0 m ρ H a w→L0≤H.length→(∀b,H.length≤b→b<H'.length→m b=none) →
   (∀m' a' w',Kh n L0 m' aP H' a' w'→Trans lo m H w m' H' w'→Q (aBT x) a' w')→Code.rounds P c Q N a w:=by
  intro N
  induction N with
  | zero=>intro ρ H h;cases h
  |
   succ N ih =>
   intro ρ H hr m a w h hl hf hQ
   rw[rounds_succ]
   rw[Bj] at hr
   split at hr
   ·rename_i AH H1 h1
    have e1:=he _ _ _ _ _ h1
    have e2:=Ks he N hr
    refine hc ρ H _ AH H1 h1 m a w h hl (fun b EU hb2=>hf b EU (Nat.lt_of_lt_of_le hb2 e2.len)) _ fun m1 a1 w1 hh hT => ?_
    exact ih AH H1 hr m1 a1 w1 hh (Nat.le_trans hl e1.len) (hT.fresh e1.len hf) fun m2 a2 w2 h2 RW=>hQ m2 a2 w2 h2 (Trans.trans hf e1 e2 hT RW)
   ·rename_i gD
    refine hc ρ H _ aP H' hr m a w h hl hf _ fun m1 a1 w1 hh hT => ?_
    have:=hQ m1 a1 w1 hh hT
    cases x with
    | normal=>exact absurd hr (gD aP H')
    | exit id=>exact this
    | ret=>exact this
 exact key N ρ H hr m a w h hl hf hQ
theorem rE (E3:P.follows .mixedOrders=true) (qO:AG P L0 call) (uO:vD call) (dQ:L0≤lo) (N:Nat):∀(c:Code) (pc:aE),jO P E n c=some pc→Sk P n lo L0 c (dR call lo N pc)
 |
  .skip,pc,hp=>by
  cases hp
  intro ρ H x aP H' hr m a w h hl hf Q hQ
  cases hr
  exact wp_skip (hQ m a w h (Trans.refl _ _ _ _))
 |
  .region id ops draw,pc,hp=>by
  rw[jO] at hp
  cases hpr:Bo P E n ops draw with
  | none=>rw[hpr] at hp;cases hp
  |
   some wY =>
   rw[hpr] at hp
   cases hp
   intro ρ H x aP H' hr m a w h hl hf Q hQ
   rw[dR] at hr
   cases hs:jC call lo wY ρ H with
   | none=>rw[hs] at hr;cases hr
   |
    some q =>
    obtain⟨AH,H1⟩:=q
    rw[hs] at hr
    cases hr
    exact Xi E3 qO uO hpr hs h dQ hl hf hQ
 |
  .seq x y,pc,hp=>by
  rw[jO] at hp
  split at hp
  ·rename_i px py Y3 hpy
   cases hp
   intro ρ H e aP H' hr m a w h hl hf Q hQ
   rw[dR] at hr
   apply wp_seq
   split at hr
   ·rename_i AH H1 h1
    have e1:=lF uO px h1
    have e2:=lF uO py hr
    refine rE E3 qO uO dQ N x px Y3 ρ H _ AH H1 h1 m a w h hl (fun b EU hb2=>hf b EU (Nat.lt_of_lt_of_le hb2 e2.len)) _ fun m1 a1 w1 hh hT => ?_
    exact rE E3 qO uO dQ N y py hpy AH H1 _ aP H' hr m1 a1 w1 hh (Nat.le_trans hl e1.len) (hT.fresh e1.len hf) Q fun m2 a2 w2 h2 RW=>hQ m2 a2 w2 h2 (Trans.trans hf e1 e2 hT RW)
   ·rename_i gD
    refine rE E3 qO uO dQ N x px Y3 ρ H _ aP H' hr m a w h hl hf _ fun m1 a1 w1 hh hT => ?_
    have:=hQ m1 a1 w1 hh hT
    cases e with
    | normal=>exact absurd hr (gD aP H')
    | exit id=>exact this
    | ret=>exact this
  ·cases hp
 |
  .cond o x y,pc,hp=>by
  rw[jO] at hp
  split at hp
  ·rename_i GF
   split at hp
   ·rename_i px py Y3 hpy
    cases hp
    intro ρ H e aP H' hr m a w h hl hf Q hQ
    rw[dR] at hr
    split at hr
    ·rename_i t ht
     have X1:=X5 (a:=a) (m:=m) (ρ:=ρ) GF fun t _=>h.env t
     rw[ht] at X1
     generalize hev:a.eval o=ro at X1
     cases X1
     refine wp_cond hev ?_
     cases t with
     | true=>exact rE E3 qO uO dQ N x px Y3 ρ H _ aP H' hr m a w h hl hf Q hQ
     | false=>exact rE E3 qO uO dQ N y py hpy ρ H _ aP H' hr m a w h hl hf Q hQ
    ·cases hr
   ·cases hp
  ·cases hp
 |
  .block id x,pc,hp=>by
  rw[jO] at hp
  cases Y3:jO P E n x with
  | none=>rw[Y3] at hp;cases hp
  |
   some px =>
   rw[Y3] at hp
   cases hp
   intro ρ H e aP H' hr m a w h hl hf Q hQ
   rw[dR] at hr
   apply wp_block
   split at hr
   ·rename_i Vv AH H1 h1
    split at hr
    ·rename_i hid
     cases hr
     refine rE E3 qO uO dQ N x px Y3 ρ H _ aP H' h1 m a w h hl hf _ fun m1 a1 w1 hh hT => ?_
     have:=hQ m1 a1 w1 hh hT
     show Exit.inBlock id Q (.exit Vv) a1 w1
     simp only[Exit.inBlock,if_pos hid]
     exact this
    ·rename_i hid
     cases hr
     refine rE E3 qO uO dQ N x px Y3 ρ H _ aP H' h1 m a w h hl hf _ fun m1 a1 w1 hh hT => ?_
     have:=hQ m1 a1 w1 hh hT
     show Exit.inBlock id Q (.exit Vv) a1 w1
     simp only[Exit.inBlock,if_neg hid]
     exact this
   ·rename_i gD
    refine rE E3 qO uO dQ N x px Y3 ρ H _ aP H' hr m a w h hl hf _ fun m1 a1 w1 hh hT => ?_
    have:=hQ m1 a1 w1 hh hT
    cases e with
    | normal=>exact this
    | exit Vv=>exact absurd hr (gD Vv aP H')
    | ret=>exact this
 |
  .loop x,pc,hp=>by
  rw[jO] at hp
  cases Y3:jO P E n x with
  | none=>rw[Y3] at hp;cases hp
  |
   some px =>
   rw[Y3] at hp
   cases hp
   have hx:=rE E3 qO uO dQ N x px Y3
   intro ρ H e aP H' hr
   rw[dR] at hr
   exact akI hx (fun ρ H x aP H' h=>lF uO px h) N ρ H e aP H' hr
 |
  .exit id,pc,hp=>by
  cases hp
  intro ρ H x aP H' hr m a w h hl hf Q hQ
  cases hr
  exact wp_exit (hQ m a w h (Trans.refl _ _ _ _))
 |
  .ret,pc,hp=>by
  cases hp
  intro ρ H x aP H' hr m a w h hl hf Q hQ
  cases hr
  exact wp_ret (hQ m a w h (Trans.refl _ _ _ _))
 | .rangeFunc ..,pc,hp=>by cases hp
 | .scope _,pc,hp=>by cases hp
 | .label _,pc,hp=>by cases hp
 | .goto _,pc,hp=>by cases hp
 | .refuse _,pc,hp=>by cases hp
def B8 (P:Program):ResultVar→Option Dh
 | .tmp t=>some (.tmp t)
 | .cell t ty=>(oM P ty).map fun(agg,size,_,_) => .cell t agg size
def Pf (a:Act):ResultVar→Sem Value
 | .tmp t=>pure (a.tmps.getD t undef)
 | .cell x t=>do loadVar t (←asAddr (a.tmps.getD x undef))
theorem aDR {m:dL} {ρ:Env} {H:aJ} {a:Act} {w:World} (h:Kh n L0 m ρ H a w) {r:ResultVar} {pr:Dh} (hp:B8 P r=some pr) {v:Value} (hv:Zw ρ H pr=some v) :
  ∃rv,RV m v rv∧(Pf a r).run P w = .ok rv w:=by
 cases r with
 |
  tmp t =>
  cases hp
  cases hv
  exact⟨_,h.env t,rfl⟩
 |
  cell x t =>
  simp only[B8] at hp
  cases ht:oM P t with
  | none=>rw[ht] at hp;cases hp
  |
   some q =>
   obtain⟨agg,size,z,nb⟩:=q
   rw[ht] at hp
   cases hp
   obtain⟨rv,h1,h2⟩:=RY ht hv h.rel (h.env x)
   refine⟨rv,h1,?_⟩
   unfold Pf
   have hpv:=h.env x
   simp only[Zw,qL] at hv
   split at hv
   ·rename_i b o hb
    rw[hb] at hpv
    show (do loadVar t (←asAddr (a.tmps.getD x undef)):Sem Value).run P w=_
    generalize a.tmps.getD x undef=rp at h2 hpv ⊢
    cases hpv
    exact h2
   ·cases hv
theorem alL {m:dL} {ρ:Env} {H:aJ} {a:Act} {w:World} (h:Kh n L0 m ρ H a w):∀ {rs:List ResultVar} {prs:List Dh} {vs:List Value},rs.mapM (B8 P)=some prs→D5 ρ H prs=some vs →
  ∃rvs,RL m vs rvs∧(rs.mapM (Pf a)).run P w = .ok rvs w
 |
  [],prs,vs,hp,hv=>by
  simp at hp
  subst hp
  cases hv
  exact⟨[],RL.nil m,rfl⟩
 |
  r::rs,prs,vs,hp,hv=>by
  simp only[List.mapM_cons,Option.pure_def,Option.bind_eq_bind] at hp
  cases h1:B8 P r with
  | none=>rw[h1] at hp;cases hp
  |
   some pr =>
   rw[h1] at hp
   cases h2:rs.mapM (B8 P) with
   | none=>rw[h2] at hp;cases hp
   |
    some aHY =>
    rw[h2] at hp
    cases hp
    simp only[D5] at hv
    split at hv
    ·rename_i v vs' hv1 hv2
     cases hv
     obtain⟨rv,g1,g2⟩:=aDR h h1 hv1
     obtain⟨rvs,g3,g4⟩:=alL h h2 hv2
     refine⟨rv::rvs,RL.cons g1 g3,?_⟩
     rw[List.mapM_cons,Sem.run_bind,g2,Result.andThen_ok,Sem.run_bind,g4]
     rfl
    ·cases hv
theorem Mr {m:dL} {ρ:Env} {H:aJ} {a:Act} {w:World} (h:Kh n L0 m ρ H a w) {fn:Func} {prs:List Dh} (hp:fn.results.toList.mapM (B8 P)=some prs) {v:Value} (hv:uC prs ρ H=some v) :
  ∃rv,RV m v rv∧(results fn a.tmps).run P w = .ok rv w:=by
 unfold uC at hv
 cases jN:D5 ρ H prs with
 | none=>rw[jN] at hv;cases hv
 |
  some vs =>
  obtain⟨rvs,h1,h2⟩:=alL h hp jN
  rw[jN] at hv
  have sN:∀rv,(if h:rvs.toArray.size=1 then rvs.toArray[0] else .tuple rvs.toArray)=rv→(results fn a.tmps).run P w = .ok rv w:=by
   intro rv X1
   have e:results fn a.tmps=(do let vs ←fn.results.mapM (Pf a);pure (if h:vs.size=1 then vs[0] else .tuple vs)):=by
    unfold results
    congr 2
   rw[e,Array.mapM_eq_mapM_toList,Sem.run_bind]
   have:(List.toArray <$> fn.results.toList.mapM (Pf a)).run P w = .ok rvs.toArray w:=by
    rw[map_eq_pure_bind,Sem.run_bind,h2]
    rfl
   rw[this,←X1]
   rfl
  clear h2 jN
  rcases vs with _ | ⟨x,_ | ⟨y,xs⟩⟩
  ·rcases rvs with _ | ⟨x',ys⟩
   ·cases hv
    exact⟨_,h1.aaI,sN _ rfl⟩
   ·cases h1.1
  ·rcases rvs with _ | ⟨x',_ | ⟨y',ys⟩⟩
   ·cases h1.1
   ·cases hv
    exact⟨x',h1.lP.1,sN x' rfl⟩
   ·cases h1.1
  ·rcases rvs with _ | ⟨x',_ | ⟨y',ys⟩⟩
   ·cases h1.1
   ·cases h1.1
   ·cases hv
    exact⟨_,h1.aaI,sN _ (by simp)⟩
end
end Go.PM
namespace Go.PM
def akC (P:Program) (E:CS) (L0:Nat):Prop :=
 ∀f p,E.De f=some p→Oc P f∧∀args H v,p args H=some v→∀m w iV,Rel m L0 H w→RL m args iV →
  Calls P f iV.toArray w fun e w'=>∃rv,e = .returned rv∧RV m v rv∧w.heap.size≤w'.heap.size∧(∀rb,rb<w.heap.size→w'.heap[rb]? = w.heap[rb]?)∧w'.os=w.os∧w'.output=w.output∧w'.tape=w.tape
theorem Rel.more {m:dL} {L0:Nat} {H:aJ} {w w':World} (h:Rel m L0 H w) (hk:∀rb,rb<w.heap.size→w'.heap[rb]? = w.heap[rb]?):Rel m L0 H w':=by
 have hv:∀b l,m b=some l→l.rb<w.heap.size:=fun b l hb=>by
  obtain⟨arr,e,fz,h1,_⟩:=h.valid b l hb
  exact(aKu.1 h1).1
 refine⟨fun b l hb=>by rw[hk _ (hv b l hb)];exact h.valid b l hb,fun b l cs e p hm hb => ?_,h.inj,fun x hx=>⟨?_,(h.FY x hx).2⟩⟩
 ·obtain⟨h1,h2,h3,h4⟩:=h.row b l cs e p hm hb
  refine⟨h1,h2,h3,fun i hi => ?_⟩
  obtain⟨rv,g1,g2⟩:=h4 i hi
  refine⟨rv,?_,g2⟩
  rw[←g1]
  unfold World.cell?
  simp only[hk _ (hv b l hm)]
 ·obtain⟨e,fz,g1⟩:=(h.FY x hx).1
  exact⟨e,fz,by rw[hk _ (aKu.1 g1).1];exact g1⟩
theorem agR {P:Program} {E:CS} {f:Nat} {pf:aU} (h:TQ P E f=some pf):∃fn c,P.funcs[f]? = some fn∧fn.body=some c∧(fn.name == "runtime.NumGoroutine")=false∧fn.results.toList.mapM (B8 P)=some pf.res∧jO P E fn.ntmps c=some pf.body∧pf.ntmps=fn.ntmps:=by
 unfold TQ at h
 cases hf:P.funcs[f]? with
 | none=>rw[hf] at h;cases h
 |
  some fn =>
  rw[hf] at h
  have h':Pm P E fn=some pf:=h
  unfold Pm at h'
  cases hb:fn.body with
  | none=>rw[hb] at h';cases h'
  |
   some c =>
   rw[hb] at h'
   simp only at h'
   split at h'
   ·cases h'
   ·rename_i ahG
    split at h'
    ·cases h'
    ·rename_i res XV
     cases hc:jO P E fn.ntmps c with
     | none=>rw[hc] at h';cases h'
     |
      some body =>
      rw[hc] at h'
      cases h'
      refine⟨fn,c,rfl,hb,by simpa using ahG,?_,hc,rfl⟩
      have e:(fun(r:ResultVar)=>match r with
       | .tmp t=>some (Dh.tmp t)
       | .cell t ty=>(oM P ty).map fun(agg,size,_,_) => .cell t agg size)=B8 P:=by
       funext r
       cases r<;>rfl
      rw[←e]
      exact XV
theorem Ln {P:Program} {E:CS} {T:Tab} {L0:Nat} (E3:P.follows .mixedOrders=true) (aiQ:akC P E L0) (hT:∀f pf,T f=some pf→TQ P E f=some pf):∀n,AG P L0 (oL E T n)
 | 0=>fun f args lo H v H' h=>by cases h
 |
  n+1=>fun f args lo H v H' h m w iV hR dQ hlen WH hf=>by
  have uO:=GJ E T n
  rw[oL] at h
  split at h
  ·rename_i p hp
   obtain⟨hco,aDC⟩:=aiQ f p hp
   refine⟨hco,?_⟩
   cases hpv:p args H with
   | none=>rw[hpv] at h;cases h
   |
    some u =>
    rw[hpv] at h
    cases h
    refine(aDC args H v hpv m w iV hR WH).mono ?_
    rintro e w' ⟨rv,rfl,h1,h2,h3,h4⟩
    exact⟨m,rv,rfl,h1,hR.more h3,fun _ _ h=>h,fun b l hb hn=>(by rw[hb] at hn;cases hn),h2,fun rb AX _=>h3 rb AX,h4⟩
  ·split at h
   ·cases h
   ·rename_i pf hpf
    obtain⟨fn,c,h1,h2,h3,h4,h5,h6⟩:=agR (hT _ _ hpf)
    split at h
    case isFalse=>cases h
    rename_i AN
    refine⟨⟨fn,h1,h3,by rw[h2];rfl⟩,calls_of_wp h1 h2 ?_⟩
    have DO:iV.toArray.size≤fn.ntmps:=by
     have:=WH.1
     simp;omega
    have hH:Kh fn.ntmps L0 m (acK args) H { tmps:=iV.toArray++aK3 (fn.ntmps-iV.toArray.size) undef,defers:=[] } w:=by
     refine⟨by simp at DO ⊢;omega,rfl,fun t => ?_,hR⟩
     rcases aKo t args.length with ht | ht
     ·have h7:=WH.2 t ht
      have ht':t<iV.length:=by rw[←WH.1];exact ht
      have e:(iV.toArray++aK3 (fn.ntmps-iV.toArray.size) undef).getD t undef=iV.getD t undef:=by
       rw[aKt,aK4 (by simpa using ht')]
       simp
      show RV m (args.getD t undef) _
      rw[e]
      exact h7
     ·have e1:args.getD t undef=undef:=by simp[aKi,aKL ht]
      have ht':iV.length≤t:=by rw[←WH.1];exact ht
      have e2:(iV.toArray++aK3 (fn.ntmps-iV.toArray.size) undef).getD t undef=undef:=by
       rw[aKt,Array.getElem?_append_right (by simpa using ht')]
       rw[Array.getElem?_replicate]
       split<;>rfl
      show RV m (args.getD t undef) _
      rw[e1,e2]
      exact RV.undef m
    split at h
    ·rename_i AH H1 sN
     cases hr:uC pf.res AH H1 with
     | none=>rw[hr] at h;cases h
     |
      some u =>
      rw[hr] at h
      cases h
      refine rE E3 (Ln E3 aiQ hT n) uO dQ n c pf.body h5 _ _ _ _ _ sN m _ w hH hlen hf _ fun m' a' w' hh hTr => ?_
      obtain⟨rv,g1,g2⟩:=Mr hh h4 hr
      exact⟨hh.defs,rv,g2,m',rv,rfl,g1,hh.rel,hTr⟩
    ·rename_i AH H1 sN
     cases hr:uC pf.res AH H1 with
     | none=>rw[hr] at h;cases h
     |
      some u =>
      rw[hr] at h
      cases h
      refine rE E3 (Ln E3 aiQ hT n) uO dQ n c pf.body h5 _ _ _ _ _ sN m _ w hH hlen hf _ fun m' a' w' hh hTr => ?_
      obtain⟨rv,g1,g2⟩:=Mr hh h4 hr
      exact⟨hh.defs,rv,g2,m',rv,rfl,g1,hh.rel,hTr⟩
    ·cases h
end Go.PM
namespace Go.PM
def CLe (c c':iG):Prop:=∀f args lo H r,c f args lo H=some r→c' f args lo H=some r
section
variable {c c':iG} {lo:Nat}
theorem Qz (h:CLe c c') {i:PI} {ρ:Env} {H:aJ} {r:Value×aJ} (hr:BI c lo i ρ H=some r):BI c' lo i ρ H=some r:=by
 unfold BI at hr ⊢
 split at hr
 ·cases hr
 ·exact hr
 ·split at hr
  ·rename_i TL
   rw[if_pos TL]
   split at hr
   ·exact hr
   ·exact h _ _ _ _ _ hr
   ·cases hr
  ·cases hr
theorem Xd (h:CLe c c') {i:PI} {ρ:Env} {H:aJ} {r:Env×aJ} (hr:Bx c lo i ρ H=some r):Bx c' lo i ρ H=some r:=by
 unfold Bx at hr ⊢
 split at hr
 ·rename_i v H' hv
  rw[Qz h hv]
  exact hr
 ·cases hr
theorem B0 (h:CLe c c'):∀ {is:List PI} {ρ:Env} {H:aJ} {r:Env×aJ},jC c lo is ρ H=some r→jC c' lo is ρ H=some r
 | [],_,_,_,hr=>hr
 |
  i::is,ρ,H,r,hr=>by
  rw[jC] at hr ⊢
  split at hr
  ·rename_i h1
   rw[Xd h h1]
   exact B0 h hr
  ·cases hr
theorem AR {b b':Env→aJ→Option (Ex×Env×aJ)} (h:∀ρ H r,b ρ H=some r→b' ρ H=some r):∀ {n n':Nat} {ρ:Env} {H:aJ} {r:Ex×Env×aJ},n≤n'→Bj b n ρ H=some r→Bj b' n' ρ H=some r
 | 0,_,_,_,_,_,hr=>by cases hr
 | n+1,0,_,_,_,hn,_=>by omega
 |
  n+1,n'+1,ρ,H,r,hn,hr=>by
  rw[Bj] at hr ⊢
  split at hr
  ·rename_i h1
   rw[h _ _ _ h1]
   exact AR h (by omega) hr
  ·rename_i gD
   rw[h _ _ _ hr]
   split
   ·rename_i aP H' he
    cases he
    exact absurd hr (gD _ _)
   ·rfl
theorem fN (h:CLe c c') {n n':Nat} (hn:n≤n'):∀(p:aE) {ρ:Env} {H:aJ} {r:Ex×Env×aJ},dR c lo n p ρ H=some r→dR c' lo n' p ρ H=some r
 | .skip,_,_,_,hr=>hr
 |
  .cV ops,ρ,H,r,hr=>by
  rw[dR] at hr ⊢
  cases hs:jC c lo ops ρ H with
  | none=>rw[hs] at hr;cases hr
  | some q=>rw[hs] at hr;rw[B0 h hs];exact hr
 |
  .seq a b,ρ,H,r,hr=>by
  rw[dR] at hr ⊢
  split at hr
  ·rename_i h1
   rw[fN h hn a h1]
   exact fN h hn b hr
  ·rename_i gD
   rw[fN h hn a hr]
   split
   ·rename_i he;cases he;exact absurd hr (gD _ _)
   ·rfl
 |
  .cond x a b,ρ,H,r,hr=>by
  rw[dR] at hr ⊢
  split at hr
  ·split at hr
   ·rename_i ht;rw[if_pos ht];exact fN h hn a hr
   ·rename_i ht;rw[if_neg ht];exact fN h hn b hr
  ·cases hr
 |
  .block id a,ρ,H,r,hr=>by
  rw[dR] at hr ⊢
  split at hr
  ·rename_i h1
   rw[fN h hn a h1]
   exact hr
  ·rename_i gD
   rw[fN h hn a hr]
   split
   ·rename_i he;cases he;exact absurd hr (gD _ _ _)
   ·rfl
 |
  .loop a,ρ,H,r,hr=>by
  rw[dR] at hr ⊢
  exact AR (fun ρ H r hr=>fN h hn a hr) hn hr
 | .exit id,_,_,_,hr=>hr
 | .ret,_,_,_,hr=>hr
theorem DU (E:CS) (T:Tab):∀n,CLe (oL E T n) (oL E T (n+1))
 | 0,_,_,_,_,_,hr=>by cases hr
 |
  n+1,f,args,lo,H,r,hr=>by
  rw[oL] at hr ⊢
  split at hr
  ·exact hr
  ·split at hr
   ·cases hr
   ·split at hr
    ·rename_i pf _ ha
     rw[if_pos ha]
     split at hr
     ·rename_i h1
      rw[fN (DU E T n) (aK5 n) pf.body h1]
      exact hr
     ·rename_i h1
      rw[fN (DU E T n) (aK5 n) pf.body h1]
      exact hr
     ·cases hr
    ·cases hr
theorem rV (E:CS) (T:Tab) {n n':Nat} (h:n≤n'):CLe (oL E T n) (oL E T n'):=by
 induction h with
 | refl=>exact fun _ _ _ _ _ h=>h
 | step _ ih=>exact fun f args lo H r hr=>DU E T _ f args lo H r (ih f args lo H r hr)
end
section
variable (E:CS) (T:Tab)
open Classical in
noncomputable def lim {α:Type} (run:Nat→Option α):Option α:=if h:∃r,∃n,run n=some r then some (Classical.choose h) else none
theorem ZF {α:Type} {run:Nat→Option α} (hm:∀n n' r,n≤n'→run n=some r→run n'=some r) {r:α}:lim run=some r↔∃n,run n=some r:=by
 unfold lim
 constructor
 ·intro h
  split at h
  ·rename_i hx
   cases h
   exact Classical.choose_spec hx
  ·cases h
 ·rintro⟨n,hn⟩
  have hx:∃r,∃n,run n=some r:=⟨r,n,hn⟩
  rw[dif_pos hx]
  obtain⟨n',WI⟩:=Classical.choose_spec hx
  have h1:=hm n (max n n') r (aK6 _ _) hn
  have h2:=hm n' (max n n') _ (aK7 _ _) WI
  rw[h1] at h2
  injection h2 with h2
  rw[←h2]
noncomputable def call:iG:=fun f args lo H=>lim fun n=>oL E T n f args lo H
noncomputable def code (lo:Nat) (c:aE) (ρ:Env) (H:aJ):Option (Ex×Env×aJ):=lim fun n=>dR (oL E T n) lo n c ρ H
theorem zH {f:Nat} {args:List Value} {lo:Nat} {H:aJ} {r:Value×aJ}:call E T f args lo H=some r↔∃n,oL E T n f args lo H=some r :=
 ZF fun _ _ r h hr=>rV E T h f args lo H r hr
theorem cO {lo:Nat} {c:aE} {ρ:Env} {H:aJ} {r:Ex×Env×aJ}:code E T lo c ρ H=some r↔∃n,dR (oL E T n) lo n c ρ H=some r :=
 ZF fun _ _ _ h hr=>fN (rV E T h) h c hr
theorem Oj {lo:Nat}:∀ {is:List PI} {ρ:Env} {H:aJ} {r:Env×aJ},jC (call E T) lo is ρ H=some r↔∃n,jC (oL E T n) lo is ρ H=some r:=by
 have le:∀n,CLe (oL E T n) (call E T):=fun n f args lo H r hr=>(zH E T).2 ⟨n,hr⟩
 have val:∀ {i:PI} {ρ:Env} {H:aJ} {r:Value×aJ},BI (call E T) lo i ρ H=some r→∃n,BI (oL E T n) lo i ρ H=some r:=by
  intro i ρ H r hr
  unfold BI at hr ⊢
  split at hr
  ·cases hr
  ·exact⟨0,hr⟩
  ·split at hr
   ·rename_i TL
    split at hr
    ·exact⟨0,by rw[if_pos TL];exact hr⟩
    ·obtain⟨n,hn⟩:=(zH E T).1 hr
     exact⟨n,by rw[if_pos TL];exact hn⟩
    ·cases hr
   ·cases hr
 intro is
 induction is with
 | nil=>exact fun {ρ H r}=>⟨fun h=>⟨0,h⟩,fun⟨_,h⟩=>h⟩
 |
  cons i is ih =>
  intro ρ H r
  constructor
  ·intro h
   rw[jC] at h
   split at h
   ·rename_i AH H1 h1
    obtain⟨v,hv,rfl⟩:=Bt h1
    obtain⟨n1,hn1⟩:=val hv
    obtain⟨n2,hn2⟩:=ih.1 h
    refine⟨max n1 n2,?_⟩
    rw[jC]
    have e:Bx (oL E T (max n1 n2)) lo i ρ H=some (put ρ i.dst v,H1):=by
     unfold Bx
     rw[Qz (rV E T (aK6 n1 n2)) hn1]
    rw[e]
    exact B0 (rV E T (aK7 n1 n2)) hn2
   ·cases h
  ·rintro⟨n,h⟩
   exact B0 (le n) h
theorem Dz {α:Type} {a b:Option α} (h:∀r,a=some r↔b=some r):a=b:=by
 cases a with
 |
  none =>
  cases b with
  | none=>rfl
  | some y=>exact((h y).2 rfl)
 | some x=>exact((h x).1 rfl).symm
variable {lo:Nat} {ρ:Env} {H:aJ}
theorem acO:code E T lo .skip ρ H=some (.normal,ρ,H):=(cO E T).2 ⟨0,rfl⟩
theorem adW {id:Nat}:code E T lo (.exit id) ρ H=some (.exit id,ρ,H):=(cO E T).2 ⟨0,rfl⟩
theorem ahA:code E T lo .ret ρ H=some (.ret,ρ,H):=(cO E T).2 ⟨0,rfl⟩
theorem anA {ops:List PI}:code E T lo (.cV ops) ρ H=(jC (call E T) lo ops ρ H).map fun(aP,H')=>(.normal,aP,H'):=by
 refine Dz fun r => ?_
 rw[cO]
 constructor
 ·rintro⟨n,h⟩
  rw[dR] at h
  cases hs:jC (oL E T n) lo ops ρ H with
  | none=>rw[hs] at h;cases h
  |
   some q =>
   rw[hs] at h
   rw[(Oj E T).2 ⟨n,hs⟩]
   exact h
 ·intro h
  cases hs:jC (call E T) lo ops ρ H with
  | none=>rw[hs] at h;cases h
  |
   some q =>
   rw[hs] at h
   obtain⟨n,hn⟩:=(Oj E T).1 hs
   exact⟨n,by rw[dR,hn];exact h⟩
theorem amP {a b:aE}:code E T lo (.seq a b) ρ H=match code E T lo a ρ H with
  | some (.normal,aP,H')=>code E T lo b aP H'
  | r=>r:=by
 refine Dz fun r => ?_
 rw[cO]
 constructor
 ·rintro⟨n,h⟩
  rw[dR] at h
  split at h
  ·rename_i h1
   rw[(cO E T).2 ⟨n,h1⟩]
   exact(cO E T).2 ⟨n,h⟩
  ·rename_i gD
   rw[(cO E T).2 ⟨n,h⟩]
   split
   ·rename_i he;cases he;exact absurd h (gD _ _)
   ·rfl
 ·intro h
  split at h
  ·rename_i h1
   obtain⟨n1,h1⟩:=(cO E T).1 h1
   obtain⟨n2,h2⟩:=(cO E T).1 h
   refine⟨max n1 n2,?_⟩
   rw[dR,fN (rV E T (aK6 n1 n2)) (aK6 n1 n2) a h1]
   exact fN (rV E T (aK7 n1 n2)) (aK7 n1 n2) b h2
  ·rename_i gD
   obtain⟨n,h1⟩:=(cO E T).1 h
   refine⟨n,?_⟩
   rw[dR,h1]
   split
   ·rename_i he;cases he;exact absurd h (gD _ _)
   ·rfl
theorem afG {x:Operand} {a b:aE}:code E T lo (.cond x a b) ρ H=match ev ρ x with
  | .bool t=>if t then code E T lo a ρ H else code E T lo b ρ H
  | _=>none:=by
 refine Dz fun r => ?_
 rw[cO]
 constructor
 ·rintro⟨n,h⟩
  rw[dR] at h
  split at h
  ·rename_i t he
   rw[he]
   show (if t=true then code E T lo a ρ H else code E T lo b ρ H)=some r
   split at h
   ·rename_i ht;rw[if_pos ht];exact(cO E T).2 ⟨n,h⟩
   ·rename_i ht;rw[if_neg ht];exact(cO E T).2 ⟨n,h⟩
  ·cases h
 ·intro h
  split at h
  ·rename_i t he
   split at h
   ·rename_i ht
    obtain⟨n,h⟩:=(cO E T).1 h
    refine⟨n,?_⟩
    rw[dR,he]
    show (if t=true then _ else _)=_
    rw[if_pos ht]
    exact h
   ·rename_i ht
    obtain⟨n,h⟩:=(cO E T).1 h
    refine⟨n,?_⟩
    rw[dR,he]
    show (if t=true then _ else _)=_
    rw[if_neg ht]
    exact h
  ·cases h
theorem XY {id:Nat} {a:aE}:code E T lo (.block id a) ρ H=match code E T lo a ρ H with
  | some (.exit Vv,aP,H')=>if Vv=id then some (.normal,aP,H') else some (.exit Vv,aP,H')
  | r=>r:=by
 refine Dz fun r => ?_
 rw[cO]
 constructor
 ·rintro⟨n,h⟩
  rw[dR] at h
  split at h
  ·rename_i h1
   rw[(cO E T).2 ⟨n,h1⟩]
   exact h
  ·rename_i gD
   rw[(cO E T).2 ⟨n,h⟩]
   split
   ·rename_i he;cases he;exact absurd h (gD _ _ _)
   ·rfl
 ·intro h
  split at h
  ·rename_i h1
   obtain⟨n,h1⟩:=(cO E T).1 h1
   exact⟨n,by rw[dR,h1];exact h⟩
  ·rename_i gD
   obtain⟨n,h1⟩:=(cO E T).1 h
   refine⟨n,?_⟩
   rw[dR,h1]
   split
   ·rename_i he;cases he;exact absurd h (gD _ _ _)
   ·rfl
theorem adC {a:aE}:code E T lo (.loop a) ρ H=match code E T lo a ρ H with
  | some (.normal,aP,H')=>code E T lo (.loop a) aP H'
  | r=>r:=by
 refine Dz fun r => ?_
 rw[cO]
 constructor
 ·rintro⟨n,h⟩
  rw[dR] at h
  cases n with
  | zero=>cases h
  |
   succ n =>
   rw[Bj] at h
   split at h
   ·rename_i h1
    rw[(cO E T).2 ⟨n+1,h1⟩]
    refine(cO E T).2 ⟨n+1,?_⟩
    rw[dR]
    exact AR (fun _ _ _ h=>h) (aK5 n) h
   ·rename_i gD
    rw[(cO E T).2 ⟨n+1,h⟩]
    split
    ·rename_i he;cases he;exact absurd h (gD _ _)
    ·rfl
 ·intro h
  split at h
  ·rename_i h1
   obtain⟨n1,h1⟩:=(cO E T).1 h1
   obtain⟨n2,h2⟩:=(cO E T).1 h
   refine⟨max n1 n2+1,?_⟩
   have g1:=fN (rV E T (show n1≤max n1 n2+1 by omega)) (show n1≤max n1 n2+1 by omega) a h1
   rw[dR,Bj,g1]
   rw[dR] at h2
   exact AR (fun _ _ _ h=>fN (rV E T (show n2≤max n1 n2+1 by omega)) (show n2≤max n1 n2+1 by omega) a h) (show n2≤max n1 n2 by omega) h2
  ·rename_i gD
   obtain⟨n,h1⟩:=(cO E T).1 h
   refine⟨n+1,?_⟩
   rw[dR,Bj,fN (DU E T n) (aK5 n) a h1]
   split
   ·rename_i he;cases he;exact absurd h (gD _ _)
   ·rfl
noncomputable def azX (lo:Nat) (pf:aU) (args:List Value) (H:aJ):Option (Value×aJ) :=
 if args.length≤pf.ntmps then
  match code E T lo pf.body (acK args) H with
  | some (.normal,ρ,H') | some (.ret,ρ,H')=>(uC pf.res ρ H').map (·,H')
  | _=>none
 else none
theorem abY {f:Nat} {p:List Value→aJ→Option Value} (h:E.De f=some p) {args:List Value}:call E T f args lo H=(p args H).map (·,H):=by
 refine Dz fun r => ?_
 rw[zH]
 constructor
 ·rintro⟨n,hr⟩
  cases n with
  | zero=>cases hr
  | succ n=>rw[oL,h] at hr;exact hr
 ·intro hr
  exact⟨1,by rw[oL,h];exact hr⟩
theorem apY {f:Nat} {pf:aU} (hp:E.De f=none) (h:T f=some pf) {args:List Value}:call E T f args lo H=azX E T lo pf args H:=by
 refine Dz fun r => ?_
 rw[zH]
 unfold azX
 constructor
 ·rintro⟨n,hr⟩
  cases n with
  | zero=>cases hr
  |
   succ n =>
   rw[oL,hp,h] at hr
   simp only at hr
   split at hr
   ·rename_i ha
    rw[if_pos ha]
    split at hr
    ·rename_i h1
     rw[(cO E T).2 ⟨n,h1⟩]
     exact hr
    ·rename_i h1
     rw[(cO E T).2 ⟨n,h1⟩]
     exact hr
    ·cases hr
   ·cases hr
 ·intro hr
  split at hr
  ·rename_i ha
   split at hr
   ·rename_i h1
    obtain⟨n,h1⟩:=(cO E T).1 h1
    exact⟨n+1,by rw[oL,hp,h];simp only;rw[if_pos ha,h1];exact hr⟩
   ·rename_i h1
    obtain⟨n,h1⟩:=(cO E T).1 h1
    exact⟨n+1,by rw[oL,hp,h];simp only;rw[if_pos ha,h1];exact hr⟩
   ·cases hr
  ·cases hr
end
end Go.PM
namespace Go.PM
theorem Gr {H H':aJ} {lo fZ b o:Nat} {new:List Value} (hl:fZ≤lo) (h:H.write lo b o new=some H'):H.write fZ b o new=some H':=by
 unfold aJ.write at h ⊢
 split at h
 ·split at h
  ·rename_i hc
   rw[if_pos ⟨by omega,hc.2⟩]
   exact h
  ·cases h
 ·cases h
theorem Ec {α β:Type} {a b:Option α} {f:α→β} {r:β} (IN:∀x,a=some x→b=some x) (h:a.map f=some r):b.map f=some r:=by
 cases a with
 | none=>cases h
 | some x=>rw[IN x rfl];exact h
theorem LB {lo fZ size bytes add:Nat} {x:Value} {new:List Value} {H:aJ} {r:Value×aJ} (hl:fZ≤lo) (h:fA lo size bytes x add new H=some r):fA fZ size bytes x add new H=some r:=by
 unfold fA at h ⊢
 split at h
 case isFalse=>cases h
 rename_i hc
 rw[if_pos hc]
 split at h
 ·exact h
 ·split at h
  ·split at h
   ·rename_i h1
    skip
    rw[if_pos h1]
    split at h
    ·rename_i h2
     rw[if_pos h2]
     split at h
     ·rename_i h3;rw[if_pos h3];exact h
     ·rename_i h3
      rw[if_neg h3]
      exact Ec (fun H' hw=>Gr hl hw) h
    ·rename_i h2
     rw[if_neg h2]
     split at h
     ·rename_i h3
      rw[if_pos h3]
      split at h
      ·rename_i h4
       rw[if_pos h4]
       split at h
       ·rename_i h5;rw[if_pos (by omega)];exact h
       ·cases h
      ·rename_i h4;rw[if_neg h4];exact h
     ·cases h
   ·cases h
  ·cases h
 ·cases h
theorem ZZ {lo fZ:Nat} {p:qF} {ρ:Env} {H:aJ} {o:Out} (hl:fZ≤lo) (h:pop lo p ρ H=some o):pop fZ p ρ H=some o:=by
 cases p<;>first | exact h | skip
 case store size q v =>
  simp only[pop] at h ⊢
  split at h
  ·split at h
   ·rename_i h1
    skip
    rw[if_pos h1]
    exact Ec (fun H' hw=>Gr hl hw) h
   ·cases h
  ·cases h
 case app size bytes x y =>
  simp only[pop] at h ⊢
  split at h
  ·split at h
   ·skip
    exact Ec (fun H' hw=>LB hl hw) h
   ·cases h
  ·cases h
 case appz z bytes x n =>
  simp only[pop] at h ⊢
  split at h
  ·split at h
   ·rename_i h1
    skip
    rw[if_pos h1]
    exact Ec (fun H' hw=>LB hl hw) h
   ·cases h
  ·cases h
 case copy size x y =>
  simp only[pop] at h ⊢
  split at h
  ·exact h
  ·split at h
   ·skip
    exact Ec (fun H' hw=>Gr hl hw) h
   ·cases h
  ·cases h
 case clear z x =>
  simp only[pop] at h ⊢
  split at h
  ·exact h
  ·skip
   split at h
   ·rename_i h1;rw[if_pos h1];exact h
   ·rename_i h1
    rw[if_neg h1]
    exact Ec (fun H' hw=>Gr hl hw) h
  ·cases h
def aoC (c:iG):Prop:=∀f args lo fZ H r,fZ≤lo→c f args lo H=some r→c f args fZ H=some r
section
variable {c:iG} {lo fZ:Nat}
theorem PH (hc:aoC c) (hl:fZ≤lo):∀ {is:List PI} {ρ:Env} {H:aJ} {r:Env×aJ},jC c lo is ρ H=some r→jC c fZ is ρ H=some r
 | [],_,_,_,h=>h
 |
  i::is,ρ,H,r,h=>by
  rw[jC] at h ⊢
  split at h
  ·rename_i AH H1 h1
   have e:Bx c fZ i ρ H=some (AH,H1):=by
    unfold Bx at h1 ⊢
    split at h1
    ·rename_i v H2 hv
     have:BI c fZ i ρ H=some (v,H2):=by
      unfold BI at hv ⊢
      split at hv
      ·cases hv
      ·exact hv
      ·split at hv
       ·rename_i TL
        rw[if_pos TL]
        split at hv
        ·rename_i hp;rw[ZZ hl hp];exact hv
        ·rename_i hp
         rw[ZZ hl hp]
         show c _ _ (if i.quiet=true then H.length else fZ) H=_
         cases hq:i.quiet with
         | true=>rw[hq] at hv;exact hv
         | false=>rw[hq] at hv;exact hc _ _ _ _ _ _ hl hv
        ·cases hv
       ·cases hv
     rw[this]
     exact h1
    ·cases h1
   rw[e]
   exact PH hc hl h
  ·cases h
theorem abE {b b':Env→aJ→Option (Ex×Env×aJ)} (h:∀ρ H r,b ρ H=some r→b' ρ H=some r):∀ {n:Nat} {ρ:Env} {H:aJ} {r:Ex×Env×aJ},Bj b n ρ H=some r→Bj b' n ρ H=some r :=
 fun hr=>AR h (aKl _) hr
theorem pY (hc:aoC c) (hl:fZ≤lo) {n:Nat}:∀(p:aE) {ρ:Env} {H:aJ} {r:Ex×Env×aJ},dR c lo n p ρ H=some r→dR c fZ n p ρ H=some r
 | .skip,_,_,_,hr=>hr
 |
  .cV ops,ρ,H,r,hr=>by
  rw[dR] at hr ⊢
  exact Ec (fun _ h=>PH hc hl h) hr
 |
  .seq a b,ρ,H,r,hr=>by
  rw[dR] at hr ⊢
  split at hr
  ·rename_i h1
   rw[pY hc hl a h1]
   exact pY hc hl b hr
  ·rename_i gD
   rw[pY hc hl a hr]
   split
   ·rename_i he;cases he;exact absurd hr (gD _ _)
   ·rfl
 |
  .cond x a b,ρ,H,r,hr=>by
  rw[dR] at hr ⊢
  split at hr
  ·split at hr
   ·rename_i ht;rw[if_pos ht];exact pY hc hl a hr
   ·rename_i ht;rw[if_neg ht];exact pY hc hl b hr
  ·cases hr
 |
  .block id a,ρ,H,r,hr=>by
  rw[dR] at hr ⊢
  split at hr
  ·rename_i h1
   rw[pY hc hl a h1]
   exact hr
  ·rename_i gD
   rw[pY hc hl a hr]
   split
   ·rename_i he;cases he;exact absurd hr (gD _ _ _)
   ·rfl
 |
  .loop a,ρ,H,r,hr=>by
  rw[dR] at hr ⊢
  exact abE (fun ρ H r hr=>pY hc hl a hr) hr
 | .exit id,_,_,_,hr=>hr
 | .ret,_,_,_,hr=>hr
end
theorem K9 (E:CS) (T:Tab):∀n,aoC (oL E T n)
 | 0,_,_,_,_,_,_,_,h=>by cases h
 |
  n+1,f,args,lo,fZ,H,r,hl,h=>by
  rw[oL] at h ⊢
  split at h
  ·exact h
  ·split at h
   ·cases h
   ·split at h
    ·rename_i pf _ ha
     rw[if_pos ha]
     split at h
     ·rename_i h1;rw[pY (K9 E T n) hl pf.body h1];exact h
     ·rename_i h1;rw[pY (K9 E T n) hl pf.body h1];exact h
     ·cases h
    ·cases h
section
variable {E:CS} {T:Tab}
theorem anS {f:Nat} {args:List Value} {lo fZ:Nat} {H:aJ} {r:Value×aJ} (hl:fZ≤lo) (h:call E T f args lo H=some r):call E T f args fZ H=some r:=by
 obtain⟨n,hn⟩:=(zH E T).1 h
 exact(zH E T).2 ⟨n,K9 E T n f args lo fZ H r hl hn⟩
theorem anN {f:Nat} {args:List Value} {lo:Nat} {H H':aJ} {v:Value} (h:call E T f args lo H=some (v,H')):Ext lo H H':=by
 obtain⟨n,hn⟩:=(zH E T).1 h
 exact GJ E T n f args lo H v H' hn
theorem Ext.more {H H':aJ} (h:Ext H.length H H'):∃K,H'=H++K:=by
 refine⟨H'.drop H.length,?_⟩
 apply List.ext_getElem?
 intro i
 rcases aKo i H.length with hi | hi
 ·rw[aKC hi]
  exact h.low i hi hi
 ·rw[aKD hi,aKj,show H.length+(i-H.length)=i by omega]
def aaA (E:CS) (T:Tab) (f:Nat) (args:List Value) (H:aJ) (R:Value→aJ→Prop):Prop :=
 ∃v K,call E T f args H.length H=some (v,H++K)∧R v (H++K)
theorem aaA.at {f:Nat} {args:List Value} {H:aJ} {R:Value→aJ→Prop} (h:aaA E T f args H R) {lo:Nat} (hl:lo≤H.length):∃v K,call E T f args lo H=some (v,H++K)∧R v (H++K):=by
 obtain⟨v,K,h1,h2⟩:=h
 exact⟨v,K,anS hl h1,h2⟩
theorem aaA.mk {f:Nat} {args:List Value} {H H':aJ} {v:Value} {R:Value→aJ→Prop} (h:call E T f args H.length H=some (v,H')) (hr:R v H'):aaA E T f args H R:=by
 obtain⟨K,rfl⟩:=(anN h).more
 exact⟨v,K,h,hr⟩
end
end Go.PM
namespace Go.PM
def strCells:List Value→Option (List ByteArray)
 | []=>some []
 | .string s::r=>(strCells r).map (s :: ·)
 | _=>none
def yY:List Value→aJ→Option Value
 | [.int .u64 n,.int .i64 b],_=>if b=10∧0≤n∧n<18446744073709551616 then some (.string ⟨(Lib.decDigits n.toNat).toArray⟩) else none
 | _,_=>none
def Jn:List Value→aJ→Option Value
 | [.string s,.int .i64 c],_=>if 0≤c∧c≤9223372036854775807∧s.size*c.toNat≤140737488355328 then some (.string ⟨(Lib.repeatL s.data.toList c.toNat).toArray⟩) else none
 | _,_=>none
def Fh:List Value→aJ→Option Value
 | [.int .u32 x],_=>if 0≤x∧x≤4294967295 then some (.int .i64 (32-(Lib.bitLen x.toNat:Int))) else none
 | _,_=>none
def TP:List Value→aJ→Option Value
 | [.slice none 0 0,.string _],_=>some (.string ⟨#[]⟩)
 |
  [.slice (some ⟨b,o,none⟩) n c,.string sep],H =>
  if n=0 then some (.string ⟨#[]⟩) else
  match (H.read b o n).bind strCells with
  | some xs=>if xs.length=n∧n≤c∧n≤140737488355328∧(Lib.join (xs.map (·.data.toList)) sep.data.toList).length≤140737488355328 then some (.string ⟨(Lib.join (xs.map (·.data.toList)) sep.data.toList).toArray⟩) else none
  | none=>none
 | _,_=>none
def Ta:List Value→aJ→Option Value
 |
  [.string s,.string p],_=>match p.data.toList with
  | [c]=>some (.int .i64 (Lib.indexByte s.data.toList c))
  | _=>none
 | _,_=>none
def Bb:List Value→aJ→Option Value
 |
  [.string s,.int .i64 b,.int .i64 z],_=>if b=10∧z=64∧s.size≤9223372036854775806 then
   match Lib.parseUintB 64 s.data.toList with
   | .ok u=>some (.tuple #[.int .u64 (u:Int),.nilIface])
   | _=>none
  else none
 | _,_=>none
end Go.PM
namespace Go.PM
open Go.Proofs
def aEW:List Nat:=[]
 ++ [200]
 ++ [204]
 ++ [205]
 ++ [95]
 ++ [90]
 ++ [118]
 ++ [134]
 ++ [179]
def L5 (f:Nat):Option (List Value→aJ→Option Value) :=
 if f=214 then some yY else
 if f=215 then some Jn else
 if f=217 then some TP else
 if f=198 then some Fh else
 if f=209 then some Ta else
 if f=192 then some Bb else
 (fun _=>none) f
def cfg:CS:={ De:=L5,eff:=fun f=>aEW.contains f }
noncomputable def fQ:Tab:=fun f=>if (L5 f).isSome then none else TQ Tryz.prog cfg f
theorem awW (f:Nat) (pf:aU) (h:fQ f=some pf):TQ Tryz.prog cfg f=some pf:=by
 unfold fQ at h
 split at h
 ·cases h
 ·exact h
theorem WZ {f:Nat} {pf:aU} (h:fQ f=some pf):cfg.De f=none:=by
 unfold fQ at h
 split at h
 ·cases h
 ·rename_i h1
  show L5 f=none
  cases hp:L5 f with
  | none=>rfl
  | some p=>rw[hp] at h1;exact absurd rfl h1
end Go.PM
namespace Go.PM
noncomputable abbrev uX:iG:=call cfg fQ
def W (lo:Nat) (c:aE) (Q:Ex→Env→aJ→Prop) (ρ:Env) (H:aJ):Prop:=∃x aP H',code cfg fQ lo c ρ H=some (x,aP,H')∧Q x aP H'
def WS (lo:Nat) (is:List PI) (K:Env→aJ→Prop) (ρ:Env) (H:aJ):Prop:=∃aP H',jC uX lo is ρ H=some (aP,H')∧K aP H'
def aDH (lo:Nat) (b:aE) (Q:Ex→Env→aJ→Prop):Ex→Env→aJ→Prop
 | .normal,ρ,H=>W lo b Q ρ H
 | x,ρ,H=>Q x ρ H
def aBK (id:Nat) (Q:Ex→Env→aJ→Prop):Ex→Env→aJ→Prop
 | .exit Vv,ρ,H=>if Vv=id then Q .normal ρ H else Q (.exit Vv) ρ H
 | x,ρ,H=>Q x ρ H
def aEC (res:List Dh) (R:Value→aJ→Prop):Ex→Env→aJ→Prop
 | .exit _,_,_=>False
 | _,ρ,H=>∃v,uC res ρ H=some v∧R v H
def aBe (J:Env→aJ→Prop) (Q:Ex→Env→aJ→Prop):Ex→Env→aJ→Prop
 | .normal,ρ,H=>J ρ H
 | x,ρ,H=>Q x ρ H
section
variable {lo:Nat} {Q:Ex→Env→aJ→Prop} {K:Env→aJ→Prop} {ρ:Env} {H:aJ} {b:aE} {id:Nat} {R:Value→aJ→Prop} {res:List Dh} {J:Env→aJ→Prop}
theorem Kz {i:Nat}:aBK id Q (.exit i) ρ H=if i=id then Q .normal ρ H else Q (.exit i) ρ H:=rfl
theorem azL:W lo .skip Q ρ H=Q .normal ρ H:=by
 unfold W
 rw[acO]
 exact propext ⟨fun⟨_,_,_,h,hq⟩=>(by cases h;exact hq),fun h=>⟨_,_,_,rfl,h⟩⟩
theorem axH {i:Nat}:W lo (.exit i) Q ρ H=Q (.exit i) ρ H:=by
 unfold W
 rw[adW]
 exact propext ⟨fun⟨_,_,_,h,hq⟩=>(by cases h;exact hq),fun h=>⟨_,_,_,rfl,h⟩⟩
theorem aBa:W lo .ret Q ρ H=Q .ret ρ H:=by
 unfold W
 rw[ahA]
 exact propext ⟨fun⟨_,_,_,h,hq⟩=>(by cases h;exact hq),fun h=>⟨_,_,_,rfl,h⟩⟩
theorem aBL {ops:List PI}:W lo (.cV ops) Q ρ H=WS lo ops (Q .normal) ρ H:=by
 unfold W WS
 rw[anA]
 apply propext
 constructor
 ·rintro⟨x,aP,H',h,hq⟩
  cases hs:jC (call cfg fQ) lo ops ρ H with
  | none=>rw[hs] at h;cases h
  |
   some q =>
   rw[hs] at h
   cases h
   exact⟨_,_,rfl,hq⟩
 ·rintro⟨aP,H',h,hq⟩
  exact⟨_,_,_,by rw[h];rfl,hq⟩
theorem aBc {a:aE}:W lo (.seq a b) Q ρ H=W lo a (aDH lo b Q) ρ H:=by
 unfold W
 rw[amP]
 apply propext
 constructor
 ·rintro⟨x,aP,H',h,hq⟩
  split at h
  ·rename_i AH H1 h1
   exact⟨_,_,_,h1,x,aP,H',h,hq⟩
  ·rename_i gD
   refine⟨x,aP,H',h,?_⟩
   cases x with
   | normal=>exact absurd h (gD _ _)
   | exit i=>exact hq
   | ret=>exact hq
 ·rintro⟨x,aP,H',h,hq⟩
  rw[h]
  cases x with
  | normal=>exact hq
  | exit i=>exact⟨_,_,_,rfl,hq⟩
  | ret=>exact⟨_,_,_,rfl,hq⟩
theorem atG {a:aE}:W lo (.block id a) Q ρ H=W lo a (aBK id Q) ρ H:=by
 unfold W
 rw[XY]
 apply propext
 constructor
 ·rintro⟨x,aP,H',h,hq⟩
  split at h
  ·rename_i Vv AH H1 h1
   refine⟨_,_,_,h1,?_⟩
   rw[Kz]
   split at h
   ·rename_i he;cases h;rw[if_pos he];exact hq
   ·rename_i he;cases h;rw[if_neg he];exact hq
  ·rename_i gD
   refine⟨x,aP,H',h,?_⟩
   cases x with
   | normal=>exact hq
   | exit i=>exact absurd h (gD _ _ _)
   | ret=>exact hq
 ·rintro⟨x,aP,H',h,hq⟩
  rw[h]
  cases x with
  | normal=>exact⟨_,_,_,rfl,hq⟩
  |
   exit i =>
   rw[Kz] at hq
   show ∃x BK Vr,(if i=id then some (Ex.normal,aP,H') else some (Ex.exit i,aP,H'))=some (x,BK,Vr)∧Q x BK Vr
   split at hq
   ·rename_i he;rw[if_pos he];exact⟨_,_,_,rfl,hq⟩
   ·rename_i he;rw[if_neg he];exact⟨_,_,_,rfl,hq⟩
  | ret=>exact⟨_,_,_,rfl,hq⟩
theorem ayS {x:Operand} {a:aE}:W lo (.cond x a b) Q ρ H=∃t,ev ρ x = .bool t∧((t=true→W lo a Q ρ H)∧(t=false→W lo b Q ρ H)):=by
 unfold W
 rw[afG]
 apply propext
 constructor
 ·rintro⟨y,aP,H',h,hq⟩
  split at h
  ·rename_i t ht
   cases t with
   | true=>exact⟨true,ht,fun _=>⟨y,aP,H',h,hq⟩,fun h=>by cases h⟩
   | false=>exact⟨false,ht,fun h=>(by cases h),fun _=>⟨y,aP,H',h,hq⟩⟩
  ·cases h
 ·rintro⟨t,ht,h1,h2⟩
  rw[ht]
  cases t with
  | true=>exact h1 rfl
  | false=>exact h2 rfl
theorem W.mono {Q':Ex→Env→aJ→Prop} {c:aE} (h:W lo c Q ρ H) (hq:∀x ρ H,Q x ρ H→Q' x ρ H):W lo c Q' ρ H:=by
 obtain⟨x,aP,H',h1,h2⟩:=h
 exact⟨x,aP,H',h1,hq _ _ _ h2⟩
noncomputable def lM (lo:Nat) (q:Bool) (op:qF) (ρ:Env) (H:aJ):Option (Value×aJ) :=
 match pop lo op ρ H with
 | some (.val v H')=>some (v,H')
 | some (.call f args)=>uX f args (if q then H.length else lo) H
 | none=>none
theorem azJ:WS lo [] K ρ H=K ρ H:=by
 unfold WS
 apply propext
 constructor
 ·rintro⟨aP,H',h,hk⟩;cases h;exact hk
 ·intro h;exact⟨ρ,H,rfl,h⟩
theorem aAK {i:PI} {is:List PI}:WS lo (i::is) K ρ H=∃v H',BI uX lo i ρ H=some (v,H')∧WS lo is K (put ρ i.dst v) H':=by
 unfold WS
 apply propext
 constructor
 ·rintro⟨aP,H',h,hk⟩
  rw[jC] at h
  split at h
  ·rename_i AH H1 h1
   obtain⟨v,hv,rfl⟩:=Bt h1
   exact⟨v,H1,hv,aP,H',h,hk⟩
  ·cases h
 ·rintro⟨v,H1,hv,aP,H',h,hk⟩
  refine⟨aP,H',?_,hk⟩
  rw[jC]
  unfold Bx
  rw[hv]
  exact h
variable {q:Bool}
theorem dY {op:qF} (h:yB op=true):lM lo q op ρ H=(kC op ρ).map (·,H):=by
 unfold lM
 rw[Bv h]
 cases kC op ρ<;>rfl
theorem arC {x:Operand}:lM lo q (.mv x) ρ H=some (ev ρ x,H):=rfl
theorem acR {c a b:Operand}:lM lo q (.pick c a b) ρ H=(match ev ρ c with | .bool t=>some ((if t=true then ev ρ a else ev ρ b),H) | _=>none):=by
 rw[dY rfl]
 simp only[kC]
 cases ev ρ c<;>rfl
theorem ajG {op:BinOp} {x y:Operand}:lM lo q (.bin op x y) ρ H=(dK op (ev ρ x) (ev ρ y)).map (·,H):=dY rfl
theorem atH {op:UnOp} {x:Operand}:lM lo q (.un op x) ρ H=(pun op (ev ρ x)).map (·,H):=dY rfl
theorem aeM {f:Nat} {args:List Operand}:lM lo q (.call f args) ρ H=uX f (args.map (ev ρ)) (if q then H.length else lo) H:=rfl
end
theorem amY {f lo:Nat} {pf:aU} {args:List Value} {H:aJ} {R:Value→aJ→Prop} (ht:fQ f=some pf) (ha:args.length≤pf.ntmps) (h:W lo pf.body (aEC pf.res R) (acK args) H):∃v H',uX f args lo H=some (v,H')∧R v H':=by
 obtain⟨x,aP,H',h1,h2⟩:=h
 show ∃v H',call cfg fQ f args lo H=some (v,H')∧R v H'
 rw[apY cfg fQ (WZ ht) ht]
 unfold azX
 rw[if_pos ha,h1]
 cases x with
 | exit i=>exact h2.elim
 |
  normal =>
  obtain⟨v,h3,h4⟩:=h2
  exact⟨v,H',by simp only;rw[h3];rfl,h4⟩
 |
  ret =>
  obtain⟨v,h3,h4⟩:=h2
  exact⟨v,H',by simp only;rw[h3];rfl,h4⟩
end Go.PM
namespace Go.PM
theorem wrap64 {x:Int} (h1 : -9223372036854775808≤x) (h2:x≤9223372036854775807):IntKind.i64.wrap x=x:=by
 rw[IntKind.wrap_i64]
 omega
section
variable {k:IntKind} {a b:Int}
theorem Ut:dK .add (.int k a) (.int k b)=some (.int k (k.wrap (a+b))):=by simp[dK]
theorem Wg:dK .sub (.int k a) (.int k b)=some (.int k (k.wrap (a-b))):=by simp[dK]
theorem Vl:dK .mul (.int k a) (.int k b)=some (.int k (k.wrap (a*b))):=by simp[dK]
theorem V9 (h:b≠0):dK .rem (.int k a) (.int k b)=some (.int k (a.tmod b)):=by simp[dK,h]
theorem TU:dK .lss (.int k a) (.int k b)=some (.bool (decide (a<b))):=by simp[dK]
theorem Vz:dK .leq (.int k a) (.int k b)=some (.bool (decide (a≤b))):=by simp[dK]
theorem TO:dK .gtr (.int k a) (.int k b)=some (.bool (decide (b<a))):=by simp[dK]
theorem Wj:dK .geq (.int k a) (.int k b)=some (.bool (decide (b≤a))):=by simp[dK]
theorem Uh:dK .eql (.int k a) (.int k b)=some (.bool (decide (a=b))):=by
 simp only[dK,if_true]
 rfl
theorem Ub:dK .neq (.int k a) (.int k b)=some (.bool (!decide (a=b))):=by
 simp only[dK,if_true]
 rfl
theorem Ze:pun .neg (.int k a)=some (.int k (k.wrap (0-a))):=rfl
theorem Y6 {t:Bool}:pun .not (.bool t)=some (.bool (!t)):=rfl
end
def axO:Value→Option Value
 | .slice _ n _=>some (.int .i64 n)
 | _=>none
def PT (neg:Bool):Value→Value→Option Value
 | .bool a,.bool b=>some (.bool ((a == b) != neg))
 | _,_=>none
def akK (neg:Bool):Value→Option Value
 | .slice none _ _=>some (.bool (true != neg))
 | .slice (some _) _ _=>some (.bool (false != neg))
 | _=>none
def alP (neg:Bool) (ks:List CK):Value→Value→Option Value
 | .agg a,.agg b=>(sU ks a.toList b.toList).map fun t => .bool (t != neg)
 | _,_=>none
def X6 (k:IntKind):Value→Option Value
 | .int _ n=>some (.int k (k.wrap n))
 | _=>none
def ayN (i:Nat):Value→Option Value
 | .tuple vs=>vs[i]?
 | _=>none
def apG (agg:Bool) (off size:Nat):Value→Option Value
 | .agg cs=>if agg then (if off+size≤cs.size then some (.agg (cs.extract off (off+size))) else none) else cs[off]?
 | _=>none
def aBO:Value→Option Value
 | .pointer (some a)=>some (.pointer (some a))
 | _=>none
def aoA (off:Nat):Value→Option Value
 | .pointer (some ⟨b,o,none⟩)=>some (.pointer (some ⟨b,o+off,none⟩))
 | _=>none
def R8 (size:Nat):Value→Value→Option Value
 | .slice (some ⟨b,o,none⟩) n _,.int _ i=>if 0≤i∧i<n then some (.pointer (some ⟨b,o+i.toNat*size,none⟩)) else none
 | _,_=>none
def Vx:Value→Value→Option Value
 | .int k a,.int _ b=>some (.int k (if b<a then b else a))
 | _,_=>none
def Vn:Value→Value→Option Value
 | .int k a,.int _ b=>some (.int k (if b>a then b else a))
 | _,_=>none
section
variable {lo:Nat} {ρ:Env} {H:aJ} {q:Bool}
theorem sI {op:qF} {r:Option (Value×aJ)} (h:pop lo op ρ H=r.map fun(v,H') => .val v H'):lM lo q op ρ H=r:=by
 unfold lM
 rw[h]
 cases r<;>rfl
theorem agV {x:Operand}:lM lo q (.len x) ρ H=(axO (ev ρ x)).map (·,H):=dY rfl
theorem akQ {neg:Bool} {x y:Operand}:lM lo q (.eqb neg x y) ρ H=(PT neg (ev ρ x) (ev ρ y)).map (·,H):=dY rfl
theorem Yh {neg:Bool} {x:Operand}:lM lo q (.isnil neg x) ρ H=(akK neg (ev ρ x)).map (·,H):=dY rfl
theorem W0 {neg:Bool} {ks:List CK} {x y:Operand}:lM lo q (.eqagg neg ks x y) ρ H=(alP neg ks (ev ρ x) (ev ρ y)).map (·,H):=dY rfl
theorem aoB {k:IntKind} {x:Operand}:lM lo q (.cvt k x) ρ H=(X6 k (ev ρ x)).map (·,H):=dY rfl
theorem agS {i:Nat} {x:Operand}:lM lo q (.ext x i) ρ H=(ayN i (ev ρ x)).map (·,H):=dY rfl
theorem akH {agg:Bool} {off size:Nat} {x:Operand}:lM lo q (.fld agg off size x) ρ H=(apG agg off size (ev ρ x)).map (·,H):=dY rfl
theorem Yx {z:List Value} {places:List (Nat×Nat)} {parts:List (Nat×Operand)}:lM lo q (.build z places parts) ρ H=((Ai places z (parts.map fun(i,x)=>(i,ev ρ x))).map fun cs=>Value.agg cs.toArray).map (·,H):=dY rfl
theorem alF {x:Operand}:lM lo q (.chk x) ρ H=(aBO (ev ρ x)).map (·,H):=dY rfl
theorem Yr {off:Nat} {x:Operand}:lM lo q (.faddr off x) ρ H=(aoA off (ev ρ x)).map (·,H):=dY rfl
theorem Yl {size:Nat} {x i:Operand}:lM lo q (.iaddr size x i) ρ H=(R8 size (ev ρ x) (ev ρ i)).map (·,H):=dY rfl
theorem abJ {f:Nat} {fU:List Operand}:lM lo q (.mkfn f fU) ρ H=some (.func (.func f) #[] (fU.map (ev ρ)).toArray,H):=dY rfl
theorem ajY {x y:Operand}:lM lo q (.min x y) ρ H=(Vx (ev ρ x) (ev ρ y)).map (·,H):=dY rfl
theorem amV {x y:Operand}:lM lo q (.max x y) ρ H=(Vn (ev ρ x) (ev ρ y)).map (·,H):=dY rfl
theorem adF {agg:Bool} {size:Nat} {p:Operand}:lM lo q (.load agg size p) ρ H=(qL agg size (ev ρ p) H).map (·,H):=by
 unfold lM
 simp only[pop]
 cases qL agg size (ev ρ p) H<;>rfl
theorem akP {size:Nat} {x:Operand} {l h m:Option Operand}:lM lo q (.sub size x l h m) ρ H=EN size (ev ρ x) (l.map (ev ρ)) (h.map (ev ρ)) (m.map (ev ρ)) H:=by
 unfold lM
 simp only[pop]
 cases EN size (ev ρ x) (l.map (ev ρ)) (h.map (ev ρ)) (m.map (ev ρ)) H<;>rfl
theorem akG {z:List Value}:lM lo q (.new z) ρ H=some (.pointer (some ⟨H.length,0,none⟩),H++[.row z z.length false]):=rfl
theorem anT {x:Operand}:lM lo q (.box x) ρ H=if (aV (ev ρ x)).all iQ then some (.pointer (some ⟨H.length,0,none⟩),H++[.row (aV (ev ρ x)) (aV (ev ρ x)).length false]) else none:=by
 apply sI
 simp only[pop]
 by_cases h:(aV (ev ρ x)).all iQ=true
 ·rw[if_pos h,if_pos h];rfl
 ·rw[if_neg h,if_neg h];rfl
def Z0 (z:List Value) (bytes:Nat) (l c:Value) (H:aJ):Option (Value×aJ) :=
 match l,c with
 | .int .i64 l,.int .i64 c=>if 0≤l∧l≤c∧c*bytes≤281474976710656∧c≤9223372036854775807 then
  some (.slice (some ⟨H.length,0,none⟩) l.toNat c.toNat,H++[.row (dG c.toNat z) z.length false]) else none
 | _,_=>none
theorem acP {z:List Value} {bytes:Nat} {l c:Operand}:lM lo q (.make z bytes l c) ρ H=Z0 z bytes (ev ρ l) (ev ρ c) H:=by
 apply sI
 simp only[pop]
 unfold Z0
 split
 ·rename_i l c h1 h2
  simp only[h1,h2]
  split<;>rfl
 ·rename_i h1
  split
  ·rename_i h2 h3
   exact(h1 _ _ h2 h3).elim
  ·rfl
def asO (z:List Value) (n:Nat) (parts:List (Nat×Value)) (H:aJ):Option (Value×aJ) :=
 match Ai ((List.range n).map fun i=>(i*z.length,z.length)) (dG n z) parts with
 | some cs=>if cs.all iQ then some (.slice (some ⟨H.length,0,none⟩) n n,H++[.row cs z.length false]) else none
 | none=>none
theorem akV {z:List Value} {n:Nat} {parts:List (Nat×Operand)}:lM lo q (.lit z n parts) ρ H=asO z n (parts.map fun(i,x)=>(i,ev ρ x)) H:=by
 apply sI
 simp only[pop]
 unfold asO
 split
 ·rename_i cs h1
  simp only[h1]
  split<;>rfl
 ·rename_i h1
  simp only[h1]
  rfl
def HU (lo size:Nat) (p v:Value) (H:aJ):Option (Value×aJ) :=
 match p with
 | .pointer (some ⟨b,o,none⟩)=>if (aV v).length=size then (H.write lo b o (aV v)).map fun H'=>(undef,H') else none
 | _=>none
theorem XJ {size:Nat} {p v:Operand}:lM lo q (.store size p v) ρ H=HU lo size (ev ρ p) (ev ρ v) H:=by
 apply sI
 simp only[pop]
 unfold HU
 split
 ·rename_i b o h1
  simp only[h1]
  split
  ·cases H.write lo b o (aV (ev ρ v))<;>rfl
  ·rfl
 ·rename_i h1
  split
  ·rename_i h2
   exact(h1 _ _ h2).elim
  ·rfl
def ayA (lo size bytes:Nat) (x y:Value) (H:aJ):Option (Value×aJ) :=
 match vY y with
 |
  some n=>match lA H size n y with
  | some new=>fA lo size bytes x n new H
  | none=>none
 | none=>none
theorem akZ {size bytes:Nat} {x y:Operand}:lM lo q (.app size bytes x y) ρ H=ayA lo size bytes (ev ρ x) (ev ρ y) H:=by
 apply sI
 simp only[pop]
 unfold ayA
 cases vY (ev ρ y) with
 | none=>rfl
 |
  some n =>
  cases hs:lA H size n (ev ρ y) with
  | none=>simp only[hs];rfl
  | some new=>simp only[hs]
def ajC (lo:Nat) (z:List Value) (bytes:Nat) (x n:Value) (H:aJ):Option (Value×aJ) :=
 match n with
 | .int .i64 n=>if 0≤n∧n*bytes≤140737488355328 then fA lo z.length bytes x n.toNat (dG n.toNat z) H else none
 | _=>none
theorem aeR {z:List Value} {bytes:Nat} {x n:Operand}:lM lo q (.appz z bytes x n) ρ H=ajC lo z bytes (ev ρ x) (ev ρ n) H:=by
 apply sI
 simp only[pop]
 unfold ajC
 split
 ·rename_i n h1
  simp only[h1]
  split<;>rfl
 ·rename_i h1
  split
  ·rename_i h2
   exact(h1 _ h2).elim
  ·rfl
def copyV (lo size:Nat) (x y:Value) (H:aJ):Option (Value×aJ) :=
 match x,vY y with
 | .slice none _ _,some _=>some (.int .i64 0,H)
 |
  .slice (some ⟨b,o,none⟩) d _,some s=>match lA H size (Nat.min s d) y with
  | some new=>(H.write lo b o new).map fun H'=>(.int .i64 (Nat.min s d),H')
  | none=>none
 | _,_=>none
theorem aeS {size:Nat} {x y:Operand}:lM lo q (.copy size x y) ρ H=copyV lo size (ev ρ x) (ev ρ y) H:=by
 apply sI
 simp only[pop]
 unfold copyV
 split
 ·rename_i h1 h2
  simp only[h1,h2]
  rfl
 ·rename_i b o d _ s h1 h2
  simp only[h1,h2]
  cases hs:lA H size (Nat.min s d) (ev ρ y) with
  | none=>rfl
  |
   some new =>
   simp only
   cases H.write lo b o new<;>rfl
 ·rename_i h1 h2
  split
  ·rename_i h3 h4
   exact(h1 _ _ _ h3 h4).elim
  ·rename_i h3 h4
   exact(h2 _ _ _ _ _ h3 h4).elim
  ·rfl
def Tw (lo:Nat) (z:List Value) (x:Value) (H:aJ):Option (Value×aJ) :=
 match x with
 | .slice none _ _=>some (undef,H)
 | .slice (some ⟨b,o,none⟩) n _=>if n=0 then some (undef,H) else (H.write lo b o (dG n z)).map fun H'=>(undef,H')
 | _=>none
theorem YD {z:List Value} {x:Operand}:lM lo q (.clear z x) ρ H=Tw lo z (ev ρ x) H:=by
 apply sI
 simp only[pop]
 unfold Tw
 split
 ·rename_i h1
  simp only[h1]
  rfl
 ·rename_i b o n _ h1
  simp only[h1]
  split
  ·rfl
  ·cases H.write lo b o (dG n z)<;>rfl
 ·rename_i h1 h2
  split
  ·rename_i h3
   exact(h1 _ _ h3).elim
  ·rename_i h3
   exact(h2 _ _ _ _ h3).elim
  ·rfl
noncomputable def amI (lo:Nat) (fv:Value) (args:List Value) (H:aJ):Option (Value×aJ) :=
 match fv with
 | .func (.func f) first fU=>uX f (first.toList++args++fU.toList) lo H
 | _=>none
theorem Xw {fv:Operand} {args:List Operand}:lM lo q (.callv fv args) ρ H=amI (if q then H.length else lo) (ev ρ fv) (args.map (ev ρ)) H:=by
 unfold lM
 simp only[pop]
 unfold amI
 generalize ev ρ fv=v
 cases v with
 | func fn f c=>cases fn<;>rfl
 | _=>rfl
end
end Go.PM
namespace Go.PM
section
variable {lo:Nat} {Q:Ex→Env→aJ→Prop} {K:Env→aJ→Prop} {ρ:Env} {H:aJ} {q:Bool}
def aBI (u v:Value):Bool:=match kP u,kP v with
 | some a,some b=>a != b
 | _,_=>true
end
theorem Zh {k:IntKind} {a b:Int}:Vn (.int k a) (.int k b)=some (.int k (max a b)):=by
 simp only[Vn]
 congr 2
 split<;>omega
theorem YK {k:IntKind} {a b:Int}:Vx (.int k a) (.int k b)=some (.int k (min a b)):=by
 simp only[Vx]
 congr 2
 split<;>omega
end Go.PM
namespace Go.PM
abbrev ptr (b o:Nat):Value := .pointer (some ⟨b,o,none⟩)
abbrev I (n:Int):Value := .int .i64 n
section
variable {H H':aJ} {lo b o n size:Nat} {cs r:List Value} {L K:aJ} {v:Value}
theorem SS (hb:b<H.length):(H++L)[b]? = H[b]? := aKC hb
theorem Zc {x:Qx}:(H++x::L)[H.length]? = some x:=by simp
theorem anV (hb:b<H.length):(H++L).read b o n=H.read b o n:=Ik (SS hb)
theorem CV {e:Nat} {p:Bool} (h:H[b]? = some (.row r e p)) (hn:o+n≤r.length):H.read b o n=some ((r.drop o).take n):=by
 unfold aJ.read
 rw[h]
 simp only[hn,if_true]
structure F6 (H:aJ) (b o:Nat) (cs:List Value):Prop where
 lt:b<H.length
 rd:H.read b o cs.length=some cs
theorem F6.app (h:F6 H b o cs):F6 (H++L) b o cs:=⟨by have:=h.lt;simp;omega,by rw[anV h.lt];exact h.rd⟩
theorem F6.pre (h:F6 H b o cs) (hp:H <+: H'):F6 H' b o cs:=by
 obtain⟨L,rfl⟩:=hp
 exact h.app
theorem F6.all (h:F6 H b o cs) (hs:cs.length=size):qL true size (.pointer (some ⟨b,o,none⟩)) H=some (.agg cs.toArray):=by
 subst hs
 simp only[qL,if_true,h.rd]
 rfl
theorem F6.one {u:Value} (h:F6 H b o [u]):qL false size (.pointer (some ⟨b,o,none⟩)) H=some u:=by
 have:=h.rd
 simp only[aKv,List.length_nil] at this
 simp only[qL,this]
 rfl
theorem F6.sub {k:Nat} {u:Value} (h:F6 H b o cs) (hk:cs[k]? = some u):F6 H b (o+k) [u]:=by
 refine⟨h.lt,?_⟩
 have h1:=h.rd
 unfold aJ.read at h1 ⊢
 split at h1
 ·rename_i r e p hb
  split at h1
  ·rename_i hl
   have hk':=(aKk.1 hk).1
   simp only[aKv,List.length_nil]
   rw[if_pos (by simp;omega)]
   injection h1 with h1
   rw[←h1] at hk
   rw[List.getElem?_take,if_pos (by omega),aKj] at hk
   have bF:=(aKk.1 hk).1
   rw[aKq bF]
   simp only[aK8,List.take_zero]
   rw[aKs bF] at hk
   injection hk with hk
   rw[hk]
  ·cases h1
 ·cases h1
theorem F6.fld {k:Nat} {u:Value} (h:F6 H b o cs) (hk:cs[k]? = some u):qL false size (.pointer (some ⟨b,o+k,none⟩)) H=some u:=(h.sub hk).one
theorem VC {a:Nat} {c:Nat} {i:Int} {k:IntKind} (h0:0≤i) (h1:i<n):R8 size (.slice (some ⟨b,a,none⟩) n c) (.int k i)=some (.pointer (some ⟨b,a+i.toNat*size,none⟩)):=by
 simp only[R8]
 rw[if_pos ⟨h0,h1⟩]
structure Arr {α:Type} (enc:α→List Value) (gV:Nat) (H:aJ) (a:Option Addr) (n:Nat) (xs:List α):Prop where
 len:n=xs.length
 el:∀(i:Nat) x,xs[i]? = some x→∃b o,a=some ⟨b,o,none⟩∧F6 H b (o+i*gV) (enc x)
theorem Arr.pre {α:Type} {enc:α→List Value} {gV:Nat} {a:Option Addr} {xs:List α} (h:Arr enc gV H a n xs) (hp:H <+: H'):Arr enc gV H' a n xs :=
 ⟨h.len,fun i x hx=>by obtain⟨b,o,h1,h2⟩:=h.el i x hx;exact⟨b,o,h1,h2.pre hp⟩⟩
end
structure lJ where
 t:Int
 w:Int
 k:Int
 deriving DecidableEq
def cc (c:lJ):List Value:=[I c.t,I c.w,I c.k]
def ci (n:Int):List Value:=[I n]
end Go.PM
namespace Go.PM
structure Mf {α:Type} (enc:α→List Value) (gV:Nat):Prop where
 len:∀x,(enc x).length=gV
 sc:∀x,(enc x).all iQ=true
 pos:1≤gV
section
variable {α:Type} {enc:α→List Value} {gV:Nat} {H H':aJ} {lo b:Nat} {xs ys:List α} {p:Bool}
theorem Pp (e:Mf enc gV):(xs.flatMap enc).length=xs.length*gV:=by
 induction xs with
 | nil=>simp
 | cons x xs ih=>simp only[aK9,List.length_append,e.len,ih,aKv,aLa];omega
theorem Lh (e:Mf enc gV) (i:Nat):(xs.flatMap enc).drop (i*gV)=(xs.drop i).flatMap enc:=by
 induction i generalizing xs with
 | zero=>simp
 |
  succ i ih =>
  cases xs with
  | nil=>simp
  |
   cons x xs =>
   rw[aK9,List.drop_succ_cons,←ih,show (i+1)*gV=(enc x).length+i*gV by rw[e.len,aLa];omega,List.drop_append]
   simp
theorem Rt (e:Mf enc gV) (i:Nat):(xs.flatMap enc).take (i*gV)=(xs.take i).flatMap enc:=by
 induction i generalizing xs with
 | zero=>simp
 |
  succ i ih =>
  cases xs with
  | nil=>simp
  |
   cons x xs =>
   rw[aK9,aK8,aK9,←ih,show (i+1)*gV=(enc x).length+i*gV by rw[e.len,aLa];omega,List.take_append]
   simp
   exact List.take_of_length_le (by omega)
theorem TR (e:Mf enc gV) {i:Nat} (x:α) (hi:i<xs.length):kI (xs.flatMap enc) (i*gV) (enc x)=(xs.set i x).flatMap enc:=by
 unfold kI
 rw[Rt e,e.len,show i*gV+gV=(i+1)*gV by rw[aLa],Lh e,List.set_eq_take_append_cons_drop,if_pos hi]
 simp
def Row (enc:α→List Value) (gV:Nat) (H:aJ) (b:Nat) (p:Bool) (xs:List α):Prop:=H[b]? = some (.row (xs.flatMap enc) gV p)
theorem Row.lt (h:Row enc gV H b p xs):b<H.length:=(aKk.1 h).1
theorem Row.pre (h:Row enc gV H b p xs) (hp:H <+: H'):Row enc gV H' b p xs:=by
 obtain⟨L,rfl⟩:=hp
 unfold Row
 rw[SS h.lt]
 exact h
theorem Row.elem (h:Row enc gV H b p xs) (e:Mf enc gV) {i:Nat} {x:α} (hx:xs[i]? = some x):F6 H b (i*gV) (enc x):=by
 refine⟨h.lt,?_⟩
 have hi:=(aKk.1 hx).1
 have hm:(i+1)*gV≤xs.length*gV:=aKM _ hi
 rw[aLa] at hm
 rw[CV h (by rw[e.len,Pp e];omega),Lh e,e.len]
 have:=Rt (xs:=xs.drop i) e 1
 rw[Nat.one_mul] at this
 rw[this,aKq hi]
 rw[aKs hi] at hx
 injection hx with hx
 simp[hx]
theorem Row.arr (h:Row enc gV H b p xs) (e:Mf enc gV) {n:Nat} (hn:n≤xs.length):Arr enc gV H (some ⟨b,0,none⟩) n (xs.take n):=by
 refine⟨by simp;omega,fun i x hx=>⟨b,0,rfl,?_⟩⟩
 rw[Nat.zero_add]
 refine h.elem e ?_
 rw[List.getElem?_take] at hx
 split at hx
 ·exact hx
 ·cases hx
theorem Row.store (h:Row enc gV H b p xs) (e:Mf enc gV) {i:Nat} {x:α} {u:Value} (hu:aV u=enc x) (hi:i<xs.length) (hl:lo≤b):HU lo gV (.pointer (some ⟨b,i*gV,none⟩)) u H=some (undef,H.set b (.row ((xs.set i x).flatMap enc) gV p)):=by
 simp only[HU,aJ.write,hu,e.len,if_true]
 have h':H[b]? = some (.row (xs.flatMap enc) gV p):=h
 have hm:(i+1)*gV≤xs.length*gV:=aKM _ hi
 rw[aLa] at hm
 simp only[h']
 rw[if_pos ⟨hl,by rw[Pp e];omega,e.sc x⟩,TR e x hi]
 rfl
theorem Row.set (h:Row enc gV H b p xs) (ys:List α):Row enc gV (H.set b (.row (ys.flatMap enc) gV p)) b p ys:=by
 unfold Row
 rw[List.getElem?_set_self h.lt]
theorem T5 (e:Mf enc gV) {n:Nat} {x:α}:dG n (enc x)=(aLb n x).flatMap enc:=by
 have lR:=e.pos
 have hlen:=e.len x
 apply List.ext_getElem?
 intro i
 unfold dG
 rw[List.getElem?_map,hlen]
 rcases aKo i (n*gV) with hi | hi
 ·rw[List.getElem?_range hi]
  have hq:i / gV<n:=Nat.div_lt_of_lt_mul (by rw[Nat.mul_comm];exact hi)
  have h1:((aLb n x).flatMap enc)[i]? = (((aLb n x).flatMap enc).drop (i / gV*gV))[i % gV]? := by
   rw[aKj]
   congr 1
   rw[Nat.mul_comm]
   exact(Nat.div_add_mod i gV).symm
  have hr:i % gV<(enc x).length:=by rw[hlen];exact Nat.mod_lt _ (by omega)
  rw[h1,Lh e,List.drop_replicate,show n-i / gV=(n-i / gV-1)+1 by omega,List.replicate_succ,aK9,aKC hr]
  simp[aKi,aKs hr]
 ·rw[aKL (by simpa using hi),aKL (by rw[Pp e];simpa using hi)]
  rfl
theorem Row.top {K:aJ}:Row enc gV (H ++ .row (xs.flatMap enc) gV p::K) H.length p xs:=Zc
end
end Go.PM
namespace Go.PM
section
variable {H L:aJ} {lo k o size:Nat} {agg:Bool} {u:Value}
end
end Go.PM
namespace Go.Proofs
open Go.Shelf
def Ou:Go.Shelf.Ren:=⟨fun | 156=>217 | 165=>232 | 166=>233 | 169=>235 | 240=>245 | 241=>246 | 276=>253 | 277=>254 | n=>n,fun | 31=>33 | 9=>9 | 3=>3 | 4=>4 | 0=>0 | 20=>20 | 72=>262 | 76=>264 | 70=>260 | 37=>187 | 75=>220 | 127=>276 | 164=>285 | 5=>5 | 80=>227 | n=>n,fun | n=>n⟩
theorem YH:Go.Proofs.Lays.n156 Tryz.prog Ou:={
 mixed:=by kernel_rfl
 f156:=Tryz.func217.trans (congrArg some (by kernel_rfl))
 f165:=Tryz.func232.trans (congrArg some (by kernel_rfl))
 f166:=Tryz.func233.trans (congrArg some (by kernel_rfl))
 f169:=Tryz.func235.trans (congrArg some (by kernel_rfl))
 f240:=Tryz.func245.trans (congrArg some (by kernel_rfl))
 f241:=Tryz.func246.trans (congrArg some (by kernel_rfl))
 f276:=Tryz.func253.trans (congrArg some (by kernel_rfl))
 f277:=Tryz.func254.trans (congrArg some (by kernel_rfl))
 t0:=Tryz.underlying0
 a0:=Tryz.isAgg0
 z0:=Tryz.sizeOf0
 v0:=Tryz.zeroValue0
 t3:=Tryz.underlying3
 a3:=Tryz.isAgg3
 z3:=Tryz.sizeOf3
 v3:=Tryz.zeroValue3
 t4:=Tryz.underlying4
 a4:=Tryz.isAgg4
 z4:=Tryz.sizeOf4
 v4:=Tryz.zeroValue4
 t9:=Tryz.underlying9
 a9:=Tryz.isAgg9
 z9:=Tryz.sizeOf9
 v9:=Tryz.zeroValue9
 t20:=Tryz.underlying20
 a20:=Tryz.isAgg20
 z20:=Tryz.sizeOf20
 v20:=Tryz.zeroValue20
 t31:=Tryz.underlying33
 a31:=Tryz.isAgg33
 z31:=Tryz.sizeOf33
 v31:=Tryz.zeroValue33
 t37:=Tryz.underlying187
 a37:=Tryz.isAgg187
 z37:=Tryz.sizeOf187
 v37:=Tryz.zeroValue187
 t70:=Tryz.underlying260
 a70:=Tryz.isAgg260
 z70:=Tryz.sizeOf260
 v70:=Tryz.zeroValue260
 t72:=Tryz.underlying262
 a72:=Tryz.isAgg262
 z72:=Tryz.sizeOf262
 v72:=Tryz.zeroValue262
 t75:=Tryz.underlying220
 a75:=Tryz.isAgg220
 z75:=Tryz.sizeOf220
 v75:=Tryz.zeroValue220
 t76:=Tryz.underlying264
 a76:=Tryz.isAgg264
 z76:=Tryz.sizeOf264
 v76:=Tryz.zeroValue264
 t127:=Tryz.underlying276
 a127:=Tryz.isAgg276
 z127:=Tryz.sizeOf276
 v127:=Tryz.zeroValue276
 t164:=Tryz.underlying285
 a164:=Tryz.isAgg285
 z164:=Tryz.sizeOf285
 v164:=Tryz.zeroValue285 }
theorem SI:Builder.Extra Tryz.prog Ou:={
 sizeBuilder:=by kernel_rfl
 liesBuilder:=by kernel_rfl
 t5:=Tryz.underlying5
 a5:=Tryz.isAgg5
 z5:=Tryz.sizeOf5
 v5:=Tryz.zeroValue5
 infoByte:=by kernel_rfl
 cellsByte:=by kernel_rfl
 sizeByte:=by kernel_rfl
 neB5:=by decide }
def XW:Go.Shelf.Ren:=⟨fun | 133=>198 | 128=>218 | n=>n,fun | 51=>206 | 3=>3 | 4=>4 | 46=>207 | 5=>5 | 9=>9 | n=>n,fun | n=>n⟩
theorem ayF:Go.Proofs.Lays.n133 Tryz.prog XW:={
 mixed:=by kernel_rfl
 f128:=Tryz.func218.trans (congrArg some (by kernel_rfl))
 f133:=Tryz.func198.trans (congrArg some (by kernel_rfl))
 t3:=Tryz.underlying3
 a3:=Tryz.isAgg3
 z3:=Tryz.sizeOf3
 v3:=Tryz.zeroValue3
 t4:=Tryz.underlying4
 a4:=Tryz.isAgg4
 z4:=Tryz.sizeOf4
 v4:=Tryz.zeroValue4
 t5:=Tryz.underlying5
 a5:=Tryz.isAgg5
 z5:=Tryz.sizeOf5
 v5:=Tryz.zeroValue5
 t9:=Tryz.underlying9
 a9:=Tryz.isAgg9
 z9:=Tryz.sizeOf9
 v9:=Tryz.zeroValue9
 t46:=Tryz.underlying207
 a46:=Tryz.isAgg207
 z46:=Tryz.sizeOf207
 v46:=Tryz.zeroValue207
 t51:=Tryz.underlying206
 a51:=Tryz.isAgg206
 z51:=Tryz.sizeOf206
 v51:=Tryz.zeroValue206 }
def XE:Go.Shelf.Ren:=⟨fun | 283=>241 | n=>n,fun | 3=>3 | 9=>9 | 4=>4 | n=>n,fun | n=>n⟩
theorem axT:Go.Proofs.Lays.n283 Tryz.prog XE:={
 mixed:=by kernel_rfl
 f283:=Tryz.func241.trans (congrArg some (by kernel_rfl))
 t3:=Tryz.underlying3
 a3:=Tryz.isAgg3
 z3:=Tryz.sizeOf3
 v3:=Tryz.zeroValue3
 t4:=Tryz.underlying4
 a4:=Tryz.isAgg4
 z4:=Tryz.sizeOf4
 v4:=Tryz.zeroValue4
 t9:=Tryz.underlying9
 a9:=Tryz.isAgg9
 z9:=Tryz.sizeOf9
 v9:=Tryz.zeroValue9 }
def Xf:Go.Shelf.Ren:=⟨fun | 284=>242 | 129=>249 | 317=>248 | 318=>250 | n=>n,fun | 53=>171 | 3=>3 | 212=>281 | 0=>0 | 4=>4 | 46=>207 | 5=>5 | 9=>9 | n=>n,fun | 17=>3 | n=>n⟩
theorem awZ:Go.Proofs.LaysM.n284 Tryz.prog Xf:={
 mixed:=by kernel_rfl
 f129:=Tryz.func249.trans (congrArg some (by kernel_rfl))
 f284:=Tryz.func242.trans (congrArg some (by kernel_rfl))
 f317:=Tryz.func248.trans (congrArg some (by kernel_rfl))
 f318:=Tryz.func250.trans (congrArg some (by kernel_rfl))
 t0:=Tryz.underlying0
 a0:=Tryz.isAgg0
 z0:=Tryz.sizeOf0
 v0:=Tryz.zeroValue0
 t3:=Tryz.underlying3
 a3:=Tryz.isAgg3
 z3:=Tryz.sizeOf3
 v3:=Tryz.zeroValue3
 t4:=Tryz.underlying4
 a4:=Tryz.isAgg4
 z4:=Tryz.sizeOf4
 v4:=Tryz.zeroValue4
 t5:=Tryz.underlying5
 a5:=Tryz.isAgg5
 z5:=Tryz.sizeOf5
 v5:=Tryz.zeroValue5
 t9:=Tryz.underlying9
 a9:=Tryz.isAgg9
 z9:=Tryz.sizeOf9
 v9:=Tryz.zeroValue9
 t46:=Tryz.underlying207
 a46:=Tryz.isAgg207
 z46:=Tryz.sizeOf207
 v46:=Tryz.zeroValue207
 t53:=Tryz.underlying171
 a53:=Tryz.isAgg171
 z53:=Tryz.sizeOf171
 v53:=Tryz.zeroValue171
 t212:=Tryz.underlying281
 a212:=Tryz.isAgg281
 z212:=Tryz.sizeOf281
 v212:=Tryz.zeroValue281
 g17:=by kernel_rfl
 i0:=by kernel_rfl
 i3:=by kernel_rfl
 i4:=by kernel_rfl
 i5:=by kernel_rfl
 i9:=by kernel_rfl
 i46:=by kernel_rfl
 i53:=by kernel_rfl
 i212:=by kernel_rfl
 m17:=by kernel_rfl }
def Yi:Go.Shelf.Ren:=⟨fun | 285=>243 | n=>n,fun | 37=>187 | 53=>171 | 3=>3 | 4=>4 | 51=>206 | 9=>9 | 5=>5 | 0=>0 | n=>n,fun | n=>n⟩
theorem ayL:Go.Proofs.Lays.n285 Tryz.prog Yi:={
 mixed:=by kernel_rfl
 f285:=Tryz.func243.trans (congrArg some (by kernel_rfl))
 t0:=Tryz.underlying0
 a0:=Tryz.isAgg0
 z0:=Tryz.sizeOf0
 v0:=Tryz.zeroValue0
 t3:=Tryz.underlying3
 a3:=Tryz.isAgg3
 z3:=Tryz.sizeOf3
 v3:=Tryz.zeroValue3
 t4:=Tryz.underlying4
 a4:=Tryz.isAgg4
 z4:=Tryz.sizeOf4
 v4:=Tryz.zeroValue4
 t5:=Tryz.underlying5
 a5:=Tryz.isAgg5
 z5:=Tryz.sizeOf5
 v5:=Tryz.zeroValue5
 t9:=Tryz.underlying9
 a9:=Tryz.isAgg9
 z9:=Tryz.sizeOf9
 v9:=Tryz.zeroValue9
 t37:=Tryz.underlying187
 a37:=Tryz.isAgg187
 z37:=Tryz.sizeOf187
 v37:=Tryz.zeroValue187
 t51:=Tryz.underlying206
 a51:=Tryz.isAgg206
 z51:=Tryz.sizeOf206
 v51:=Tryz.zeroValue206
 t53:=Tryz.underlying171
 a53:=Tryz.isAgg171
 z53:=Tryz.sizeOf171
 v53:=Tryz.zeroValue171 }
def Ua:Go.Shelf.Ren:=⟨fun | 14=>192 | 16=>211 | 17=>212 | 19=>224 | 20=>225 | 21=>226 | 22=>227 | 23=>228 | 24=>229 | 25=>238 | 27=>240 | 26=>239 | 28=>247 | 29=>255 | 30=>241 | 31=>242 | 32=>243 | 33=>244 | 35=>249 | 34=>248 | 36=>250 | 37=>251 | 38=>252 | 39=>256 | 40=>257 | n=>n,fun | 9=>9 | 3=>3 | 22=>171 | 24=>220 | 25=>221 | 4=>4 | 34=>255 | 5=>5 | 36=>207 | 37=>187 | 0=>0 | 39=>257 | 21=>21 | 44=>269 | 47=>276 | 50=>279 | 48=>277 | 2=>2 | 52=>271 | 55=>274 | 59=>281 | 60=>206 | 20=>20 | 61=>282 | 65=>289 | 66=>290 | 67=>227 | n=>n,fun | 0=>1 | 1=>2 | 2=>3 | 3=>4 | 4=>5 | n=>n⟩
theorem atL:Go.Proofs.LaysPu.n14 Tryz.prog Ua:={
 mixed:=by kernel_rfl
 f14:=Tryz.func192.trans (congrArg some (by kernel_rfl))
 f16:=Tryz.func211.trans (congrArg some (by kernel_rfl))
 f17:=Tryz.func212.trans (congrArg some (by kernel_rfl))
 f19:=Tryz.func224.trans (congrArg some (by kernel_rfl))
 f20:=Tryz.func225.trans (congrArg some (by kernel_rfl))
 f21:=Tryz.func226.trans (congrArg some (by kernel_rfl))
 f22:=Tryz.func227.trans (congrArg some (by kernel_rfl))
 f23:=Tryz.func228.trans (congrArg some (by kernel_rfl))
 f24:=Tryz.func229.trans (congrArg some (by kernel_rfl))
 f25:=Tryz.func238.trans (congrArg some (by kernel_rfl))
 f26:=Tryz.func239.trans (congrArg some (by kernel_rfl))
 f27:=Tryz.func240.trans (congrArg some (by kernel_rfl))
 f28:=Tryz.func247.trans (congrArg some (by kernel_rfl))
 f29:=Tryz.func255.trans (congrArg some (by kernel_rfl))
 f30:=Tryz.func241.trans (congrArg some (by kernel_rfl))
 f31:=Tryz.func242.trans (congrArg some (by kernel_rfl))
 f32:=Tryz.func243.trans (congrArg some (by kernel_rfl))
 f33:=Tryz.func244.trans (congrArg some (by kernel_rfl))
 f34:=Tryz.func248.trans (congrArg some (by kernel_rfl))
 f35:=Tryz.func249.trans (congrArg some (by kernel_rfl))
 f36:=Tryz.func250.trans (congrArg some (by kernel_rfl))
 f37:=Tryz.func251.trans (congrArg some (by kernel_rfl))
 f38:=Tryz.func252.trans (congrArg some (by kernel_rfl))
 f39:=Tryz.func256.trans (congrArg some (by kernel_rfl))
 f40:=Tryz.func257.trans (congrArg some (by kernel_rfl))
 t0:=Tryz.underlying0
 a0:=Tryz.isAgg0
 z0:=Tryz.sizeOf0
 v0:=Tryz.zeroValue0
 i0:=by kernel_rfl
 t2:=Tryz.underlying2
 a2:=Tryz.isAgg2
 z2:=Tryz.sizeOf2
 v2:=Tryz.zeroValue2
 i2:=by kernel_rfl
 t3:=Tryz.underlying3
 a3:=Tryz.isAgg3
 z3:=Tryz.sizeOf3
 v3:=Tryz.zeroValue3
 i3:=by kernel_rfl
 t4:=Tryz.underlying4
 a4:=Tryz.isAgg4
 z4:=Tryz.sizeOf4
 v4:=Tryz.zeroValue4
 i4:=by kernel_rfl
 t5:=Tryz.underlying5
 a5:=Tryz.isAgg5
 z5:=Tryz.sizeOf5
 v5:=Tryz.zeroValue5
 i5:=by kernel_rfl
 t9:=Tryz.underlying9
 a9:=Tryz.isAgg9
 z9:=Tryz.sizeOf9
 v9:=Tryz.zeroValue9
 i9:=by kernel_rfl
 t20:=Tryz.underlying20
 a20:=Tryz.isAgg20
 z20:=Tryz.sizeOf20
 v20:=Tryz.zeroValue20
 i20:=by kernel_rfl
 t21:=Tryz.underlying21
 a21:=Tryz.isAgg21
 z21:=Tryz.sizeOf21
 v21:=Tryz.zeroValue21
 i21:=by kernel_rfl
 t22:=Tryz.underlying171
 a22:=Tryz.isAgg171
 z22:=Tryz.sizeOf171
 v22:=Tryz.zeroValue171
 i22:=by kernel_rfl
 t24:=Tryz.underlying220
 a24:=Tryz.isAgg220
 z24:=Tryz.sizeOf220
 v24:=Tryz.zeroValue220
 i24:=by kernel_rfl
 t25:=Tryz.underlying221
 a25:=Tryz.isAgg221
 z25:=Tryz.sizeOf221
 v25:=Tryz.zeroValue221
 i25:=by kernel_rfl
 t34:=Tryz.underlying255
 a34:=Tryz.isAgg255
 z34:=Tryz.sizeOf255
 v34:=Tryz.zeroValue255
 i34:=by kernel_rfl
 c34:=by kernel_rfl
 t36:=Tryz.underlying207
 a36:=Tryz.isAgg207
 z36:=Tryz.sizeOf207
 v36:=Tryz.zeroValue207
 i36:=by kernel_rfl
 t37:=Tryz.underlying187
 a37:=Tryz.isAgg187
 z37:=Tryz.sizeOf187
 v37:=Tryz.zeroValue187
 i37:=by kernel_rfl
 t39:=Tryz.underlying257
 a39:=Tryz.isAgg257
 z39:=Tryz.sizeOf257
 v39:=Tryz.zeroValue257
 i39:=by kernel_rfl
 t44:=Tryz.underlying269
 a44:=Tryz.isAgg269
 z44:=Tryz.sizeOf269
 v44:=Tryz.zeroValue269
 i44:=by kernel_rfl
 t47:=Tryz.underlying276
 a47:=Tryz.isAgg276
 z47:=Tryz.sizeOf276
 v47:=Tryz.zeroValue276
 i47:=by kernel_rfl
 t48:=Tryz.underlying277
 a48:=Tryz.isAgg277
 z48:=Tryz.sizeOf277
 v48:=Tryz.zeroValue277
 i48:=by kernel_rfl
 t50:=Tryz.underlying279
 a50:=Tryz.isAgg279
 z50:=Tryz.sizeOf279
 v50:=Tryz.zeroValue279
 i50:=by kernel_rfl
 t52:=Tryz.underlying271
 a52:=Tryz.isAgg271
 z52:=Tryz.sizeOf271
 v52:=Tryz.zeroValue271
 i52:=by kernel_rfl
 t55:=Tryz.underlying274
 a55:=Tryz.isAgg274
 z55:=Tryz.sizeOf274
 v55:=Tryz.zeroValue274
 i55:=by kernel_rfl
 t59:=Tryz.underlying281
 a59:=Tryz.isAgg281
 z59:=Tryz.sizeOf281
 v59:=Tryz.zeroValue281
 i59:=by kernel_rfl
 t60:=Tryz.underlying206
 a60:=Tryz.isAgg206
 z60:=Tryz.sizeOf206
 v60:=Tryz.zeroValue206
 i60:=by kernel_rfl
 t61:=Tryz.underlying282
 a61:=Tryz.isAgg282
 z61:=Tryz.sizeOf282
 t65:=Tryz.underlying289
 a65:=Tryz.isAgg289
 z65:=Tryz.sizeOf289
 v65:=Tryz.zeroValue289
 i65:=by kernel_rfl
 t66:=Tryz.underlying290
 a66:=Tryz.isAgg290
 z66:=Tryz.sizeOf290
 v66:=Tryz.zeroValue290
 i66:=by kernel_rfl
 t67:=Tryz.underlying227
 a67:=Tryz.isAgg227
 z67:=Tryz.sizeOf227
 v67:=Tryz.zeroValue227
 i67:=by kernel_rfl
 g0:=by kernel_rfl
 m0:=by kernel_rfl
 g1:=by kernel_rfl
 m1:=by kernel_rfl
 g2:=by kernel_rfl
 m2:=by kernel_rfl
 g3:=by kernel_rfl
 m3:=by kernel_rfl
 g4:=by kernel_rfl
 m4:=by kernel_rfl }
def XI:Go.Shelf.Ren:=⟨fun | 219=>209 | 217=>220 | 225=>221 | 224=>222 | 267=>223 | 266=>236 | 314=>237 | n=>n,fun | 9=>9 | 3=>3 | 4=>4 | 5=>5 | 46=>207 | 146=>240 | 51=>206 | n=>n,fun | 1=>0 | n=>n⟩
theorem ayO:Go.Proofs.Lays.n219 Tryz.prog XI:={
 mixed:=by kernel_rfl
 f217:=Tryz.func220.trans (congrArg some (by kernel_rfl))
 f219:=Tryz.func209.trans (congrArg some (by kernel_rfl))
 f224:=Tryz.func222.trans (congrArg some (by kernel_rfl))
 f225:=Tryz.func221.trans (congrArg some (by kernel_rfl))
 f266:=Tryz.func236.trans (congrArg some (by kernel_rfl))
 f267:=Tryz.func223.trans (congrArg some (by kernel_rfl))
 f314:=Tryz.func237.trans (congrArg some (by kernel_rfl))
 t3:=Tryz.underlying3
 a3:=Tryz.isAgg3
 z3:=Tryz.sizeOf3
 v3:=Tryz.zeroValue3
 t4:=Tryz.underlying4
 a4:=Tryz.isAgg4
 z4:=Tryz.sizeOf4
 v4:=Tryz.zeroValue4
 t5:=Tryz.underlying5
 a5:=Tryz.isAgg5
 z5:=Tryz.sizeOf5
 v5:=Tryz.zeroValue5
 t9:=Tryz.underlying9
 a9:=Tryz.isAgg9
 z9:=Tryz.sizeOf9
 v9:=Tryz.zeroValue9
 t46:=Tryz.underlying207
 a46:=Tryz.isAgg207
 z46:=Tryz.sizeOf207
 v46:=Tryz.zeroValue207
 t51:=Tryz.underlying206
 a51:=Tryz.isAgg206
 z51:=Tryz.sizeOf206
 v51:=Tryz.zeroValue206
 t146:=Tryz.underlying240
 a146:=Tryz.isAgg240
 z146:=Tryz.sizeOf240
 v146:=Tryz.zeroValue240
 g1:=by kernel_rfl }
def Pz:Go.Shelf.Ren:=⟨fun | 105=>215 | 212=>187 | 99=>231 | 165=>232 | 166=>233 | 170=>234 | 169=>235 | 263=>206 | 264=>207 | 206=>210 | 240=>245 | 241=>246 | 276=>253 | 277=>254 | n=>n,fun | 9=>9 | 3=>3 | 4=>4 | 20=>20 | 0=>0 | 46=>207 | 109=>215 | 5=>5 | 72=>262 | 76=>264 | 51=>206 | 146=>240 | 53=>171 | 148=>242 | 70=>260 | 37=>187 | 75=>220 | 127=>276 | 164=>285 | 80=>227 | n=>n,fun | n=>n⟩
theorem ayV:Go.Proofs.Lays.n105 Tryz.prog Pz:={
 mixed:=by kernel_rfl
 f99:=Tryz.func231.trans (congrArg some (by kernel_rfl))
 f105:=Tryz.func215.trans (congrArg some (by kernel_rfl))
 f165:=Tryz.func232.trans (congrArg some (by kernel_rfl))
 f166:=Tryz.func233.trans (congrArg some (by kernel_rfl))
 f169:=Tryz.func235.trans (congrArg some (by kernel_rfl))
 f170:=Tryz.func234.trans (congrArg some (by kernel_rfl))
 f206:=Tryz.func210.trans (congrArg some (by kernel_rfl))
 f212:=Tryz.func187.trans (congrArg some (by kernel_rfl))
 f240:=Tryz.func245.trans (congrArg some (by kernel_rfl))
 f241:=Tryz.func246.trans (congrArg some (by kernel_rfl))
 f263:=Tryz.func206.trans (congrArg some (by kernel_rfl))
 f264:=Tryz.func207.trans (congrArg some (by kernel_rfl))
 f276:=Tryz.func253.trans (congrArg some (by kernel_rfl))
 f277:=Tryz.func254.trans (congrArg some (by kernel_rfl))
 t0:=Tryz.underlying0
 a0:=Tryz.isAgg0
 z0:=Tryz.sizeOf0
 v0:=Tryz.zeroValue0
 t3:=Tryz.underlying3
 a3:=Tryz.isAgg3
 z3:=Tryz.sizeOf3
 v3:=Tryz.zeroValue3
 t4:=Tryz.underlying4
 a4:=Tryz.isAgg4
 z4:=Tryz.sizeOf4
 v4:=Tryz.zeroValue4
 t5:=Tryz.underlying5
 a5:=Tryz.isAgg5
 z5:=Tryz.sizeOf5
 v5:=Tryz.zeroValue5
 t9:=Tryz.underlying9
 a9:=Tryz.isAgg9
 z9:=Tryz.sizeOf9
 v9:=Tryz.zeroValue9
 t20:=Tryz.underlying20
 a20:=Tryz.isAgg20
 z20:=Tryz.sizeOf20
 v20:=Tryz.zeroValue20
 t37:=Tryz.underlying187
 a37:=Tryz.isAgg187
 z37:=Tryz.sizeOf187
 v37:=Tryz.zeroValue187
 t46:=Tryz.underlying207
 a46:=Tryz.isAgg207
 z46:=Tryz.sizeOf207
 v46:=Tryz.zeroValue207
 t51:=Tryz.underlying206
 a51:=Tryz.isAgg206
 z51:=Tryz.sizeOf206
 v51:=Tryz.zeroValue206
 t53:=Tryz.underlying171
 a53:=Tryz.isAgg171
 z53:=Tryz.sizeOf171
 v53:=Tryz.zeroValue171
 t70:=Tryz.underlying260
 a70:=Tryz.isAgg260
 z70:=Tryz.sizeOf260
 v70:=Tryz.zeroValue260
 t72:=Tryz.underlying262
 a72:=Tryz.isAgg262
 z72:=Tryz.sizeOf262
 v72:=Tryz.zeroValue262
 t75:=Tryz.underlying220
 a75:=Tryz.isAgg220
 z75:=Tryz.sizeOf220
 v75:=Tryz.zeroValue220
 t76:=Tryz.underlying264
 a76:=Tryz.isAgg264
 z76:=Tryz.sizeOf264
 v76:=Tryz.zeroValue264
 t109:=Tryz.underlying215
 a109:=Tryz.isAgg215
 z109:=Tryz.sizeOf215
 v109:=Tryz.zeroValue215
 t127:=Tryz.underlying276
 a127:=Tryz.isAgg276
 z127:=Tryz.sizeOf276
 v127:=Tryz.zeroValue276
 t146:=Tryz.underlying240
 a146:=Tryz.isAgg240
 z146:=Tryz.sizeOf240
 v146:=Tryz.zeroValue240
 t148:=Tryz.underlying242
 a148:=Tryz.isAgg242
 z148:=Tryz.sizeOf242
 v148:=Tryz.zeroValue242
 t164:=Tryz.underlying285
 a164:=Tryz.isAgg285
 z164:=Tryz.sizeOf285
 v164:=Tryz.zeroValue285 }
theorem apX:Builder.Extra Tryz.prog Pz:={
 sizeBuilder:=by kernel_rfl
 liesBuilder:=by kernel_rfl
 t5:=Tryz.underlying5
 a5:=Tryz.isAgg5
 z5:=Tryz.sizeOf5
 v5:=Tryz.zeroValue5
 infoByte:=by kernel_rfl
 cellsByte:=by kernel_rfl
 sizeByte:=by kernel_rfl
 neB5:=by decide }
end Go.Proofs
namespace Go.Proofs
open Go.Shelf Go.RowKit Go.Sort Go.Lib
abbrev XF:UInt8→Value:=fun b=>Value.int .u8 (b.toNat:Int)
theorem acL (w:World) (T:TypeId) (nd:Nat) (hs:nd≤24):Holds XF (w.alloc (.cells Lib.zeros24 T)) w.heap.size 0 (aK3 nd (0:UInt8)):=fun j hj=>by
 have hj':j<nd:=by simpa using hj
 refine⟨?_,World.frozen?_alloc_new _ _ _ _⟩
 rw[World.cell?_alloc_new,Lib.zeros24_at _ (by omega),getElem!_pos _ j hj]
 simp
theorem Dq (w:World) (o:Obj) (dk:Array UInt8) (k:Nat):Below w.heap.size w ((putRow XF (w.alloc o) w.heap.size 0 dk).drewN k):=by
 rw[alloc_eq_grow]
 obtain⟨os',_,e⟩:=putRow_grow_new XF w #[o] w.heap.size 0 dk (aKl _)
 rw[e]
 refine⟨rfl,rfl,rfl,by show w.heap.size≤(w.heap++os').size;simp,fun i hi => ?_⟩
 show (w.heap++os')[i]? = _
 rw[aK4 hi]
set_option maxHeartbeats 6400000 in
set_option maxRecDepth 100000 in
theorem azY (u:Nat) (anP:u<18446744073709551616) (w:World) (avO:Lib.TabIs Tryz.prog w "internal/strconv.uint64pow10" .u64 Lib.pow10Tab) :
  Calls Tryz.prog 230 #[.int .u64 u,.int .i64 10] w fun e w'=>e = .returned (.string ⟨(Lib.decDigits u).toArray⟩)∧Below w.heap.size w w':=by
 by_cases hs:u<100
 ·go_enter Tryz.func230,Tryz.ntmps230
  go_wp2_with (go_at_call 241;refine(Any.internal_strconv_small axT u hs _).mono ?_;rintro e w' ⟨rfl,rfl⟩)
  go_ret
  exact⟨rfl,Below.refl _ _⟩
 ·have hu1:1≤u:=by omega
  have aFU:Lib.nDigits u≤20:=by have:=Lib.numDigits_eq u hu1 anP;split at this<;>omega
  have hH0:=acL w 271 (Lib.nDigits u) (by omega)
  have aAJ:=Any.internal_strconv_formatBase10 ayL w.heap.size 0 24 u (aK3 (Lib.nDigits u) 0) (w.alloc (.cells Lib.zeros24 271)) hH0 (by rw[aLc];exact Lib.lt_pow_nDigits u) anP (by rw[aLc];omega)
  rw[aLc] at aAJ
  have HH0:=Lib.hid hH0
  have hal:Tryz.prog.arrayLen 271=24:=by simp[Program.arrayLen,Tryz.underlying271]
  have S7:∀W,(Instr.sliceAt 271 (.pointer (some ⟨w.heap.size,0,none⟩)) none (some (.int .i64 (Lib.nDigits u:Int))) none).run Tryz.prog W = .ok (.slice (some ⟨w.heap.size,0,none⟩) (Lib.nDigits u) 24) W:=fun W=>by
   rw[run_sliceAt_array_h W 271 ⟨w.heap.size,0,none⟩ (by simp[Program.arrayLen,Program.elem,Tryz.underlying271]) .i64 (Lib.nDigits u:Int) (by omega) (by rw[hal];omega)]
   go_simp
  clear hH0 hal
  go_enter Tryz.func230,Tryz.ntmps230
  go_wp2_with (first
   | (go_at_call 242;refine(Any.internal_strconv_numDigits awZ u hu1 anP _ (Lib.tabIs_alloc avO _)).mono ?_;rintro e w' ⟨rfl,rfl⟩))
  go_at_call 243
  refine aAJ.mono ?_
  rintro e w' ⟨rfl,k,v',dk,rfl,hF⟩
  have hcv:(convert 187 9 (.slice (some ⟨w.heap.size,0,none⟩) (Lib.nDigits u) 24)).run Tryz.prog ((putRow XF (w.alloc (.cells Lib.zeros24 271)) w.heap.size 0 dk).drewN k) = .ok (.string ⟨(Lib.decDigits u).toArray⟩) ((putRow XF (w.alloc (.cells Lib.zeros24 271)) w.heap.size 0 dk).drewN k):=by
   have h:=run_convert_bytes_back (P:=Tryz.prog) ((putRow XF (w.alloc (.cells Lib.zeros24 271)) w.heap.size 0 dk).drewN k) 187 9 5 ⟨w.heap.size,0,none⟩ 24 (Lib.decDigits u) Tryz.underlying187 Tryz.underlying5 Tryz.underlying9 (fun j hj=>by
    rw[Lib.row_is_numeral hF j hj,Lib.add_plain,World.cell?_drewN]
    exact cell?_putRow XF _ w.heap.size 0 _ dk HH0.out (by rw[hF.size,aLc]) j (by rw[hF.size];rw[Lib.decDigits_length] at hj;exact hj))
   rw[Lib.decDigits_length] at h
   exact h
  go_wp2
  go_ret
  exact⟨rfl,Dq w _ dk k⟩
theorem anQ (u:Nat) (anP:u<18446744073709551616) (w:World) (avO:Lib.TabIs Tryz.prog w "internal/strconv.uint64pow10" .u64 Lib.pow10Tab) :
  Calls Tryz.prog 214 #[.int .u64 u,.int .i64 10] w fun e w'=>e = .returned (.string ⟨(Lib.decDigits u).toArray⟩)∧Below w.heap.size w w':=by
 go_enter Tryz.func214,Tryz.ntmps214
 go_wp2_with (go_at_call 230;refine(azY u anP _ avO).mono ?_;rintro e w' ⟨rfl,hb⟩)
 go_ret
 exact⟨rfl,hb⟩
end Go.Proofs
namespace Go.PM
open Go.Proofs Go.RowKit
theorem Below.De {w w':World} (h:Below w.heap.size w w'):w.heap.size≤w'.heap.size∧(∀rb,rb<w.heap.size→w'.heap[rb]? = w.heap[rb]?)∧w'.os=w.os∧w'.output=w.output∧w'.tape=w.tape :=
 ⟨h.size,h.block,h.os,h.output,h.tape⟩
theorem CZ {w:World}:w.heap.size≤w.heap.size∧(∀rb,rb<w.heap.size→w.heap[rb]? = w.heap[rb]?)∧w.os=w.os∧w.output=w.output∧w.tape=w.tape :=
 ⟨aKl _,fun _ _=>rfl,rfl,rfl,rfl⟩
def Gd (f:Nat) (p:List Value→aJ→Option Value):Prop :=
 Oc Tryz.prog f∧∀L0 args H v,p args H=some v→∀m w iV,Rel m L0 H w→RL m args iV →
  Calls Tryz.prog f iV.toArray w fun e w'=>∃rv,e = .returned rv∧RV m v rv∧w.heap.size≤w'.heap.size∧(∀rb,rb<w.heap.size→w'.heap[rb]? = w.heap[rb]?)∧w'.os=w.os∧w'.output=w.output∧w'.tape=w.tape
theorem RL.one {m:dL} {x:Value} {ys:List Value} (h:RL m [x] ys):∃y,ys=[y]∧RV m x y:=by
 match ys,h with
 | [y],h=>exact⟨y,rfl,h.lP.1⟩
 | [],h=>exact absurd h.1 (by simp)
 | _::_::_,h=>exact absurd h.1 (by simp)
theorem RL.two {m:dL} {x x':Value} {ys:List Value} (h:RL m [x,x'] ys):∃y y',ys=[y,y']∧RV m x y∧RV m x' y':=by
 match ys,h with
 | [y,y'],h=>exact⟨y,y',rfl,h.lP.1,h.lP.2.lP.1⟩
 | [],h=>exact absurd h.1 (by simp)
 | [_],h=>exact absurd h.1 (by simp)
 | _::_::_::_,h=>exact absurd h.1 (by simp)
theorem RL.three {m:dL} {x x' x'':Value} {ys:List Value} (h:RL m [x,x',x''] ys):∃y y' y'',ys=[y,y',y'']∧RV m x y∧RV m x' y'∧RV m x'' y'':=by
 match ys,h with
 | [y,y',y''],h=>exact⟨y,y',y'',rfl,h.lP.1,h.lP.2.lP.1,h.lP.2.lP.2.lP.1⟩
 | [],h=>exact absurd h.1 (by simp)
 | [_],h=>exact absurd h.1 (by simp)
 | [_,_],h=>exact absurd h.1 (by simp)
 | _::_::_::_::_,h=>exact absurd h.1 (by simp)
theorem Hg {m:dL}:∀ {cs rs:List Value} {xs:List ByteArray},strCells cs=some xs→RL m cs rs→rs=xs.map .string
 |
  [],rs,xs,h,hr=>by
  cases h
  match rs,hr with
  | [],_=>rfl
  | _::_,hr=>exact absurd hr.1 (by simp)
 |
  c::cs,rs,xs,h,hr=>by
  match rs,hr with
  | [],hr=>exact absurd hr.1 (by simp)
  |
   r::rs,hr =>
   obtain⟨h1,h2⟩:=hr.lP
   cases c with
   |
    string s =>
    rw[strCells] at h
    cases hc:strCells cs with
    | none=>rw[hc] at h;cases h
    |
     some ys =>
     rw[hc] at h
     cases h
     cases h1
     rw[Hg hc h2]
     rfl
   | _=>cases h
theorem LP:Gd 198 Fh:=by
 refine⟨⟨_,Tryz.func198,by kernel_rfl,by kernel_rfl⟩,fun L0 args H v hp m w iV hR hr => ?_⟩
 unfold Fh at hp
 split at hp
 case h_2=>cases hp
 rename_i x
 split at hp
 case isFalse=>cases hp
 rename_i hx
 cases hp
 obtain⟨y,rfl,h1⟩:=hr.one
 cases h1
 refine(Any.bits_LeadingZeros32 ayF x w hx.1 hx.2).mono ?_
 rintro e w' ⟨rfl,rfl⟩
 exact⟨_,rfl,.int _ _,CZ⟩
theorem O4:Gd 215 Jn:=by
 refine⟨⟨_,Tryz.func215,by kernel_rfl,by kernel_rfl⟩,fun L0 args H v hp m w iV hR hr => ?_⟩
 unfold Jn at hp
 split at hp
 case h_2=>cases hp
 rename_i s c
 split at hp
 case isFalse=>cases hp
 rename_i hx
 cases hp
 obtain⟨y,y',rfl,h1,h2⟩:=hr.two
 cases h1
 cases h2
 obtain⟨k,rfl⟩:∃k:Nat,c=k:=⟨c.toNat,by omega⟩
 refine(Any.strings_Repeat ayV apX s k w (by omega) hx.2.2).mono ?_
 rintro e w' ⟨rfl,hb⟩
 exact⟨_,rfl,.str _,Below.De hb⟩
theorem Vi:Gd 217 TP:=by
 refine⟨⟨_,Tryz.func217,by kernel_rfl,by kernel_rfl⟩,fun L0 args H v hp m w iV hR hr => ?_⟩
 unfold TP at hp
 split at hp
 case h_3=>cases hp
 ·cases hp
  obtain⟨y,y',rfl,h1,h2⟩:=hr.two
  cases h1
  cases h2
  refine(Any.strings_Join_none YH SI none 0 _ w).mono ?_
  rintro e w' ⟨rfl,rfl⟩
  exact⟨_,rfl,.str _,CZ⟩
 ·rename_i b o n c sep
  obtain⟨y,y',rfl,h1,h2⟩:=hr.two
  cases h2
  cases h1 with
  |
   slice _ _ _ _ l ra rc h hn hc hx ha =>
   split at hp
   ·rename_i hn0
    subst hn0
    cases hp
    refine(Any.strings_Join_none YH SI (some ra) rc _ w).mono ?_
    rintro e w' ⟨rfl,rfl⟩
    exact⟨_,rfl,.str _,CZ⟩
   ·rename_i hn0
    split at hp
    case h_2=>cases hp
    rename_i xs Na
    split at hp
    case isFalse=>cases hp
    rename_i T4
    cases hp
    obtain⟨cs,Hm,MD⟩:=Option.bind_eq_some_iff.1 Na
    obtain⟨rs,r1,r2,_,r4⟩:=A5 hR h Hm
    have hrs:=Hg MD r1
    subst hrs
    rcases ha with ha | ⟨rfl,ha⟩
    ·omega
    obtain⟨arr,e0,fz0,v1,_⟩:=hR.valid b l h
    have DO:l.rb<w.heap.size:=(aKu.1 v1).1
    obtain⟨c1,c2,c3,c4⟩:=T4
    subst c1
    refine(Any.strings_Join YH SI l.rb (l.base+o) rc xs sep w (fun j x hj => ?_) DO c3 (by omega) c4).mono ?_
    ·have:=r4 j (.string x) (by simp[hj])
     rw[Addr.add_lit] at this
     exact this
    ·rintro e w' ⟨rfl,hb⟩
     exact⟨_,rfl,.str _,Below.De hb⟩
theorem X4 {m:dL} {L0:Nat} {H:aJ} {w:World} (hR:Rel m L0 H w):Lib.TabIs Tryz.prog w "internal/strconv.uint64pow10" .u64 Lib.pow10Tab:=by
 obtain⟨e,fz,h⟩:=(hR.FY (3,(Lib.pow10Tab.map fun z=>Value.int .u64 z).toArray) (by simp[atK])).1
 have hg:Tryz.prog.globalNamed "internal/strconv.uint64pow10"=some 3:=by kernel_rfl
 unfold Lib.TabIs World.var?
 rw[hg]
 simp only[Option.bind_some,h]
theorem UG:Gd 214 yY:=by
 refine⟨⟨_,Tryz.func214,by kernel_rfl,by kernel_rfl⟩,fun L0 args H v hp m w iV hR hr => ?_⟩
 unfold yY at hp
 split at hp
 case h_2=>cases hp
 rename_i n b
 split at hp
 case isFalse=>cases hp
 rename_i hx
 cases hp
 obtain⟨y,y',rfl,h1,h2⟩:=hr.two
 cases h1
 cases h2
 obtain⟨rfl,h0,h1⟩:=hx
 obtain⟨u,rfl⟩:∃u:Nat,n=u:=⟨n.toNat,by omega⟩
 refine(anQ u (by omega) w (X4 hR)).mono ?_
 rintro e w' ⟨rfl,hb⟩
 exact⟨_,rfl,.str _,Below.De hb⟩
theorem QU:Gd 209 Ta:=by
 refine⟨⟨_,Tryz.func209,by kernel_rfl,by kernel_rfl⟩,fun L0 args H v hp m w iV hR hr => ?_⟩
 unfold Ta at hp
 split at hp
 case h_2=>cases hp
 rename_i s p
 split at hp
 case h_2=>cases hp
 rename_i c hc
 cases hp
 obtain⟨y,y',rfl,h1,h2⟩:=hr.two
 cases h1
 cases h2
 have hp:p=⟨#[c]⟩:=by
  obtain⟨a⟩:=p
  obtain⟨l⟩:=a
  have:l=[c]:=hc
  rw[this]
 subst hp
 refine(Any.stringslite_Index_one ayO s c w).mono ?_
 rintro e w' ⟨rfl,rfl⟩
 exact⟨_,rfl,.int _ _,CZ⟩
theorem Rh:Gd 192 Bb:=by
 refine⟨⟨_,Tryz.func192,by kernel_rfl,by kernel_rfl⟩,fun L0 args H v hp m w iV hR hr => ?_⟩
 unfold Bb at hp
 split at hp
 case h_2=>cases hp
 rename_i s b z
 split at hp
 case isFalse=>cases hp
 rename_i hx
 obtain⟨rfl,rfl,hs⟩:=hx
 split at hp
 case h_2=>cases hp
 rename_i u hu
 cases hp
 obtain⟨y,y',y'',rfl,h1,h2,h3⟩:=hr.three
 cases h1
 cases h2
 cases h3
 refine(Any.strconv_ParseUint_10_at64_ok atL s hs u hu w).mono ?_
 have hv:∀m,RV m (.tuple #[.int .u64 (u:Int),.nilIface]) (.tuple #[.int .u64 (u:Int),.nilIface]):=fun m => .tuple _ _ rfl fun i hi=>by
  match i,hi with
  | 0,_=>exact .int _ _
  | 1,_=>exact .nilIface
  | n+2,hi=>exact absurd hi (by simp)
 rintro e w' ⟨rfl,rfl | rfl⟩
 ·exact⟨_,rfl,hv m,CZ⟩
 ·exact⟨_,rfl,hv m,Below.De (Lib.bytesWorld_below _ _ _)⟩
theorem azD {L0:Nat}:akC Tryz.prog cfg L0:=by
 intro f p hp
 have BJ:L5 f=some p:=hp
 unfold L5 at BJ
 split at BJ
 ·rename_i h;subst h;cases BJ;exact⟨UG.1,UG.2 L0⟩
 split at BJ
 ·rename_i h;subst h;cases BJ;exact⟨O4.1,O4.2 L0⟩
 split at BJ
 ·rename_i h;subst h;cases BJ;exact⟨Vi.1,Vi.2 L0⟩
 split at BJ
 ·rename_i h;subst h;cases BJ;exact⟨LP.1,LP.2 L0⟩
 split at BJ
 ·rename_i h;subst h;cases BJ;exact⟨QU.1,QU.2 L0⟩
 split at BJ
 ·rename_i h;subst h;cases BJ;exact⟨Rh.1,Rh.2 L0⟩
 cases BJ
end Go.PM
namespace Go.PM
open Go.ChangeShapes Go.WideShapes Go.ChangeAt Go.RowKit
open Go.Proofs
structure In (m:dL) (H:aJ) (W:World):Prop where
 dom:∀b l,m b=some l→b<H.length
 valid:∀b l,m b=some l→∃arr e fz,W.heap[l.rb]? = some (.cells arr e fz)∧arr.size=l.SJ
 row:∀b l cs e p,m b=some l→H[b]? = some (.row cs e p)→l.gV=e∧l.Wb=p∧l.base+cs.length≤l.SJ ∧
  ∀i,i<cs.length→∃rv,W.cell? ⟨l.rb,l.base+i,none⟩=some rv∧RV m (cs.getD i Go.undef) rv∧PM.iQ (cs.getD i Go.undef)=true
section
variable {m:dL} {H:aJ} {W:World}
theorem In.empty:In (fun _=>none) [] W:=⟨fun _ _ h=>(by cases h),fun _ _ h=>(by cases h),fun _ _ _ _ _ h=>(by cases h)⟩
theorem In.rel (h:In m H W) (hg:SH W):Rel m H.length H W :=
 ⟨fun b l hb=>by
  obtain⟨arr,e,fz,h1,h2⟩:=h.valid b l hb
  exact⟨arr,e,fz,h1,h2,fun hl=>by have:=h.dom b l hb;omega⟩,h.row,fun b1 b2 l1 l2 hl h1 _ _ _ _=>by have:=h.dom b1 l1 h1;omega,fun x hx=>⟨hg x hx,fun b l hb hm _=>by have:=h.dom b l hm;omega⟩⟩
theorem In.V5 (h:In m H W) {b:Nat} (hb:H.length≤b):m b=none:=by
 cases hm:m b with
 | none=>rfl
 | some l=>have:=h.dom b l hm;omega
theorem In.add (h:In m H W) {rb base gV:Nat} {arr:Array Value} {e:TypeId} {fz:Nat×Nat} {cs:List Value} (hb:W.heap[rb]? = some (.cells arr e fz)) (xB:base+cs.length≤arr.size)
  (hc:∀i,i<cs.length→∃rv,W.cell? ⟨rb,base+i,none⟩=some rv∧RV (xY m H.length ⟨rb,base,gV,arr.size,false⟩) (cs.getD i Go.undef) rv∧PM.iQ (cs.getD i Go.undef)=true) :
  In (xY m H.length ⟨rb,base,gV,arr.size,false⟩) (H++[.row cs gV false]) W:=by
 have hn:=h.V5 (aKl H.length)
 refine⟨fun b l yW => ?_,fun b l yW => ?_,fun b l ds e' p yW lX => ?_⟩
 ·by_cases he:b=H.length
  ·subst he;simp
  ·rw[dC he] at yW
   have:=h.dom b l yW
   simp;omega
 ·by_cases he:b=H.length
  ·subst he
   rw[bZ] at yW
   cases yW
   exact⟨arr,e,fz,hb,rfl⟩
  ·rw[dC he] at yW
   exact h.valid b l yW
 ·by_cases he:b=H.length
  ·subst he
   rw[bZ] at yW
   cases yW
   rw[Zc] at lX
   cases lX
   exact⟨rfl,rfl,xB,hc⟩
  ·rw[dC he] at yW
   have bF:=h.dom b l yW
   rw[SS bF] at lX
   obtain⟨h1,h2,h3,h4⟩:=h.row b l ds e' p yW lX
   refine⟨h1,h2,h3,fun i hi => ?_⟩
   obtain⟨rv,g1,g2,g3⟩:=h4 i hi
   exact⟨rv,g1,g2.mono (xP hn),g3⟩
end
theorem Zp {α:Type} (p:Nat→α→Prop):∀c,(∀i,i<c→∃x,p i x)→∃xs:List α,xs.length=c∧∀i x,xs[i]? = some x→p i x
 | 0,_=>⟨[],rfl,fun i x hx=>by simp at hx⟩
 |
  c+1,h=>by
  obtain⟨xs,h1,h2⟩:=Zp p c fun i hi=>h i (by omega)
  obtain⟨x,h3⟩:=h c (by omega)
  refine⟨xs++[x],by simp[h1],fun i y hy => ?_⟩
  rcases aKo i xs.length with hi | hi
  ·rw[aKC hi] at hy
   exact h2 i y hy
  ·rw[aKD hi] at hy
   have hi0:i-xs.length=0:=by
    rcases Nat.eq_zero_or_pos (i-xs.length) with h | h
    ·exact h
    ·rw[aKL (by simp;omega)] at hy;cases hy
   rw[hi0] at hy
   cases hy
   have:i=c:=by omega
   subst this
   exact h3
theorem anU {f:Nat} {args iV:List Value} {H H':aJ} {v:Value} {m:dL} {W:World} (hI:In m H W) (hr:RL m args iV) (h:uX f args H.length H=some (v,H')) (hg:SH W:=by first | assumption | exact fun x hx=>nomatch hx) :
  Calls Tryz.prog f iV.toArray W fun e W'=>∃m' rv,e = .returned rv∧RV m' v rv∧Below W.heap.size W W':=by
 obtain⟨n,hn⟩:=(zH cfg fQ).1 h
 refine(Ln Tryz.checked.mixed azD awW n f args H.length H v H' hn m W iV (hI.rel hg) (aKl _) (aKl _) hr (fun b hb _=>hI.V5 hb)).2.mono ?_
 rintro e W' ⟨m',rv,rfl,h1,_,h3⟩
 refine⟨m',rv,rfl,h1,⟨h3.same.1,h3.same.2.2,h3.same.2.1,h3.size,fun k hk=>h3.dB k hk fun b l hb hm _ => ?_⟩⟩
 rw[hI.V5 hb] at hm
 cases hm
end Go.PM
namespace Go.PM
def YA (c:lJ):Prop:=(0≤c.t∧c.t≤10000)∧(1≤c.w∧c.w≤1000)∧(0≤c.k∧c.k≤9)
instance (c:lJ):Decidable (YA c):=by unfold YA;infer_instance
def ayD (cs:List lJ) (i:Nat) (c:lJ):Prop:=YA c∧∀b,0<i→cs[i-1]? = some b→b.t≤c.t
def pH (cs:List lJ):Prop:=(∀i c,cs[i]? = some c→ayD cs i c)∧cs.length≤24
noncomputable instance (cs:List lJ):Decidable (pH cs):=Classical.propDecidable _
theorem pH.at {cs:List lJ} (h:pH cs) {i:Nat} {c:lJ} (hc:cs[i]? = some c):(0≤c.t∧c.t≤10000)∧(1≤c.w∧c.w≤1000)∧(0≤c.k∧c.k≤9):=(h.1 i c hc).1
def wl (time:Int):List lJ→Int→Int→Int
 | [],l,s=>max (l-(time-s)) 0
 | c::cs,l,s=>if time<c.t then max (l-(time-s)) 0 else wl time cs (max (l-(c.t-s)) 0+c.w) c.t
def aEY (cs:List lJ) (time:Int):Prop:=pH cs∧(0≤time∧time≤1000000000)
noncomputable instance (cs:List lJ) (time:Int):Decidable (aEY cs time):=Classical.propDecidable _
def aCh (cs:List lJ) (ls:List Int):Prop:=pH cs∧ls.length=cs.length∧∀x∈ls,0≤x∧x≤1000000000
noncomputable instance (cs:List lJ) (ls:List Int):Decidable (aCh cs ls):=Classical.propDecidable _
def aAW (cs:List lJ) (ls:List Int) (time:Int):Prop:=aCh cs ls∧(0≤time∧time≤1000000000)
noncomputable instance (cs:List lJ) (ls:List Int) (time:Int):Decidable (aAW cs ls time):=Classical.propDecidable _
def aDP (cs:List lJ) (ps:List Int):Prop:=pH cs∧ps.length=cs.length∧∀x∈ps,0≤x∧x≤10000
noncomputable instance (cs:List lJ) (ps:List Int):Decidable (aDP cs ps):=Classical.propDecidable _
end Go.PM
namespace Go.Proofs.YtjmflicajplclaaGreatDoor
open Go.ChangeShapes Go.WideShapes Go.ChangeAt Go.RowKit Go.PM
theorem own:ownKnob Tryz.prog.godebug=none:=by kernel_rfl
theorem laidOut:laidOutB Tryz.prog=true:=by kernel_rfl
theorem three {α:Type} {l:List α} (h:l.length=3):∃a b c,l=[a,b,c]:=by
 rcases l with _ | ⟨a,_ | ⟨b,_ | ⟨c,_ | ⟨d,l⟩⟩⟩⟩
 ·cases h
 ·cases h
 ·cases h
 ·exact⟨a,b,c,rfl⟩
 ·simp at h
end Go.Proofs.YtjmflicajplclaaGreatDoor
namespace Go.PM
def Fm:List Nat:=[]
 ++ [34]
 ++ [36]
 ++ [37]
 ++ [17]
 ++ [20]
 ++ [21]
 ++ [26]
 ++ [28]
 ++ [29]
 ++ [22]
 ++ [46]
 ++ [48]
 ++ [18]
 ++ [16]
 ++ [27]
 ++ [25]
 ++ [41]
 ++ [40]
 ++ [43]
 ++ [42]
 ++ [31]
 ++ [30]
 ++ [39]
 ++ [38]
 ++ [35]
 ++ [33]
 ++ [182]
 ++ [199]
 ++ [200]
 ++ [204]
 ++ [205]
 ++ [162]
 ++ [216]
 ++ [147]
 ++ [181]
 ++ [71]
 ++ [138]
 ++ [61]
 ++ [99]
 ++ [76]
 ++ [133]
 ++ [149]
 ++ [94]
 ++ [95]
 ++ [90]
 ++ [118]
 ++ [134]
 ++ [179]
 ++ [103]
 ++ [119]
 ++ [72]
 ++ [62]
 ++ [78]
 ++ [120]
 ++ [121]
 ++ [113]
 ++ [114]
 ++ [122]
 ++ [70]
 ++ [60]
end Go.PM