/- Texts of a claim, in one: part 3. -/
import Derived.Lib.ItoaNum
import Derived.Lib.Join
import Derived.Lib.BitFns
import Derived.Lib.Repeat
import Derived.Lib.Bytealg
import Derived.Lib.ParseIntB
import Derived.Test.YtjmflicajplclaaGreatDoorChecked
import Derived.Laws.BitsLemmas
import Derived.Shelf.Strings.OnBuilder
import Derived.Shelf.Strings.Repeat
import Derived.Shelf.Small.Bits
import Derived.Shelf.Strconv.Itoa1
import Derived.Shelf.Strconv.Itoa2
import Derived.Shelf.LaysM
import Derived.Shelf.Strings.Search2
import Derived.Shelf.Pu.ParseUintPublic10
import Derived.KernelRfl
import Derived.Test.YtjmflicajplclaaGreatDoorProg
import Derived.Lib.Walk
import Derived.Lib.ItoaMem
import Derived.WalkKit
import Derived.BigCall
import Derived.BigGuard
import Derived.Below
import Derived.Shelf.Strings.Search2
import Derived.Shelf.Pu.ParseUintPublic10
import Derived.Shelf.Strings.OnBuilder
import Derived.Shelf.Strings.Repeat
import Derived.Shelf.Small.Bits
import Derived.ProofKit
import Derived.OpenShut
import Derived.ShutString
import Derived.ChangeOld
import Derived.Carry
import Derived.SizedLaws
import Derived.Test.YtjmflicajplclaaGreatDoorRows
import Derived.Test.YtjmflicajplclaaGreatDoorKAb
open Array renaming getD_eq_getD_getElem? → aKM,getElem?_append_left → aLn,getElem?_eq_some_iff → aKN,replicate → aLm,size_replicate → aLv
open List renaming drop_eq_getElem_cons → aKJ,flatMap_cons → aLs,getD_eq_getElem?_getD → aKB,getElem?_append_left → aKV,getElem?_append_right → aKW,getElem?_drop → aKC,getElem?_eq_getElem → aKL,getElem?_eq_none → aK4,getElem?_eq_some_iff → aKD,length_cons → aKO,replicate → aLu,take_succ_cons → aLr
open Nat renaming le_max_left → aLp,le_max_right → aLq,le_refl → aKE,le_succ → aLo,lt_or_ge → aKH,mul_le_mul_right → aK5,succ_mul → aLt
set_option linter.unusedSimpArgs false
set_option linter.unusedVariables false
namespace Go.PM
def aB3:Ex→Exit
 | .normal => .normal
 | .exit id => .exit id
 | .ret => .ret
section
variable {P:Program} {E:Dc} {n:Nat} {call:iG} {lo L0:Nat}
def SF (P:Program) (n lo L0:Nat) (c:Code) (run:Env→aI→Option (Ex×Env×aI)):Prop :=
 ∀ρ H x aQ H',run ρ H=some (x,aQ,H')→∀m a w,Ky n L0 m ρ H a w→L0≤H.length→(∀b,H.length≤b→b<H'.length→m b=none) →
  ∀Q:Exit→Act→World→Prop,(∀m' a' w',Ky n L0 m' aQ H' a' w'→Trans lo m H w m' H' w'→Q (aB3 x) a' w')→c.wp P Q a w
theorem ajR {c:Code} {run:Env→aI→Option (Ex×Env×aI)} (hc:SF P n lo L0 c run) (he:∀ρ H x aQ H',run ρ H=some (x,aQ,H')→Ext lo H H') (N:Nat):SF P n lo L0 (.loop c) (BN run N):=by
 intro ρ H x aQ H' hr m a w h hl hf Q hQ
 apply wp_loop_rounds N
 have key:∀N ρ H,BN run N ρ H=some (x,aQ,H')→∀m a w,Ky n L0 m ρ H a w→L0≤H.length→(∀b,H.length≤b→b<H'.length→m b=none) →
   (∀m' a' w',Ky n L0 m' aQ H' a' w'→Trans lo m H w m' H' w'→Q (aB3 x) a' w')→Code.rounds P c Q N a w:=by
  intro N
  induction N with
  | zero=>intro ρ H h;cases h
  |
   succ N ih =>
   intro ρ H hr m a w h hl hf hQ
   rw[rounds_succ]
   rw[BN] at hr
   split at hr
   ·rename_i AS H1 h1
    have e1:=he _ _ _ _ _ h1
    have e2:=KJ he N hr
    refine hc ρ H _ AS H1 h1 m a w h hl (fun b GJ hb2=>hf b GJ (Nat.lt_of_lt_of_le hb2 e2.len)) _ fun m1 a1 w1 hh hT => ?_
    exact ih AS H1 hr m1 a1 w1 hh (Nat.le_trans hl e1.len) (hT.fresh e1.len hf) fun m2 a2 w2 h2 R9=>hQ m2 a2 w2 h2 (Trans.trans hf e1 e2 hT R9)
   ·rename_i gF
    refine hc ρ H _ aQ H' hr m a w h hl hf _ fun m1 a1 w1 hh hT => ?_
    have:=hQ m1 a1 w1 hh hT
    cases x with
    | normal=>exact absurd hr (gF aQ H')
    | exit id=>exact this
    | ret=>exact this
 exact key N ρ H hr m a w h hl hf hQ
theorem rL (FN:P.follows .mixedOrders=true) (qV:AP P L0 call) (uT:vC call) (dS:L0≤lo) (N:Nat):∀(c:Code) (pc:aE),jP P E n c=some pc→SF P n lo L0 c (dV call lo N pc)
 |
  .skip,pc,hp=>by
  cases hp
  intro ρ H x aQ H' hr m a w h hl hf Q hQ
  cases hr
  exact wp_skip (hQ m a w h (Trans.refl _ _ _ _))
 |
  .region id ops draw,pc,hp=>by
  rw[jP] at hp
  cases hpr:A4 P E n ops draw with
  | none=>rw[hpr] at hp;cases hp
  |
   some xF =>
   rw[hpr] at hp
   cases hp
   intro ρ H x aQ H' hr m a w h hl hf Q hQ
   rw[dV] at hr
   cases hs:jB call lo xF ρ H with
   | none=>rw[hs] at hr;cases hr
   |
    some q =>
    obtain⟨AS,H1⟩:=q
    rw[hs] at hr
    cases hr
    exact XO FN qV uT hpr hs h dS hl hf hQ
 |
  .seq x y,pc,hp=>by
  rw[jP] at hp
  split at hp
  ·rename_i px py YY hpy
   cases hp
   intro ρ H e aQ H' hr m a w h hl hf Q hQ
   rw[dV] at hr
   apply wp_seq
   split at hr
   ·rename_i AS H1 h1
    have e1:=lH uT px h1
    have e2:=lH uT py hr
    refine rL FN qV uT dS N x px YY ρ H _ AS H1 h1 m a w h hl (fun b GJ hb2=>hf b GJ (Nat.lt_of_lt_of_le hb2 e2.len)) _ fun m1 a1 w1 hh hT => ?_
    exact rL FN qV uT dS N y py hpy AS H1 _ aQ H' hr m1 a1 w1 hh (Nat.le_trans hl e1.len) (hT.fresh e1.len hf) Q fun m2 a2 w2 h2 R9=>hQ m2 a2 w2 h2 (Trans.trans hf e1 e2 hT R9)
   ·rename_i gF
    refine rL FN qV uT dS N x px YY ρ H _ aQ H' hr m a w h hl hf _ fun m1 a1 w1 hh hT => ?_
    have:=hQ m1 a1 w1 hh hT
    cases e with
    | normal=>exact absurd hr (gF aQ H')
    | exit id=>exact this
    | ret=>exact this
  ·cases hp
 |
  .cond o x y,pc,hp=>by
  rw[jP] at hp
  split at hp
  ·rename_i He
   split at hp
   ·rename_i px py YY hpy
    cases hp
    intro ρ H e aQ H' hr m a w h hl hf Q hQ
    rw[dV] at hr
    split at hr
    ·rename_i t ht
     have XF:=Xq (a:=a) (m:=m) (ρ:=ρ) He fun t _=>h.env t
     rw[ht] at XF
     generalize hev:a.eval o=ro at XF
     cases XF
     refine wp_cond hev ?_
     cases t with
     | true=>exact rL FN qV uT dS N x px YY ρ H _ aQ H' hr m a w h hl hf Q hQ
     | false=>exact rL FN qV uT dS N y py hpy ρ H _ aQ H' hr m a w h hl hf Q hQ
    ·cases hr
   ·cases hp
  ·cases hp
 |
  .block id x,pc,hp=>by
  rw[jP] at hp
  cases YY:jP P E n x with
  | none=>rw[YY] at hp;cases hp
  |
   some px =>
   rw[YY] at hp
   cases hp
   intro ρ H e aQ H' hr m a w h hl hf Q hQ
   rw[dV] at hr
   apply wp_block
   split at hr
   ·rename_i UI AS H1 h1
    split at hr
    ·rename_i hid
     cases hr
     refine rL FN qV uT dS N x px YY ρ H _ aQ H' h1 m a w h hl hf _ fun m1 a1 w1 hh hT => ?_
     have:=hQ m1 a1 w1 hh hT
     show Exit.inBlock id Q (.exit UI) a1 w1
     simp only[Exit.inBlock,if_pos hid]
     exact this
    ·rename_i hid
     cases hr
     refine rL FN qV uT dS N x px YY ρ H _ aQ H' h1 m a w h hl hf _ fun m1 a1 w1 hh hT => ?_
     have:=hQ m1 a1 w1 hh hT
     show Exit.inBlock id Q (.exit UI) a1 w1
     simp only[Exit.inBlock,if_neg hid]
     exact this
   ·rename_i gF
    refine rL FN qV uT dS N x px YY ρ H _ aQ H' hr m a w h hl hf _ fun m1 a1 w1 hh hT => ?_
    have:=hQ m1 a1 w1 hh hT
    cases e with
    | normal=>exact this
    | exit UI=>exact absurd hr (gF UI aQ H')
    | ret=>exact this
 |
  .loop x,pc,hp=>by
  rw[jP] at hp
  cases YY:jP P E n x with
  | none=>rw[YY] at hp;cases hp
  |
   some px =>
   rw[YY] at hp
   cases hp
   have hx:=rL FN qV uT dS N x px YY
   intro ρ H e aQ H' hr
   rw[dV] at hr
   exact ajR hx (fun ρ H x aQ H' h=>lH uT px h) N ρ H e aQ H' hr
 |
  .exit id,pc,hp=>by
  cases hp
  intro ρ H x aQ H' hr m a w h hl hf Q hQ
  cases hr
  exact wp_exit (hQ m a w h (Trans.refl _ _ _ _))
 |
  .ret,pc,hp=>by
  cases hp
  intro ρ H x aQ H' hr m a w h hl hf Q hQ
  cases hr
  exact wp_ret (hQ m a w h (Trans.refl _ _ _ _))
 | .rangeFunc ..,pc,hp=>by cases hp
 | .scope _,pc,hp=>by cases hp
 | .label _,pc,hp=>by cases hp
 | .goto _,pc,hp=>by cases hp
 | .refuse _,pc,hp=>by cases hp
def B5 (P:Program):ResultVar→Option Dh
 | .tmp t=>some (.tmp t)
 | .cell t ty=>(oN P ty).map fun(agg,size,_,_) => .cell t agg size
def O4 (a:Act):ResultVar→Sem Value
 | .tmp t=>pure (a.tmps.getD t undef)
 | .cell x t=>do loadVar t (←asAddr (a.tmps.getD x undef))
theorem aFl {m:dL} {ρ:Env} {H:aI} {a:Act} {w:World} (h:Ky n L0 m ρ H a w) {r:ResultVar} {pr:Dh} (hp:B5 P r=some pr) {v:Value} (hv:Y3 ρ H pr=some v) :
  ∃rv,RV m v rv∧(O4 a r).run P w = .ok rv w:=by
 cases r with
 |
  tmp t =>
  cases hp
  cases hv
  exact⟨_,h.env t,rfl⟩
 |
  cell x t =>
  simp only[B5] at hp
  cases ht:oN P t with
  | none=>rw[ht] at hp;cases hp
  |
   some q =>
   obtain⟨agg,size,z,nb⟩:=q
   rw[ht] at hp
   cases hp
   obtain⟨rv,h1,h2⟩:=RC ht hv h.rel (h.env x)
   refine⟨rv,h1,?_⟩
   unfold O4
   have hpv:=h.env x
   simp only[Y3,rA] at hv
   split at hv
   ·rename_i b o hb
    rw[hb] at hpv
    show (do loadVar t (←asAddr (a.tmps.getD x undef)):Sem Value).run P w=_
    generalize a.tmps.getD x undef=rp at h2 hpv ⊢
    cases hpv
    exact h2
   ·cases hv
theorem anM {m:dL} {ρ:Env} {H:aI} {a:Act} {w:World} (h:Ky n L0 m ρ H a w):∀ {rs:List ResultVar} {prs:List Dh} {vs:List Value},rs.mapM (B5 P)=some prs→Ez ρ H prs=some vs →
  ∃rvs,RL m vs rvs∧(rs.mapM (O4 a)).run P w = .ok rvs w
 |
  [],prs,vs,hp,hv=>by
  simp at hp
  subst hp
  cases hv
  exact⟨[],RL.nil m,rfl⟩
 |
  r::rs,prs,vs,hp,hv=>by
  simp only[List.mapM_cons,Option.pure_def,Option.bind_eq_bind] at hp
  cases h1:B5 P r with
  | none=>rw[h1] at hp;cases hp
  |
   some pr =>
   rw[h1] at hp
   cases h2:rs.mapM (B5 P) with
   | none=>rw[h2] at hp;cases hp
   |
    some aJB =>
    rw[h2] at hp
    cases hp
    simp only[Ez] at hv
    split at hv
    ·rename_i v vs' hv1 hv2
     cases hv
     obtain⟨rv,g1,g2⟩:=aFl h h1 hv1
     obtain⟨rvs,g3,g4⟩:=anM h h2 hv2
     refine⟨rv::rvs,RL.cons g1 g3,?_⟩
     rw[List.mapM_cons,Sem.run_bind,g2,Result.andThen_ok,Sem.run_bind,g4]
     rfl
    ·cases hv
theorem Mt {m:dL} {ρ:Env} {H:aI} {a:Act} {w:World} (h:Ky n L0 m ρ H a w) {fn:Func} {prs:List Dh} (hp:fn.results.toList.mapM (B5 P)=some prs) {v:Value} (hv:uJ prs ρ H=some v) :
  ∃rv,RV m v rv∧(results fn a.tmps).run P w = .ok rv w:=by
 unfold uJ at hv
 cases jO:Ez ρ H prs with
 | none=>rw[jO] at hv;cases hv
 |
  some vs =>
  obtain⟨rvs,h1,h2⟩:=anM h hp jO
  rw[jO] at hv
  have tA:∀rv,(if h:rvs.toArray.size=1 then rvs.toArray[0] else .tuple rvs.toArray)=rv→(results fn a.tmps).run P w = .ok rv w:=by
   intro rv XF
   have e:results fn a.tmps=(do let vs ←fn.results.mapM (O4 a);pure (if h:vs.size=1 then vs[0] else .tuple vs)):=by
    unfold results
    congr 2
   rw[e,Array.mapM_eq_mapM_toList,Sem.run_bind]
   have:(List.toArray <$> fn.results.toList.mapM (O4 a)).run P w = .ok rvs.toArray w:=by
    rw[map_eq_pure_bind,Sem.run_bind,h2]
    rfl
   rw[this,←XF]
   rfl
  clear h2 jO
  rcases vs with _ | ⟨x,_ | ⟨y,xs⟩⟩
  ·rcases rvs with _ | ⟨x',ys⟩
   ·cases hv
    exact⟨_,h1.Z0,tA _ rfl⟩
   ·cases h1.1
  ·rcases rvs with _ | ⟨x',_ | ⟨y',ys⟩⟩
   ·cases h1.1
   ·cases hv
    exact⟨x',h1.lK.1,tA x' rfl⟩
   ·cases h1.1
  ·rcases rvs with _ | ⟨x',_ | ⟨y',ys⟩⟩
   ·cases h1.1
   ·cases h1.1
   ·cases hv
    exact⟨_,h1.Z0,tA _ (by simp)⟩
end
end Go.PM
namespace Go.PM
def agZ (P:Program) (E:Dc) (L0:Nat):Prop :=
 ∀f p,E.CU f=some p→Oa P f∧∀args H v,p args H=some v→∀m w iV,Rel m L0 H w→RL m args iV →
  Calls P f iV.toArray w fun e w'=>∃rv,e = .returned rv∧RV m v rv∧w.heap.size≤w'.heap.size∧(∀rb,rb<w.heap.size→w'.heap[rb]? = w.heap[rb]?)∧w'.os=w.os∧w'.output=w.output∧w'.tape=w.tape
theorem Rel.more {m:dL} {L0:Nat} {H:aI} {w w':World} (h:Rel m L0 H w) (hk:∀rb,rb<w.heap.size→w'.heap[rb]? = w.heap[rb]?):Rel m L0 H w':=by
 have hv:∀b l,m b=some l→l.rb<w.heap.size:=fun b l hb=>by
  obtain⟨arr,e,fz,h1,_⟩:=h.valid b l hb
  exact(aKN.1 h1).1
 refine⟨fun b l hb=>by rw[hk _ (hv b l hb)];exact h.valid b l hb,fun b l cs e p hm hb => ?_,h.inj,fun x hx=>⟨?_,(h.Fz x hx).2⟩⟩
 ·obtain⟨h1,h2,h3,h4⟩:=h.row b l cs e p hm hb
  refine⟨h1,h2,h3,fun i hi => ?_⟩
  obtain⟨rv,g1,g2⟩:=h4 i hi
  refine⟨rv,?_,g2⟩
  rw[←g1]
  unfold World.cell?
  simp only[hk _ (hv b l hm)]
 ·obtain⟨e,fz,g1⟩:=(h.Fz x hx).1
  exact⟨e,fz,by rw[hk _ (aKN.1 g1).1];exact g1⟩
theorem aiL {P:Program} {E:Dc} {f:Nat} {pf:aT} (h:Wi P E f=some pf):∃fn c,P.funcs[f]? = some fn∧fn.body=some c∧(fn.name == "runtime.NumGoroutine")=false∧fn.results.toList.mapM (B5 P)=some pf.res∧jP P E fn.ntmps c=some pf.body∧pf.ntmps=fn.ntmps:=by
 unfold Wi at h
 cases hf:P.funcs[f]? with
 | none=>rw[hf] at h;cases h
 |
  some fn =>
  rw[hf] at h
  have h':Ou P E fn=some pf:=h
  unfold Ou at h'
  cases hb:fn.body with
  | none=>rw[hb] at h';cases h'
  |
   some c =>
   rw[hb] at h'
   simp only at h'
   split at h'
   ·cases h'
   ·rename_i anO
    split at h'
    ·cases h'
    ·rename_i res XD
     cases hc:jP P E fn.ntmps c with
     | none=>rw[hc] at h';cases h'
     |
      some body =>
      rw[hc] at h'
      cases h'
      refine⟨fn,c,rfl,hb,by simpa using anO,?_,hc,rfl⟩
      have e:(fun(r:ResultVar)=>match r with
       | .tmp t=>some (Dh.tmp t)
       | .cell t ty=>(oN P ty).map fun(agg,size,_,_) => .cell t agg size)=B5 P:=by
       funext r
       cases r<;>rfl
      rw[←e]
      exact XD
theorem Lh {P:Program} {E:Dc} {T:Tab} {L0:Nat} (FN:P.follows .mixedOrders=true) (ajM:agZ P E L0) (hT:∀f pf,T f=some pf→Wi P E f=some pf):∀n,AP P L0 (oO E T n)
 | 0=>fun f args lo H v H' h=>by cases h
 |
  n+1=>fun f args lo H v H' h m w iV hR dS hlen Xa hf=>by
  have uT:=GI E T n
  rw[oO] at h
  split at h
  ·rename_i p hp
   obtain⟨hco,aFJ⟩:=ajM f p hp
   refine⟨hco,?_⟩
   cases hpv:p args H with
   | none=>rw[hpv] at h;cases h
   |
    some u =>
    rw[hpv] at h
    cases h
    refine(aFJ args H v hpv m w iV hR Xa).mono ?_
    rintro e w' ⟨rv,rfl,h1,h2,h3,h4⟩
    exact⟨m,rv,rfl,h1,hR.more h3,fun _ _ h=>h,fun b l hb hn=>(by rw[hb] at hn;cases hn),h2,fun rb A2 _=>h3 rb A2,h4⟩
  ·split at h
   ·cases h
   ·rename_i pf hpf
    obtain⟨fn,c,h1,h2,h3,h4,h5,h6⟩:=aiL (hT _ _ hpf)
    split at h
    case isFalse=>cases h
    rename_i Bp
    refine⟨⟨fn,h1,h3,by rw[h2];rfl⟩,calls_of_wp h1 h2 ?_⟩
    have E7:iV.toArray.size≤fn.ntmps:=by
     have:=Xa.1
     simp;omega
    have hH:Ky fn.ntmps L0 m (acH args) H { tmps:=iV.toArray++aLm (fn.ntmps-iV.toArray.size) undef,defers:=[] } w:=by
     refine⟨by simp at E7 ⊢;omega,rfl,fun t => ?_,hR⟩
     rcases aKH t args.length with ht | ht
     ·have h7:=Xa.2 t ht
      have ht':t<iV.length:=by rw[←Xa.1];exact ht
      have e:(iV.toArray++aLm (fn.ntmps-iV.toArray.size) undef).getD t undef=iV.getD t undef:=by
       rw[aKM,aLn (by simpa using ht')]
       simp
      show RV m (args.getD t undef) _
      rw[e]
      exact h7
     ·have e1:args.getD t undef=undef:=by simp[aKB,aK4 ht]
      have ht':iV.length≤t:=by rw[←Xa.1];exact ht
      have e2:(iV.toArray++aLm (fn.ntmps-iV.toArray.size) undef).getD t undef=undef:=by
       rw[aKM,Array.getElem?_append_right (by simpa using ht')]
       rw[Array.getElem?_replicate]
       split<;>rfl
      show RV m (args.getD t undef) _
      rw[e1,e2]
      exact RV.undef m
    split at h
    ·rename_i AS H1 tA
     cases hr:uJ pf.res AS H1 with
     | none=>rw[hr] at h;cases h
     |
      some u =>
      rw[hr] at h
      cases h
      refine rL FN (Lh FN ajM hT n) uT dS n c pf.body h5 _ _ _ _ _ tA m _ w hH hlen hf _ fun m' a' w' hh hTr => ?_
      obtain⟨rv,g1,g2⟩:=Mt hh h4 hr
      exact⟨hh.defs,rv,g2,m',rv,rfl,g1,hh.rel,hTr⟩
    ·rename_i AS H1 tA
     cases hr:uJ pf.res AS H1 with
     | none=>rw[hr] at h;cases h
     |
      some u =>
      rw[hr] at h
      cases h
      refine rL FN (Lh FN ajM hT n) uT dS n c pf.body h5 _ _ _ _ _ tA m _ w hH hlen hf _ fun m' a' w' hh hTr => ?_
      obtain⟨rv,g1,g2⟩:=Mt hh h4 hr
      exact⟨hh.defs,rv,g2,m',rv,rfl,g1,hh.rel,hTr⟩
    ·cases h
end Go.PM
namespace Go.PM
def CLe (c c':iG):Prop:=∀f args lo H r,c f args lo H=some r→c' f args lo H=some r
section
variable {c c':iG} {lo:Nat}
theorem R1 (h:CLe c c') {i:PI} {ρ:Env} {H:aI} {r:Value×aI} (hr:BX c lo i ρ H=some r):BX c' lo i ρ H=some r:=by
 unfold BX at hr ⊢
 split at hr
 ·cases hr
 ·exact hr
 ·split at hr
  ·rename_i TY
   rw[if_pos TY]
   split at hr
   ·exact hr
   ·exact h _ _ _ _ _ hr
   ·cases hr
  ·cases hr
theorem YA (h:CLe c c') {i:PI} {ρ:Env} {H:aI} {r:Env×aI} (hr:BH c lo i ρ H=some r):BH c' lo i ρ H=some r:=by
 unfold BH at hr ⊢
 split at hr
 ·rename_i v H' hv
  rw[R1 h hv]
  exact hr
 ·cases hr
theorem B9 (h:CLe c c'):∀ {is:List PI} {ρ:Env} {H:aI} {r:Env×aI},jB c lo is ρ H=some r→jB c' lo is ρ H=some r
 | [],_,_,_,hr=>hr
 |
  i::is,ρ,H,r,hr=>by
  rw[jB] at hr ⊢
  split at hr
  ·rename_i h1
   rw[YA h h1]
   exact B9 h hr
  ·cases hr
theorem Bq {b b':Env→aI→Option (Ex×Env×aI)} (h:∀ρ H r,b ρ H=some r→b' ρ H=some r):∀ {n n':Nat} {ρ:Env} {H:aI} {r:Ex×Env×aI},n≤n'→BN b n ρ H=some r→BN b' n' ρ H=some r
 | 0,_,_,_,_,_,hr=>by cases hr
 | n+1,0,_,_,_,hn,_=>by omega
 |
  n+1,n'+1,ρ,H,r,hn,hr=>by
  rw[BN] at hr ⊢
  split at hr
  ·rename_i h1
   rw[h _ _ _ h1]
   exact Bq h (by omega) hr
  ·rename_i gF
   rw[h _ _ _ hr]
   split
   ·rename_i aQ H' he
    cases he
    exact absurd hr (gF _ _)
   ·rfl
theorem fQ (h:CLe c c') {n n':Nat} (hn:n≤n'):∀(p:aE) {ρ:Env} {H:aI} {r:Ex×Env×aI},dV c lo n p ρ H=some r→dV c' lo n' p ρ H=some r
 | .skip,_,_,_,hr=>hr
 |
  .cT ops,ρ,H,r,hr=>by
  rw[dV] at hr ⊢
  cases hs:jB c lo ops ρ H with
  | none=>rw[hs] at hr;cases hr
  | some q=>rw[hs] at hr;rw[B9 h hs];exact hr
 |
  .seq a b,ρ,H,r,hr=>by
  rw[dV] at hr ⊢
  split at hr
  ·rename_i h1
   rw[fQ h hn a h1]
   exact fQ h hn b hr
  ·rename_i gF
   rw[fQ h hn a hr]
   split
   ·rename_i he;cases he;exact absurd hr (gF _ _)
   ·rfl
 |
  .cond x a b,ρ,H,r,hr=>by
  rw[dV] at hr ⊢
  split at hr
  ·split at hr
   ·rename_i ht;rw[if_pos ht];exact fQ h hn a hr
   ·rename_i ht;rw[if_neg ht];exact fQ h hn b hr
  ·cases hr
 |
  .block id a,ρ,H,r,hr=>by
  rw[dV] at hr ⊢
  split at hr
  ·rename_i h1
   rw[fQ h hn a h1]
   exact hr
  ·rename_i gF
   rw[fQ h hn a hr]
   split
   ·rename_i he;cases he;exact absurd hr (gF _ _ _)
   ·rfl
 |
  .loop a,ρ,H,r,hr=>by
  rw[dV] at hr ⊢
  exact Bq (fun ρ H r hr=>fQ h hn a hr) hn hr
 | .exit id,_,_,_,hr=>hr
 | .ret,_,_,_,hr=>hr
theorem D7 (E:Dc) (T:Tab):∀n,CLe (oO E T n) (oO E T (n+1))
 | 0,_,_,_,_,_,hr=>by cases hr
 |
  n+1,f,args,lo,H,r,hr=>by
  rw[oO] at hr ⊢
  split at hr
  ·exact hr
  ·split at hr
   ·cases hr
   ·split at hr
    ·rename_i pf _ ha
     rw[if_pos ha]
     split at hr
     ·rename_i h1
      rw[fQ (D7 E T n) (aLo n) pf.body h1]
      exact hr
     ·rename_i h1
      rw[fQ (D7 E T n) (aLo n) pf.body h1]
      exact hr
     ·cases hr
    ·cases hr
theorem rS (E:Dc) (T:Tab) {n n':Nat} (h:n≤n'):CLe (oO E T n) (oO E T n'):=by
 induction h with
 | refl=>exact fun _ _ _ _ _ h=>h
 | step _ ih=>exact fun f args lo H r hr=>D7 E T _ f args lo H r (ih f args lo H r hr)
end
section
variable (E:Dc) (T:Tab)
open Classical in
noncomputable def lim {α:Type} (run:Nat→Option α):Option α:=if h:∃r,∃n,run n=some r then some (Classical.choose h) else none
theorem aaG {α:Type} {run:Nat→Option α} (hm:∀n n' r,n≤n'→run n=some r→run n'=some r) {r:α}:lim run=some r↔∃n,run n=some r:=by
 unfold lim
 constructor
 ·intro h
  split at h
  ·rename_i hx
   cases h
   exact Classical.choose_spec hx
  ·cases h
 ·rintro⟨n,hn⟩
  have hx:∃r,∃n,run n=some r:=⟨r,n,hn⟩
  rw[dif_pos hx]
  obtain⟨n',W3⟩:=Classical.choose_spec hx
  have h1:=hm n (max n n') r (aLp _ _) hn
  have h2:=hm n' (max n n') _ (aLq _ _) W3
  rw[h1] at h2
  injection h2 with h2
  rw[←h2]
noncomputable def call:iG:=fun f args lo H=>lim fun n=>oO E T n f args lo H
noncomputable def code (lo:Nat) (c:aE) (ρ:Env) (H:aI):Option (Ex×Env×aI):=lim fun n=>dV (oO E T n) lo n c ρ H
theorem zQ {f:Nat} {args:List Value} {lo:Nat} {H:aI} {r:Value×aI}:call E T f args lo H=some r↔∃n,oO E T n f args lo H=some r :=
 aaG fun _ _ r h hr=>rS E T h f args lo H r hr
theorem cQ {lo:Nat} {c:aE} {ρ:Env} {H:aI} {r:Ex×Env×aI}:code E T lo c ρ H=some r↔∃n,dV (oO E T n) lo n c ρ H=some r :=
 aaG fun _ _ _ h hr=>fQ (rS E T h) h c hr
theorem Od {lo:Nat}:∀ {is:List PI} {ρ:Env} {H:aI} {r:Env×aI},jB (call E T) lo is ρ H=some r↔∃n,jB (oO E T n) lo is ρ H=some r:=by
 have le:∀n,CLe (oO E T n) (call E T):=fun n f args lo H r hr=>(zQ E T).2 ⟨n,hr⟩
 have val:∀ {i:PI} {ρ:Env} {H:aI} {r:Value×aI},BX (call E T) lo i ρ H=some r→∃n,BX (oO E T n) lo i ρ H=some r:=by
  intro i ρ H r hr
  unfold BX at hr ⊢
  split at hr
  ·cases hr
  ·exact⟨0,hr⟩
  ·split at hr
   ·rename_i TY
    split at hr
    ·exact⟨0,by rw[if_pos TY];exact hr⟩
    ·obtain⟨n,hn⟩:=(zQ E T).1 hr
     exact⟨n,by rw[if_pos TY];exact hn⟩
    ·cases hr
   ·cases hr
 intro is
 induction is with
 | nil=>exact fun {ρ H r}=>⟨fun h=>⟨0,h⟩,fun⟨_,h⟩=>h⟩
 |
  cons i is ih =>
  intro ρ H r
  constructor
  ·intro h
   rw[jB] at h
   split at h
   ·rename_i AS H1 h1
    obtain⟨v,hv,rfl⟩:=A5 h1
    obtain⟨n1,hn1⟩:=val hv
    obtain⟨n2,hn2⟩:=ih.1 h
    refine⟨max n1 n2,?_⟩
    rw[jB]
    have e:BH (oO E T (max n1 n2)) lo i ρ H=some (put ρ i.dst v,H1):=by
     unfold BH
     rw[R1 (rS E T (aLp n1 n2)) hn1]
    rw[e]
    exact B9 (rS E T (aLq n1 n2)) hn2
   ·cases h
  ·rintro⟨n,h⟩
   exact B9 (le n) h
theorem D4 {α:Type} {a b:Option α} (h:∀r,a=some r↔b=some r):a=b:=by
 cases a with
 |
  none =>
  cases b with
  | none=>rfl
  | some y=>exact((h y).2 rfl)
 | some x=>exact((h x).1 rfl).symm
variable {lo:Nat} {ρ:Env} {H:aI}
theorem afU:code E T lo .skip ρ H=some (.normal,ρ,H):=(cQ E T).2 ⟨0,rfl⟩
theorem acJ {id:Nat}:code E T lo (.exit id) ρ H=some (.exit id,ρ,H):=(cQ E T).2 ⟨0,rfl⟩
theorem aiH:code E T lo .ret ρ H=some (.ret,ρ,H):=(cQ E T).2 ⟨0,rfl⟩
theorem agY {ops:List PI}:code E T lo (.cT ops) ρ H=(jB (call E T) lo ops ρ H).map fun(aQ,H')=>(.normal,aQ,H'):=by
 refine D4 fun r => ?_
 rw[cQ]
 constructor
 ·rintro⟨n,h⟩
  rw[dV] at h
  cases hs:jB (oO E T n) lo ops ρ H with
  | none=>rw[hs] at h;cases h
  |
   some q =>
   rw[hs] at h
   rw[(Od E T).2 ⟨n,hs⟩]
   exact h
 ·intro h
  cases hs:jB (call E T) lo ops ρ H with
  | none=>rw[hs] at h;cases h
  |
   some q =>
   rw[hs] at h
   obtain⟨n,hn⟩:=(Od E T).1 hs
   exact⟨n,by rw[dV,hn];exact h⟩
theorem alW {a b:aE}:code E T lo (.seq a b) ρ H=match code E T lo a ρ H with
  | some (.normal,aQ,H')=>code E T lo b aQ H'
  | r=>r:=by
 refine D4 fun r => ?_
 rw[cQ]
 constructor
 ·rintro⟨n,h⟩
  rw[dV] at h
  split at h
  ·rename_i h1
   rw[(cQ E T).2 ⟨n,h1⟩]
   exact(cQ E T).2 ⟨n,h⟩
  ·rename_i gF
   rw[(cQ E T).2 ⟨n,h⟩]
   split
   ·rename_i he;cases he;exact absurd h (gF _ _)
   ·rfl
 ·intro h
  split at h
  ·rename_i h1
   obtain⟨n1,h1⟩:=(cQ E T).1 h1
   obtain⟨n2,h2⟩:=(cQ E T).1 h
   refine⟨max n1 n2,?_⟩
   rw[dV,fQ (rS E T (aLp n1 n2)) (aLp n1 n2) a h1]
   exact fQ (rS E T (aLq n1 n2)) (aLq n1 n2) b h2
  ·rename_i gF
   obtain⟨n,h1⟩:=(cQ E T).1 h
   refine⟨n,?_⟩
   rw[dV,h1]
   split
   ·rename_i he;cases he;exact absurd h (gF _ _)
   ·rfl
theorem abP {x:Operand} {a b:aE}:code E T lo (.cond x a b) ρ H=match ev ρ x with
  | .bool t=>if t then code E T lo a ρ H else code E T lo b ρ H
  | _=>none:=by
 refine D4 fun r => ?_
 rw[cQ]
 constructor
 ·rintro⟨n,h⟩
  rw[dV] at h
  split at h
  ·rename_i t he
   rw[he]
   show (if t=true then code E T lo a ρ H else code E T lo b ρ H)=some r
   split at h
   ·rename_i ht;rw[if_pos ht];exact(cQ E T).2 ⟨n,h⟩
   ·rename_i ht;rw[if_neg ht];exact(cQ E T).2 ⟨n,h⟩
  ·cases h
 ·intro h
  split at h
  ·rename_i t he
   split at h
   ·rename_i ht
    obtain⟨n,h⟩:=(cQ E T).1 h
    refine⟨n,?_⟩
    rw[dV,he]
    show (if t=true then _ else _)=_
    rw[if_pos ht]
    exact h
   ·rename_i ht
    obtain⟨n,h⟩:=(cQ E T).1 h
    refine⟨n,?_⟩
    rw[dV,he]
    show (if t=true then _ else _)=_
    rw[if_neg ht]
    exact h
  ·cases h
theorem YG {id:Nat} {a:aE}:code E T lo (.block id a) ρ H=match code E T lo a ρ H with
  | some (.exit UI,aQ,H')=>if UI=id then some (.normal,aQ,H') else some (.exit UI,aQ,H')
  | r=>r:=by
 refine D4 fun r => ?_
 rw[cQ]
 constructor
 ·rintro⟨n,h⟩
  rw[dV] at h
  split at h
  ·rename_i h1
   rw[(cQ E T).2 ⟨n,h1⟩]
   exact h
  ·rename_i gF
   rw[(cQ E T).2 ⟨n,h⟩]
   split
   ·rename_i he;cases he;exact absurd h (gF _ _ _)
   ·rfl
 ·intro h
  split at h
  ·rename_i h1
   obtain⟨n,h1⟩:=(cQ E T).1 h1
   exact⟨n,by rw[dV,h1];exact h⟩
  ·rename_i gF
   obtain⟨n,h1⟩:=(cQ E T).1 h
   refine⟨n,?_⟩
   rw[dV,h1]
   split
   ·rename_i he;cases he;exact absurd h (gF _ _ _)
   ·rfl
theorem acX {a:aE}:code E T lo (.loop a) ρ H=match code E T lo a ρ H with
  | some (.normal,aQ,H')=>code E T lo (.loop a) aQ H'
  | r=>r:=by
 refine D4 fun r => ?_
 rw[cQ]
 constructor
 ·rintro⟨n,h⟩
  rw[dV] at h
  cases n with
  | zero=>cases h
  |
   succ n =>
   rw[BN] at h
   split at h
   ·rename_i h1
    rw[(cQ E T).2 ⟨n+1,h1⟩]
    refine(cQ E T).2 ⟨n+1,?_⟩
    rw[dV]
    exact Bq (fun _ _ _ h=>h) (aLo n) h
   ·rename_i gF
    rw[(cQ E T).2 ⟨n+1,h⟩]
    split
    ·rename_i he;cases he;exact absurd h (gF _ _)
    ·rfl
 ·intro h
  split at h
  ·rename_i h1
   obtain⟨n1,h1⟩:=(cQ E T).1 h1
   obtain⟨n2,h2⟩:=(cQ E T).1 h
   refine⟨max n1 n2+1,?_⟩
   have g1:=fQ (rS E T (show n1≤max n1 n2+1 by omega)) (show n1≤max n1 n2+1 by omega) a h1
   rw[dV,BN,g1]
   rw[dV] at h2
   exact Bq (fun _ _ _ h=>fQ (rS E T (show n2≤max n1 n2+1 by omega)) (show n2≤max n1 n2+1 by omega) a h) (show n2≤max n1 n2 by omega) h2
  ·rename_i gF
   obtain⟨n,h1⟩:=(cQ E T).1 h
   refine⟨n+1,?_⟩
   rw[dV,BN,fQ (D7 E T n) (aLo n) a h1]
   split
   ·rename_i he;cases he;exact absurd h (gF _ _)
   ·rfl
noncomputable def awN (lo:Nat) (pf:aT) (args:List Value) (H:aI):Option (Value×aI) :=
 if args.length≤pf.ntmps then
  match code E T lo pf.body (acH args) H with
  | some (.normal,ρ,H') | some (.ret,ρ,H')=>(uJ pf.res ρ H').map (·,H')
  | _=>none
 else none
theorem afG {f:Nat} {p:List Value→aI→Option Value} (h:E.CU f=some p) {args:List Value}:call E T f args lo H=(p args H).map (·,H):=by
 refine D4 fun r => ?_
 rw[zQ]
 constructor
 ·rintro⟨n,hr⟩
  cases n with
  | zero=>cases hr
  | succ n=>rw[oO,h] at hr;exact hr
 ·intro hr
  exact⟨1,by rw[oO,h];exact hr⟩
theorem asS {f:Nat} {pf:aT} (hp:E.CU f=none) (h:T f=some pf) {args:List Value}:call E T f args lo H=awN E T lo pf args H:=by
 refine D4 fun r => ?_
 rw[zQ]
 unfold awN
 constructor
 ·rintro⟨n,hr⟩
  cases n with
  | zero=>cases hr
  |
   succ n =>
   rw[oO,hp,h] at hr
   simp only at hr
   split at hr
   ·rename_i ha
    rw[if_pos ha]
    split at hr
    ·rename_i h1
     rw[(cQ E T).2 ⟨n,h1⟩]
     exact hr
    ·rename_i h1
     rw[(cQ E T).2 ⟨n,h1⟩]
     exact hr
    ·cases hr
   ·cases hr
 ·intro hr
  split at hr
  ·rename_i ha
   split at hr
   ·rename_i h1
    obtain⟨n,h1⟩:=(cQ E T).1 h1
    exact⟨n+1,by rw[oO,hp,h];simp only;rw[if_pos ha,h1];exact hr⟩
   ·rename_i h1
    obtain⟨n,h1⟩:=(cQ E T).1 h1
    exact⟨n+1,by rw[oO,hp,h];simp only;rw[if_pos ha,h1];exact hr⟩
   ·cases hr
  ·cases hr
end
end Go.PM
namespace Go.PM
theorem G6 {H H':aI} {lo fW b o:Nat} {new:List Value} (hl:fW≤lo) (h:H.write lo b o new=some H'):H.write fW b o new=some H':=by
 unfold aI.write at h ⊢
 split at h
 ·split at h
  ·rename_i hc
   rw[if_pos ⟨by omega,hc.2⟩]
   exact h
  ·cases h
 ·cases h
theorem DZ {α β:Type} {a b:Option α} {f:α→β} {r:β} (IW:∀x,a=some x→b=some x) (h:a.map f=some r):b.map f=some r:=by
 cases a with
 | none=>cases h
 | some x=>rw[IW x rfl];exact h
theorem My {lo fW size bytes add:Nat} {x:Value} {new:List Value} {H:aI} {r:Value×aI} (hl:fW≤lo) (h:fK lo size bytes x add new H=some r):fK fW size bytes x add new H=some r:=by
 unfold fK at h ⊢
 split at h
 case isFalse=>cases h
 rename_i hc
 rw[if_pos hc]
 split at h
 ·exact h
 ·split at h
  ·split at h
   ·rename_i h1
    skip
    rw[if_pos h1]
    split at h
    ·rename_i h2
     rw[if_pos h2]
     split at h
     ·rename_i h3;rw[if_pos h3];exact h
     ·rename_i h3
      rw[if_neg h3]
      exact DZ (fun H' hw=>G6 hl hw) h
    ·rename_i h2
     rw[if_neg h2]
     split at h
     ·rename_i h3
      rw[if_pos h3]
      split at h
      ·rename_i h4
       rw[if_pos h4]
       split at h
       ·rename_i h5;rw[if_pos (by omega)];exact h
       ·cases h
      ·rename_i h4;rw[if_neg h4];exact h
     ·cases h
   ·cases h
  ·cases h
 ·cases h
theorem aaP {lo fW:Nat} {p:qK} {ρ:Env} {H:aI} {o:Out} (hl:fW≤lo) (h:pop lo p ρ H=some o):pop fW p ρ H=some o:=by
 cases p<;>first | exact h | skip
 case store size q v =>
  simp only[pop] at h ⊢
  split at h
  ·split at h
   ·rename_i h1
    skip
    rw[if_pos h1]
    exact DZ (fun H' hw=>G6 hl hw) h
   ·cases h
  ·cases h
 case app size bytes x y =>
  simp only[pop] at h ⊢
  split at h
  ·split at h
   ·skip
    exact DZ (fun H' hw=>My hl hw) h
   ·cases h
  ·cases h
 case appz z bytes x n =>
  simp only[pop] at h ⊢
  split at h
  ·split at h
   ·rename_i h1
    skip
    rw[if_pos h1]
    exact DZ (fun H' hw=>My hl hw) h
   ·cases h
  ·cases h
 case copy size x y =>
  simp only[pop] at h ⊢
  split at h
  ·exact h
  ·split at h
   ·skip
    exact DZ (fun H' hw=>G6 hl hw) h
   ·cases h
  ·cases h
 case clear z x =>
  simp only[pop] at h ⊢
  split at h
  ·exact h
  ·skip
   split at h
   ·rename_i h1;rw[if_pos h1];exact h
   ·rename_i h1
    rw[if_neg h1]
    exact DZ (fun H' hw=>G6 hl hw) h
  ·cases h
def ahA (c:iG):Prop:=∀f args lo fW H r,fW≤lo→c f args lo H=some r→c f args fW H=some r
section
variable {c:iG} {lo fW:Nat}
theorem OK (hc:ahA c) (hl:fW≤lo):∀ {is:List PI} {ρ:Env} {H:aI} {r:Env×aI},jB c lo is ρ H=some r→jB c fW is ρ H=some r
 | [],_,_,_,h=>h
 |
  i::is,ρ,H,r,h=>by
  rw[jB] at h ⊢
  split at h
  ·rename_i AS H1 h1
   have e:BH c fW i ρ H=some (AS,H1):=by
    unfold BH at h1 ⊢
    split at h1
    ·rename_i v H2 hv
     have:BX c fW i ρ H=some (v,H2):=by
      unfold BX at hv ⊢
      split at hv
      ·cases hv
      ·exact hv
      ·split at hv
       ·rename_i TY
        rw[if_pos TY]
        split at hv
        ·rename_i hp;rw[aaP hl hp];exact hv
        ·rename_i hp
         rw[aaP hl hp]
         show c _ _ (if i.quiet=true then H.length else fW) H=_
         cases hq:i.quiet with
         | true=>rw[hq] at hv;exact hv
         | false=>rw[hq] at hv;exact hc _ _ _ _ _ _ hl hv
        ·cases hv
       ·cases hv
     rw[this]
     exact h1
    ·cases h1
   rw[e]
   exact OK hc hl h
  ·cases h
theorem acF {b b':Env→aI→Option (Ex×Env×aI)} (h:∀ρ H r,b ρ H=some r→b' ρ H=some r):∀ {n:Nat} {ρ:Env} {H:aI} {r:Ex×Env×aI},BN b n ρ H=some r→BN b' n ρ H=some r :=
 fun hr=>Bq h (aKE _) hr
theorem qC (hc:ahA c) (hl:fW≤lo) {n:Nat}:∀(p:aE) {ρ:Env} {H:aI} {r:Ex×Env×aI},dV c lo n p ρ H=some r→dV c fW n p ρ H=some r
 | .skip,_,_,_,hr=>hr
 |
  .cT ops,ρ,H,r,hr=>by
  rw[dV] at hr ⊢
  exact DZ (fun _ h=>OK hc hl h) hr
 |
  .seq a b,ρ,H,r,hr=>by
  rw[dV] at hr ⊢
  split at hr
  ·rename_i h1
   rw[qC hc hl a h1]
   exact qC hc hl b hr
  ·rename_i gF
   rw[qC hc hl a hr]
   split
   ·rename_i he;cases he;exact absurd hr (gF _ _)
   ·rfl
 |
  .cond x a b,ρ,H,r,hr=>by
  rw[dV] at hr ⊢
  split at hr
  ·split at hr
   ·rename_i ht;rw[if_pos ht];exact qC hc hl a hr
   ·rename_i ht;rw[if_neg ht];exact qC hc hl b hr
  ·cases hr
 |
  .block id a,ρ,H,r,hr=>by
  rw[dV] at hr ⊢
  split at hr
  ·rename_i h1
   rw[qC hc hl a h1]
   exact hr
  ·rename_i gF
   rw[qC hc hl a hr]
   split
   ·rename_i he;cases he;exact absurd hr (gF _ _ _)
   ·rfl
 |
  .loop a,ρ,H,r,hr=>by
  rw[dV] at hr ⊢
  exact acF (fun ρ H r hr=>qC hc hl a hr) hr
 | .exit id,_,_,_,hr=>hr
 | .ret,_,_,_,hr=>hr
end
theorem LC (E:Dc) (T:Tab):∀n,ahA (oO E T n)
 | 0,_,_,_,_,_,_,_,h=>by cases h
 |
  n+1,f,args,lo,fW,H,r,hl,h=>by
  rw[oO] at h ⊢
  split at h
  ·exact h
  ·split at h
   ·cases h
   ·split at h
    ·rename_i pf _ ha
     rw[if_pos ha]
     split at h
     ·rename_i h1;rw[qC (LC E T n) hl pf.body h1];exact h
     ·rename_i h1;rw[qC (LC E T n) hl pf.body h1];exact h
     ·cases h
    ·cases h
section
variable {E:Dc} {T:Tab}
theorem ajI {f:Nat} {args:List Value} {lo fW:Nat} {H:aI} {r:Value×aI} (hl:fW≤lo) (h:call E T f args lo H=some r):call E T f args fW H=some r:=by
 obtain⟨n,hn⟩:=(zQ E T).1 h
 exact(zQ E T).2 ⟨n,LC E T n f args lo fW H r hl hn⟩
theorem ahK {f:Nat} {args:List Value} {lo:Nat} {H H':aI} {v:Value} (h:call E T f args lo H=some (v,H')):Ext lo H H':=by
 obtain⟨n,hn⟩:=(zQ E T).1 h
 exact GI E T n f args lo H v H' hn
theorem Ext.more {H H':aI} (h:Ext H.length H H'):∃K,H'=H++K:=by
 refine⟨H'.drop H.length,?_⟩
 apply List.ext_getElem?
 intro i
 rcases aKH i H.length with hi | hi
 ·rw[aKV hi]
  exact h.low i hi hi
 ·rw[aKW hi,aKC,show H.length+(i-H.length)=i by omega]
def Y2 (E:Dc) (T:Tab) (f:Nat) (args:List Value) (H:aI) (R:Value→aI→Prop):Prop :=
 ∃v K,call E T f args H.length H=some (v,H++K)∧R v (H++K)
theorem Y2.at {f:Nat} {args:List Value} {H:aI} {R:Value→aI→Prop} (h:Y2 E T f args H R) {lo:Nat} (hl:lo≤H.length):∃v K,call E T f args lo H=some (v,H++K)∧R v (H++K):=by
 obtain⟨v,K,h1,h2⟩:=h
 exact⟨v,K,ajI hl h1,h2⟩
theorem Y2.mk {f:Nat} {args:List Value} {H H':aI} {v:Value} {R:Value→aI→Prop} (h:call E T f args H.length H=some (v,H')) (hr:R v H'):Y2 E T f args H R:=by
 obtain⟨K,rfl⟩:=(ahK h).more
 exact⟨v,K,h,hr⟩
end
end Go.PM
namespace Go.PM
def strCells:List Value→Option (List ByteArray)
 | []=>some []
 | .string s::r=>(strCells r).map (s :: ·)
 | _=>none
def zG:List Value→aI→Option Value
 | [.int .u64 n,.int .i64 b],_=>if b=10∧0≤n∧n<18446744073709551616 then some (.string ⟨(Lib.decDigits n.toNat).toArray⟩) else none
 | _,_=>none
def Js:List Value→aI→Option Value
 | [.string s,.int .i64 c],_=>if 0≤c∧c≤9223372036854775807∧s.size*c.toNat≤140737488355328 then some (.string ⟨(Lib.repeatL s.data.toList c.toNat).toArray⟩) else none
 | _,_=>none
def Fk:List Value→aI→Option Value
 | [.int .u32 x],_=>if 0≤x∧x≤4294967295 then some (.int .i64 (32-(Lib.bitLen x.toNat:Int))) else none
 | _,_=>none
def VY:List Value→aI→Option Value
 | [.slice none 0 0,.string _],_=>some (.string ⟨#[]⟩)
 |
  [.slice (some ⟨b,o,none⟩) n c,.string sep],H =>
  if n=0 then some (.string ⟨#[]⟩) else
  match (H.read b o n).bind strCells with
  | some xs=>if xs.length=n∧n≤c∧n≤140737488355328∧(Lib.join (xs.map (·.data.toList)) sep.data.toList).length≤140737488355328 then some (.string ⟨(Lib.join (xs.map (·.data.toList)) sep.data.toList).toArray⟩) else none
  | none=>none
 | _,_=>none
def SZ:List Value→aI→Option Value
 |
  [.string s,.string p],_=>match p.data.toList with
  | [c]=>some (.int .i64 (Lib.indexByte s.data.toList c))
  | _=>none
 | _,_=>none
def BL:List Value→aI→Option Value
 |
  [.string s,.int .i64 b,.int .i64 z],_=>if b=10∧z=64∧s.size≤9223372036854775806 then
   match Lib.parseUintB 64 s.data.toList with
   | .ok u=>some (.tuple #[.int .u64 (u:Int),.nilIface])
   | _=>none
  else none
 | _,_=>none
end Go.PM
namespace Go.PM
open Go.Proofs
def aE6:List Nat:=[]
 ++ [200]
 ++ [204]
 ++ [205]
 ++ [95]
 ++ [90]
 ++ [118]
 ++ [134]
 ++ [179]
def L6 (f:Nat):Option (List Value→aI→Option Value) :=
 if f=214 then some zG else
 if f=215 then some Js else
 if f=217 then some VY else
 if f=198 then some Fk else
 if f=209 then some SZ else
 if f=192 then some BL else
 (fun _=>none) f
def cfg:Dc:={ CU:=L6,eff:=fun f=>aE6.contains f }
noncomputable def fP:Tab:=fun f=>if (L6 f).isSome then none else Wi Tryz.prog cfg f
theorem axQ (f:Nat) (pf:aT) (h:fP f=some pf):Wi Tryz.prog cfg f=some pf:=by
 unfold fP at h
 split at h
 ·cases h
 ·exact h
theorem XB {f:Nat} {pf:aT} (h:fP f=some pf):cfg.CU f=none:=by
 unfold fP at h
 split at h
 ·cases h
 ·rename_i h1
  show L6 f=none
  cases hp:L6 f with
  | none=>rfl
  | some p=>rw[hp] at h1;exact absurd rfl h1
end Go.PM
namespace Go.PM
noncomputable abbrev uQ:iG:=call cfg fP
def W (lo:Nat) (c:aE) (Q:Ex→Env→aI→Prop) (ρ:Env) (H:aI):Prop:=∃x aQ H',code cfg fP lo c ρ H=some (x,aQ,H')∧Q x aQ H'
def WS (lo:Nat) (is:List PI) (K:Env→aI→Prop) (ρ:Env) (H:aI):Prop:=∃aQ H',jB uQ lo is ρ H=some (aQ,H')∧K aQ H'
def aDK (lo:Nat) (b:aE) (Q:Ex→Env→aI→Prop):Ex→Env→aI→Prop
 | .normal,ρ,H=>W lo b Q ρ H
 | x,ρ,H=>Q x ρ H
def aCg (id:Nat) (Q:Ex→Env→aI→Prop):Ex→Env→aI→Prop
 | .exit UI,ρ,H=>if UI=id then Q .normal ρ H else Q (.exit UI) ρ H
 | x,ρ,H=>Q x ρ H
def aET (res:List Dh) (R:Value→aI→Prop):Ex→Env→aI→Prop
 | .exit _,_,_=>False
 | _,ρ,H=>∃v,uJ res ρ H=some v∧R v H
def aAZ (J:Env→aI→Prop) (Q:Ex→Env→aI→Prop):Ex→Env→aI→Prop
 | .normal,ρ,H=>J ρ H
 | x,ρ,H=>Q x ρ H
section
variable {lo:Nat} {Q:Ex→Env→aI→Prop} {K:Env→aI→Prop} {ρ:Env} {H:aI} {b:aE} {id:Nat} {R:Value→aI→Prop} {res:List Dh} {J:Env→aI→Prop}
theorem Ls {i:Nat}:aCg id Q (.exit i) ρ H=if i=id then Q .normal ρ H else Q (.exit i) ρ H:=rfl
theorem ayJ:W lo .skip Q ρ H=Q .normal ρ H:=by
 unfold W
 rw[afU]
 exact propext ⟨fun⟨_,_,_,h,hq⟩=>(by cases h;exact hq),fun h=>⟨_,_,_,rfl,h⟩⟩
theorem azG {i:Nat}:W lo (.exit i) Q ρ H=Q (.exit i) ρ H:=by
 unfold W
 rw[acJ]
 exact propext ⟨fun⟨_,_,_,h,hq⟩=>(by cases h;exact hq),fun h=>⟨_,_,_,rfl,h⟩⟩
theorem aBK:W lo .ret Q ρ H=Q .ret ρ H:=by
 unfold W
 rw[aiH]
 exact propext ⟨fun⟨_,_,_,h,hq⟩=>(by cases h;exact hq),fun h=>⟨_,_,_,rfl,h⟩⟩
theorem aB6 {ops:List PI}:W lo (.cT ops) Q ρ H=WS lo ops (Q .normal) ρ H:=by
 unfold W WS
 rw[agY]
 apply propext
 constructor
 ·rintro⟨x,aQ,H',h,hq⟩
  cases hs:jB (call cfg fP) lo ops ρ H with
  | none=>rw[hs] at h;cases h
  |
   some q =>
   rw[hs] at h
   cases h
   exact⟨_,_,rfl,hq⟩
 ·rintro⟨aQ,H',h,hq⟩
  exact⟨_,_,_,by rw[h];rfl,hq⟩
theorem aBW {a:aE}:W lo (.seq a b) Q ρ H=W lo a (aDK lo b Q) ρ H:=by
 unfold W
 rw[alW]
 apply propext
 constructor
 ·rintro⟨x,aQ,H',h,hq⟩
  split at h
  ·rename_i AS H1 h1
   exact⟨_,_,_,h1,x,aQ,H',h,hq⟩
  ·rename_i gF
   refine⟨x,aQ,H',h,?_⟩
   cases x with
   | normal=>exact absurd h (gF _ _)
   | exit i=>exact hq
   | ret=>exact hq
 ·rintro⟨x,aQ,H',h,hq⟩
  rw[h]
  cases x with
  | normal=>exact hq
  | exit i=>exact⟨_,_,_,rfl,hq⟩
  | ret=>exact⟨_,_,_,rfl,hq⟩
theorem apY {a:aE}:W lo (.block id a) Q ρ H=W lo a (aCg id Q) ρ H:=by
 unfold W
 rw[YG]
 apply propext
 constructor
 ·rintro⟨x,aQ,H',h,hq⟩
  split at h
  ·rename_i UI AS H1 h1
   refine⟨_,_,_,h1,?_⟩
   rw[Ls]
   split at h
   ·rename_i he;cases h;rw[if_pos he];exact hq
   ·rename_i he;cases h;rw[if_neg he];exact hq
  ·rename_i gF
   refine⟨x,aQ,H',h,?_⟩
   cases x with
   | normal=>exact hq
   | exit i=>exact absurd h (gF _ _ _)
   | ret=>exact hq
 ·rintro⟨x,aQ,H',h,hq⟩
  rw[h]
  cases x with
  | normal=>exact⟨_,_,_,rfl,hq⟩
  |
   exit i =>
   rw[Ls] at hq
   show ∃x BW Uo,(if i=id then some (Ex.normal,aQ,H') else some (Ex.exit i,aQ,H'))=some (x,BW,Uo)∧Q x BW Uo
   split at hq
   ·rename_i he;rw[if_pos he];exact⟨_,_,_,rfl,hq⟩
   ·rename_i he;rw[if_neg he];exact⟨_,_,_,rfl,hq⟩
  | ret=>exact⟨_,_,_,rfl,hq⟩
theorem awQ {x:Operand} {a:aE}:W lo (.cond x a b) Q ρ H=∃t,ev ρ x = .bool t∧((t=true→W lo a Q ρ H)∧(t=false→W lo b Q ρ H)):=by
 unfold W
 rw[abP]
 apply propext
 constructor
 ·rintro⟨y,aQ,H',h,hq⟩
  split at h
  ·rename_i t ht
   cases t with
   | true=>exact⟨true,ht,fun _=>⟨y,aQ,H',h,hq⟩,fun h=>by cases h⟩
   | false=>exact⟨false,ht,fun h=>(by cases h),fun _=>⟨y,aQ,H',h,hq⟩⟩
  ·cases h
 ·rintro⟨t,ht,h1,h2⟩
  rw[ht]
  cases t with
  | true=>exact h1 rfl
  | false=>exact h2 rfl
theorem W.mono {Q':Ex→Env→aI→Prop} {c:aE} (h:W lo c Q ρ H) (hq:∀x ρ H,Q x ρ H→Q' x ρ H):W lo c Q' ρ H:=by
 obtain⟨x,aQ,H',h1,h2⟩:=h
 exact⟨x,aQ,H',h1,hq _ _ _ h2⟩
noncomputable def lM (lo:Nat) (q:Bool) (op:qK) (ρ:Env) (H:aI):Option (Value×aI) :=
 match pop lo op ρ H with
 | some (.val v H')=>some (v,H')
 | some (.call f args)=>uQ f args (if q then H.length else lo) H
 | none=>none
theorem axP:WS lo [] K ρ H=K ρ H:=by
 unfold WS
 apply propext
 constructor
 ·rintro⟨aQ,H',h,hk⟩;cases h;exact hk
 ·intro h;exact⟨ρ,H,rfl,h⟩
theorem aBD {i:PI} {is:List PI}:WS lo (i::is) K ρ H=∃v H',BX uQ lo i ρ H=some (v,H')∧WS lo is K (put ρ i.dst v) H':=by
 unfold WS
 apply propext
 constructor
 ·rintro⟨aQ,H',h,hk⟩
  rw[jB] at h
  split at h
  ·rename_i AS H1 h1
   obtain⟨v,hv,rfl⟩:=A5 h1
   exact⟨v,H1,hv,aQ,H',h,hk⟩
  ·cases h
 ·rintro⟨v,H1,hv,aQ,H',h,hk⟩
  refine⟨aQ,H',?_,hk⟩
  rw[jB]
  unfold BH
  rw[hv]
  exact h
variable {q:Bool}
theorem dZ {op:qK} (h:xV op=true):lM lo q op ρ H=(kH op ρ).map (·,H):=by
 unfold lM
 rw[Bi h]
 cases kH op ρ<;>rfl
theorem arO {x:Operand}:lM lo q (.mv x) ρ H=some (ev ρ x,H):=rfl
theorem aeX {c a b:Operand}:lM lo q (.pick c a b) ρ H=(match ev ρ c with | .bool t=>some ((if t=true then ev ρ a else ev ρ b),H) | _=>none):=by
 rw[dZ rfl]
 simp only[kH]
 cases ev ρ c<;>rfl
theorem ajD {op:BinOp} {x y:Operand}:lM lo q (.bin op x y) ρ H=(dK op (ev ρ x) (ev ρ y)).map (·,H):=dZ rfl
theorem aqV {op:UnOp} {x:Operand}:lM lo q (.un op x) ρ H=(pun op (ev ρ x)).map (·,H):=dZ rfl
theorem acL {f:Nat} {args:List Operand}:lM lo q (.call f args) ρ H=uQ f (args.map (ev ρ)) (if q then H.length else lo) H:=rfl
end
theorem aiE {f lo:Nat} {pf:aT} {args:List Value} {H:aI} {R:Value→aI→Prop} (ht:fP f=some pf) (ha:args.length≤pf.ntmps) (h:W lo pf.body (aET pf.res R) (acH args) H):∃v H',uQ f args lo H=some (v,H')∧R v H':=by
 obtain⟨x,aQ,H',h1,h2⟩:=h
 show ∃v H',call cfg fP f args lo H=some (v,H')∧R v H'
 rw[asS cfg fP (XB ht) ht]
 unfold awN
 rw[if_pos ha,h1]
 cases x with
 | exit i=>exact h2.elim
 |
  normal =>
  obtain⟨v,h3,h4⟩:=h2
  exact⟨v,H',by simp only;rw[h3];rfl,h4⟩
 |
  ret =>
  obtain⟨v,h3,h4⟩:=h2
  exact⟨v,H',by simp only;rw[h3];rfl,h4⟩
end Go.PM
namespace Go.PM
theorem wrap64 {x:Int} (h1 : -9223372036854775808≤x) (h2:x≤9223372036854775807):IntKind.i64.wrap x=x:=by
 rw[IntKind.wrap_i64]
 omega
section
variable {k:IntKind} {a b:Int}
theorem Ul:dK .add (.int k a) (.int k b)=some (.int k (k.wrap (a+b))):=by simp[dK]
theorem Vj:dK .sub (.int k a) (.int k b)=some (.int k (k.wrap (a-b))):=by simp[dK]
theorem UC:dK .mul (.int k a) (.int k b)=some (.int k (k.wrap (a*b))):=by simp[dK]
theorem Uz (h:b≠0):dK .rem (.int k a) (.int k b)=some (.int k (a.tmod b)):=by simp[dK,h]
theorem Vz:dK .lss (.int k a) (.int k b)=some (.bool (decide (a<b))):=by simp[dK]
theorem Vr:dK .leq (.int k a) (.int k b)=some (.bool (decide (a≤b))):=by simp[dK]
theorem Wj:dK .gtr (.int k a) (.int k b)=some (.bool (decide (b<a))):=by simp[dK]
theorem Vi:dK .geq (.int k a) (.int k b)=some (.bool (decide (b≤a))):=by simp[dK]
theorem WC:dK .eql (.int k a) (.int k b)=some (.bool (decide (a=b))):=by
 simp only[dK,if_true]
 rfl
theorem Ux:dK .neq (.int k a) (.int k b)=some (.bool (!decide (a=b))):=by
 simp only[dK,if_true]
 rfl
theorem aaU:pun .neg (.int k a)=some (.int k (k.wrap (0-a))):=rfl
theorem ZY {t:Bool}:pun .not (.bool t)=some (.bool (!t)):=rfl
end
def azZ:Value→Option Value
 | .slice _ n _=>some (.int .i64 n)
 | _=>none
def OO (neg:Bool):Value→Value→Option Value
 | .bool a,.bool b=>some (.bool ((a == b) != neg))
 | _,_=>none
def alA (neg:Bool):Value→Option Value
 | .slice none _ _=>some (.bool (true != neg))
 | .slice (some _) _ _=>some (.bool (false != neg))
 | _=>none
def agT (neg:Bool) (ks:List CK):Value→Value→Option Value
 | .agg a,.agg b=>(sK ks a.toList b.toList).map fun t => .bool (t != neg)
 | _,_=>none
def Xg (k:IntKind):Value→Option Value
 | .int _ n=>some (.int k (k.wrap n))
 | _=>none
def awA (i:Nat):Value→Option Value
 | .tuple vs=>vs[i]?
 | _=>none
def atB (agg:Bool) (off size:Nat):Value→Option Value
 | .agg cs=>if agg then (if off+size≤cs.size then some (.agg (cs.extract off (off+size))) else none) else cs[off]?
 | _=>none
def aA7:Value→Option Value
 | .pointer (some a)=>some (.pointer (some a))
 | _=>none
def anE (off:Nat):Value→Option Value
 | .pointer (some ⟨b,o,none⟩)=>some (.pointer (some ⟨b,o+off,none⟩))
 | _=>none
def TJ (size:Nat):Value→Value→Option Value
 | .slice (some ⟨b,o,none⟩) n _,.int _ i=>if 0≤i∧i<n then some (.pointer (some ⟨b,o+i.toNat*size,none⟩)) else none
 | _,_=>none
def WE:Value→Value→Option Value
 | .int k a,.int _ b=>some (.int k (if b<a then b else a))
 | _,_=>none
def V8:Value→Value→Option Value
 | .int k a,.int _ b=>some (.int k (if b>a then b else a))
 | _,_=>none
section
variable {lo:Nat} {ρ:Env} {H:aI} {q:Bool}
theorem sR {op:qK} {r:Option (Value×aI)} (h:pop lo op ρ H=r.map fun(v,H') => .val v H'):lM lo q op ρ H=r:=by
 unfold lM
 rw[h]
 cases r<;>rfl
theorem amL {x:Operand}:lM lo q (.len x) ρ H=(azZ (ev ρ x)).map (·,H):=dZ rfl
theorem amN {neg:Bool} {x y:Operand}:lM lo q (.eqb neg x y) ρ H=(OO neg (ev ρ x) (ev ρ y)).map (·,H):=dZ rfl
theorem X8 {neg:Bool} {x:Operand}:lM lo q (.isnil neg x) ρ H=(alA neg (ev ρ x)).map (·,H):=dZ rfl
theorem Yj {neg:Bool} {ks:List CK} {x y:Operand}:lM lo q (.eqagg neg ks x y) ρ H=(agT neg ks (ev ρ x) (ev ρ y)).map (·,H):=dZ rfl
theorem ajZ {k:IntKind} {x:Operand}:lM lo q (.cvt k x) ρ H=(Xg k (ev ρ x)).map (·,H):=dZ rfl
theorem ajC {i:Nat} {x:Operand}:lM lo q (.ext x i) ρ H=(awA i (ev ρ x)).map (·,H):=dZ rfl
theorem aiY {agg:Bool} {off size:Nat} {x:Operand}:lM lo q (.fld agg off size x) ρ H=(atB agg off size (ev ρ x)).map (·,H):=dZ rfl
theorem Xj {z:List Value} {places:List (Nat×Nat)} {parts:List (Nat×Operand)}:lM lo q (.build z places parts) ρ H=((Aw places z (parts.map fun(i,x)=>(i,ev ρ x))).map fun cs=>Value.agg cs.toArray).map (·,H):=dZ rfl
theorem anP {x:Operand}:lM lo q (.chk x) ρ H=(aA7 (ev ρ x)).map (·,H):=dZ rfl
theorem Yn {off:Nat} {x:Operand}:lM lo q (.faddr off x) ρ H=(anE off (ev ρ x)).map (·,H):=dZ rfl
theorem YN {size:Nat} {x i:Operand}:lM lo q (.iaddr size x i) ρ H=(TJ size (ev ρ x) (ev ρ i)).map (·,H):=dZ rfl
theorem aeN {f:Nat} {gB:List Operand}:lM lo q (.mkfn f gB) ρ H=some (.func (.func f) #[] (gB.map (ev ρ)).toArray,H):=dZ rfl
theorem amG {x y:Operand}:lM lo q (.min x y) ρ H=(WE (ev ρ x) (ev ρ y)).map (·,H):=dZ rfl
theorem ahL {x y:Operand}:lM lo q (.max x y) ρ H=(V8 (ev ρ x) (ev ρ y)).map (·,H):=dZ rfl
theorem aeC {agg:Bool} {size:Nat} {p:Operand}:lM lo q (.load agg size p) ρ H=(rA agg size (ev ρ p) H).map (·,H):=by
 unfold lM
 simp only[pop]
 cases rA agg size (ev ρ p) H<;>rfl
theorem agS {size:Nat} {x:Operand} {l h m:Option Operand}:lM lo q (.sub size x l h m) ρ H=E6 size (ev ρ x) (l.map (ev ρ)) (h.map (ev ρ)) (m.map (ev ρ)) H:=by
 unfold lM
 simp only[pop]
 cases E6 size (ev ρ x) (l.map (ev ρ)) (h.map (ev ρ)) (m.map (ev ρ)) H<;>rfl
theorem alJ {z:List Value}:lM lo q (.new z) ρ H=some (.pointer (some ⟨H.length,0,none⟩),H++[.row z z.length false]):=rfl
theorem aiF {x:Operand}:lM lo q (.box x) ρ H=if (aV (ev ρ x)).all iQ then some (.pointer (some ⟨H.length,0,none⟩),H++[.row (aV (ev ρ x)) (aV (ev ρ x)).length false]) else none:=by
 apply sR
 simp only[pop]
 by_cases h:(aV (ev ρ x)).all iQ=true
 ·rw[if_pos h,if_pos h];rfl
 ·rw[if_neg h,if_neg h];rfl
def ZI (z:List Value) (bytes:Nat) (l c:Value) (H:aI):Option (Value×aI) :=
 match l,c with
 | .int .i64 l,.int .i64 c=>if 0≤l∧l≤c∧c*bytes≤281474976710656∧c≤9223372036854775807 then
  some (.slice (some ⟨H.length,0,none⟩) l.toNat c.toNat,H++[.row (dF c.toNat z) z.length false]) else none
 | _,_=>none
theorem acQ {z:List Value} {bytes:Nat} {l c:Operand}:lM lo q (.make z bytes l c) ρ H=ZI z bytes (ev ρ l) (ev ρ c) H:=by
 apply sR
 simp only[pop]
 unfold ZI
 split
 ·rename_i l c h1 h2
  simp only[h1,h2]
  split<;>rfl
 ·rename_i h1
  split
  ·rename_i h2 h3
   exact(h1 _ _ h2 h3).elim
  ·rfl
def atF (z:List Value) (n:Nat) (parts:List (Nat×Value)) (H:aI):Option (Value×aI) :=
 match Aw ((List.range n).map fun i=>(i*z.length,z.length)) (dF n z) parts with
 | some cs=>if cs.all iQ then some (.slice (some ⟨H.length,0,none⟩) n n,H++[.row cs z.length false]) else none
 | none=>none
theorem alF {z:List Value} {n:Nat} {parts:List (Nat×Operand)}:lM lo q (.lit z n parts) ρ H=atF z n (parts.map fun(i,x)=>(i,ev ρ x)) H:=by
 apply sR
 simp only[pop]
 unfold atF
 split
 ·rename_i cs h1
  simp only[h1]
  split<;>rfl
 ·rename_i h1
  simp only[h1]
  rfl
def IT (lo size:Nat) (p v:Value) (H:aI):Option (Value×aI) :=
 match p with
 | .pointer (some ⟨b,o,none⟩)=>if (aV v).length=size then (H.write lo b o (aV v)).map fun H'=>(undef,H') else none
 | _=>none
theorem X4 {size:Nat} {p v:Operand}:lM lo q (.store size p v) ρ H=IT lo size (ev ρ p) (ev ρ v) H:=by
 apply sR
 simp only[pop]
 unfold IT
 split
 ·rename_i b o h1
  simp only[h1]
  split
  ·cases H.write lo b o (aV (ev ρ v))<;>rfl
  ·rfl
 ·rename_i h1
  split
  ·rename_i h2
   exact(h1 _ _ h2).elim
  ·rfl
def awB (lo size bytes:Nat) (x y:Value) (H:aI):Option (Value×aI) :=
 match wP y with
 |
  some n=>match kY H size n y with
  | some new=>fK lo size bytes x n new H
  | none=>none
 | none=>none
theorem anN {size bytes:Nat} {x y:Operand}:lM lo q (.app size bytes x y) ρ H=awB lo size bytes (ev ρ x) (ev ρ y) H:=by
 apply sR
 simp only[pop]
 unfold awB
 cases wP (ev ρ y) with
 | none=>rfl
 |
  some n =>
  cases hs:kY H size n (ev ρ y) with
  | none=>simp only[hs];rfl
  | some new=>simp only[hs]
def akN (lo:Nat) (z:List Value) (bytes:Nat) (x n:Value) (H:aI):Option (Value×aI) :=
 match n with
 | .int .i64 n=>if 0≤n∧n*bytes≤140737488355328 then fK lo z.length bytes x n.toNat (dF n.toNat z) H else none
 | _=>none
theorem adQ {z:List Value} {bytes:Nat} {x n:Operand}:lM lo q (.appz z bytes x n) ρ H=akN lo z bytes (ev ρ x) (ev ρ n) H:=by
 apply sR
 simp only[pop]
 unfold akN
 split
 ·rename_i n h1
  simp only[h1]
  split<;>rfl
 ·rename_i h1
  split
  ·rename_i h2
   exact(h1 _ h2).elim
  ·rfl
def copyV (lo size:Nat) (x y:Value) (H:aI):Option (Value×aI) :=
 match x,wP y with
 | .slice none _ _,some _=>some (.int .i64 0,H)
 |
  .slice (some ⟨b,o,none⟩) d _,some s=>match kY H size (Nat.min s d) y with
  | some new=>(H.write lo b o new).map fun H'=>(.int .i64 (Nat.min s d),H')
  | none=>none
 | _,_=>none
theorem acY {size:Nat} {x y:Operand}:lM lo q (.copy size x y) ρ H=copyV lo size (ev ρ x) (ev ρ y) H:=by
 apply sR
 simp only[pop]
 unfold copyV
 split
 ·rename_i h1 h2
  simp only[h1,h2]
  rfl
 ·rename_i b o d _ s h1 h2
  simp only[h1,h2]
  cases hs:kY H size (Nat.min s d) (ev ρ y) with
  | none=>rfl
  |
   some new =>
   simp only
   cases H.write lo b o new<;>rfl
 ·rename_i h1 h2
  split
  ·rename_i h3 h4
   exact(h1 _ _ _ h3 h4).elim
  ·rename_i h3 h4
   exact(h2 _ _ _ _ _ h3 h4).elim
  ·rfl
def So (lo:Nat) (z:List Value) (x:Value) (H:aI):Option (Value×aI) :=
 match x with
 | .slice none _ _=>some (undef,H)
 | .slice (some ⟨b,o,none⟩) n _=>if n=0 then some (undef,H) else (H.write lo b o (dF n z)).map fun H'=>(undef,H')
 | _=>none
theorem YP {z:List Value} {x:Operand}:lM lo q (.clear z x) ρ H=So lo z (ev ρ x) H:=by
 apply sR
 simp only[pop]
 unfold So
 split
 ·rename_i h1
  simp only[h1]
  rfl
 ·rename_i b o n _ h1
  simp only[h1]
  split
  ·rfl
  ·cases H.write lo b o (dF n z)<;>rfl
 ·rename_i h1 h2
  split
  ·rename_i h3
   exact(h1 _ _ h3).elim
  ·rename_i h3
   exact(h2 _ _ _ _ h3).elim
  ·rfl
noncomputable def ahN (lo:Nat) (fv:Value) (args:List Value) (H:aI):Option (Value×aI) :=
 match fv with
 | .func (.func f) first gB=>uQ f (first.toList++args++gB.toList) lo H
 | _=>none
theorem YQ {fv:Operand} {args:List Operand}:lM lo q (.callv fv args) ρ H=ahN (if q then H.length else lo) (ev ρ fv) (args.map (ev ρ)) H:=by
 unfold lM
 simp only[pop]
 unfold ahN
 generalize ev ρ fv=v
 cases v with
 | func fn f c=>cases fn<;>rfl
 | _=>rfl
end
end Go.PM
namespace Go.PM
section
variable {lo:Nat} {Q:Ex→Env→aI→Prop} {K:Env→aI→Prop} {ρ:Env} {H:aI} {q:Bool}
def aCe (u v:Value):Bool:=match kP u,kP v with
 | some a,some b=>a != b
 | _,_=>true
end
theorem aaT {k:IntKind} {a b:Int}:V8 (.int k a) (.int k b)=some (.int k (max a b)):=by
 simp only[V8]
 congr 2
 split<;>omega
theorem aaD {k:IntKind} {a b:Int}:WE (.int k a) (.int k b)=some (.int k (min a b)):=by
 simp only[WE]
 congr 2
 split<;>omega
end Go.PM
namespace Go.PM
abbrev ptr (b o:Nat):Value := .pointer (some ⟨b,o,none⟩)
abbrev I (n:Int):Value := .int .i64 n
section
variable {H H':aI} {lo b o n size:Nat} {cs r:List Value} {L K:aI} {v:Value}
theorem Tl (hb:b<H.length):(H++L)[b]? = H[b]? := aKV hb
theorem aaR {x:Qc}:(H++x::L)[H.length]? = some x:=by simp
theorem ahP (hb:b<H.length):(H++L).read b o n=H.read b o n:=Ip (Tl hb)
theorem CT {e:Nat} {p:Bool} (h:H[b]? = some (.row r e p)) (hn:o+n≤r.length):H.read b o n=some ((r.drop o).take n):=by
 unfold aI.read
 rw[h]
 simp only[hn,if_true]
structure Fi (H:aI) (b o:Nat) (cs:List Value):Prop where
 lt:b<H.length
 rd:H.read b o cs.length=some cs
theorem Fi.app (h:Fi H b o cs):Fi (H++L) b o cs:=⟨by have:=h.lt;simp;omega,by rw[ahP h.lt];exact h.rd⟩
theorem Fi.pre (h:Fi H b o cs) (hp:H <+: H'):Fi H' b o cs:=by
 obtain⟨L,rfl⟩:=hp
 exact h.app
theorem Fi.all (h:Fi H b o cs) (hs:cs.length=size):rA true size (.pointer (some ⟨b,o,none⟩)) H=some (.agg cs.toArray):=by
 subst hs
 simp only[rA,if_true,h.rd]
 rfl
theorem Fi.one {u:Value} (h:Fi H b o [u]):rA false size (.pointer (some ⟨b,o,none⟩)) H=some u:=by
 have:=h.rd
 simp only[aKO,List.length_nil] at this
 simp only[rA,this]
 rfl
theorem Fi.sub {k:Nat} {u:Value} (h:Fi H b o cs) (hk:cs[k]? = some u):Fi H b (o+k) [u]:=by
 refine⟨h.lt,?_⟩
 have h1:=h.rd
 unfold aI.read at h1 ⊢
 split at h1
 ·rename_i r e p hb
  split at h1
  ·rename_i hl
   have hk':=(aKD.1 hk).1
   simp only[aKO,List.length_nil]
   rw[if_pos (by simp;omega)]
   injection h1 with h1
   rw[←h1] at hk
   rw[List.getElem?_take,if_pos (by omega),aKC] at hk
   have bI:=(aKD.1 hk).1
   rw[aKJ bI]
   simp only[aLr,List.take_zero]
   rw[aKL bI] at hk
   injection hk with hk
   rw[hk]
  ·cases h1
 ·cases h1
theorem Fi.fld {k:Nat} {u:Value} (h:Fi H b o cs) (hk:cs[k]? = some u):rA false size (.pointer (some ⟨b,o+k,none⟩)) H=some u:=(h.sub hk).one
theorem Wk {a:Nat} {c:Nat} {i:Int} {k:IntKind} (h0:0≤i) (h1:i<n):TJ size (.slice (some ⟨b,a,none⟩) n c) (.int k i)=some (.pointer (some ⟨b,a+i.toNat*size,none⟩)):=by
 simp only[TJ]
 rw[if_pos ⟨h0,h1⟩]
structure Arr {α:Type} (enc:α→List Value) (gR:Nat) (H:aI) (a:Option Addr) (n:Nat) (xs:List α):Prop where
 len:n=xs.length
 el:∀(i:Nat) x,xs[i]? = some x→∃b o,a=some ⟨b,o,none⟩∧Fi H b (o+i*gR) (enc x)
theorem Arr.pre {α:Type} {enc:α→List Value} {gR:Nat} {a:Option Addr} {xs:List α} (h:Arr enc gR H a n xs) (hp:H <+: H'):Arr enc gR H' a n xs :=
 ⟨h.len,fun i x hx=>by obtain⟨b,o,h1,h2⟩:=h.el i x hx;exact⟨b,o,h1,h2.pre hp⟩⟩
end
structure lZ where
 t:Int
 w:Int
 k:Int
 deriving DecidableEq
def cc (c:lZ):List Value:=[I c.t,I c.w,I c.k]
def ci (n:Int):List Value:=[I n]
end Go.PM
namespace Go.PM
structure Me {α:Type} (enc:α→List Value) (gR:Nat):Prop where
 len:∀x,(enc x).length=gR
 sc:∀x,(enc x).all iQ=true
 pos:1≤gR
section
variable {α:Type} {enc:α→List Value} {gR:Nat} {H H':aI} {lo b:Nat} {xs ys:List α} {p:Bool}
theorem P8 (e:Me enc gR):(xs.flatMap enc).length=xs.length*gR:=by
 induction xs with
 | nil=>simp
 | cons x xs ih=>simp only[aLs,List.length_append,e.len,ih,aKO,aLt];omega
theorem KP (e:Me enc gR) (i:Nat):(xs.flatMap enc).drop (i*gR)=(xs.drop i).flatMap enc:=by
 induction i generalizing xs with
 | zero=>simp
 |
  succ i ih =>
  cases xs with
  | nil=>simp
  |
   cons x xs =>
   rw[aLs,List.drop_succ_cons,←ih,show (i+1)*gR=(enc x).length+i*gR by rw[e.len,aLt];omega,List.drop_append]
   simp
theorem R7 (e:Me enc gR) (i:Nat):(xs.flatMap enc).take (i*gR)=(xs.take i).flatMap enc:=by
 induction i generalizing xs with
 | zero=>simp
 |
  succ i ih =>
  cases xs with
  | nil=>simp
  |
   cons x xs =>
   rw[aLs,aLr,aLs,←ih,show (i+1)*gR=(enc x).length+i*gR by rw[e.len,aLt];omega,List.take_append]
   simp
   exact List.take_of_length_le (by omega)
theorem Um (e:Me enc gR) {i:Nat} (x:α) (hi:i<xs.length):kL (xs.flatMap enc) (i*gR) (enc x)=(xs.set i x).flatMap enc:=by
 unfold kL
 rw[R7 e,e.len,show i*gR+gR=(i+1)*gR by rw[aLt],KP e,List.set_eq_take_append_cons_drop,if_pos hi]
 simp
def Row (enc:α→List Value) (gR:Nat) (H:aI) (b:Nat) (p:Bool) (xs:List α):Prop:=H[b]? = some (.row (xs.flatMap enc) gR p)
theorem Row.lt (h:Row enc gR H b p xs):b<H.length:=(aKD.1 h).1
theorem Row.pre (h:Row enc gR H b p xs) (hp:H <+: H'):Row enc gR H' b p xs:=by
 obtain⟨L,rfl⟩:=hp
 unfold Row
 rw[Tl h.lt]
 exact h
theorem Row.elem (h:Row enc gR H b p xs) (e:Me enc gR) {i:Nat} {x:α} (hx:xs[i]? = some x):Fi H b (i*gR) (enc x):=by
 refine⟨h.lt,?_⟩
 have hi:=(aKD.1 hx).1
 have hm:(i+1)*gR≤xs.length*gR:=aK5 _ hi
 rw[aLt] at hm
 rw[CT h (by rw[e.len,P8 e];omega),KP e,e.len]
 have:=R7 (xs:=xs.drop i) e 1
 rw[Nat.one_mul] at this
 rw[this,aKJ hi]
 rw[aKL hi] at hx
 injection hx with hx
 simp[hx]
theorem Row.arr (h:Row enc gR H b p xs) (e:Me enc gR) {n:Nat} (hn:n≤xs.length):Arr enc gR H (some ⟨b,0,none⟩) n (xs.take n):=by
 refine⟨by simp;omega,fun i x hx=>⟨b,0,rfl,?_⟩⟩
 rw[Nat.zero_add]
 refine h.elem e ?_
 rw[List.getElem?_take] at hx
 split at hx
 ·exact hx
 ·cases hx
theorem Row.store (h:Row enc gR H b p xs) (e:Me enc gR) {i:Nat} {x:α} {u:Value} (hu:aV u=enc x) (hi:i<xs.length) (hl:lo≤b):IT lo gR (.pointer (some ⟨b,i*gR,none⟩)) u H=some (undef,H.set b (.row ((xs.set i x).flatMap enc) gR p)):=by
 simp only[IT,aI.write,hu,e.len,if_true]
 have h':H[b]? = some (.row (xs.flatMap enc) gR p):=h
 have hm:(i+1)*gR≤xs.length*gR:=aK5 _ hi
 rw[aLt] at hm
 simp only[h']
 rw[if_pos ⟨hl,by rw[P8 e];omega,e.sc x⟩,Um e x hi]
 rfl
theorem Row.set (h:Row enc gR H b p xs) (ys:List α):Row enc gR (H.set b (.row (ys.flatMap enc) gR p)) b p ys:=by
 unfold Row
 rw[List.getElem?_set_self h.lt]
theorem VJ (e:Me enc gR) {n:Nat} {x:α}:dF n (enc x)=(aLu n x).flatMap enc:=by
 have lR:=e.pos
 have hlen:=e.len x
 apply List.ext_getElem?
 intro i
 unfold dF
 rw[List.getElem?_map,hlen]
 rcases aKH i (n*gR) with hi | hi
 ·rw[List.getElem?_range hi]
  have hq:i / gR<n:=Nat.div_lt_of_lt_mul (by rw[Nat.mul_comm];exact hi)
  have h1:((aLu n x).flatMap enc)[i]? = (((aLu n x).flatMap enc).drop (i / gR*gR))[i % gR]? := by
   rw[aKC]
   congr 1
   rw[Nat.mul_comm]
   exact(Nat.div_add_mod i gR).symm
  have hr:i % gR<(enc x).length:=by rw[hlen];exact Nat.mod_lt _ (by omega)
  rw[h1,KP e,List.drop_replicate,show n-i / gR=(n-i / gR-1)+1 by omega,List.replicate_succ,aLs,aKV hr]
  simp[aKB,aKL hr]
 ·rw[aK4 (by simpa using hi),aK4 (by rw[P8 e];simpa using hi)]
  rfl
theorem Row.top {K:aI}:Row enc gR (H ++ .row (xs.flatMap enc) gR p::K) H.length p xs:=aaR
end
end Go.PM
namespace Go.PM
section
variable {H L:aI} {lo k o size:Nat} {agg:Bool} {u:Value}
end
end Go.PM
namespace Go.Proofs
open Go.Shelf
def OE:Go.Shelf.Ren:=⟨fun | 156=>217 | 165=>232 | 166=>233 | 169=>235 | 240=>245 | 241=>246 | 276=>253 | 277=>254 | n=>n,fun | 31=>33 | 9=>9 | 3=>3 | 4=>4 | 0=>0 | 20=>20 | 72=>262 | 76=>264 | 70=>260 | 37=>187 | 75=>220 | 127=>276 | 164=>285 | 5=>5 | 80=>227 | n=>n,fun | n=>n⟩
theorem Yt:Go.Proofs.Lays.n156 Tryz.prog OE:={
 mixed:=by kernel_rfl
 f156:=Tryz.func217.trans (congrArg some (by kernel_rfl))
 f165:=Tryz.func232.trans (congrArg some (by kernel_rfl))
 f166:=Tryz.func233.trans (congrArg some (by kernel_rfl))
 f169:=Tryz.func235.trans (congrArg some (by kernel_rfl))
 f240:=Tryz.func245.trans (congrArg some (by kernel_rfl))
 f241:=Tryz.func246.trans (congrArg some (by kernel_rfl))
 f276:=Tryz.func253.trans (congrArg some (by kernel_rfl))
 f277:=Tryz.func254.trans (congrArg some (by kernel_rfl))
 t0:=Tryz.underlying0
 a0:=Tryz.isAgg0
 z0:=Tryz.sizeOf0
 v0:=Tryz.zeroValue0
 t3:=Tryz.underlying3
 a3:=Tryz.isAgg3
 z3:=Tryz.sizeOf3
 v3:=Tryz.zeroValue3
 t4:=Tryz.underlying4
 a4:=Tryz.isAgg4
 z4:=Tryz.sizeOf4
 v4:=Tryz.zeroValue4
 t9:=Tryz.underlying9
 a9:=Tryz.isAgg9
 z9:=Tryz.sizeOf9
 v9:=Tryz.zeroValue9
 t20:=Tryz.underlying20
 a20:=Tryz.isAgg20
 z20:=Tryz.sizeOf20
 v20:=Tryz.zeroValue20
 t31:=Tryz.underlying33
 a31:=Tryz.isAgg33
 z31:=Tryz.sizeOf33
 v31:=Tryz.zeroValue33
 t37:=Tryz.underlying187
 a37:=Tryz.isAgg187
 z37:=Tryz.sizeOf187
 v37:=Tryz.zeroValue187
 t70:=Tryz.underlying260
 a70:=Tryz.isAgg260
 z70:=Tryz.sizeOf260
 v70:=Tryz.zeroValue260
 t72:=Tryz.underlying262
 a72:=Tryz.isAgg262
 z72:=Tryz.sizeOf262
 v72:=Tryz.zeroValue262
 t75:=Tryz.underlying220
 a75:=Tryz.isAgg220
 z75:=Tryz.sizeOf220
 v75:=Tryz.zeroValue220
 t76:=Tryz.underlying264
 a76:=Tryz.isAgg264
 z76:=Tryz.sizeOf264
 v76:=Tryz.zeroValue264
 t127:=Tryz.underlying276
 a127:=Tryz.isAgg276
 z127:=Tryz.sizeOf276
 v127:=Tryz.zeroValue276
 t164:=Tryz.underlying285
 a164:=Tryz.isAgg285
 z164:=Tryz.sizeOf285
 v164:=Tryz.zeroValue285 }
theorem Sm:Builder.Extra Tryz.prog OE:={
 sizeBuilder:=by kernel_rfl
 liesBuilder:=by kernel_rfl
 t5:=Tryz.underlying5
 a5:=Tryz.isAgg5
 z5:=Tryz.sizeOf5
 v5:=Tryz.zeroValue5
 infoByte:=by kernel_rfl
 cellsByte:=by kernel_rfl
 sizeByte:=by kernel_rfl
 neB5:=by decide }
def Yk:Go.Shelf.Ren:=⟨fun | 133=>198 | 128=>218 | n=>n,fun | 51=>206 | 3=>3 | 4=>4 | 46=>207 | 5=>5 | 9=>9 | n=>n,fun | n=>n⟩
theorem ayS:Go.Proofs.Lays.n133 Tryz.prog Yk:={
 mixed:=by kernel_rfl
 f128:=Tryz.func218.trans (congrArg some (by kernel_rfl))
 f133:=Tryz.func198.trans (congrArg some (by kernel_rfl))
 t3:=Tryz.underlying3
 a3:=Tryz.isAgg3
 z3:=Tryz.sizeOf3
 v3:=Tryz.zeroValue3
 t4:=Tryz.underlying4
 a4:=Tryz.isAgg4
 z4:=Tryz.sizeOf4
 v4:=Tryz.zeroValue4
 t5:=Tryz.underlying5
 a5:=Tryz.isAgg5
 z5:=Tryz.sizeOf5
 v5:=Tryz.zeroValue5
 t9:=Tryz.underlying9
 a9:=Tryz.isAgg9
 z9:=Tryz.sizeOf9
 v9:=Tryz.zeroValue9
 t46:=Tryz.underlying207
 a46:=Tryz.isAgg207
 z46:=Tryz.sizeOf207
 v46:=Tryz.zeroValue207
 t51:=Tryz.underlying206
 a51:=Tryz.isAgg206
 z51:=Tryz.sizeOf206
 v51:=Tryz.zeroValue206 }
def Xp:Go.Shelf.Ren:=⟨fun | 283=>241 | n=>n,fun | 3=>3 | 9=>9 | 4=>4 | n=>n,fun | n=>n⟩
theorem azX:Go.Proofs.Lays.n283 Tryz.prog Xp:={
 mixed:=by kernel_rfl
 f283:=Tryz.func241.trans (congrArg some (by kernel_rfl))
 t3:=Tryz.underlying3
 a3:=Tryz.isAgg3
 z3:=Tryz.sizeOf3
 v3:=Tryz.zeroValue3
 t4:=Tryz.underlying4
 a4:=Tryz.isAgg4
 z4:=Tryz.sizeOf4
 v4:=Tryz.zeroValue4
 t9:=Tryz.underlying9
 a9:=Tryz.isAgg9
 z9:=Tryz.sizeOf9
 v9:=Tryz.zeroValue9 }
def Yd:Go.Shelf.Ren:=⟨fun | 284=>242 | 129=>249 | 317=>248 | 318=>250 | n=>n,fun | 53=>171 | 3=>3 | 212=>281 | 0=>0 | 4=>4 | 46=>207 | 5=>5 | 9=>9 | n=>n,fun | 17=>3 | n=>n⟩
theorem ayL:Go.Proofs.LaysM.n284 Tryz.prog Yd:={
 mixed:=by kernel_rfl
 f129:=Tryz.func249.trans (congrArg some (by kernel_rfl))
 f284:=Tryz.func242.trans (congrArg some (by kernel_rfl))
 f317:=Tryz.func248.trans (congrArg some (by kernel_rfl))
 f318:=Tryz.func250.trans (congrArg some (by kernel_rfl))
 t0:=Tryz.underlying0
 a0:=Tryz.isAgg0
 z0:=Tryz.sizeOf0
 v0:=Tryz.zeroValue0
 t3:=Tryz.underlying3
 a3:=Tryz.isAgg3
 z3:=Tryz.sizeOf3
 v3:=Tryz.zeroValue3
 t4:=Tryz.underlying4
 a4:=Tryz.isAgg4
 z4:=Tryz.sizeOf4
 v4:=Tryz.zeroValue4
 t5:=Tryz.underlying5
 a5:=Tryz.isAgg5
 z5:=Tryz.sizeOf5
 v5:=Tryz.zeroValue5
 t9:=Tryz.underlying9
 a9:=Tryz.isAgg9
 z9:=Tryz.sizeOf9
 v9:=Tryz.zeroValue9
 t46:=Tryz.underlying207
 a46:=Tryz.isAgg207
 z46:=Tryz.sizeOf207
 v46:=Tryz.zeroValue207
 t53:=Tryz.underlying171
 a53:=Tryz.isAgg171
 z53:=Tryz.sizeOf171
 v53:=Tryz.zeroValue171
 t212:=Tryz.underlying281
 a212:=Tryz.isAgg281
 z212:=Tryz.sizeOf281
 v212:=Tryz.zeroValue281
 g17:=by kernel_rfl
 i0:=by kernel_rfl
 i3:=by kernel_rfl
 i4:=by kernel_rfl
 i5:=by kernel_rfl
 i9:=by kernel_rfl
 i46:=by kernel_rfl
 i53:=by kernel_rfl
 i212:=by kernel_rfl
 m17:=by kernel_rfl }
def Yz:Go.Shelf.Ren:=⟨fun | 285=>243 | n=>n,fun | 37=>187 | 53=>171 | 3=>3 | 4=>4 | 51=>206 | 9=>9 | 5=>5 | 0=>0 | n=>n,fun | n=>n⟩
theorem ayN:Go.Proofs.Lays.n285 Tryz.prog Yz:={
 mixed:=by kernel_rfl
 f285:=Tryz.func243.trans (congrArg some (by kernel_rfl))
 t0:=Tryz.underlying0
 a0:=Tryz.isAgg0
 z0:=Tryz.sizeOf0
 v0:=Tryz.zeroValue0
 t3:=Tryz.underlying3
 a3:=Tryz.isAgg3
 z3:=Tryz.sizeOf3
 v3:=Tryz.zeroValue3
 t4:=Tryz.underlying4
 a4:=Tryz.isAgg4
 z4:=Tryz.sizeOf4
 v4:=Tryz.zeroValue4
 t5:=Tryz.underlying5
 a5:=Tryz.isAgg5
 z5:=Tryz.sizeOf5
 v5:=Tryz.zeroValue5
 t9:=Tryz.underlying9
 a9:=Tryz.isAgg9
 z9:=Tryz.sizeOf9
 v9:=Tryz.zeroValue9
 t37:=Tryz.underlying187
 a37:=Tryz.isAgg187
 z37:=Tryz.sizeOf187
 v37:=Tryz.zeroValue187
 t51:=Tryz.underlying206
 a51:=Tryz.isAgg206
 z51:=Tryz.sizeOf206
 v51:=Tryz.zeroValue206
 t53:=Tryz.underlying171
 a53:=Tryz.isAgg171
 z53:=Tryz.sizeOf171
 v53:=Tryz.zeroValue171 }
def WM:Go.Shelf.Ren:=⟨fun | 14=>192 | 16=>211 | 17=>212 | 19=>224 | 20=>225 | 21=>226 | 22=>227 | 23=>228 | 24=>229 | 25=>238 | 27=>240 | 26=>239 | 28=>247 | 29=>255 | 30=>241 | 31=>242 | 32=>243 | 33=>244 | 35=>249 | 34=>248 | 36=>250 | 37=>251 | 38=>252 | 39=>256 | 40=>257 | n=>n,fun | 9=>9 | 3=>3 | 22=>171 | 24=>220 | 25=>221 | 4=>4 | 34=>255 | 5=>5 | 36=>207 | 37=>187 | 0=>0 | 39=>257 | 21=>21 | 44=>269 | 47=>276 | 50=>279 | 48=>277 | 2=>2 | 52=>271 | 55=>274 | 59=>281 | 60=>206 | 20=>20 | 61=>282 | 65=>289 | 66=>290 | 67=>227 | n=>n,fun | 0=>1 | 1=>2 | 2=>3 | 3=>4 | 4=>5 | n=>n⟩
theorem atP:Go.Proofs.LaysPu.n14 Tryz.prog WM:={
 mixed:=by kernel_rfl
 f14:=Tryz.func192.trans (congrArg some (by kernel_rfl))
 f16:=Tryz.func211.trans (congrArg some (by kernel_rfl))
 f17:=Tryz.func212.trans (congrArg some (by kernel_rfl))
 f19:=Tryz.func224.trans (congrArg some (by kernel_rfl))
 f20:=Tryz.func225.trans (congrArg some (by kernel_rfl))
 f21:=Tryz.func226.trans (congrArg some (by kernel_rfl))
 f22:=Tryz.func227.trans (congrArg some (by kernel_rfl))
 f23:=Tryz.func228.trans (congrArg some (by kernel_rfl))
 f24:=Tryz.func229.trans (congrArg some (by kernel_rfl))
 f25:=Tryz.func238.trans (congrArg some (by kernel_rfl))
 f26:=Tryz.func239.trans (congrArg some (by kernel_rfl))
 f27:=Tryz.func240.trans (congrArg some (by kernel_rfl))
 f28:=Tryz.func247.trans (congrArg some (by kernel_rfl))
 f29:=Tryz.func255.trans (congrArg some (by kernel_rfl))
 f30:=Tryz.func241.trans (congrArg some (by kernel_rfl))
 f31:=Tryz.func242.trans (congrArg some (by kernel_rfl))
 f32:=Tryz.func243.trans (congrArg some (by kernel_rfl))
 f33:=Tryz.func244.trans (congrArg some (by kernel_rfl))
 f34:=Tryz.func248.trans (congrArg some (by kernel_rfl))
 f35:=Tryz.func249.trans (congrArg some (by kernel_rfl))
 f36:=Tryz.func250.trans (congrArg some (by kernel_rfl))
 f37:=Tryz.func251.trans (congrArg some (by kernel_rfl))
 f38:=Tryz.func252.trans (congrArg some (by kernel_rfl))
 f39:=Tryz.func256.trans (congrArg some (by kernel_rfl))
 f40:=Tryz.func257.trans (congrArg some (by kernel_rfl))
 t0:=Tryz.underlying0
 a0:=Tryz.isAgg0
 z0:=Tryz.sizeOf0
 v0:=Tryz.zeroValue0
 i0:=by kernel_rfl
 t2:=Tryz.underlying2
 a2:=Tryz.isAgg2
 z2:=Tryz.sizeOf2
 v2:=Tryz.zeroValue2
 i2:=by kernel_rfl
 t3:=Tryz.underlying3
 a3:=Tryz.isAgg3
 z3:=Tryz.sizeOf3
 v3:=Tryz.zeroValue3
 i3:=by kernel_rfl
 t4:=Tryz.underlying4
 a4:=Tryz.isAgg4
 z4:=Tryz.sizeOf4
 v4:=Tryz.zeroValue4
 i4:=by kernel_rfl
 t5:=Tryz.underlying5
 a5:=Tryz.isAgg5
 z5:=Tryz.sizeOf5
 v5:=Tryz.zeroValue5
 i5:=by kernel_rfl
 t9:=Tryz.underlying9
 a9:=Tryz.isAgg9
 z9:=Tryz.sizeOf9
 v9:=Tryz.zeroValue9
 i9:=by kernel_rfl
 t20:=Tryz.underlying20
 a20:=Tryz.isAgg20
 z20:=Tryz.sizeOf20
 v20:=Tryz.zeroValue20
 i20:=by kernel_rfl
 t21:=Tryz.underlying21
 a21:=Tryz.isAgg21
 z21:=Tryz.sizeOf21
 v21:=Tryz.zeroValue21
 i21:=by kernel_rfl
 t22:=Tryz.underlying171
 a22:=Tryz.isAgg171
 z22:=Tryz.sizeOf171
 v22:=Tryz.zeroValue171
 i22:=by kernel_rfl
 t24:=Tryz.underlying220
 a24:=Tryz.isAgg220
 z24:=Tryz.sizeOf220
 v24:=Tryz.zeroValue220
 i24:=by kernel_rfl
 t25:=Tryz.underlying221
 a25:=Tryz.isAgg221
 z25:=Tryz.sizeOf221
 v25:=Tryz.zeroValue221
 i25:=by kernel_rfl
 t34:=Tryz.underlying255
 a34:=Tryz.isAgg255
 z34:=Tryz.sizeOf255
 v34:=Tryz.zeroValue255
 i34:=by kernel_rfl
 c34:=by kernel_rfl
 t36:=Tryz.underlying207
 a36:=Tryz.isAgg207
 z36:=Tryz.sizeOf207
 v36:=Tryz.zeroValue207
 i36:=by kernel_rfl
 t37:=Tryz.underlying187
 a37:=Tryz.isAgg187
 z37:=Tryz.sizeOf187
 v37:=Tryz.zeroValue187
 i37:=by kernel_rfl
 t39:=Tryz.underlying257
 a39:=Tryz.isAgg257
 z39:=Tryz.sizeOf257
 v39:=Tryz.zeroValue257
 i39:=by kernel_rfl
 t44:=Tryz.underlying269
 a44:=Tryz.isAgg269
 z44:=Tryz.sizeOf269
 v44:=Tryz.zeroValue269
 i44:=by kernel_rfl
 t47:=Tryz.underlying276
 a47:=Tryz.isAgg276
 z47:=Tryz.sizeOf276
 v47:=Tryz.zeroValue276
 i47:=by kernel_rfl
 t48:=Tryz.underlying277
 a48:=Tryz.isAgg277
 z48:=Tryz.sizeOf277
 v48:=Tryz.zeroValue277
 i48:=by kernel_rfl
 t50:=Tryz.underlying279
 a50:=Tryz.isAgg279
 z50:=Tryz.sizeOf279
 v50:=Tryz.zeroValue279
 i50:=by kernel_rfl
 t52:=Tryz.underlying271
 a52:=Tryz.isAgg271
 z52:=Tryz.sizeOf271
 v52:=Tryz.zeroValue271
 i52:=by kernel_rfl
 t55:=Tryz.underlying274
 a55:=Tryz.isAgg274
 z55:=Tryz.sizeOf274
 v55:=Tryz.zeroValue274
 i55:=by kernel_rfl
 t59:=Tryz.underlying281
 a59:=Tryz.isAgg281
 z59:=Tryz.sizeOf281
 v59:=Tryz.zeroValue281
 i59:=by kernel_rfl
 t60:=Tryz.underlying206
 a60:=Tryz.isAgg206
 z60:=Tryz.sizeOf206
 v60:=Tryz.zeroValue206
 i60:=by kernel_rfl
 t61:=Tryz.underlying282
 a61:=Tryz.isAgg282
 z61:=Tryz.sizeOf282
 t65:=Tryz.underlying289
 a65:=Tryz.isAgg289
 z65:=Tryz.sizeOf289
 v65:=Tryz.zeroValue289
 i65:=by kernel_rfl
 t66:=Tryz.underlying290
 a66:=Tryz.isAgg290
 z66:=Tryz.sizeOf290
 v66:=Tryz.zeroValue290
 i66:=by kernel_rfl
 t67:=Tryz.underlying227
 a67:=Tryz.isAgg227
 z67:=Tryz.sizeOf227
 v67:=Tryz.zeroValue227
 i67:=by kernel_rfl
 g0:=by kernel_rfl
 m0:=by kernel_rfl
 g1:=by kernel_rfl
 m1:=by kernel_rfl
 g2:=by kernel_rfl
 m2:=by kernel_rfl
 g3:=by kernel_rfl
 m3:=by kernel_rfl
 g4:=by kernel_rfl
 m4:=by kernel_rfl }
def YE:Go.Shelf.Ren:=⟨fun | 219=>209 | 217=>220 | 225=>221 | 224=>222 | 267=>223 | 266=>236 | 314=>237 | n=>n,fun | 9=>9 | 3=>3 | 4=>4 | 5=>5 | 46=>207 | 146=>240 | 51=>206 | n=>n,fun | 1=>0 | n=>n⟩
theorem azJ:Go.Proofs.Lays.n219 Tryz.prog YE:={
 mixed:=by kernel_rfl
 f217:=Tryz.func220.trans (congrArg some (by kernel_rfl))
 f219:=Tryz.func209.trans (congrArg some (by kernel_rfl))
 f224:=Tryz.func222.trans (congrArg some (by kernel_rfl))
 f225:=Tryz.func221.trans (congrArg some (by kernel_rfl))
 f266:=Tryz.func236.trans (congrArg some (by kernel_rfl))
 f267:=Tryz.func223.trans (congrArg some (by kernel_rfl))
 f314:=Tryz.func237.trans (congrArg some (by kernel_rfl))
 t3:=Tryz.underlying3
 a3:=Tryz.isAgg3
 z3:=Tryz.sizeOf3
 v3:=Tryz.zeroValue3
 t4:=Tryz.underlying4
 a4:=Tryz.isAgg4
 z4:=Tryz.sizeOf4
 v4:=Tryz.zeroValue4
 t5:=Tryz.underlying5
 a5:=Tryz.isAgg5
 z5:=Tryz.sizeOf5
 v5:=Tryz.zeroValue5
 t9:=Tryz.underlying9
 a9:=Tryz.isAgg9
 z9:=Tryz.sizeOf9
 v9:=Tryz.zeroValue9
 t46:=Tryz.underlying207
 a46:=Tryz.isAgg207
 z46:=Tryz.sizeOf207
 v46:=Tryz.zeroValue207
 t51:=Tryz.underlying206
 a51:=Tryz.isAgg206
 z51:=Tryz.sizeOf206
 v51:=Tryz.zeroValue206
 t146:=Tryz.underlying240
 a146:=Tryz.isAgg240
 z146:=Tryz.sizeOf240
 v146:=Tryz.zeroValue240
 g1:=by kernel_rfl }
def PX:Go.Shelf.Ren:=⟨fun | 105=>215 | 212=>187 | 99=>231 | 165=>232 | 166=>233 | 170=>234 | 169=>235 | 263=>206 | 264=>207 | 206=>210 | 240=>245 | 241=>246 | 276=>253 | 277=>254 | n=>n,fun | 9=>9 | 3=>3 | 4=>4 | 20=>20 | 0=>0 | 46=>207 | 109=>215 | 5=>5 | 72=>262 | 76=>264 | 51=>206 | 146=>240 | 53=>171 | 148=>242 | 70=>260 | 37=>187 | 75=>220 | 127=>276 | 164=>285 | 80=>227 | n=>n,fun | n=>n⟩
theorem ayV:Go.Proofs.Lays.n105 Tryz.prog PX:={
 mixed:=by kernel_rfl
 f99:=Tryz.func231.trans (congrArg some (by kernel_rfl))
 f105:=Tryz.func215.trans (congrArg some (by kernel_rfl))
 f165:=Tryz.func232.trans (congrArg some (by kernel_rfl))
 f166:=Tryz.func233.trans (congrArg some (by kernel_rfl))
 f169:=Tryz.func235.trans (congrArg some (by kernel_rfl))
 f170:=Tryz.func234.trans (congrArg some (by kernel_rfl))
 f206:=Tryz.func210.trans (congrArg some (by kernel_rfl))
 f212:=Tryz.func187.trans (congrArg some (by kernel_rfl))
 f240:=Tryz.func245.trans (congrArg some (by kernel_rfl))
 f241:=Tryz.func246.trans (congrArg some (by kernel_rfl))
 f263:=Tryz.func206.trans (congrArg some (by kernel_rfl))
 f264:=Tryz.func207.trans (congrArg some (by kernel_rfl))
 f276:=Tryz.func253.trans (congrArg some (by kernel_rfl))
 f277:=Tryz.func254.trans (congrArg some (by kernel_rfl))
 t0:=Tryz.underlying0
 a0:=Tryz.isAgg0
 z0:=Tryz.sizeOf0
 v0:=Tryz.zeroValue0
 t3:=Tryz.underlying3
 a3:=Tryz.isAgg3
 z3:=Tryz.sizeOf3
 v3:=Tryz.zeroValue3
 t4:=Tryz.underlying4
 a4:=Tryz.isAgg4
 z4:=Tryz.sizeOf4
 v4:=Tryz.zeroValue4
 t5:=Tryz.underlying5
 a5:=Tryz.isAgg5
 z5:=Tryz.sizeOf5
 v5:=Tryz.zeroValue5
 t9:=Tryz.underlying9
 a9:=Tryz.isAgg9
 z9:=Tryz.sizeOf9
 v9:=Tryz.zeroValue9
 t20:=Tryz.underlying20
 a20:=Tryz.isAgg20
 z20:=Tryz.sizeOf20
 v20:=Tryz.zeroValue20
 t37:=Tryz.underlying187
 a37:=Tryz.isAgg187
 z37:=Tryz.sizeOf187
 v37:=Tryz.zeroValue187
 t46:=Tryz.underlying207
 a46:=Tryz.isAgg207
 z46:=Tryz.sizeOf207
 v46:=Tryz.zeroValue207
 t51:=Tryz.underlying206
 a51:=Tryz.isAgg206
 z51:=Tryz.sizeOf206
 v51:=Tryz.zeroValue206
 t53:=Tryz.underlying171
 a53:=Tryz.isAgg171
 z53:=Tryz.sizeOf171
 v53:=Tryz.zeroValue171
 t70:=Tryz.underlying260
 a70:=Tryz.isAgg260
 z70:=Tryz.sizeOf260
 v70:=Tryz.zeroValue260
 t72:=Tryz.underlying262
 a72:=Tryz.isAgg262
 z72:=Tryz.sizeOf262
 v72:=Tryz.zeroValue262
 t75:=Tryz.underlying220
 a75:=Tryz.isAgg220
 z75:=Tryz.sizeOf220
 v75:=Tryz.zeroValue220
 t76:=Tryz.underlying264
 a76:=Tryz.isAgg264
 z76:=Tryz.sizeOf264
 v76:=Tryz.zeroValue264
 t109:=Tryz.underlying215
 a109:=Tryz.isAgg215
 z109:=Tryz.sizeOf215
 v109:=Tryz.zeroValue215
 t127:=Tryz.underlying276
 a127:=Tryz.isAgg276
 z127:=Tryz.sizeOf276
 v127:=Tryz.zeroValue276
 t146:=Tryz.underlying240
 a146:=Tryz.isAgg240
 z146:=Tryz.sizeOf240
 v146:=Tryz.zeroValue240
 t148:=Tryz.underlying242
 a148:=Tryz.isAgg242
 z148:=Tryz.sizeOf242
 v148:=Tryz.zeroValue242
 t164:=Tryz.underlying285
 a164:=Tryz.isAgg285
 z164:=Tryz.sizeOf285
 v164:=Tryz.zeroValue285 }
theorem atO:Builder.Extra Tryz.prog PX:={
 sizeBuilder:=by kernel_rfl
 liesBuilder:=by kernel_rfl
 t5:=Tryz.underlying5
 a5:=Tryz.isAgg5
 z5:=Tryz.sizeOf5
 v5:=Tryz.zeroValue5
 infoByte:=by kernel_rfl
 cellsByte:=by kernel_rfl
 sizeByte:=by kernel_rfl
 neB5:=by decide }
end Go.Proofs
namespace Go.Proofs
open Go.Shelf Go.RowKit Go.Sort Go.Lib
abbrev X1:UInt8→Value:=fun b=>Value.int .u8 (b.toNat:Int)
theorem abG (w:World) (T:TypeId) (nd:Nat) (hs:nd≤24):Holds X1 (w.alloc (.cells Lib.zeros24 T)) w.heap.size 0 (aLm nd (0:UInt8)):=fun j hj=>by
 have hj':j<nd:=by simpa using hj
 refine⟨?_,World.frozen?_alloc_new _ _ _ _⟩
 rw[World.cell?_alloc_new,Lib.zeros24_at _ (by omega),getElem!_pos _ j hj]
 simp
theorem DK (w:World) (o:Obj) (dk:Array UInt8) (k:Nat):Below w.heap.size w ((putRow X1 (w.alloc o) w.heap.size 0 dk).drewN k):=by
 rw[alloc_eq_grow]
 obtain⟨os',_,e⟩:=putRow_grow_new X1 w #[o] w.heap.size 0 dk (aKE _)
 rw[e]
 refine⟨rfl,rfl,rfl,by show w.heap.size≤(w.heap++os').size;simp,fun i hi => ?_⟩
 show (w.heap++os')[i]? = _
 rw[aLn hi]
set_option maxHeartbeats 6400000 in
set_option maxRecDepth 100000 in
theorem awL (u:Nat) (aiZ:u<18446744073709551616) (w:World) (awP:Lib.TabIs Tryz.prog w "internal/strconv.uint64pow10" .u64 Lib.pow10Tab) :
  Calls Tryz.prog 230 #[.int .u64 u,.int .i64 10] w fun e w'=>e = .returned (.string ⟨(Lib.decDigits u).toArray⟩)∧Below w.heap.size w w':=by
 by_cases hs:u<100
 ·go_enter Tryz.func230,Tryz.ntmps230
  go_wp2_with (go_at_call 241;refine(Any.internal_strconv_small azX u hs _).mono ?_;rintro e w' ⟨rfl,rfl⟩)
  go_ret
  exact⟨rfl,Below.refl _ _⟩
 ·have hu1:1≤u:=by omega
  have aF1:Lib.nDigits u≤20:=by have:=Lib.numDigits_eq u hu1 aiZ;split at this<;>omega
  have hH0:=abG w 271 (Lib.nDigits u) (by omega)
  have aA8:=Any.internal_strconv_formatBase10 ayN w.heap.size 0 24 u (aLm (Lib.nDigits u) 0) (w.alloc (.cells Lib.zeros24 271)) hH0 (by rw[aLv];exact Lib.lt_pow_nDigits u) aiZ (by rw[aLv];omega)
  rw[aLv] at aA8
  have HH0:=Lib.hid hH0
  have hal:Tryz.prog.arrayLen 271=24:=by simp[Program.arrayLen,Tryz.underlying271]
  have Td:∀W,(Instr.sliceAt 271 (.pointer (some ⟨w.heap.size,0,none⟩)) none (some (.int .i64 (Lib.nDigits u:Int))) none).run Tryz.prog W = .ok (.slice (some ⟨w.heap.size,0,none⟩) (Lib.nDigits u) 24) W:=fun W=>by
   rw[run_sliceAt_array_h W 271 ⟨w.heap.size,0,none⟩ (by simp[Program.arrayLen,Program.elem,Tryz.underlying271]) .i64 (Lib.nDigits u:Int) (by omega) (by rw[hal];omega)]
   go_simp
  clear hH0 hal
  go_enter Tryz.func230,Tryz.ntmps230
  go_wp2_with (first
   | (go_at_call 242;refine(Any.internal_strconv_numDigits ayL u hu1 aiZ _ (Lib.tabIs_alloc awP _)).mono ?_;rintro e w' ⟨rfl,rfl⟩))
  go_at_call 243
  refine aA8.mono ?_
  rintro e w' ⟨rfl,k,v',dk,rfl,hF⟩
  have hcv:(convert 187 9 (.slice (some ⟨w.heap.size,0,none⟩) (Lib.nDigits u) 24)).run Tryz.prog ((putRow X1 (w.alloc (.cells Lib.zeros24 271)) w.heap.size 0 dk).drewN k) = .ok (.string ⟨(Lib.decDigits u).toArray⟩) ((putRow X1 (w.alloc (.cells Lib.zeros24 271)) w.heap.size 0 dk).drewN k):=by
   have h:=run_convert_bytes_back (P:=Tryz.prog) ((putRow X1 (w.alloc (.cells Lib.zeros24 271)) w.heap.size 0 dk).drewN k) 187 9 5 ⟨w.heap.size,0,none⟩ 24 (Lib.decDigits u) Tryz.underlying187 Tryz.underlying5 Tryz.underlying9 (fun j hj=>by
    rw[Lib.row_is_numeral hF j hj,Lib.add_plain,World.cell?_drewN]
    exact cell?_putRow X1 _ w.heap.size 0 _ dk HH0.out (by rw[hF.size,aLv]) j (by rw[hF.size];rw[Lib.decDigits_length] at hj;exact hj))
   rw[Lib.decDigits_length] at h
   exact h
  go_wp2
  go_ret
  exact⟨rfl,DK w _ dk k⟩
theorem akK (u:Nat) (aiZ:u<18446744073709551616) (w:World) (awP:Lib.TabIs Tryz.prog w "internal/strconv.uint64pow10" .u64 Lib.pow10Tab) :
  Calls Tryz.prog 214 #[.int .u64 u,.int .i64 10] w fun e w'=>e = .returned (.string ⟨(Lib.decDigits u).toArray⟩)∧Below w.heap.size w w':=by
 go_enter Tryz.func214,Tryz.ntmps214
 go_wp2_with (go_at_call 230;refine(awL u aiZ _ awP).mono ?_;rintro e w' ⟨rfl,hb⟩)
 go_ret
 exact⟨rfl,hb⟩
end Go.Proofs
namespace Go.PM
open Go.Proofs Go.RowKit
theorem Below.CU {w w':World} (h:Below w.heap.size w w'):w.heap.size≤w'.heap.size∧(∀rb,rb<w.heap.size→w'.heap[rb]? = w.heap[rb]?)∧w'.os=w.os∧w'.output=w.output∧w'.tape=w.tape :=
 ⟨h.size,h.block,h.os,h.output,h.tape⟩
theorem DJ {w:World}:w.heap.size≤w.heap.size∧(∀rb,rb<w.heap.size→w.heap[rb]? = w.heap[rb]?)∧w.os=w.os∧w.output=w.output∧w.tape=w.tape :=
 ⟨aKE _,fun _ _=>rfl,rfl,rfl,rfl⟩
def Gu (f:Nat) (p:List Value→aI→Option Value):Prop :=
 Oa Tryz.prog f∧∀L0 args H v,p args H=some v→∀m w iV,Rel m L0 H w→RL m args iV →
  Calls Tryz.prog f iV.toArray w fun e w'=>∃rv,e = .returned rv∧RV m v rv∧w.heap.size≤w'.heap.size∧(∀rb,rb<w.heap.size→w'.heap[rb]? = w.heap[rb]?)∧w'.os=w.os∧w'.output=w.output∧w'.tape=w.tape
theorem RL.one {m:dL} {x:Value} {ys:List Value} (h:RL m [x] ys):∃y,ys=[y]∧RV m x y:=by
 match ys,h with
 | [y],h=>exact⟨y,rfl,h.lK.1⟩
 | [],h=>exact absurd h.1 (by simp)
 | _::_::_,h=>exact absurd h.1 (by simp)
theorem RL.two {m:dL} {x x':Value} {ys:List Value} (h:RL m [x,x'] ys):∃y y',ys=[y,y']∧RV m x y∧RV m x' y':=by
 match ys,h with
 | [y,y'],h=>exact⟨y,y',rfl,h.lK.1,h.lK.2.lK.1⟩
 | [],h=>exact absurd h.1 (by simp)
 | [_],h=>exact absurd h.1 (by simp)
 | _::_::_::_,h=>exact absurd h.1 (by simp)
theorem RL.three {m:dL} {x x' x'':Value} {ys:List Value} (h:RL m [x,x',x''] ys):∃y y' y'',ys=[y,y',y'']∧RV m x y∧RV m x' y'∧RV m x'' y'':=by
 match ys,h with
 | [y,y',y''],h=>exact⟨y,y',y'',rfl,h.lK.1,h.lK.2.lK.1,h.lK.2.lK.2.lK.1⟩
 | [],h=>exact absurd h.1 (by simp)
 | [_],h=>exact absurd h.1 (by simp)
 | [_,_],h=>exact absurd h.1 (by simp)
 | _::_::_::_::_,h=>exact absurd h.1 (by simp)
theorem HN {m:dL}:∀ {cs rs:List Value} {xs:List ByteArray},strCells cs=some xs→RL m cs rs→rs=xs.map .string
 |
  [],rs,xs,h,hr=>by
  cases h
  match rs,hr with
  | [],_=>rfl
  | _::_,hr=>exact absurd hr.1 (by simp)
 |
  c::cs,rs,xs,h,hr=>by
  match rs,hr with
  | [],hr=>exact absurd hr.1 (by simp)
  |
   r::rs,hr =>
   obtain⟨h1,h2⟩:=hr.lK
   cases c with
   |
    string s =>
    rw[strCells] at h
    cases hc:strCells cs with
    | none=>rw[hc] at h;cases h
    |
     some ys =>
     rw[hc] at h
     cases h
     cases h1
     rw[HN hc h2]
     rfl
   | _=>cases h
theorem Ma:Gu 198 Fk:=by
 refine⟨⟨_,Tryz.func198,by kernel_rfl,by kernel_rfl⟩,fun L0 args H v hp m w iV hR hr => ?_⟩
 unfold Fk at hp
 split at hp
 case h_2=>cases hp
 rename_i x
 split at hp
 case isFalse=>cases hp
 rename_i hx
 cases hp
 obtain⟨y,rfl,h1⟩:=hr.one
 cases h1
 refine(Any.bits_LeadingZeros32 ayS x w hx.1 hx.2).mono ?_
 rintro e w' ⟨rfl,rfl⟩
 exact⟨_,rfl,.int _ _,DJ⟩
theorem PE:Gu 215 Js:=by
 refine⟨⟨_,Tryz.func215,by kernel_rfl,by kernel_rfl⟩,fun L0 args H v hp m w iV hR hr => ?_⟩
 unfold Js at hp
 split at hp
 case h_2=>cases hp
 rename_i s c
 split at hp
 case isFalse=>cases hp
 rename_i hx
 cases hp
 obtain⟨y,y',rfl,h1,h2⟩:=hr.two
 cases h1
 cases h2
 obtain⟨k,rfl⟩:∃k:Nat,c=k:=⟨c.toNat,by omega⟩
 refine(Any.strings_Repeat ayV atO s k w (by omega) hx.2.2).mono ?_
 rintro e w' ⟨rfl,hb⟩
 exact⟨_,rfl,.str _,Below.CU hb⟩
theorem T8:Gu 217 VY:=by
 refine⟨⟨_,Tryz.func217,by kernel_rfl,by kernel_rfl⟩,fun L0 args H v hp m w iV hR hr => ?_⟩
 unfold VY at hp
 split at hp
 case h_3=>cases hp
 ·cases hp
  obtain⟨y,y',rfl,h1,h2⟩:=hr.two
  cases h1
  cases h2
  refine(Any.strings_Join_none Yt Sm none 0 _ w).mono ?_
  rintro e w' ⟨rfl,rfl⟩
  exact⟨_,rfl,.str _,DJ⟩
 ·rename_i b o n c sep
  obtain⟨y,y',rfl,h1,h2⟩:=hr.two
  cases h2
  cases h1 with
  |
   slice _ _ _ _ l ra rc h hn hc hx ha =>
   split at hp
   ·rename_i hn0
    subst hn0
    cases hp
    refine(Any.strings_Join_none Yt Sm (some ra) rc _ w).mono ?_
    rintro e w' ⟨rfl,rfl⟩
    exact⟨_,rfl,.str _,DJ⟩
   ·rename_i hn0
    split at hp
    case h_2=>cases hp
    rename_i xs MY
    split at hp
    case isFalse=>cases hp
    rename_i Vc
    cases hp
    obtain⟨cs,HY,OR⟩:=Option.bind_eq_some_iff.1 MY
    obtain⟨rs,r1,r2,_,r4⟩:=AY hR h HY
    have hrs:=HN OR r1
    subst hrs
    rcases ha with ha | ⟨rfl,ha⟩
    ·omega
    obtain⟨arr,e0,fz0,v1,_⟩:=hR.valid b l h
    have E7:l.rb<w.heap.size:=(aKN.1 v1).1
    obtain⟨c1,c2,c3,c4⟩:=Vc
    subst c1
    refine(Any.strings_Join Yt Sm l.rb (l.base+o) rc xs sep w (fun j x hj => ?_) E7 c3 (by omega) c4).mono ?_
    ·have:=r4 j (.string x) (by simp[hj])
     rw[Addr.add_lit] at this
     exact this
    ·rintro e w' ⟨rfl,hb⟩
     exact⟨_,rfl,.str _,Below.CU hb⟩
theorem XC {m:dL} {L0:Nat} {H:aI} {w:World} (hR:Rel m L0 H w):Lib.TabIs Tryz.prog w "internal/strconv.uint64pow10" .u64 Lib.pow10Tab:=by
 obtain⟨e,fz,h⟩:=(hR.Fz (3,(Lib.pow10Tab.map fun z=>Value.int .u64 z).toArray) (by simp[asB])).1
 have hg:Tryz.prog.globalNamed "internal/strconv.uint64pow10"=some 3:=by kernel_rfl
 unfold Lib.TabIs World.var?
 rw[hg]
 simp only[Option.bind_some,h]
theorem V6:Gu 214 zG:=by
 refine⟨⟨_,Tryz.func214,by kernel_rfl,by kernel_rfl⟩,fun L0 args H v hp m w iV hR hr => ?_⟩
 unfold zG at hp
 split at hp
 case h_2=>cases hp
 rename_i n b
 split at hp
 case isFalse=>cases hp
 rename_i hx
 cases hp
 obtain⟨y,y',rfl,h1,h2⟩:=hr.two
 cases h1
 cases h2
 obtain⟨rfl,h0,h1⟩:=hx
 obtain⟨u,rfl⟩:∃u:Nat,n=u:=⟨n.toNat,by omega⟩
 refine(akK u (by omega) w (XC hR)).mono ?_
 rintro e w' ⟨rfl,hb⟩
 exact⟨_,rfl,.str _,Below.CU hb⟩
theorem RN:Gu 209 SZ:=by
 refine⟨⟨_,Tryz.func209,by kernel_rfl,by kernel_rfl⟩,fun L0 args H v hp m w iV hR hr => ?_⟩
 unfold SZ at hp
 split at hp
 case h_2=>cases hp
 rename_i s p
 split at hp
 case h_2=>cases hp
 rename_i c hc
 cases hp
 obtain⟨y,y',rfl,h1,h2⟩:=hr.two
 cases h1
 cases h2
 have hp:p=⟨#[c]⟩:=by
  obtain⟨a⟩:=p
  obtain⟨l⟩:=a
  have:l=[c]:=hc
  rw[this]
 subst hp
 refine(Any.stringslite_Index_one azJ s c w).mono ?_
 rintro e w' ⟨rfl,rfl⟩
 exact⟨_,rfl,.int _ _,DJ⟩
theorem RB:Gu 192 BL:=by
 refine⟨⟨_,Tryz.func192,by kernel_rfl,by kernel_rfl⟩,fun L0 args H v hp m w iV hR hr => ?_⟩
 unfold BL at hp
 split at hp
 case h_2=>cases hp
 rename_i s b z
 split at hp
 case isFalse=>cases hp
 rename_i hx
 obtain⟨rfl,rfl,hs⟩:=hx
 split at hp
 case h_2=>cases hp
 rename_i u hu
 cases hp
 obtain⟨y,y',y'',rfl,h1,h2,h3⟩:=hr.three
 cases h1
 cases h2
 cases h3
 refine(Any.strconv_ParseUint_10_at64_ok atP s hs u hu w).mono ?_
 have hv:∀m,RV m (.tuple #[.int .u64 (u:Int),.nilIface]) (.tuple #[.int .u64 (u:Int),.nilIface]):=fun m => .tuple _ _ rfl fun i hi=>by
  match i,hi with
  | 0,_=>exact .int _ _
  | 1,_=>exact .nilIface
  | n+2,hi=>exact absurd hi (by simp)
 rintro e w' ⟨rfl,rfl | rfl⟩
 ·exact⟨_,rfl,hv m,DJ⟩
 ·exact⟨_,rfl,hv m,Below.CU (Lib.bytesWorld_below _ _ _)⟩
theorem ayB {L0:Nat}:agZ Tryz.prog cfg L0:=by
 intro f p hp
 have BY:L6 f=some p:=hp
 unfold L6 at BY
 split at BY
 ·rename_i h;subst h;cases BY;exact⟨V6.1,V6.2 L0⟩
 split at BY
 ·rename_i h;subst h;cases BY;exact⟨PE.1,PE.2 L0⟩
 split at BY
 ·rename_i h;subst h;cases BY;exact⟨T8.1,T8.2 L0⟩
 split at BY
 ·rename_i h;subst h;cases BY;exact⟨Ma.1,Ma.2 L0⟩
 split at BY
 ·rename_i h;subst h;cases BY;exact⟨RN.1,RN.2 L0⟩
 split at BY
 ·rename_i h;subst h;cases BY;exact⟨RB.1,RB.2 L0⟩
 cases BY
end Go.PM
namespace Go.PM
open Go.ChangeShapes Go.WideShapes Go.ChangeAt Go.RowKit
open Go.Proofs
structure In (m:dL) (H:aI) (W:World):Prop where
 dom:∀b l,m b=some l→b<H.length
 valid:∀b l,m b=some l→∃arr e fz,W.heap[l.rb]? = some (.cells arr e fz)∧arr.size=l.Tu
 row:∀b l cs e p,m b=some l→H[b]? = some (.row cs e p)→l.gR=e∧l.WQ=p∧l.base+cs.length≤l.Tu ∧
  ∀i,i<cs.length→∃rv,W.cell? ⟨l.rb,l.base+i,none⟩=some rv∧RV m (cs.getD i Go.undef) rv∧PM.iQ (cs.getD i Go.undef)=true
section
variable {m:dL} {H:aI} {W:World}
theorem In.empty:In (fun _=>none) [] W:=⟨fun _ _ h=>(by cases h),fun _ _ h=>(by cases h),fun _ _ _ _ _ h=>(by cases h)⟩
theorem In.rel (h:In m H W) (hg:SL W):Rel m H.length H W :=
 ⟨fun b l hb=>by
  obtain⟨arr,e,fz,h1,h2⟩:=h.valid b l hb
  exact⟨arr,e,fz,h1,h2,fun hl=>by have:=h.dom b l hb;omega⟩,h.row,fun b1 b2 l1 l2 hl h1 _ _ _ _=>by have:=h.dom b1 l1 h1;omega,fun x hx=>⟨hg x hx,fun b l hb hm _=>by have:=h.dom b l hm;omega⟩⟩
theorem In.Wa (h:In m H W) {b:Nat} (hb:H.length≤b):m b=none:=by
 cases hm:m b with
 | none=>rfl
 | some l=>have:=h.dom b l hm;omega
theorem In.add (h:In m H W) {rb base gR:Nat} {arr:Array Value} {e:TypeId} {fz:Nat×Nat} {cs:List Value} (hb:W.heap[rb]? = some (.cells arr e fz)) (xE:base+cs.length≤arr.size)
  (hc:∀i,i<cs.length→∃rv,W.cell? ⟨rb,base+i,none⟩=some rv∧RV (yA m H.length ⟨rb,base,gR,arr.size,false⟩) (cs.getD i Go.undef) rv∧PM.iQ (cs.getD i Go.undef)=true) :
  In (yA m H.length ⟨rb,base,gR,arr.size,false⟩) (H++[.row cs gR false]) W:=by
 have hn:=h.Wa (aKE H.length)
 refine⟨fun b l zD => ?_,fun b l zD => ?_,fun b l ds e' p zD mA => ?_⟩
 ·by_cases he:b=H.length
  ·subst he;simp
  ·rw[cZ he] at zD
   have:=h.dom b l zD
   simp;omega
 ·by_cases he:b=H.length
  ·subst he
   rw[cC] at zD
   cases zD
   exact⟨arr,e,fz,hb,rfl⟩
  ·rw[cZ he] at zD
   exact h.valid b l zD
 ·by_cases he:b=H.length
  ·subst he
   rw[cC] at zD
   cases zD
   rw[aaR] at mA
   cases mA
   exact⟨rfl,rfl,xE,hc⟩
  ·rw[cZ he] at zD
   have bI:=h.dom b l zD
   rw[Tl bI] at mA
   obtain⟨h1,h2,h3,h4⟩:=h.row b l ds e' p zD mA
   refine⟨h1,h2,h3,fun i hi => ?_⟩
   obtain⟨rv,g1,g2,g3⟩:=h4 i hi
   exact⟨rv,g1,g2.mono (yE hn),g3⟩
end
theorem aaH {α:Type} (p:Nat→α→Prop):∀c,(∀i,i<c→∃x,p i x)→∃xs:List α,xs.length=c∧∀i x,xs[i]? = some x→p i x
 | 0,_=>⟨[],rfl,fun i x hx=>by simp at hx⟩
 |
  c+1,h=>by
  obtain⟨xs,h1,h2⟩:=aaH p c fun i hi=>h i (by omega)
  obtain⟨x,h3⟩:=h c (by omega)
  refine⟨xs++[x],by simp[h1],fun i y hy => ?_⟩
  rcases aKH i xs.length with hi | hi
  ·rw[aKV hi] at hy
   exact h2 i y hy
  ·rw[aKW hi] at hy
   have hi0:i-xs.length=0:=by
    rcases Nat.eq_zero_or_pos (i-xs.length) with h | h
    ·exact h
    ·rw[aK4 (by simp;omega)] at hy;cases hy
   rw[hi0] at hy
   cases hy
   have:i=c:=by omega
   subst this
   exact h3
theorem alR {f:Nat} {args iV:List Value} {H H':aI} {v:Value} {m:dL} {W:World} (hI:In m H W) (hr:RL m args iV) (h:uQ f args H.length H=some (v,H')) (hg:SL W:=by first | assumption | exact fun x hx=>nomatch hx) :
  Calls Tryz.prog f iV.toArray W fun e W'=>∃m' rv,e = .returned rv∧RV m' v rv∧Below W.heap.size W W':=by
 obtain⟨n,hn⟩:=(zQ cfg fP).1 h
 refine(Lh Tryz.checked.mixed ayB axQ n f args H.length H v H' hn m W iV (hI.rel hg) (aKE _) (aKE _) hr (fun b hb _=>hI.Wa hb)).2.mono ?_
 rintro e W' ⟨m',rv,rfl,h1,_,h3⟩
 refine⟨m',rv,rfl,h1,⟨h3.same.1,h3.same.2.2,h3.same.2.1,h3.size,fun k hk=>h3.dB k hk fun b l hb hm _ => ?_⟩⟩
 rw[hI.Wa hb] at hm
 cases hm
end Go.PM
namespace Go.PM
def X2 (c:lZ):Prop:=(0≤c.t∧c.t≤10000)∧(1≤c.w∧c.w≤1000)∧(0≤c.k∧c.k≤9)
instance (c:lZ):Decidable (X2 c):=by unfold X2;infer_instance
def awV (cs:List lZ) (i:Nat) (c:lZ):Prop:=X2 c∧∀b,0<i→cs[i-1]? = some b→b.t≤c.t
def pP (cs:List lZ):Prop:=(∀i c,cs[i]? = some c→awV cs i c)∧cs.length≤24
noncomputable instance (cs:List lZ):Decidable (pP cs):=Classical.propDecidable _
theorem pP.at {cs:List lZ} (h:pP cs) {i:Nat} {c:lZ} (hc:cs[i]? = some c):(0≤c.t∧c.t≤10000)∧(1≤c.w∧c.w≤1000)∧(0≤c.k∧c.k≤9):=(h.1 i c hc).1
def w64 (n:Int):Prop := -9223372036854775808≤n∧n≤9223372036854775807
def wl (time:Int):List lZ→Int→Int→Int
 | [],l,s=>max (l-(time-s)) 0
 | c::cs,l,s=>if time<c.t then max (l-(time-s)) 0 else wl time cs (max (l-(c.t-s)) 0+c.w) c.t
def aDA (cs:List lZ) (time:Int):Prop:=pP cs∧(0≤time∧time≤1000000000)
noncomputable instance (cs:List lZ) (time:Int):Decidable (aDA cs time):=Classical.propDecidable _
def aCu (cs:List lZ) (ls:List Int):Prop:=pP cs∧ls.length=cs.length∧∀x∈ls,0≤x∧x≤1000000000
noncomputable instance (cs:List lZ) (ls:List Int):Decidable (aCu cs ls):=Classical.propDecidable _
def aCo (cs:List lZ) (ls:List Int) (time:Int):Prop:=aCu cs ls∧(0≤time∧time≤1000000000)
noncomputable instance (cs:List lZ) (ls:List Int) (time:Int):Decidable (aCo cs ls time):=Classical.propDecidable _
def aED (cs:List lZ) (ps:List Int):Prop:=pP cs∧ps.length=cs.length∧∀x∈ps,0≤x∧x≤10000
noncomputable instance (cs:List lZ) (ps:List Int):Decidable (aED cs ps):=Classical.propDecidable _
end Go.PM
namespace Go.Proofs.YtjmflicajplclaaGreatDoor
open Go.ChangeShapes Go.WideShapes Go.ChangeAt Go.RowKit Go.PM
theorem own:ownKnob Tryz.prog.godebug=none:=by kernel_rfl
theorem laidOut:laidOutB Tryz.prog=true:=by kernel_rfl
theorem axT {n:Int} (h:(Lit.int .i64 n).wf=true):w64 n:=by
 simp only[Lit.wf,Bool.and_eq_true,decide_eq_true_eq] at h
 exact h
theorem three {α:Type} {l:List α} (h:l.length=3):∃a b c,l=[a,b,c]:=by
 rcases l with _ | ⟨a,_ | ⟨b,_ | ⟨c,_ | ⟨d,l⟩⟩⟩⟩
 ·cases h
 ·cases h
 ·cases h
 ·exact⟨a,b,c,rfl⟩
 ·simp at h
end Go.Proofs.YtjmflicajplclaaGreatDoor
namespace Go.PM
def Gi:List Nat:=[]
 ++ [34]
 ++ [36]
 ++ [37]
 ++ [17]
 ++ [20]
 ++ [21]
 ++ [26]
 ++ [28]
 ++ [29]
 ++ [22]
 ++ [46]
 ++ [48]
 ++ [18]
 ++ [16]
 ++ [27]
 ++ [25]
 ++ [41]
 ++ [40]
 ++ [43]
 ++ [42]
 ++ [31]
 ++ [30]
 ++ [39]
 ++ [38]
 ++ [35]
 ++ [33]
 ++ [182]
 ++ [199]
 ++ [200]
 ++ [204]
 ++ [205]
 ++ [162]
 ++ [216]
 ++ [147]
 ++ [181]
 ++ [71]
 ++ [138]
 ++ [61]
 ++ [99]
 ++ [76]
 ++ [133]
 ++ [149]
 ++ [94]
 ++ [95]
 ++ [90]
 ++ [118]
 ++ [134]
 ++ [179]
 ++ [103]
 ++ [119]
 ++ [72]
 ++ [62]
 ++ [78]
 ++ [120]
 ++ [121]
 ++ [113]
 ++ [114]
 ++ [122]
 ++ [70]
 ++ [60]
end Go.PM