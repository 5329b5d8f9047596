/- Texts of a claim, in one: part 3. -/
import Derived.Lib.ItoaNum
import Derived.Lib.Join
import Derived.Lib.BitFns
import Derived.Lib.Repeat
import Derived.Lib.Bytealg
import Derived.Lib.ParseIntB
import Derived.Test.YtjmflicajplclaaGreatDoorChecked
import Derived.Laws.BitsLemmas
import Derived.Shelf.Strings.OnBuilder
import Derived.Shelf.Strings.Repeat
import Derived.Shelf.Small.Bits
import Derived.Shelf.Strconv.Itoa1
import Derived.Shelf.Strconv.Itoa2
import Derived.Shelf.LaysM
import Derived.Shelf.Strings.Search2
import Derived.Shelf.Pu.ParseUintPublic10
import Derived.KernelRfl
import Derived.Test.YtjmflicajplclaaGreatDoorProg
import Derived.Lib.Walk
import Derived.Lib.ItoaMem
import Derived.WalkKit
import Derived.BigCall
import Derived.BigGuard
import Derived.Below
import Derived.Shelf.Strings.Search2
import Derived.Shelf.Pu.ParseUintPublic10
import Derived.Shelf.Strings.OnBuilder
import Derived.Shelf.Strings.Repeat
import Derived.Shelf.Small.Bits
import Derived.ProofKit
import Derived.OpenShut
import Derived.ShutString
import Derived.ChangeOld
import Derived.Carry
import Derived.SizedLaws
import Derived.Test.YtjmflicajplclaaGreatDoorRows
import Derived.Test.YtjmflicajplclaaGreatDoorKCb
open Array renaming getD_eq_getD_getElem? → aKF,getElem?_append_left → aLg,getElem?_eq_some_iff → aKG,replicate → aLf,size_replicate → aLo
open List renaming drop_eq_getElem_cons → aKC,flatMap_cons → aLl,getD_eq_getElem?_getD → aKu,getElem?_append_left → aKO,getElem?_append_right → aKP,getElem?_drop → aKv,getElem?_eq_getElem → aKE,getElem?_eq_none → aKX,getElem?_eq_some_iff → aKw,length_cons → aKH,replicate → aLn,take_succ_cons → aLk
open Nat renaming le_max_left → aLi,le_max_right → aLj,le_refl → aKx,le_succ → aLh,lt_or_ge → aKA,mul_le_mul_right → aKY,succ_mul → aLm
set_option linter.unusedSimpArgs false
set_option linter.unusedVariables false
namespace Go.PM
def aBo:Ex→Exit
 | .normal => .normal
 | .exit id => .exit id
 | .ret => .ret
section
variable {P:Program} {E:C9} {n:Nat} {call:iC} {lo L0:Nat}
def Sz (P:Program) (n lo L0:Nat) (c:Code) (run:Env→aI→Option (Ex×Env×aI)):Prop :=
 ∀ρ H x aQ H',run ρ H=some (x,aQ,H')→∀m a w,KI n L0 m ρ H a w→L0≤H.length→(∀b,H.length≤b→b<H'.length→m b=none) →
  ∀Q:Exit→Act→World→Prop,(∀m' a' w',KI n L0 m' aQ H' a' w'→Trans lo m H w m' H' w'→Q (aBo x) a' w')→c.wp P Q a w
theorem aiA {c:Code} {run:Env→aI→Option (Ex×Env×aI)} (hc:Sz P n lo L0 c run) (he:∀ρ H x aQ H',run ρ H=some (x,aQ,H')→Ext lo H H') (N:Nat):Sz P n lo L0 (.loop c) (A1 run N):=by
 intro ρ H x aQ H' hr m a w h hl hf Q hQ
 apply wp_loop_rounds N
 have key:∀N ρ H,A1 run N ρ H=some (x,aQ,H')→∀m a w,KI n L0 m ρ H a w→L0≤H.length→(∀b,H.length≤b→b<H'.length→m b=none) →
   (∀m' a' w',KI n L0 m' aQ H' a' w'→Trans lo m H w m' H' w'→Q (aBo x) a' w')→Code.rounds P c Q N a w:=by
  intro N
  induction N with
  | zero=>intro ρ H h;cases h
  |
   succ N ih =>
   intro ρ H hr m a w h hl hf hQ
   rw[rounds_succ]
   rw[A1] at hr
   split at hr
   ·rename_i AN H1 h1
    have e1:=he _ _ _ _ _ h1
    have e2:=K4 he N hr
    refine hc ρ H _ AN H1 h1 m a w h hl (fun b GX hb2=>hf b GX (Nat.lt_of_lt_of_le hb2 e2.len)) _ fun m1 a1 w1 hh hT => ?_
    exact ih AN H1 hr m1 a1 w1 hh (Nat.le_trans hl e1.len) (hT.fresh e1.len hf) fun m2 a2 w2 h2 Q9=>hQ m2 a2 w2 h2 (Trans.trans hf e1 e2 hT Q9)
   ·rename_i fS
    refine hc ρ H _ aQ H' hr m a w h hl hf _ fun m1 a1 w1 hh hT => ?_
    have:=hQ m1 a1 w1 hh hT
    cases x with
    | normal=>exact absurd hr (fS aQ H')
    | exit id=>exact this
    | ret=>exact this
 exact key N ρ H hr m a w h hl hf hQ
theorem rA (F5:P.follows .mixedOrders=true) (qL:AM P L0 call) (uP:vB call) (dR:L0≤lo) (N:Nat):∀(c:Code) (pc:aE),jT P E n c=some pc→Sz P n lo L0 c (dV call lo N pc)
 |
  .skip,pc,hp=>by
  cases hp
  intro ρ H x aQ H' hr m a w h hl hf Q hQ
  cases hr
  exact wp_skip (hQ m a w h (Trans.refl _ _ _ _))
 |
  .region id ops draw,pc,hp=>by
  rw[jT] at hp
  cases hpr:Bm P E n ops draw with
  | none=>rw[hpr] at hp;cases hp
  |
   some xC =>
   rw[hpr] at hp
   cases hp
   intro ρ H x aQ H' hr m a w h hl hf Q hQ
   rw[dV] at hr
   cases hs:jC call lo xC ρ H with
   | none=>rw[hs] at hr;cases hr
   |
    some q =>
    obtain⟨AN,H1⟩:=q
    rw[hs] at hr
    cases hr
    exact YI F5 qL uP hpr hs h dR hl hf hQ
 |
  .seq x y,pc,hp=>by
  rw[jT] at hp
  split at hp
  ·rename_i px py hpx hpy
   cases hp
   intro ρ H e aQ H' hr m a w h hl hf Q hQ
   rw[dV] at hr
   apply wp_seq
   split at hr
   ·rename_i AN H1 h1
    have e1:=lG uP px h1
    have e2:=lG uP py hr
    refine rA F5 qL uP dR N x px hpx ρ H _ AN H1 h1 m a w h hl (fun b GX hb2=>hf b GX (Nat.lt_of_lt_of_le hb2 e2.len)) _ fun m1 a1 w1 hh hT => ?_
    exact rA F5 qL uP dR N y py hpy AN H1 _ aQ H' hr m1 a1 w1 hh (Nat.le_trans hl e1.len) (hT.fresh e1.len hf) Q fun m2 a2 w2 h2 Q9=>hQ m2 a2 w2 h2 (Trans.trans hf e1 e2 hT Q9)
   ·rename_i fS
    refine rA F5 qL uP dR N x px hpx ρ H _ aQ H' hr m a w h hl hf _ fun m1 a1 w1 hh hT => ?_
    have:=hQ m1 a1 w1 hh hT
    cases e with
    | normal=>exact absurd hr (fS aQ H')
    | exit id=>exact this
    | ret=>exact this
  ·cases hp
 |
  .cond o x y,pc,hp=>by
  rw[jT] at hp
  split at hp
  ·rename_i G3
   split at hp
   ·rename_i px py hpx hpy
    cases hp
    intro ρ H e aQ H' hr m a w h hl hf Q hQ
    rw[dV] at hr
    split at hr
    ·rename_i t ht
     have XT:=XD (a:=a) (m:=m) (ρ:=ρ) G3 fun t _=>h.env t
     rw[ht] at XT
     generalize hev:a.eval o=ro at XT
     cases XT
     refine wp_cond hev ?_
     cases t with
     | true=>exact rA F5 qL uP dR N x px hpx ρ H _ aQ H' hr m a w h hl hf Q hQ
     | false=>exact rA F5 qL uP dR N y py hpy ρ H _ aQ H' hr m a w h hl hf Q hQ
    ·cases hr
   ·cases hp
  ·cases hp
 |
  .block id x,pc,hp=>by
  rw[jT] at hp
  cases hpx:jT P E n x with
  | none=>rw[hpx] at hp;cases hp
  |
   some px =>
   rw[hpx] at hp
   cases hp
   intro ρ H e aQ H' hr m a w h hl hf Q hQ
   rw[dV] at hr
   apply wp_block
   split at hr
   ·rename_i Vq AN H1 h1
    split at hr
    ·rename_i hid
     cases hr
     refine rA F5 qL uP dR N x px hpx ρ H _ aQ H' h1 m a w h hl hf _ fun m1 a1 w1 hh hT => ?_
     have:=hQ m1 a1 w1 hh hT
     show Exit.inBlock id Q (.exit Vq) a1 w1
     simp only[Exit.inBlock,if_pos hid]
     exact this
    ·rename_i hid
     cases hr
     refine rA F5 qL uP dR N x px hpx ρ H _ aQ H' h1 m a w h hl hf _ fun m1 a1 w1 hh hT => ?_
     have:=hQ m1 a1 w1 hh hT
     show Exit.inBlock id Q (.exit Vq) a1 w1
     simp only[Exit.inBlock,if_neg hid]
     exact this
   ·rename_i fS
    refine rA F5 qL uP dR N x px hpx ρ H _ aQ H' hr m a w h hl hf _ fun m1 a1 w1 hh hT => ?_
    have:=hQ m1 a1 w1 hh hT
    cases e with
    | normal=>exact this
    | exit Vq=>exact absurd hr (fS Vq aQ H')
    | ret=>exact this
 |
  .loop x,pc,hp=>by
  rw[jT] at hp
  cases hpx:jT P E n x with
  | none=>rw[hpx] at hp;cases hp
  |
   some px =>
   rw[hpx] at hp
   cases hp
   have hx:=rA F5 qL uP dR N x px hpx
   intro ρ H e aQ H' hr
   rw[dV] at hr
   exact aiA hx (fun ρ H x aQ H' h=>lG uP px h) N ρ H e aQ H' hr
 |
  .exit id,pc,hp=>by
  cases hp
  intro ρ H x aQ H' hr m a w h hl hf Q hQ
  cases hr
  exact wp_exit (hQ m a w h (Trans.refl _ _ _ _))
 |
  .ret,pc,hp=>by
  cases hp
  intro ρ H x aQ H' hr m a w h hl hf Q hQ
  cases hr
  exact wp_ret (hQ m a w h (Trans.refl _ _ _ _))
 | .rangeFunc ..,pc,hp=>by cases hp
 | .scope _,pc,hp=>by cases hp
 | .label _,pc,hp=>by cases hp
 | .goto _,pc,hp=>by cases hp
 | .refuse _,pc,hp=>by cases hp
def Ct (P:Program):ResultVar→Option Di
 | .tmp t=>some (.tmp t)
 | .cell t ty=>(oI P ty).map fun(agg,size,_,_) => .cell t agg size
def Pe (a:Act):ResultVar→Sem Value
 | .tmp t=>pure (a.tmps.getD t undef)
 | .cell x t=>do loadVar t (←asAddr (a.tmps.getD x undef))
theorem aFz {m:dM} {ρ:Env} {H:aI} {a:Act} {w:World} (h:KI n L0 m ρ H a w) {r:ResultVar} {pr:Di} (hp:Ct P r=some pr) {v:Value} (hv:Y6 ρ H pr=some v) :
  ∃rv,RV m v rv∧(Pe a r).run P w = .ok rv w:=by
 cases r with
 |
  tmp t =>
  cases hp
  cases hv
  exact⟨_,h.env t,rfl⟩
 |
  cell x t =>
  simp only[Ct] at hp
  cases ht:oI P t with
  | none=>rw[ht] at hp;cases hp
  |
   some q =>
   obtain⟨agg,size,z,nb⟩:=q
   rw[ht] at hp
   cases hp
   obtain⟨rv,h1,h2⟩:=QO ht hv h.rel (h.env x)
   refine⟨rv,h1,?_⟩
   unfold Pe
   have hpv:=h.env x
   simp only[Y6,qP] at hv
   split at hv
   ·rename_i b o hb
    rw[hb] at hpv
    show (do loadVar t (←asAddr (a.tmps.getD x undef)):Sem Value).run P w=_
    generalize a.tmps.getD x undef=rp at h2 hpv ⊢
    cases hpv
    exact h2
   ·cases hv
theorem aoB {m:dM} {ρ:Env} {H:aI} {a:Act} {w:World} (h:KI n L0 m ρ H a w):∀ {rs:List ResultVar} {prs:List Di} {vs:List Value},rs.mapM (Ct P)=some prs→DO ρ H prs=some vs →
  ∃rvs,RL m vs rvs∧(rs.mapM (Pe a)).run P w = .ok rvs w
 |
  [],prs,vs,hp,hv=>by
  simp at hp
  subst hp
  cases hv
  exact⟨[],RL.nil m,rfl⟩
 |
  r::rs,prs,vs,hp,hv=>by
  simp only[List.mapM_cons,Option.pure_def,Option.bind_eq_bind] at hp
  cases h1:Ct P r with
  | none=>rw[h1] at hp;cases hp
  |
   some pr =>
   rw[h1] at hp
   cases h2:rs.mapM (Ct P) with
   | none=>rw[h2] at hp;cases hp
   |
    some aHu =>
    rw[h2] at hp
    cases hp
    simp only[DO] at hv
    split at hv
    ·rename_i v vs' hv1 hv2
     cases hv
     obtain⟨rv,g1,g2⟩:=aFz h h1 hv1
     obtain⟨rvs,g3,g4⟩:=aoB h h2 hv2
     refine⟨rv::rvs,RL.cons g1 g3,?_⟩
     rw[List.mapM_cons,Sem.run_bind,g2,Result.andThen_ok,Sem.run_bind,g4]
     rfl
    ·cases hv
theorem L5 {m:dM} {ρ:Env} {H:aI} {a:Act} {w:World} (h:KI n L0 m ρ H a w) {fn:Func} {prs:List Di} (hp:fn.results.toList.mapM (Ct P)=some prs) {v:Value} (hv:uB prs ρ H=some v) :
  ∃rv,RV m v rv∧(results fn a.tmps).run P w = .ok rv w:=by
 unfold uB at hv
 cases jW:DO ρ H prs with
 | none=>rw[jW] at hv;cases hv
 |
  some vs =>
  obtain⟨rvs,h1,h2⟩:=aoB h hp jW
  rw[jW] at hv
  have sS:∀rv,(if h:rvs.toArray.size=1 then rvs.toArray[0] else .tuple rvs.toArray)=rv→(results fn a.tmps).run P w = .ok rv w:=by
   intro rv XT
   have e:results fn a.tmps=(do let vs ←fn.results.mapM (Pe a);pure (if h:vs.size=1 then vs[0] else .tuple vs)):=by
    unfold results
    congr 2
   rw[e,Array.mapM_eq_mapM_toList,Sem.run_bind]
   have:(List.toArray <$> fn.results.toList.mapM (Pe a)).run P w = .ok rvs.toArray w:=by
    rw[map_eq_pure_bind,Sem.run_bind,h2]
    rfl
   rw[this,←XT]
   rfl
  clear h2 jW
  rcases vs with _ | ⟨x,_ | ⟨y,xs⟩⟩
  ·rcases rvs with _ | ⟨x',ys⟩
   ·cases hv
    exact⟨_,h1.Y7,sS _ rfl⟩
   ·cases h1.1
  ·rcases rvs with _ | ⟨x',_ | ⟨y',ys⟩⟩
   ·cases h1.1
   ·cases hv
    exact⟨x',h1.lW.1,sS x' rfl⟩
   ·cases h1.1
  ·rcases rvs with _ | ⟨x',_ | ⟨y',ys⟩⟩
   ·cases h1.1
   ·cases h1.1
   ·cases hv
    exact⟨_,h1.Y7,sS _ (by simp)⟩
end
end Go.PM
namespace Go.PM
def alY (P:Program) (E:C9) (L0:Nat):Prop :=
 ∀f p,E.Dd f=some p→Pa P f∧∀args H v,p args H=some v→∀m w iV,Rel m L0 H w→RL m args iV →
  Calls P f iV.toArray w fun e w'=>∃rv,e = .returned rv∧RV m v rv∧w.heap.size≤w'.heap.size∧(∀rb,rb<w.heap.size→w'.heap[rb]? = w.heap[rb]?)∧w'.os=w.os∧w'.output=w.output∧w'.tape=w.tape
theorem Rel.more {m:dM} {L0:Nat} {H:aI} {w w':World} (h:Rel m L0 H w) (hk:∀rb,rb<w.heap.size→w'.heap[rb]? = w.heap[rb]?):Rel m L0 H w':=by
 have hv:∀b l,m b=some l→l.rb<w.heap.size:=fun b l hb=>by
  obtain⟨arr,e,fz,h1,_⟩:=h.valid b l hb
  exact(aKG.1 h1).1
 refine⟨fun b l hb=>by rw[hk _ (hv b l hb)];exact h.valid b l hb,fun b l cs e p hm hb => ?_,h.inj,fun x hx=>⟨?_,(h.Fu x hx).2⟩⟩
 ·obtain⟨h1,h2,h3,h4⟩:=h.row b l cs e p hm hb
  refine⟨h1,h2,h3,fun i hi => ?_⟩
  obtain⟨rv,g1,g2⟩:=h4 i hi
  refine⟨rv,?_,g2⟩
  rw[←g1]
  unfold World.cell?
  simp only[hk _ (hv b l hm)]
 ·obtain⟨e,fz,g1⟩:=(h.Fu x hx).1
  exact⟨e,fz,by rw[hk _ (aKG.1 g1).1];exact g1⟩
theorem ahO {P:Program} {E:C9} {f:Nat} {pf:aU} (h:Vy P E f=some pf):∃fn c,P.funcs[f]? = some fn∧fn.body=some c∧(fn.name == "runtime.NumGoroutine")=false∧fn.results.toList.mapM (Ct P)=some pf.res∧jT P E fn.ntmps c=some pf.body∧pf.ntmps=fn.ntmps:=by
 unfold Vy at h
 cases hf:P.funcs[f]? with
 | none=>rw[hf] at h;cases h
 |
  some fn =>
  rw[hf] at h
  have h':OB P E fn=some pf:=h
  unfold OB at h'
  cases hb:fn.body with
  | none=>rw[hb] at h';cases h'
  |
   some c =>
   rw[hb] at h'
   simp only at h'
   split at h'
   ·cases h'
   ·rename_i alT
    split at h'
    ·cases h'
    ·rename_i res Yf
     cases hc:jT P E fn.ntmps c with
     | none=>rw[hc] at h';cases h'
     |
      some body =>
      rw[hc] at h'
      cases h'
      refine⟨fn,c,rfl,hb,by simpa using alT,?_,hc,rfl⟩
      have e:(fun(r:ResultVar)=>match r with
       | .tmp t=>some (Di.tmp t)
       | .cell t ty=>(oI P ty).map fun(agg,size,_,_) => .cell t agg size)=Ct P:=by
       funext r
       cases r<;>rfl
      rw[←e]
      exact Yf
theorem KP {P:Program} {E:C9} {T:Tab} {L0:Nat} (F5:P.follows .mixedOrders=true) (aiM:alY P E L0) (hT:∀f pf,T f=some pf→Vy P E f=some pf):∀n,AM P L0 (oM E T n)
 | 0=>fun f args lo H v H' h=>by cases h
 |
  n+1=>fun f args lo H v H' h m w iV hR dR hlen W6 hf=>by
  have uP:=GC E T n
  rw[oM] at h
  split at h
  ·rename_i p hp
   obtain⟨hco,aD9⟩:=aiM f p hp
   refine⟨hco,?_⟩
   cases hpv:p args H with
   | none=>rw[hpv] at h;cases h
   |
    some u =>
    rw[hpv] at h
    cases h
    refine(aD9 args H v hpv m w iV hR W6).mono ?_
    rintro e w' ⟨rv,rfl,h1,h2,h3,h4⟩
    exact⟨m,rv,rfl,h1,hR.more h3,fun _ _ h=>h,fun b l hb hn=>(by rw[hb] at hn;cases hn),h2,fun rb Bo _=>h3 rb Bo,h4⟩
  ·split at h
   ·cases h
   ·rename_i pf hpf
    obtain⟨fn,c,h1,h2,h3,h4,h5,h6⟩:=ahO (hT _ _ hpf)
    split at h
    case isFalse=>cases h
    rename_i A2
    refine⟨⟨fn,h1,h3,by rw[h2];rfl⟩,calls_of_wp h1 h2 ?_⟩
    have E4:iV.toArray.size≤fn.ntmps:=by
     have:=W6.1
     simp;omega
    have hH:KI fn.ntmps L0 m (acN args) H { tmps:=iV.toArray++aLf (fn.ntmps-iV.toArray.size) undef,defers:=[] } w:=by
     refine⟨by simp at E4 ⊢;omega,rfl,fun t => ?_,hR⟩
     rcases aKA t args.length with ht | ht
     ·have h7:=W6.2 t ht
      have ht':t<iV.length:=by rw[←W6.1];exact ht
      have e:(iV.toArray++aLf (fn.ntmps-iV.toArray.size) undef).getD t undef=iV.getD t undef:=by
       rw[aKF,aLg (by simpa using ht')]
       simp
      show RV m (args.getD t undef) _
      rw[e]
      exact h7
     ·have e1:args.getD t undef=undef:=by simp[aKu,aKX ht]
      have ht':iV.length≤t:=by rw[←W6.1];exact ht
      have e2:(iV.toArray++aLf (fn.ntmps-iV.toArray.size) undef).getD t undef=undef:=by
       rw[aKF,Array.getElem?_append_right (by simpa using ht')]
       rw[Array.getElem?_replicate]
       split<;>rfl
      show RV m (args.getD t undef) _
      rw[e1,e2]
      exact RV.undef m
    split at h
    ·rename_i AN H1 sS
     cases hr:uB pf.res AN H1 with
     | none=>rw[hr] at h;cases h
     |
      some u =>
      rw[hr] at h
      cases h
      refine rA F5 (KP F5 aiM hT n) uP dR n c pf.body h5 _ _ _ _ _ sS m _ w hH hlen hf _ fun m' a' w' hh hTr => ?_
      obtain⟨rv,g1,g2⟩:=L5 hh h4 hr
      exact⟨hh.defs,rv,g2,m',rv,rfl,g1,hh.rel,hTr⟩
    ·rename_i AN H1 sS
     cases hr:uB pf.res AN H1 with
     | none=>rw[hr] at h;cases h
     |
      some u =>
      rw[hr] at h
      cases h
      refine rA F5 (KP F5 aiM hT n) uP dR n c pf.body h5 _ _ _ _ _ sS m _ w hH hlen hf _ fun m' a' w' hh hTr => ?_
      obtain⟨rv,g1,g2⟩:=L5 hh h4 hr
      exact⟨hh.defs,rv,g2,m',rv,rfl,g1,hh.rel,hTr⟩
    ·cases h
end Go.PM
namespace Go.PM
def CLe (c c':iC):Prop:=∀f args lo H r,c f args lo H=some r→c' f args lo H=some r
section
variable {c c':iC} {lo:Nat}
theorem Ro (h:CLe c c') {i:PI} {ρ:Env} {H:aI} {r:Value×aI} (hr:BW c lo i ρ H=some r):BW c' lo i ρ H=some r:=by
 unfold BW at hr ⊢
 split at hr
 ·cases hr
 ·exact hr
 ·split at hr
  ·rename_i TV
   rw[if_pos TV]
   split at hr
   ·exact hr
   ·exact h _ _ _ _ _ hr
   ·cases hr
  ·cases hr
theorem YE (h:CLe c c') {i:PI} {ρ:Env} {H:aI} {r:Env×aI} (hr:AU c lo i ρ H=some r):AU c' lo i ρ H=some r:=by
 unfold AU at hr ⊢
 split at hr
 ·rename_i v H' hv
  rw[Ro h hv]
  exact hr
 ·cases hr
theorem B5 (h:CLe c c'):∀ {is:List PI} {ρ:Env} {H:aI} {r:Env×aI},jC c lo is ρ H=some r→jC c' lo is ρ H=some r
 | [],_,_,_,hr=>hr
 |
  i::is,ρ,H,r,hr=>by
  rw[jC] at hr ⊢
  split at hr
  ·rename_i h1
   rw[YE h h1]
   exact B5 h hr
  ·cases hr
theorem BT {b b':Env→aI→Option (Ex×Env×aI)} (h:∀ρ H r,b ρ H=some r→b' ρ H=some r):∀ {n n':Nat} {ρ:Env} {H:aI} {r:Ex×Env×aI},n≤n'→A1 b n ρ H=some r→A1 b' n' ρ H=some r
 | 0,_,_,_,_,_,hr=>by cases hr
 | n+1,0,_,_,_,hn,_=>by omega
 |
  n+1,n'+1,ρ,H,r,hn,hr=>by
  rw[A1] at hr ⊢
  split at hr
  ·rename_i h1
   rw[h _ _ _ h1]
   exact BT h (by omega) hr
  ·rename_i fS
   rw[h _ _ _ hr]
   split
   ·rename_i aQ H' he
    cases he
    exact absurd hr (fS _ _)
   ·rfl
theorem fP (h:CLe c c') {n n':Nat} (hn:n≤n'):∀(p:aE) {ρ:Env} {H:aI} {r:Ex×Env×aI},dV c lo n p ρ H=some r→dV c' lo n' p ρ H=some r
 | .skip,_,_,_,hr=>hr
 |
  .cT ops,ρ,H,r,hr=>by
  rw[dV] at hr ⊢
  cases hs:jC c lo ops ρ H with
  | none=>rw[hs] at hr;cases hr
  | some q=>rw[hs] at hr;rw[B5 h hs];exact hr
 |
  .seq a b,ρ,H,r,hr=>by
  rw[dV] at hr ⊢
  split at hr
  ·rename_i h1
   rw[fP h hn a h1]
   exact fP h hn b hr
  ·rename_i fS
   rw[fP h hn a hr]
   split
   ·rename_i he;cases he;exact absurd hr (fS _ _)
   ·rfl
 |
  .cond x a b,ρ,H,r,hr=>by
  rw[dV] at hr ⊢
  split at hr
  ·split at hr
   ·rename_i ht;rw[if_pos ht];exact fP h hn a hr
   ·rename_i ht;rw[if_neg ht];exact fP h hn b hr
  ·cases hr
 |
  .block id a,ρ,H,r,hr=>by
  rw[dV] at hr ⊢
  split at hr
  ·rename_i h1
   rw[fP h hn a h1]
   exact hr
  ·rename_i fS
   rw[fP h hn a hr]
   split
   ·rename_i he;cases he;exact absurd hr (fS _ _ _)
   ·rfl
 |
  .loop a,ρ,H,r,hr=>by
  rw[dV] at hr ⊢
  exact BT (fun ρ H r hr=>fP h hn a hr) hn hr
 | .exit id,_,_,_,hr=>hr
 | .ret,_,_,_,hr=>hr
theorem Eo (E:C9) (T:Tab):∀n,CLe (oM E T n) (oM E T (n+1))
 | 0,_,_,_,_,_,hr=>by cases hr
 |
  n+1,f,args,lo,H,r,hr=>by
  rw[oM] at hr ⊢
  split at hr
  ·exact hr
  ·split at hr
   ·cases hr
   ·split at hr
    ·rename_i pf _ ha
     rw[if_pos ha]
     split at hr
     ·rename_i h1
      rw[fP (Eo E T n) (aLh n) pf.body h1]
      exact hr
     ·rename_i h1
      rw[fP (Eo E T n) (aLh n) pf.body h1]
      exact hr
     ·cases hr
    ·cases hr
theorem rD (E:C9) (T:Tab) {n n':Nat} (h:n≤n'):CLe (oM E T n) (oM E T n'):=by
 induction h with
 | refl=>exact fun _ _ _ _ _ h=>h
 | step _ ih=>exact fun f args lo H r hr=>Eo E T _ f args lo H r (ih f args lo H r hr)
end
section
variable (E:C9) (T:Tab)
open Classical in
noncomputable def lim {α:Type} (run:Nat→Option α):Option α:=if h:∃r,∃n,run n=some r then some (Classical.choose h) else none
theorem Zo {α:Type} {run:Nat→Option α} (hm:∀n n' r,n≤n'→run n=some r→run n'=some r) {r:α}:lim run=some r↔∃n,run n=some r:=by
 unfold lim
 constructor
 ·intro h
  split at h
  ·rename_i hx
   cases h
   exact Classical.choose_spec hx
  ·cases h
 ·rintro⟨n,hn⟩
  have hx:∃r,∃n,run n=some r:=⟨r,n,hn⟩
  rw[dif_pos hx]
  obtain⟨n',W2⟩:=Classical.choose_spec hx
  have h1:=hm n (max n n') r (aLi _ _) hn
  have h2:=hm n' (max n n') _ (aLj _ _) W2
  rw[h1] at h2
  injection h2 with h2
  rw[←h2]
noncomputable def call:iC:=fun f args lo H=>lim fun n=>oM E T n f args lo H
noncomputable def code (lo:Nat) (c:aE) (ρ:Env) (H:aI):Option (Ex×Env×aI):=lim fun n=>dV (oM E T n) lo n c ρ H
theorem zW {f:Nat} {args:List Value} {lo:Nat} {H:aI} {r:Value×aI}:call E T f args lo H=some r↔∃n,oM E T n f args lo H=some r :=
 Zo fun _ _ r h hr=>rD E T h f args lo H r hr
theorem cQ {lo:Nat} {c:aE} {ρ:Env} {H:aI} {r:Ex×Env×aI}:code E T lo c ρ H=some r↔∃n,dV (oM E T n) lo n c ρ H=some r :=
 Zo fun _ _ _ h hr=>fP (rD E T h) h c hr
theorem Ot {lo:Nat}:∀ {is:List PI} {ρ:Env} {H:aI} {r:Env×aI},jC (call E T) lo is ρ H=some r↔∃n,jC (oM E T n) lo is ρ H=some r:=by
 have le:∀n,CLe (oM E T n) (call E T):=fun n f args lo H r hr=>(zW E T).2 ⟨n,hr⟩
 have val:∀ {i:PI} {ρ:Env} {H:aI} {r:Value×aI},BW (call E T) lo i ρ H=some r→∃n,BW (oM E T n) lo i ρ H=some r:=by
  intro i ρ H r hr
  unfold BW at hr ⊢
  split at hr
  ·cases hr
  ·exact⟨0,hr⟩
  ·split at hr
   ·rename_i TV
    split at hr
    ·exact⟨0,by rw[if_pos TV];exact hr⟩
    ·obtain⟨n,hn⟩:=(zW E T).1 hr
     exact⟨n,by rw[if_pos TV];exact hn⟩
    ·cases hr
   ·cases hr
 intro is
 induction is with
 | nil=>exact fun {ρ H r}=>⟨fun h=>⟨0,h⟩,fun⟨_,h⟩=>h⟩
 |
  cons i is ih =>
  intro ρ H r
  constructor
  ·intro h
   rw[jC] at h
   split at h
   ·rename_i AN H1 h1
    obtain⟨v,hv,rfl⟩:=BG h1
    obtain⟨n1,hn1⟩:=val hv
    obtain⟨n2,hn2⟩:=ih.1 h
    refine⟨max n1 n2,?_⟩
    rw[jC]
    have e:AU (oM E T (max n1 n2)) lo i ρ H=some (put ρ i.dst v,H1):=by
     unfold AU
     rw[Ro (rD E T (aLi n1 n2)) hn1]
    rw[e]
    exact B5 (rD E T (aLj n1 n2)) hn2
   ·cases h
  ·rintro⟨n,h⟩
   exact B5 (le n) h
theorem En {α:Type} {a b:Option α} (h:∀r,a=some r↔b=some r):a=b:=by
 cases a with
 |
  none =>
  cases b with
  | none=>rfl
  | some y=>exact((h y).2 rfl)
 | some x=>exact((h x).1 rfl).symm
variable {lo:Nat} {ρ:Env} {H:aI}
theorem aeE:code E T lo .skip ρ H=some (.normal,ρ,H):=(cQ E T).2 ⟨0,rfl⟩
theorem afN {id:Nat}:code E T lo (.exit id) ρ H=some (.exit id,ρ,H):=(cQ E T).2 ⟨0,rfl⟩
theorem akK:code E T lo .ret ρ H=some (.ret,ρ,H):=(cQ E T).2 ⟨0,rfl⟩
theorem ahY {ops:List PI}:code E T lo (.cT ops) ρ H=(jC (call E T) lo ops ρ H).map fun(aQ,H')=>(.normal,aQ,H'):=by
 refine En fun r => ?_
 rw[cQ]
 constructor
 ·rintro⟨n,h⟩
  rw[dV] at h
  cases hs:jC (oM E T n) lo ops ρ H with
  | none=>rw[hs] at h;cases h
  |
   some q =>
   rw[hs] at h
   rw[(Ot E T).2 ⟨n,hs⟩]
   exact h
 ·intro h
  cases hs:jC (call E T) lo ops ρ H with
  | none=>rw[hs] at h;cases h
  |
   some q =>
   rw[hs] at h
   obtain⟨n,hn⟩:=(Ot E T).1 hs
   exact⟨n,by rw[dV,hn];exact h⟩
theorem ahF {a b:aE}:code E T lo (.seq a b) ρ H=match code E T lo a ρ H with
  | some (.normal,aQ,H')=>code E T lo b aQ H'
  | r=>r:=by
 refine En fun r => ?_
 rw[cQ]
 constructor
 ·rintro⟨n,h⟩
  rw[dV] at h
  split at h
  ·rename_i h1
   rw[(cQ E T).2 ⟨n,h1⟩]
   exact(cQ E T).2 ⟨n,h⟩
  ·rename_i fS
   rw[(cQ E T).2 ⟨n,h⟩]
   split
   ·rename_i he;cases he;exact absurd h (fS _ _)
   ·rfl
 ·intro h
  split at h
  ·rename_i h1
   obtain⟨n1,h1⟩:=(cQ E T).1 h1
   obtain⟨n2,h2⟩:=(cQ E T).1 h
   refine⟨max n1 n2,?_⟩
   rw[dV,fP (rD E T (aLi n1 n2)) (aLi n1 n2) a h1]
   exact fP (rD E T (aLj n1 n2)) (aLj n1 n2) b h2
  ·rename_i fS
   obtain⟨n,h1⟩:=(cQ E T).1 h
   refine⟨n,?_⟩
   rw[dV,h1]
   split
   ·rename_i he;cases he;exact absurd h (fS _ _)
   ·rfl
theorem afJ {x:Operand} {a b:aE}:code E T lo (.cond x a b) ρ H=match ev ρ x with
  | .bool t=>if t then code E T lo a ρ H else code E T lo b ρ H
  | _=>none:=by
 refine En fun r => ?_
 rw[cQ]
 constructor
 ·rintro⟨n,h⟩
  rw[dV] at h
  split at h
  ·rename_i t he
   rw[he]
   show (if t=true then code E T lo a ρ H else code E T lo b ρ H)=some r
   split at h
   ·rename_i ht;rw[if_pos ht];exact(cQ E T).2 ⟨n,h⟩
   ·rename_i ht;rw[if_neg ht];exact(cQ E T).2 ⟨n,h⟩
  ·cases h
 ·intro h
  split at h
  ·rename_i t he
   split at h
   ·rename_i ht
    obtain⟨n,h⟩:=(cQ E T).1 h
    refine⟨n,?_⟩
    rw[dV,he]
    show (if t=true then _ else _)=_
    rw[if_pos ht]
    exact h
   ·rename_i ht
    obtain⟨n,h⟩:=(cQ E T).1 h
    refine⟨n,?_⟩
    rw[dV,he]
    show (if t=true then _ else _)=_
    rw[if_neg ht]
    exact h
  ·cases h
theorem X2 {id:Nat} {a:aE}:code E T lo (.block id a) ρ H=match code E T lo a ρ H with
  | some (.exit Vq,aQ,H')=>if Vq=id then some (.normal,aQ,H') else some (.exit Vq,aQ,H')
  | r=>r:=by
 refine En fun r => ?_
 rw[cQ]
 constructor
 ·rintro⟨n,h⟩
  rw[dV] at h
  split at h
  ·rename_i h1
   rw[(cQ E T).2 ⟨n,h1⟩]
   exact h
  ·rename_i fS
   rw[(cQ E T).2 ⟨n,h⟩]
   split
   ·rename_i he;cases he;exact absurd h (fS _ _ _)
   ·rfl
 ·intro h
  split at h
  ·rename_i h1
   obtain⟨n,h1⟩:=(cQ E T).1 h1
   exact⟨n,by rw[dV,h1];exact h⟩
  ·rename_i fS
   obtain⟨n,h1⟩:=(cQ E T).1 h
   refine⟨n,?_⟩
   rw[dV,h1]
   split
   ·rename_i he;cases he;exact absurd h (fS _ _ _)
   ·rfl
theorem adH {a:aE}:code E T lo (.loop a) ρ H=match code E T lo a ρ H with
  | some (.normal,aQ,H')=>code E T lo (.loop a) aQ H'
  | r=>r:=by
 refine En fun r => ?_
 rw[cQ]
 constructor
 ·rintro⟨n,h⟩
  rw[dV] at h
  cases n with
  | zero=>cases h
  |
   succ n =>
   rw[A1] at h
   split at h
   ·rename_i h1
    rw[(cQ E T).2 ⟨n+1,h1⟩]
    refine(cQ E T).2 ⟨n+1,?_⟩
    rw[dV]
    exact BT (fun _ _ _ h=>h) (aLh n) h
   ·rename_i fS
    rw[(cQ E T).2 ⟨n+1,h⟩]
    split
    ·rename_i he;cases he;exact absurd h (fS _ _)
    ·rfl
 ·intro h
  split at h
  ·rename_i h1
   obtain⟨n1,h1⟩:=(cQ E T).1 h1
   obtain⟨n2,h2⟩:=(cQ E T).1 h
   refine⟨max n1 n2+1,?_⟩
   have g1:=fP (rD E T (show n1≤max n1 n2+1 by omega)) (show n1≤max n1 n2+1 by omega) a h1
   rw[dV,A1,g1]
   rw[dV] at h2
   exact BT (fun _ _ _ h=>fP (rD E T (show n2≤max n1 n2+1 by omega)) (show n2≤max n1 n2+1 by omega) a h) (show n2≤max n1 n2 by omega) h2
  ·rename_i fS
   obtain⟨n,h1⟩:=(cQ E T).1 h
   refine⟨n+1,?_⟩
   rw[dV,A1,fP (Eo E T n) (aLh n) a h1]
   split
   ·rename_i he;cases he;exact absurd h (fS _ _)
   ·rfl
noncomputable def awW (lo:Nat) (pf:aU) (args:List Value) (H:aI):Option (Value×aI) :=
 if args.length≤pf.ntmps then
  match code E T lo pf.body (acN args) H with
  | some (.normal,ρ,H') | some (.ret,ρ,H')=>(uB pf.res ρ H').map (·,H')
  | _=>none
 else none
theorem afO {f:Nat} {p:List Value→aI→Option Value} (h:E.Dd f=some p) {args:List Value}:call E T f args lo H=(p args H).map (·,H):=by
 refine En fun r => ?_
 rw[zW]
 constructor
 ·rintro⟨n,hr⟩
  cases n with
  | zero=>cases hr
  | succ n=>rw[oM,h] at hr;exact hr
 ·intro hr
  exact⟨1,by rw[oM,h];exact hr⟩
theorem aqY {f:Nat} {pf:aU} (hp:E.Dd f=none) (h:T f=some pf) {args:List Value}:call E T f args lo H=awW E T lo pf args H:=by
 refine En fun r => ?_
 rw[zW]
 unfold awW
 constructor
 ·rintro⟨n,hr⟩
  cases n with
  | zero=>cases hr
  |
   succ n =>
   rw[oM,hp,h] at hr
   simp only at hr
   split at hr
   ·rename_i ha
    rw[if_pos ha]
    split at hr
    ·rename_i h1
     rw[(cQ E T).2 ⟨n,h1⟩]
     exact hr
    ·rename_i h1
     rw[(cQ E T).2 ⟨n,h1⟩]
     exact hr
    ·cases hr
   ·cases hr
 ·intro hr
  split at hr
  ·rename_i ha
   split at hr
   ·rename_i h1
    obtain⟨n,h1⟩:=(cQ E T).1 h1
    exact⟨n+1,by rw[oM,hp,h];simp only;rw[if_pos ha,h1];exact hr⟩
   ·rename_i h1
    obtain⟨n,h1⟩:=(cQ E T).1 h1
    exact⟨n+1,by rw[oM,hp,h];simp only;rw[if_pos ha,h1];exact hr⟩
   ·cases hr
  ·cases hr
end
end Go.PM
namespace Go.PM
theorem Gz {H H':aI} {lo gB b o:Nat} {new:List Value} (hl:gB≤lo) (h:H.write lo b o new=some H'):H.write gB b o new=some H':=by
 unfold aI.write at h ⊢
 split at h
 ·split at h
  ·rename_i hc
   rw[if_pos ⟨by omega,hc.2⟩]
   exact h
  ·cases h
 ·cases h
theorem D2 {α β:Type} {a b:Option α} {f:α→β} {r:β} (IS:∀x,a=some x→b=some x) (h:a.map f=some r):b.map f=some r:=by
 cases a with
 | none=>cases h
 | some x=>rw[IS x rfl];exact h
theorem Ms {lo gB size bytes add:Nat} {x:Value} {new:List Value} {H:aI} {r:Value×aI} (hl:gB≤lo) (h:fL lo size bytes x add new H=some r):fL gB size bytes x add new H=some r:=by
 unfold fL at h ⊢
 split at h
 case isFalse=>cases h
 rename_i hc
 rw[if_pos hc]
 split at h
 ·exact h
 ·split at h
  ·split at h
   ·rename_i h1
    skip
    rw[if_pos h1]
    split at h
    ·rename_i h2
     rw[if_pos h2]
     split at h
     ·rename_i h3;rw[if_pos h3];exact h
     ·rename_i h3
      rw[if_neg h3]
      exact D2 (fun H' hw=>Gz hl hw) h
    ·rename_i h2
     rw[if_neg h2]
     split at h
     ·rename_i h3
      rw[if_pos h3]
      split at h
      ·rename_i h4
       rw[if_pos h4]
       split at h
       ·rename_i h5;rw[if_pos (by omega)];exact h
       ·cases h
      ·rename_i h4;rw[if_neg h4];exact h
     ·cases h
   ·cases h
  ·cases h
 ·cases h
theorem Zc {lo gB:Nat} {p:qE} {ρ:Env} {H:aI} {o:Out} (hl:gB≤lo) (h:pop lo p ρ H=some o):pop gB p ρ H=some o:=by
 cases p<;>first | exact h | skip
 case store size q v =>
  simp only[pop] at h ⊢
  split at h
  ·split at h
   ·rename_i h1
    skip
    rw[if_pos h1]
    exact D2 (fun H' hw=>Gz hl hw) h
   ·cases h
  ·cases h
 case app size bytes x y =>
  simp only[pop] at h ⊢
  split at h
  ·split at h
   ·skip
    exact D2 (fun H' hw=>Ms hl hw) h
   ·cases h
  ·cases h
 case appz z bytes x n =>
  simp only[pop] at h ⊢
  split at h
  ·split at h
   ·rename_i h1
    skip
    rw[if_pos h1]
    exact D2 (fun H' hw=>Ms hl hw) h
   ·cases h
  ·cases h
 case copy size x y =>
  simp only[pop] at h ⊢
  split at h
  ·exact h
  ·split at h
   ·skip
    exact D2 (fun H' hw=>Gz hl hw) h
   ·cases h
  ·cases h
 case clear z x =>
  simp only[pop] at h ⊢
  split at h
  ·exact h
  ·skip
   split at h
   ·rename_i h1;rw[if_pos h1];exact h
   ·rename_i h1
    rw[if_neg h1]
    exact D2 (fun H' hw=>Gz hl hw) h
  ·cases h
def agN (c:iC):Prop:=∀f args lo gB H r,gB≤lo→c f args lo H=some r→c f args gB H=some r
section
variable {c:iC} {lo gB:Nat}
theorem Ou (hc:agN c) (hl:gB≤lo):∀ {is:List PI} {ρ:Env} {H:aI} {r:Env×aI},jC c lo is ρ H=some r→jC c gB is ρ H=some r
 | [],_,_,_,h=>h
 |
  i::is,ρ,H,r,h=>by
  rw[jC] at h ⊢
  split at h
  ·rename_i AN H1 h1
   have e:AU c gB i ρ H=some (AN,H1):=by
    unfold AU at h1 ⊢
    split at h1
    ·rename_i v H2 hv
     have:BW c gB i ρ H=some (v,H2):=by
      unfold BW at hv ⊢
      split at hv
      ·cases hv
      ·exact hv
      ·split at hv
       ·rename_i TV
        rw[if_pos TV]
        split at hv
        ·rename_i hp;rw[Zc hl hp];exact hv
        ·rename_i hp
         rw[Zc hl hp]
         show c _ _ (if i.quiet=true then H.length else gB) H=_
         cases hq:i.quiet with
         | true=>rw[hq] at hv;exact hv
         | false=>rw[hq] at hv;exact hc _ _ _ _ _ _ hl hv
        ·cases hv
       ·cases hv
     rw[this]
     exact h1
    ·cases h1
   rw[e]
   exact Ou hc hl h
  ·cases h
theorem adR {b b':Env→aI→Option (Ex×Env×aI)} (h:∀ρ H r,b ρ H=some r→b' ρ H=some r):∀ {n:Nat} {ρ:Env} {H:aI} {r:Ex×Env×aI},A1 b n ρ H=some r→A1 b' n ρ H=some r :=
 fun hr=>BT h (aKx _) hr
theorem pY (hc:agN c) (hl:gB≤lo) {n:Nat}:∀(p:aE) {ρ:Env} {H:aI} {r:Ex×Env×aI},dV c lo n p ρ H=some r→dV c gB n p ρ H=some r
 | .skip,_,_,_,hr=>hr
 |
  .cT ops,ρ,H,r,hr=>by
  rw[dV] at hr ⊢
  exact D2 (fun _ h=>Ou hc hl h) hr
 |
  .seq a b,ρ,H,r,hr=>by
  rw[dV] at hr ⊢
  split at hr
  ·rename_i h1
   rw[pY hc hl a h1]
   exact pY hc hl b hr
  ·rename_i fS
   rw[pY hc hl a hr]
   split
   ·rename_i he;cases he;exact absurd hr (fS _ _)
   ·rfl
 |
  .cond x a b,ρ,H,r,hr=>by
  rw[dV] at hr ⊢
  split at hr
  ·split at hr
   ·rename_i ht;rw[if_pos ht];exact pY hc hl a hr
   ·rename_i ht;rw[if_neg ht];exact pY hc hl b hr
  ·cases hr
 |
  .block id a,ρ,H,r,hr=>by
  rw[dV] at hr ⊢
  split at hr
  ·rename_i h1
   rw[pY hc hl a h1]
   exact hr
  ·rename_i fS
   rw[pY hc hl a hr]
   split
   ·rename_i he;cases he;exact absurd hr (fS _ _ _)
   ·rfl
 |
  .loop a,ρ,H,r,hr=>by
  rw[dV] at hr ⊢
  exact adR (fun ρ H r hr=>pY hc hl a hr) hr
 | .exit id,_,_,_,hr=>hr
 | .ret,_,_,_,hr=>hr
end
theorem Kk (E:C9) (T:Tab):∀n,agN (oM E T n)
 | 0,_,_,_,_,_,_,_,h=>by cases h
 |
  n+1,f,args,lo,gB,H,r,hl,h=>by
  rw[oM] at h ⊢
  split at h
  ·exact h
  ·split at h
   ·cases h
   ·split at h
    ·rename_i pf _ ha
     rw[if_pos ha]
     split at h
     ·rename_i h1;rw[pY (Kk E T n) hl pf.body h1];exact h
     ·rename_i h1;rw[pY (Kk E T n) hl pf.body h1];exact h
     ·cases h
    ·cases h
section
variable {E:C9} {T:Tab}
theorem akE {f:Nat} {args:List Value} {lo gB:Nat} {H:aI} {r:Value×aI} (hl:gB≤lo) (h:call E T f args lo H=some r):call E T f args gB H=some r:=by
 obtain⟨n,hn⟩:=(zW E T).1 h
 exact(zW E T).2 ⟨n,Kk E T n f args lo gB H r hl hn⟩
theorem aiR {f:Nat} {args:List Value} {lo:Nat} {H H':aI} {v:Value} (h:call E T f args lo H=some (v,H')):Ext lo H H':=by
 obtain⟨n,hn⟩:=(zW E T).1 h
 exact GC E T n f args lo H v H' hn
theorem Ext.more {H H':aI} (h:Ext H.length H H'):∃K,H'=H++K:=by
 refine⟨H'.drop H.length,?_⟩
 apply List.ext_getElem?
 intro i
 rcases aKA i H.length with hi | hi
 ·rw[aKO hi]
  exact h.low i hi hi
 ·rw[aKP hi,aKv,show H.length+(i-H.length)=i by omega]
def aaT (E:C9) (T:Tab) (f:Nat) (args:List Value) (H:aI) (R:Value→aI→Prop):Prop :=
 ∃v K,call E T f args H.length H=some (v,H++K)∧R v (H++K)
theorem aaT.at {f:Nat} {args:List Value} {H:aI} {R:Value→aI→Prop} (h:aaT E T f args H R) {lo:Nat} (hl:lo≤H.length):∃v K,call E T f args lo H=some (v,H++K)∧R v (H++K):=by
 obtain⟨v,K,h1,h2⟩:=h
 exact⟨v,K,akE hl h1,h2⟩
theorem aaT.mk {f:Nat} {args:List Value} {H H':aI} {v:Value} {R:Value→aI→Prop} (h:call E T f args H.length H=some (v,H')) (hr:R v H'):aaT E T f args H R:=by
 obtain⟨K,rfl⟩:=(aiR h).more
 exact⟨v,K,h,hr⟩
end
end Go.PM
namespace Go.PM
def strCells:List Value→Option (List ByteArray)
 | []=>some []
 | .string s::r=>(strCells r).map (s :: ·)
 | _=>none
def zY:List Value→aI→Option Value
 | [.int .u64 n,.int .i64 b],_=>if b=10∧0≤n∧n<18446744073709551616 then some (.string ⟨(Lib.decDigits n.toNat).toArray⟩) else none
 | _,_=>none
def JS:List Value→aI→Option Value
 | [.string s,.int .i64 c],_=>if 0≤c∧c≤9223372036854775807∧s.size*c.toNat≤140737488355328 then some (.string ⟨(Lib.repeatL s.data.toList c.toNat).toArray⟩) else none
 | _,_=>none
def Gk:List Value→aI→Option Value
 | [.int .u32 x],_=>if 0≤x∧x≤4294967295 then some (.int .i64 (32-(Lib.bitLen x.toNat:Int))) else none
 | _,_=>none
def V6:List Value→aI→Option Value
 | [.slice none 0 0,.string _],_=>some (.string ⟨#[]⟩)
 |
  [.slice (some ⟨b,o,none⟩) n c,.string sep],H =>
  if n=0 then some (.string ⟨#[]⟩) else
  match (H.read b o n).bind strCells with
  | some xs=>if xs.length=n∧n≤c∧n≤140737488355328∧(Lib.join (xs.map (·.data.toList)) sep.data.toList).length≤140737488355328 then some (.string ⟨(Lib.join (xs.map (·.data.toList)) sep.data.toList).toArray⟩) else none
  | none=>none
 | _,_=>none
def Sx:List Value→aI→Option Value
 |
  [.string s,.string p],_=>match p.data.toList with
  | [c]=>some (.int .i64 (Lib.indexByte s.data.toList c))
  | _=>none
 | _,_=>none
def BL:List Value→aI→Option Value
 |
  [.string s,.int .i64 b,.int .i64 z],_=>if b=10∧z=64∧s.size≤9223372036854775806 then
   match Lib.parseUintB 64 s.data.toList with
   | .ok u=>some (.tuple #[.int .u64 (u:Int),.nilIface])
   | _=>none
  else none
 | _,_=>none
end Go.PM
namespace Go.PM
open Go.Proofs
def aFg:List Nat:=[]
 ++ [200]
 ++ [204]
 ++ [205]
 ++ [95]
 ++ [90]
 ++ [118]
 ++ [134]
 ++ [179]
def MI (f:Nat):Option (List Value→aI→Option Value) :=
 if f=214 then some zY else
 if f=215 then some JS else
 if f=217 then some V6 else
 if f=198 then some Gk else
 if f=209 then some Sx else
 if f=192 then some BL else
 (fun _=>none) f
def cfg:C9:={ Dd:=MI,eff:=fun f=>aFg.contains f }
noncomputable def fQ:Tab:=fun f=>if (MI f).isSome then none else Vy Tryz.prog cfg f
theorem azM (f:Nat) (pf:aU) (h:fQ f=some pf):Vy Tryz.prog cfg f=some pf:=by
 unfold fQ at h
 split at h
 ·cases h
 ·exact h
theorem X9 {f:Nat} {pf:aU} (h:fQ f=some pf):cfg.Dd f=none:=by
 unfold fQ at h
 split at h
 ·cases h
 ·rename_i h1
  show MI f=none
  cases hp:MI f with
  | none=>rfl
  | some p=>rw[hp] at h1;exact absurd rfl h1
end Go.PM
namespace Go.PM
noncomputable abbrev uN:iC:=call cfg fQ
def W (lo:Nat) (c:aE) (Q:Ex→Env→aI→Prop) (ρ:Env) (H:aI):Prop:=∃x aQ H',code cfg fQ lo c ρ H=some (x,aQ,H')∧Q x aQ H'
def WS (lo:Nat) (is:List PI) (K:Env→aI→Prop) (ρ:Env) (H:aI):Prop:=∃aQ H',jC uN lo is ρ H=some (aQ,H')∧K aQ H'
def aDm (lo:Nat) (b:aE) (Q:Ex→Env→aI→Prop):Ex→Env→aI→Prop
 | .normal,ρ,H=>W lo b Q ρ H
 | x,ρ,H=>Q x ρ H
def aBO (id:Nat) (Q:Ex→Env→aI→Prop):Ex→Env→aI→Prop
 | .exit Vq,ρ,H=>if Vq=id then Q .normal ρ H else Q (.exit Vq) ρ H
 | x,ρ,H=>Q x ρ H
def aEt (res:List Di) (R:Value→aI→Prop):Ex→Env→aI→Prop
 | .exit _,_,_=>False
 | _,ρ,H=>∃v,uB res ρ H=some v∧R v H
def aAE (J:Env→aI→Prop) (Q:Ex→Env→aI→Prop):Ex→Env→aI→Prop
 | .normal,ρ,H=>J ρ H
 | x,ρ,H=>Q x ρ H
section
variable {lo:Nat} {Q:Ex→Env→aI→Prop} {K:Env→aI→Prop} {ρ:Env} {H:aI} {b:aE} {id:Nat} {R:Value→aI→Prop} {res:List Di} {J:Env→aI→Prop}
theorem KD {i:Nat}:aBO id Q (.exit i) ρ H=if i=id then Q .normal ρ H else Q (.exit i) ρ H:=rfl
theorem azN:W lo .skip Q ρ H=Q .normal ρ H:=by
 unfold W
 rw[aeE]
 exact propext ⟨fun⟨_,_,_,h,hq⟩=>(by cases h;exact hq),fun h=>⟨_,_,_,rfl,h⟩⟩
theorem ayL {i:Nat}:W lo (.exit i) Q ρ H=Q (.exit i) ρ H:=by
 unfold W
 rw[afN]
 exact propext ⟨fun⟨_,_,_,h,hq⟩=>(by cases h;exact hq),fun h=>⟨_,_,_,rfl,h⟩⟩
theorem aA6:W lo .ret Q ρ H=Q .ret ρ H:=by
 unfold W
 rw[akK]
 exact propext ⟨fun⟨_,_,_,h,hq⟩=>(by cases h;exact hq),fun h=>⟨_,_,_,rfl,h⟩⟩
theorem aCj {ops:List PI}:W lo (.cT ops) Q ρ H=WS lo ops (Q .normal) ρ H:=by
 unfold W WS
 rw[ahY]
 apply propext
 constructor
 ·rintro⟨x,aQ,H',h,hq⟩
  cases hs:jC (call cfg fQ) lo ops ρ H with
  | none=>rw[hs] at h;cases h
  |
   some q =>
   rw[hs] at h
   cases h
   exact⟨_,_,rfl,hq⟩
 ·rintro⟨aQ,H',h,hq⟩
  exact⟨_,_,_,by rw[h];rfl,hq⟩
theorem aB2 {a:aE}:W lo (.seq a b) Q ρ H=W lo a (aDm lo b Q) ρ H:=by
 unfold W
 rw[ahF]
 apply propext
 constructor
 ·rintro⟨x,aQ,H',h,hq⟩
  split at h
  ·rename_i AN H1 h1
   exact⟨_,_,_,h1,x,aQ,H',h,hq⟩
  ·rename_i fS
   refine⟨x,aQ,H',h,?_⟩
   cases x with
   | normal=>exact absurd h (fS _ _)
   | exit i=>exact hq
   | ret=>exact hq
 ·rintro⟨x,aQ,H',h,hq⟩
  rw[h]
  cases x with
  | normal=>exact hq
  | exit i=>exact⟨_,_,_,rfl,hq⟩
  | ret=>exact⟨_,_,_,rfl,hq⟩
theorem apP {a:aE}:W lo (.block id a) Q ρ H=W lo a (aBO id Q) ρ H:=by
 unfold W
 rw[X2]
 apply propext
 constructor
 ·rintro⟨x,aQ,H',h,hq⟩
  split at h
  ·rename_i Vq AN H1 h1
   refine⟨_,_,_,h1,?_⟩
   rw[KD]
   split at h
   ·rename_i he;cases h;rw[if_pos he];exact hq
   ·rename_i he;cases h;rw[if_neg he];exact hq
  ·rename_i fS
   refine⟨x,aQ,H',h,?_⟩
   cases x with
   | normal=>exact hq
   | exit i=>exact absurd h (fS _ _ _)
   | ret=>exact hq
 ·rintro⟨x,aQ,H',h,hq⟩
  rw[h]
  cases x with
  | normal=>exact⟨_,_,_,rfl,hq⟩
  |
   exit i =>
   rw[KD] at hq
   show ∃x BZ WB,(if i=id then some (Ex.normal,aQ,H') else some (Ex.exit i,aQ,H'))=some (x,BZ,WB)∧Q x BZ WB
   split at hq
   ·rename_i he;rw[if_pos he];exact⟨_,_,_,rfl,hq⟩
   ·rename_i he;rw[if_neg he];exact⟨_,_,_,rfl,hq⟩
  | ret=>exact⟨_,_,_,rfl,hq⟩
theorem axU {x:Operand} {a:aE}:W lo (.cond x a b) Q ρ H=∃t,ev ρ x = .bool t∧((t=true→W lo a Q ρ H)∧(t=false→W lo b Q ρ H)):=by
 unfold W
 rw[afJ]
 apply propext
 constructor
 ·rintro⟨y,aQ,H',h,hq⟩
  split at h
  ·rename_i t ht
   cases t with
   | true=>exact⟨true,ht,fun _=>⟨y,aQ,H',h,hq⟩,fun h=>by cases h⟩
   | false=>exact⟨false,ht,fun h=>(by cases h),fun _=>⟨y,aQ,H',h,hq⟩⟩
  ·cases h
 ·rintro⟨t,ht,h1,h2⟩
  rw[ht]
  cases t with
  | true=>exact h1 rfl
  | false=>exact h2 rfl
theorem W.mono {Q':Ex→Env→aI→Prop} {c:aE} (h:W lo c Q ρ H) (hq:∀x ρ H,Q x ρ H→Q' x ρ H):W lo c Q' ρ H:=by
 obtain⟨x,aQ,H',h1,h2⟩:=h
 exact⟨x,aQ,H',h1,hq _ _ _ h2⟩
noncomputable def lI (lo:Nat) (q:Bool) (op:qE) (ρ:Env) (H:aI):Option (Value×aI) :=
 match pop lo op ρ H with
 | some (.val v H')=>some (v,H')
 | some (.call f args)=>uN f args (if q then H.length else lo) H
 | none=>none
theorem ayF:WS lo [] K ρ H=K ρ H:=by
 unfold WS
 apply propext
 constructor
 ·rintro⟨aQ,H',h,hk⟩;cases h;exact hk
 ·intro h;exact⟨ρ,H,rfl,h⟩
theorem aA2 {i:PI} {is:List PI}:WS lo (i::is) K ρ H=∃v H',BW uN lo i ρ H=some (v,H')∧WS lo is K (put ρ i.dst v) H':=by
 unfold WS
 apply propext
 constructor
 ·rintro⟨aQ,H',h,hk⟩
  rw[jC] at h
  split at h
  ·rename_i AN H1 h1
   obtain⟨v,hv,rfl⟩:=BG h1
   exact⟨v,H1,hv,aQ,H',h,hk⟩
  ·cases h
 ·rintro⟨v,H1,hv,aQ,H',h,hk⟩
  refine⟨aQ,H',?_,hk⟩
  rw[jC]
  unfold AU
  rw[hv]
  exact h
variable {q:Bool}
theorem dW {op:qE} (h:yJ op=true):lI lo q op ρ H=(kC op ρ).map (·,H):=by
 unfold lI
 rw[By h]
 cases kC op ρ<;>rfl
theorem arL {x:Operand}:lI lo q (.mv x) ρ H=some (ev ρ x,H):=rfl
theorem aeR {c a b:Operand}:lI lo q (.pick c a b) ρ H=(match ev ρ c with | .bool t=>some ((if t=true then ev ρ a else ev ρ b),H) | _=>none):=by
 rw[dW rfl]
 simp only[kC]
 cases ev ρ c<;>rfl
theorem alW {op:BinOp} {x y:Operand}:lI lo q (.bin op x y) ρ H=(dK op (ev ρ x) (ev ρ y)).map (·,H):=dW rfl
theorem apF {op:UnOp} {x:Operand}:lI lo q (.un op x) ρ H=(pun op (ev ρ x)).map (·,H):=dW rfl
theorem acG {f:Nat} {args:List Operand}:lI lo q (.call f args) ρ H=uN f (args.map (ev ρ)) (if q then H.length else lo) H:=rfl
end
theorem agX {f lo:Nat} {pf:aU} {args:List Value} {H:aI} {R:Value→aI→Prop} (ht:fQ f=some pf) (ha:args.length≤pf.ntmps) (h:W lo pf.body (aEt pf.res R) (acN args) H):∃v H',uN f args lo H=some (v,H')∧R v H':=by
 obtain⟨x,aQ,H',h1,h2⟩:=h
 show ∃v H',call cfg fQ f args lo H=some (v,H')∧R v H'
 rw[aqY cfg fQ (X9 ht) ht]
 unfold awW
 rw[if_pos ha,h1]
 cases x with
 | exit i=>exact h2.elim
 |
  normal =>
  obtain⟨v,h3,h4⟩:=h2
  exact⟨v,H',by simp only;rw[h3];rfl,h4⟩
 |
  ret =>
  obtain⟨v,h3,h4⟩:=h2
  exact⟨v,H',by simp only;rw[h3];rfl,h4⟩
end Go.PM
namespace Go.PM
theorem wrap64 {x:Int} (h1 : -9223372036854775808≤x) (h2:x≤9223372036854775807):IntKind.i64.wrap x=x:=by
 rw[IntKind.wrap_i64]
 omega
section
variable {k:IntKind} {a b:Int}
theorem WK:dK .add (.int k a) (.int k b)=some (.int k (k.wrap (a+b))):=by simp[dK]
theorem UB:dK .sub (.int k a) (.int k b)=some (.int k (k.wrap (a-b))):=by simp[dK]
theorem Ub:dK .mul (.int k a) (.int k b)=some (.int k (k.wrap (a*b))):=by simp[dK]
theorem UX (h:b≠0):dK .rem (.int k a) (.int k b)=some (.int k (a.tmod b)):=by simp[dK,h]
theorem Vh:dK .lss (.int k a) (.int k b)=some (.bool (decide (a<b))):=by simp[dK]
theorem Wj:dK .leq (.int k a) (.int k b)=some (.bool (decide (a≤b))):=by simp[dK]
theorem UR:dK .gtr (.int k a) (.int k b)=some (.bool (decide (b<a))):=by simp[dK]
theorem U0:dK .geq (.int k a) (.int k b)=some (.bool (decide (b≤a))):=by simp[dK]
theorem VJ:dK .eql (.int k a) (.int k b)=some (.bool (decide (a=b))):=by
 simp only[dK,if_true]
 rfl
theorem VU:dK .neq (.int k a) (.int k b)=some (.bool (!decide (a=b))):=by
 simp only[dK,if_true]
 rfl
theorem Zq:pun .neg (.int k a)=some (.int k (k.wrap (0-a))):=rfl
theorem ZK {t:Bool}:pun .not (.bool t)=some (.bool (!t)):=rfl
end
def aAb:Value→Option Value
 | .slice _ n _=>some (.int .i64 n)
 | _=>none
def Ol (neg:Bool):Value→Value→Option Value
 | .bool a,.bool b=>some (.bool ((a == b) != neg))
 | _,_=>none
def ajJ (neg:Bool):Value→Option Value
 | .slice none _ _=>some (.bool (true != neg))
 | .slice (some _) _ _=>some (.bool (false != neg))
 | _=>none
def akV (neg:Bool) (ks:List CK):Value→Value→Option Value
 | .agg a,.agg b=>(sR ks a.toList b.toList).map fun t => .bool (t != neg)
 | _,_=>none
def Xo (k:IntKind):Value→Option Value
 | .int _ n=>some (.int k (k.wrap n))
 | _=>none
def axG (i:Nat):Value→Option Value
 | .tuple vs=>vs[i]?
 | _=>none
def aqX (agg:Bool) (off size:Nat):Value→Option Value
 | .agg cs=>if agg then (if off+size≤cs.size then some (.agg (cs.extract off (off+size))) else none) else cs[off]?
 | _=>none
def aAL:Value→Option Value
 | .pointer (some a)=>some (.pointer (some a))
 | _=>none
def ajF (off:Nat):Value→Option Value
 | .pointer (some ⟨b,o,none⟩)=>some (.pointer (some ⟨b,o+off,none⟩))
 | _=>none
def SV (size:Nat):Value→Value→Option Value
 | .slice (some ⟨b,o,none⟩) n _,.int _ i=>if 0≤i∧i<n then some (.pointer (some ⟨b,o+i.toNat*size,none⟩)) else none
 | _,_=>none
def Va:Value→Value→Option Value
 | .int k a,.int _ b=>some (.int k (if b<a then b else a))
 | _,_=>none
def WE:Value→Value→Option Value
 | .int k a,.int _ b=>some (.int k (if b>a then b else a))
 | _,_=>none
section
variable {lo:Nat} {ρ:Env} {H:aI} {q:Bool}
theorem sY {op:qE} {r:Option (Value×aI)} (h:pop lo op ρ H=r.map fun(v,H') => .val v H'):lI lo q op ρ H=r:=by
 unfold lI
 rw[h]
 cases r<;>rfl
theorem aiK {x:Operand}:lI lo q (.len x) ρ H=(aAb (ev ρ x)).map (·,H):=dW rfl
theorem anF {neg:Bool} {x y:Operand}:lI lo q (.eqb neg x y) ρ H=(Ol neg (ev ρ x) (ev ρ y)).map (·,H):=dW rfl
theorem YB {neg:Bool} {x:Operand}:lI lo q (.isnil neg x) ρ H=(ajJ neg (ev ρ x)).map (·,H):=dW rfl
theorem Xz {neg:Bool} {ks:List CK} {x y:Operand}:lI lo q (.eqagg neg ks x y) ρ H=(akV neg ks (ev ρ x) (ev ρ y)).map (·,H):=dW rfl
theorem akQ {k:IntKind} {x:Operand}:lI lo q (.cvt k x) ρ H=(Xo k (ev ρ x)).map (·,H):=dW rfl
theorem ahW {i:Nat} {x:Operand}:lI lo q (.ext x i) ρ H=(axG i (ev ρ x)).map (·,H):=dW rfl
theorem amN {agg:Bool} {off size:Nat} {x:Operand}:lI lo q (.fld agg off size x) ρ H=(aqX agg off size (ev ρ x)).map (·,H):=dW rfl
theorem YO {z:List Value} {places:List (Nat×Nat)} {parts:List (Nat×Operand)}:lI lo q (.build z places parts) ρ H=((Au places z (parts.map fun(i,x)=>(i,ev ρ x))).map fun cs=>Value.agg cs.toArray).map (·,H):=dW rfl
theorem amT {x:Operand}:lI lo q (.chk x) ρ H=(aAL (ev ρ x)).map (·,H):=dW rfl
theorem Xf {off:Nat} {x:Operand}:lI lo q (.faddr off x) ρ H=(ajF off (ev ρ x)).map (·,H):=dW rfl
theorem YG {size:Nat} {x i:Operand}:lI lo q (.iaddr size x i) ρ H=(SV size (ev ρ x) (ev ρ i)).map (·,H):=dW rfl
theorem abS {f:Nat} {gD:List Operand}:lI lo q (.mkfn f gD) ρ H=some (.func (.func f) #[] (gD.map (ev ρ)).toArray,H):=dW rfl
theorem ahX {x y:Operand}:lI lo q (.min x y) ρ H=(Va (ev ρ x) (ev ρ y)).map (·,H):=dW rfl
theorem agP {x y:Operand}:lI lo q (.max x y) ρ H=(WE (ev ρ x) (ev ρ y)).map (·,H):=dW rfl
theorem acT {agg:Bool} {size:Nat} {p:Operand}:lI lo q (.load agg size p) ρ H=(qP agg size (ev ρ p) H).map (·,H):=by
 unfold lI
 simp only[pop]
 cases qP agg size (ev ρ p) H<;>rfl
theorem alM {size:Nat} {x:Operand} {l h m:Option Operand}:lI lo q (.sub size x l h m) ρ H=Fc size (ev ρ x) (l.map (ev ρ)) (h.map (ev ρ)) (m.map (ev ρ)) H:=by
 unfold lI
 simp only[pop]
 cases Fc size (ev ρ x) (l.map (ev ρ)) (h.map (ev ρ)) (m.map (ev ρ)) H<;>rfl
theorem anX {z:List Value}:lI lo q (.new z) ρ H=some (.pointer (some ⟨H.length,0,none⟩),H++[.row z z.length false]):=rfl
theorem akA {x:Operand}:lI lo q (.box x) ρ H=if (aV (ev ρ x)).all iP then some (.pointer (some ⟨H.length,0,none⟩),H++[.row (aV (ev ρ x)) (aV (ev ρ x)).length false]) else none:=by
 apply sY
 simp only[pop]
 by_cases h:(aV (ev ρ x)).all iP=true
 ·rw[if_pos h,if_pos h];rfl
 ·rw[if_neg h,if_neg h];rfl
def ZQ (z:List Value) (bytes:Nat) (l c:Value) (H:aI):Option (Value×aI) :=
 match l,c with
 | .int .i64 l,.int .i64 c=>if 0≤l∧l≤c∧c*bytes≤281474976710656∧c≤9223372036854775807 then
  some (.slice (some ⟨H.length,0,none⟩) l.toNat c.toNat,H++[.row (dF c.toNat z) z.length false]) else none
 | _,_=>none
theorem afG {z:List Value} {bytes:Nat} {l c:Operand}:lI lo q (.make z bytes l c) ρ H=ZQ z bytes (ev ρ l) (ev ρ c) H:=by
 apply sY
 simp only[pop]
 unfold ZQ
 split
 ·rename_i l c h1 h2
  simp only[h1,h2]
  split<;>rfl
 ·rename_i h1
  split
  ·rename_i h2 h3
   exact(h1 _ _ h2 h3).elim
  ·rfl
def atD (z:List Value) (n:Nat) (parts:List (Nat×Value)) (H:aI):Option (Value×aI) :=
 match Au ((List.range n).map fun i=>(i*z.length,z.length)) (dF n z) parts with
 | some cs=>if cs.all iP then some (.slice (some ⟨H.length,0,none⟩) n n,H++[.row cs z.length false]) else none
 | none=>none
theorem alZ {z:List Value} {n:Nat} {parts:List (Nat×Operand)}:lI lo q (.lit z n parts) ρ H=atD z n (parts.map fun(i,x)=>(i,ev ρ x)) H:=by
 apply sY
 simp only[pop]
 unfold atD
 split
 ·rename_i cs h1
  simp only[h1]
  split<;>rfl
 ·rename_i h1
  simp only[h1]
  rfl
def H7 (lo size:Nat) (p v:Value) (H:aI):Option (Value×aI) :=
 match p with
 | .pointer (some ⟨b,o,none⟩)=>if (aV v).length=size then (H.write lo b o (aV v)).map fun H'=>(undef,H') else none
 | _=>none
theorem Ym {size:Nat} {p v:Operand}:lI lo q (.store size p v) ρ H=H7 lo size (ev ρ p) (ev ρ v) H:=by
 apply sY
 simp only[pop]
 unfold H7
 split
 ·rename_i b o h1
  simp only[h1]
  split
  ·cases H.write lo b o (aV (ev ρ v))<;>rfl
  ·rfl
 ·rename_i h1
  split
  ·rename_i h2
   exact(h1 _ _ h2).elim
  ·rfl
def azE (lo size bytes:Nat) (x y:Value) (H:aI):Option (Value×aI) :=
 match wT y with
 |
  some n=>match lA H size n y with
  | some new=>fL lo size bytes x n new H
  | none=>none
 | none=>none
theorem amF {size bytes:Nat} {x y:Operand}:lI lo q (.app size bytes x y) ρ H=azE lo size bytes (ev ρ x) (ev ρ y) H:=by
 apply sY
 simp only[pop]
 unfold azE
 cases wT (ev ρ y) with
 | none=>rfl
 |
  some n =>
  cases hs:lA H size n (ev ρ y) with
  | none=>simp only[hs];rfl
  | some new=>simp only[hs]
def akY (lo:Nat) (z:List Value) (bytes:Nat) (x n:Value) (H:aI):Option (Value×aI) :=
 match n with
 | .int .i64 n=>if 0≤n∧n*bytes≤140737488355328 then fL lo z.length bytes x n.toNat (dF n.toNat z) H else none
 | _=>none
theorem adU {z:List Value} {bytes:Nat} {x n:Operand}:lI lo q (.appz z bytes x n) ρ H=akY lo z bytes (ev ρ x) (ev ρ n) H:=by
 apply sY
 simp only[pop]
 unfold akY
 split
 ·rename_i n h1
  simp only[h1]
  split<;>rfl
 ·rename_i h1
  split
  ·rename_i h2
   exact(h1 _ h2).elim
  ·rfl
def copyV (lo size:Nat) (x y:Value) (H:aI):Option (Value×aI) :=
 match x,wT y with
 | .slice none _ _,some _=>some (.int .i64 0,H)
 |
  .slice (some ⟨b,o,none⟩) d _,some s=>match lA H size (Nat.min s d) y with
  | some new=>(H.write lo b o new).map fun H'=>(.int .i64 (Nat.min s d),H')
  | none=>none
 | _,_=>none
theorem afQ {size:Nat} {x y:Operand}:lI lo q (.copy size x y) ρ H=copyV lo size (ev ρ x) (ev ρ y) H:=by
 apply sY
 simp only[pop]
 unfold copyV
 split
 ·rename_i h1 h2
  simp only[h1,h2]
  rfl
 ·rename_i b o d _ s h1 h2
  simp only[h1,h2]
  cases hs:lA H size (Nat.min s d) (ev ρ y) with
  | none=>rfl
  |
   some new =>
   simp only
   cases H.write lo b o new<;>rfl
 ·rename_i h1 h2
  split
  ·rename_i h3 h4
   exact(h1 _ _ _ h3 h4).elim
  ·rename_i h3 h4
   exact(h2 _ _ _ _ _ h3 h4).elim
  ·rfl
def TB (lo:Nat) (z:List Value) (x:Value) (H:aI):Option (Value×aI) :=
 match x with
 | .slice none _ _=>some (undef,H)
 | .slice (some ⟨b,o,none⟩) n _=>if n=0 then some (undef,H) else (H.write lo b o (dF n z)).map fun H'=>(undef,H')
 | _=>none
theorem XJ {z:List Value} {x:Operand}:lI lo q (.clear z x) ρ H=TB lo z (ev ρ x) H:=by
 apply sY
 simp only[pop]
 unfold TB
 split
 ·rename_i h1
  simp only[h1]
  rfl
 ·rename_i b o n _ h1
  simp only[h1]
  split
  ·rfl
  ·cases H.write lo b o (dF n z)<;>rfl
 ·rename_i h1 h2
  split
  ·rename_i h3
   exact(h1 _ _ h3).elim
  ·rename_i h3
   exact(h2 _ _ _ _ h3).elim
  ·rfl
noncomputable def amJ (lo:Nat) (fv:Value) (args:List Value) (H:aI):Option (Value×aI) :=
 match fv with
 | .func (.func f) first gD=>uN f (first.toList++args++gD.toList) lo H
 | _=>none
theorem XX {fv:Operand} {args:List Operand}:lI lo q (.callv fv args) ρ H=amJ (if q then H.length else lo) (ev ρ fv) (args.map (ev ρ)) H:=by
 unfold lI
 simp only[pop]
 unfold amJ
 generalize ev ρ fv=v
 cases v with
 | func fn f c=>cases fn<;>rfl
 | _=>rfl
end
end Go.PM
namespace Go.PM
section
variable {lo:Nat} {Q:Ex→Env→aI→Prop} {K:Env→aI→Prop} {ρ:Env} {H:aI} {q:Bool}
def aA5 (u v:Value):Bool:=match kP u,kP v with
 | some a,some b=>a != b
 | _,_=>true
end
theorem aaG {k:IntKind} {a b:Int}:WE (.int k a) (.int k b)=some (.int k (max a b)):=by
 simp only[WE]
 congr 2
 split<;>omega
theorem Zm {k:IntKind} {a b:Int}:Va (.int k a) (.int k b)=some (.int k (min a b)):=by
 simp only[Va]
 congr 2
 split<;>omega
end Go.PM
namespace Go.PM
abbrev ptr (b o:Nat):Value := .pointer (some ⟨b,o,none⟩)
abbrev I (n:Int):Value := .int .i64 n
section
variable {H H':aI} {lo b o n size:Nat} {cs r:List Value} {L K:aI} {v:Value}
theorem Tp (hb:b<H.length):(H++L)[b]? = H[b]? := aKO hb
theorem Z1 {x:Qv}:(H++x::L)[H.length]? = some x:=by simp
theorem ajT (hb:b<H.length):(H++L).read b o n=H.read b o n:=ID (Tp hb)
theorem CV {e:Nat} {p:Bool} (h:H[b]? = some (.row r e p)) (hn:o+n≤r.length):H.read b o n=some ((r.drop o).take n):=by
 unfold aI.read
 rw[h]
 simp only[hn,if_true]
structure Fz (H:aI) (b o:Nat) (cs:List Value):Prop where
 lt:b<H.length
 rd:H.read b o cs.length=some cs
theorem Fz.app (h:Fz H b o cs):Fz (H++L) b o cs:=⟨by have:=h.lt;simp;omega,by rw[ajT h.lt];exact h.rd⟩
theorem Fz.pre (h:Fz H b o cs) (hp:H <+: H'):Fz H' b o cs:=by
 obtain⟨L,rfl⟩:=hp
 exact h.app
theorem Fz.all (h:Fz H b o cs) (hs:cs.length=size):qP true size (.pointer (some ⟨b,o,none⟩)) H=some (.agg cs.toArray):=by
 subst hs
 simp only[qP,if_true,h.rd]
 rfl
theorem Fz.one {u:Value} (h:Fz H b o [u]):qP false size (.pointer (some ⟨b,o,none⟩)) H=some u:=by
 have:=h.rd
 simp only[aKH,List.length_nil] at this
 simp only[qP,this]
 rfl
theorem Fz.sub {k:Nat} {u:Value} (h:Fz H b o cs) (hk:cs[k]? = some u):Fz H b (o+k) [u]:=by
 refine⟨h.lt,?_⟩
 have h1:=h.rd
 unfold aI.read at h1 ⊢
 split at h1
 ·rename_i r e p hb
  split at h1
  ·rename_i hl
   have hk':=(aKw.1 hk).1
   simp only[aKH,List.length_nil]
   rw[if_pos (by simp;omega)]
   injection h1 with h1
   rw[←h1] at hk
   rw[List.getElem?_take,if_pos (by omega),aKv] at hk
   have bH:=(aKw.1 hk).1
   rw[aKC bH]
   simp only[aLk,List.take_zero]
   rw[aKE bH] at hk
   injection hk with hk
   rw[hk]
  ·cases h1
 ·cases h1
theorem Fz.fld {k:Nat} {u:Value} (h:Fz H b o cs) (hk:cs[k]? = some u):qP false size (.pointer (some ⟨b,o+k,none⟩)) H=some u:=(h.sub hk).one
theorem U5 {a:Nat} {c:Nat} {i:Int} {k:IntKind} (h0:0≤i) (h1:i<n):SV size (.slice (some ⟨b,a,none⟩) n c) (.int k i)=some (.pointer (some ⟨b,a+i.toNat*size,none⟩)):=by
 simp only[SV]
 rw[if_pos ⟨h0,h1⟩]
structure Arr {α:Type} (enc:α→List Value) (gR:Nat) (H:aI) (a:Option Addr) (n:Nat) (xs:List α):Prop where
 len:n=xs.length
 el:∀(i:Nat) x,xs[i]? = some x→∃b o,a=some ⟨b,o,none⟩∧Fz H b (o+i*gR) (enc x)
theorem Arr.pre {α:Type} {enc:α→List Value} {gR:Nat} {a:Option Addr} {xs:List α} (h:Arr enc gR H a n xs) (hp:H <+: H'):Arr enc gR H' a n xs :=
 ⟨h.len,fun i x hx=>by obtain⟨b,o,h1,h2⟩:=h.el i x hx;exact⟨b,o,h1,h2.pre hp⟩⟩
end
structure lT where
 t:Int
 w:Int
 k:Int
 deriving DecidableEq
def cc (c:lT):List Value:=[I c.t,I c.w,I c.k]
def ci (n:Int):List Value:=[I n]
end Go.PM
namespace Go.PM
structure Mz {α:Type} (enc:α→List Value) (gR:Nat):Prop where
 len:∀x,(enc x).length=gR
 sc:∀x,(enc x).all iP=true
 pos:1≤gR
section
variable {α:Type} {enc:α→List Value} {gR:Nat} {H H':aI} {lo b:Nat} {xs ys:List α} {p:Bool}
theorem Ok (e:Mz enc gR):(xs.flatMap enc).length=xs.length*gR:=by
 induction xs with
 | nil=>simp
 | cons x xs ih=>simp only[aLl,List.length_append,e.len,ih,aKH,aLm];omega
theorem Li (e:Mz enc gR) (i:Nat):(xs.flatMap enc).drop (i*gR)=(xs.drop i).flatMap enc:=by
 induction i generalizing xs with
 | zero=>simp
 |
  succ i ih =>
  cases xs with
  | nil=>simp
  |
   cons x xs =>
   rw[aLl,List.drop_succ_cons,←ih,show (i+1)*gR=(enc x).length+i*gR by rw[e.len,aLm];omega,List.drop_append]
   simp
theorem Rg (e:Mz enc gR) (i:Nat):(xs.flatMap enc).take (i*gR)=(xs.take i).flatMap enc:=by
 induction i generalizing xs with
 | zero=>simp
 |
  succ i ih =>
  cases xs with
  | nil=>simp
  |
   cons x xs =>
   rw[aLl,aLk,aLl,←ih,show (i+1)*gR=(enc x).length+i*gR by rw[e.len,aLm];omega,List.take_append]
   simp
   exact List.take_of_length_le (by omega)
theorem WM (e:Mz enc gR) {i:Nat} (x:α) (hi:i<xs.length):kI (xs.flatMap enc) (i*gR) (enc x)=(xs.set i x).flatMap enc:=by
 unfold kI
 rw[Rg e,e.len,show i*gR+gR=(i+1)*gR by rw[aLm],Li e,List.set_eq_take_append_cons_drop,if_pos hi]
 simp
def Row (enc:α→List Value) (gR:Nat) (H:aI) (b:Nat) (p:Bool) (xs:List α):Prop:=H[b]? = some (.row (xs.flatMap enc) gR p)
theorem Row.lt (h:Row enc gR H b p xs):b<H.length:=(aKw.1 h).1
theorem Row.pre (h:Row enc gR H b p xs) (hp:H <+: H'):Row enc gR H' b p xs:=by
 obtain⟨L,rfl⟩:=hp
 unfold Row
 rw[Tp h.lt]
 exact h
theorem Row.elem (h:Row enc gR H b p xs) (e:Mz enc gR) {i:Nat} {x:α} (hx:xs[i]? = some x):Fz H b (i*gR) (enc x):=by
 refine⟨h.lt,?_⟩
 have hi:=(aKw.1 hx).1
 have hm:(i+1)*gR≤xs.length*gR:=aKY _ hi
 rw[aLm] at hm
 rw[CV h (by rw[e.len,Ok e];omega),Li e,e.len]
 have:=Rg (xs:=xs.drop i) e 1
 rw[Nat.one_mul] at this
 rw[this,aKC hi]
 rw[aKE hi] at hx
 injection hx with hx
 simp[hx]
theorem Row.arr (h:Row enc gR H b p xs) (e:Mz enc gR) {n:Nat} (hn:n≤xs.length):Arr enc gR H (some ⟨b,0,none⟩) n (xs.take n):=by
 refine⟨by simp;omega,fun i x hx=>⟨b,0,rfl,?_⟩⟩
 rw[Nat.zero_add]
 refine h.elem e ?_
 rw[List.getElem?_take] at hx
 split at hx
 ·exact hx
 ·cases hx
theorem Row.store (h:Row enc gR H b p xs) (e:Mz enc gR) {i:Nat} {x:α} {u:Value} (hu:aV u=enc x) (hi:i<xs.length) (hl:lo≤b):H7 lo gR (.pointer (some ⟨b,i*gR,none⟩)) u H=some (undef,H.set b (.row ((xs.set i x).flatMap enc) gR p)):=by
 simp only[H7,aI.write,hu,e.len,if_true]
 have h':H[b]? = some (.row (xs.flatMap enc) gR p):=h
 have hm:(i+1)*gR≤xs.length*gR:=aKY _ hi
 rw[aLm] at hm
 simp only[h']
 rw[if_pos ⟨hl,by rw[Ok e];omega,e.sc x⟩,WM e x hi]
 rfl
theorem Row.set (h:Row enc gR H b p xs) (ys:List α):Row enc gR (H.set b (.row (ys.flatMap enc) gR p)) b p ys:=by
 unfold Row
 rw[List.getElem?_set_self h.lt]
theorem Wr (e:Mz enc gR) {n:Nat} {x:α}:dF n (enc x)=(aLn n x).flatMap enc:=by
 have kZ:=e.pos
 have hlen:=e.len x
 apply List.ext_getElem?
 intro i
 unfold dF
 rw[List.getElem?_map,hlen]
 rcases aKA i (n*gR) with hi | hi
 ·rw[List.getElem?_range hi]
  have hq:i / gR<n:=Nat.div_lt_of_lt_mul (by rw[Nat.mul_comm];exact hi)
  have h1:((aLn n x).flatMap enc)[i]? = (((aLn n x).flatMap enc).drop (i / gR*gR))[i % gR]? := by
   rw[aKv]
   congr 1
   rw[Nat.mul_comm]
   exact(Nat.div_add_mod i gR).symm
  have hr:i % gR<(enc x).length:=by rw[hlen];exact Nat.mod_lt _ (by omega)
  rw[h1,Li e,List.drop_replicate,show n-i / gR=(n-i / gR-1)+1 by omega,List.replicate_succ,aLl,aKO hr]
  simp[aKu,aKE hr]
 ·rw[aKX (by simpa using hi),aKX (by rw[Ok e];simpa using hi)]
  rfl
theorem Row.top {K:aI}:Row enc gR (H ++ .row (xs.flatMap enc) gR p::K) H.length p xs:=Z1
end
end Go.PM
namespace Go.PM
section
variable {H L:aI} {lo k o size:Nat} {agg:Bool} {u:Value}
end
end Go.PM
namespace Go.Proofs
open Go.Shelf
def OF:Go.Shelf.Ren:=⟨fun | 156=>217 | 165=>232 | 166=>233 | 169=>235 | 240=>245 | 241=>246 | 276=>253 | 277=>254 | n=>n,fun | 31=>33 | 9=>9 | 3=>3 | 4=>4 | 0=>0 | 20=>20 | 72=>262 | 76=>264 | 70=>260 | 37=>187 | 75=>220 | 127=>276 | 164=>285 | 5=>5 | 80=>227 | n=>n,fun | n=>n⟩
theorem YQ:Go.Proofs.Lays.n156 Tryz.prog OF:={
 mixed:=by kernel_rfl
 f156:=Tryz.func217.trans (congrArg some (by kernel_rfl))
 f165:=Tryz.func232.trans (congrArg some (by kernel_rfl))
 f166:=Tryz.func233.trans (congrArg some (by kernel_rfl))
 f169:=Tryz.func235.trans (congrArg some (by kernel_rfl))
 f240:=Tryz.func245.trans (congrArg some (by kernel_rfl))
 f241:=Tryz.func246.trans (congrArg some (by kernel_rfl))
 f276:=Tryz.func253.trans (congrArg some (by kernel_rfl))
 f277:=Tryz.func254.trans (congrArg some (by kernel_rfl))
 t0:=Tryz.underlying0
 a0:=Tryz.isAgg0
 z0:=Tryz.sizeOf0
 v0:=Tryz.zeroValue0
 t3:=Tryz.underlying3
 a3:=Tryz.isAgg3
 z3:=Tryz.sizeOf3
 v3:=Tryz.zeroValue3
 t4:=Tryz.underlying4
 a4:=Tryz.isAgg4
 z4:=Tryz.sizeOf4
 v4:=Tryz.zeroValue4
 t9:=Tryz.underlying9
 a9:=Tryz.isAgg9
 z9:=Tryz.sizeOf9
 v9:=Tryz.zeroValue9
 t20:=Tryz.underlying20
 a20:=Tryz.isAgg20
 z20:=Tryz.sizeOf20
 v20:=Tryz.zeroValue20
 t31:=Tryz.underlying33
 a31:=Tryz.isAgg33
 z31:=Tryz.sizeOf33
 v31:=Tryz.zeroValue33
 t37:=Tryz.underlying187
 a37:=Tryz.isAgg187
 z37:=Tryz.sizeOf187
 v37:=Tryz.zeroValue187
 t70:=Tryz.underlying260
 a70:=Tryz.isAgg260
 z70:=Tryz.sizeOf260
 v70:=Tryz.zeroValue260
 t72:=Tryz.underlying262
 a72:=Tryz.isAgg262
 z72:=Tryz.sizeOf262
 v72:=Tryz.zeroValue262
 t75:=Tryz.underlying220
 a75:=Tryz.isAgg220
 z75:=Tryz.sizeOf220
 v75:=Tryz.zeroValue220
 t76:=Tryz.underlying264
 a76:=Tryz.isAgg264
 z76:=Tryz.sizeOf264
 v76:=Tryz.zeroValue264
 t127:=Tryz.underlying276
 a127:=Tryz.isAgg276
 z127:=Tryz.sizeOf276
 v127:=Tryz.zeroValue276
 t164:=Tryz.underlying285
 a164:=Tryz.isAgg285
 z164:=Tryz.sizeOf285
 v164:=Tryz.zeroValue285 }
theorem SZ:Builder.Extra Tryz.prog OF:={
 sizeBuilder:=by kernel_rfl
 liesBuilder:=by kernel_rfl
 t5:=Tryz.underlying5
 a5:=Tryz.isAgg5
 z5:=Tryz.sizeOf5
 v5:=Tryz.zeroValue5
 infoByte:=by kernel_rfl
 cellsByte:=by kernel_rfl
 sizeByte:=by kernel_rfl
 neB5:=by decide }
def YC:Go.Shelf.Ren:=⟨fun | 133=>198 | 128=>218 | n=>n,fun | 51=>206 | 3=>3 | 4=>4 | 46=>207 | 5=>5 | 9=>9 | n=>n,fun | n=>n⟩
theorem axZ:Go.Proofs.Lays.n133 Tryz.prog YC:={
 mixed:=by kernel_rfl
 f128:=Tryz.func218.trans (congrArg some (by kernel_rfl))
 f133:=Tryz.func198.trans (congrArg some (by kernel_rfl))
 t3:=Tryz.underlying3
 a3:=Tryz.isAgg3
 z3:=Tryz.sizeOf3
 v3:=Tryz.zeroValue3
 t4:=Tryz.underlying4
 a4:=Tryz.isAgg4
 z4:=Tryz.sizeOf4
 v4:=Tryz.zeroValue4
 t5:=Tryz.underlying5
 a5:=Tryz.isAgg5
 z5:=Tryz.sizeOf5
 v5:=Tryz.zeroValue5
 t9:=Tryz.underlying9
 a9:=Tryz.isAgg9
 z9:=Tryz.sizeOf9
 v9:=Tryz.zeroValue9
 t46:=Tryz.underlying207
 a46:=Tryz.isAgg207
 z46:=Tryz.sizeOf207
 v46:=Tryz.zeroValue207
 t51:=Tryz.underlying206
 a51:=Tryz.isAgg206
 z51:=Tryz.sizeOf206
 v51:=Tryz.zeroValue206 }
def Yt:Go.Shelf.Ren:=⟨fun | 283=>241 | n=>n,fun | 3=>3 | 9=>9 | 4=>4 | n=>n,fun | n=>n⟩
theorem axR:Go.Proofs.Lays.n283 Tryz.prog Yt:={
 mixed:=by kernel_rfl
 f283:=Tryz.func241.trans (congrArg some (by kernel_rfl))
 t3:=Tryz.underlying3
 a3:=Tryz.isAgg3
 z3:=Tryz.sizeOf3
 v3:=Tryz.zeroValue3
 t4:=Tryz.underlying4
 a4:=Tryz.isAgg4
 z4:=Tryz.sizeOf4
 v4:=Tryz.zeroValue4
 t9:=Tryz.underlying9
 a9:=Tryz.isAgg9
 z9:=Tryz.sizeOf9
 v9:=Tryz.zeroValue9 }
def Xq:Go.Shelf.Ren:=⟨fun | 284=>242 | 129=>249 | 317=>248 | 318=>250 | n=>n,fun | 53=>171 | 3=>3 | 212=>281 | 0=>0 | 4=>4 | 46=>207 | 5=>5 | 9=>9 | n=>n,fun | 17=>3 | n=>n⟩
theorem awH:Go.Proofs.LaysM.n284 Tryz.prog Xq:={
 mixed:=by kernel_rfl
 f129:=Tryz.func249.trans (congrArg some (by kernel_rfl))
 f284:=Tryz.func242.trans (congrArg some (by kernel_rfl))
 f317:=Tryz.func248.trans (congrArg some (by kernel_rfl))
 f318:=Tryz.func250.trans (congrArg some (by kernel_rfl))
 t0:=Tryz.underlying0
 a0:=Tryz.isAgg0
 z0:=Tryz.sizeOf0
 v0:=Tryz.zeroValue0
 t3:=Tryz.underlying3
 a3:=Tryz.isAgg3
 z3:=Tryz.sizeOf3
 v3:=Tryz.zeroValue3
 t4:=Tryz.underlying4
 a4:=Tryz.isAgg4
 z4:=Tryz.sizeOf4
 v4:=Tryz.zeroValue4
 t5:=Tryz.underlying5
 a5:=Tryz.isAgg5
 z5:=Tryz.sizeOf5
 v5:=Tryz.zeroValue5
 t9:=Tryz.underlying9
 a9:=Tryz.isAgg9
 z9:=Tryz.sizeOf9
 v9:=Tryz.zeroValue9
 t46:=Tryz.underlying207
 a46:=Tryz.isAgg207
 z46:=Tryz.sizeOf207
 v46:=Tryz.zeroValue207
 t53:=Tryz.underlying171
 a53:=Tryz.isAgg171
 z53:=Tryz.sizeOf171
 v53:=Tryz.zeroValue171
 t212:=Tryz.underlying281
 a212:=Tryz.isAgg281
 z212:=Tryz.sizeOf281
 v212:=Tryz.zeroValue281
 g17:=by kernel_rfl
 i0:=by kernel_rfl
 i3:=by kernel_rfl
 i4:=by kernel_rfl
 i5:=by kernel_rfl
 i9:=by kernel_rfl
 i46:=by kernel_rfl
 i53:=by kernel_rfl
 i212:=by kernel_rfl
 m17:=by kernel_rfl }
def Yb:Go.Shelf.Ren:=⟨fun | 285=>243 | n=>n,fun | 37=>187 | 53=>171 | 3=>3 | 4=>4 | 51=>206 | 9=>9 | 5=>5 | 0=>0 | n=>n,fun | n=>n⟩
theorem ayG:Go.Proofs.Lays.n285 Tryz.prog Yb:={
 mixed:=by kernel_rfl
 f285:=Tryz.func243.trans (congrArg some (by kernel_rfl))
 t0:=Tryz.underlying0
 a0:=Tryz.isAgg0
 z0:=Tryz.sizeOf0
 v0:=Tryz.zeroValue0
 t3:=Tryz.underlying3
 a3:=Tryz.isAgg3
 z3:=Tryz.sizeOf3
 v3:=Tryz.zeroValue3
 t4:=Tryz.underlying4
 a4:=Tryz.isAgg4
 z4:=Tryz.sizeOf4
 v4:=Tryz.zeroValue4
 t5:=Tryz.underlying5
 a5:=Tryz.isAgg5
 z5:=Tryz.sizeOf5
 v5:=Tryz.zeroValue5
 t9:=Tryz.underlying9
 a9:=Tryz.isAgg9
 z9:=Tryz.sizeOf9
 v9:=Tryz.zeroValue9
 t37:=Tryz.underlying187
 a37:=Tryz.isAgg187
 z37:=Tryz.sizeOf187
 v37:=Tryz.zeroValue187
 t51:=Tryz.underlying206
 a51:=Tryz.isAgg206
 z51:=Tryz.sizeOf206
 v51:=Tryz.zeroValue206
 t53:=Tryz.underlying171
 a53:=Tryz.isAgg171
 z53:=Tryz.sizeOf171
 v53:=Tryz.zeroValue171 }
def Wv:Go.Shelf.Ren:=⟨fun | 14=>192 | 16=>211 | 17=>212 | 19=>224 | 20=>225 | 21=>226 | 22=>227 | 23=>228 | 24=>229 | 25=>238 | 27=>240 | 26=>239 | 28=>247 | 29=>255 | 30=>241 | 31=>242 | 32=>243 | 33=>244 | 35=>249 | 34=>248 | 36=>250 | 37=>251 | 38=>252 | 39=>256 | 40=>257 | n=>n,fun | 9=>9 | 3=>3 | 22=>171 | 24=>220 | 25=>221 | 4=>4 | 34=>255 | 5=>5 | 36=>207 | 37=>187 | 0=>0 | 39=>257 | 21=>21 | 44=>269 | 47=>276 | 50=>279 | 48=>277 | 2=>2 | 52=>271 | 55=>274 | 59=>281 | 60=>206 | 20=>20 | 61=>282 | 65=>289 | 66=>290 | 67=>227 | n=>n,fun | 0=>1 | 1=>2 | 2=>3 | 3=>4 | 4=>5 | n=>n⟩
theorem apD:Go.Proofs.LaysPu.n14 Tryz.prog Wv:={
 mixed:=by kernel_rfl
 f14:=Tryz.func192.trans (congrArg some (by kernel_rfl))
 f16:=Tryz.func211.trans (congrArg some (by kernel_rfl))
 f17:=Tryz.func212.trans (congrArg some (by kernel_rfl))
 f19:=Tryz.func224.trans (congrArg some (by kernel_rfl))
 f20:=Tryz.func225.trans (congrArg some (by kernel_rfl))
 f21:=Tryz.func226.trans (congrArg some (by kernel_rfl))
 f22:=Tryz.func227.trans (congrArg some (by kernel_rfl))
 f23:=Tryz.func228.trans (congrArg some (by kernel_rfl))
 f24:=Tryz.func229.trans (congrArg some (by kernel_rfl))
 f25:=Tryz.func238.trans (congrArg some (by kernel_rfl))
 f26:=Tryz.func239.trans (congrArg some (by kernel_rfl))
 f27:=Tryz.func240.trans (congrArg some (by kernel_rfl))
 f28:=Tryz.func247.trans (congrArg some (by kernel_rfl))
 f29:=Tryz.func255.trans (congrArg some (by kernel_rfl))
 f30:=Tryz.func241.trans (congrArg some (by kernel_rfl))
 f31:=Tryz.func242.trans (congrArg some (by kernel_rfl))
 f32:=Tryz.func243.trans (congrArg some (by kernel_rfl))
 f33:=Tryz.func244.trans (congrArg some (by kernel_rfl))
 f34:=Tryz.func248.trans (congrArg some (by kernel_rfl))
 f35:=Tryz.func249.trans (congrArg some (by kernel_rfl))
 f36:=Tryz.func250.trans (congrArg some (by kernel_rfl))
 f37:=Tryz.func251.trans (congrArg some (by kernel_rfl))
 f38:=Tryz.func252.trans (congrArg some (by kernel_rfl))
 f39:=Tryz.func256.trans (congrArg some (by kernel_rfl))
 f40:=Tryz.func257.trans (congrArg some (by kernel_rfl))
 t0:=Tryz.underlying0
 a0:=Tryz.isAgg0
 z0:=Tryz.sizeOf0
 v0:=Tryz.zeroValue0
 i0:=by kernel_rfl
 t2:=Tryz.underlying2
 a2:=Tryz.isAgg2
 z2:=Tryz.sizeOf2
 v2:=Tryz.zeroValue2
 i2:=by kernel_rfl
 t3:=Tryz.underlying3
 a3:=Tryz.isAgg3
 z3:=Tryz.sizeOf3
 v3:=Tryz.zeroValue3
 i3:=by kernel_rfl
 t4:=Tryz.underlying4
 a4:=Tryz.isAgg4
 z4:=Tryz.sizeOf4
 v4:=Tryz.zeroValue4
 i4:=by kernel_rfl
 t5:=Tryz.underlying5
 a5:=Tryz.isAgg5
 z5:=Tryz.sizeOf5
 v5:=Tryz.zeroValue5
 i5:=by kernel_rfl
 t9:=Tryz.underlying9
 a9:=Tryz.isAgg9
 z9:=Tryz.sizeOf9
 v9:=Tryz.zeroValue9
 i9:=by kernel_rfl
 t20:=Tryz.underlying20
 a20:=Tryz.isAgg20
 z20:=Tryz.sizeOf20
 v20:=Tryz.zeroValue20
 i20:=by kernel_rfl
 t21:=Tryz.underlying21
 a21:=Tryz.isAgg21
 z21:=Tryz.sizeOf21
 v21:=Tryz.zeroValue21
 i21:=by kernel_rfl
 t22:=Tryz.underlying171
 a22:=Tryz.isAgg171
 z22:=Tryz.sizeOf171
 v22:=Tryz.zeroValue171
 i22:=by kernel_rfl
 t24:=Tryz.underlying220
 a24:=Tryz.isAgg220
 z24:=Tryz.sizeOf220
 v24:=Tryz.zeroValue220
 i24:=by kernel_rfl
 t25:=Tryz.underlying221
 a25:=Tryz.isAgg221
 z25:=Tryz.sizeOf221
 v25:=Tryz.zeroValue221
 i25:=by kernel_rfl
 t34:=Tryz.underlying255
 a34:=Tryz.isAgg255
 z34:=Tryz.sizeOf255
 v34:=Tryz.zeroValue255
 i34:=by kernel_rfl
 c34:=by kernel_rfl
 t36:=Tryz.underlying207
 a36:=Tryz.isAgg207
 z36:=Tryz.sizeOf207
 v36:=Tryz.zeroValue207
 i36:=by kernel_rfl
 t37:=Tryz.underlying187
 a37:=Tryz.isAgg187
 z37:=Tryz.sizeOf187
 v37:=Tryz.zeroValue187
 i37:=by kernel_rfl
 t39:=Tryz.underlying257
 a39:=Tryz.isAgg257
 z39:=Tryz.sizeOf257
 v39:=Tryz.zeroValue257
 i39:=by kernel_rfl
 t44:=Tryz.underlying269
 a44:=Tryz.isAgg269
 z44:=Tryz.sizeOf269
 v44:=Tryz.zeroValue269
 i44:=by kernel_rfl
 t47:=Tryz.underlying276
 a47:=Tryz.isAgg276
 z47:=Tryz.sizeOf276
 v47:=Tryz.zeroValue276
 i47:=by kernel_rfl
 t48:=Tryz.underlying277
 a48:=Tryz.isAgg277
 z48:=Tryz.sizeOf277
 v48:=Tryz.zeroValue277
 i48:=by kernel_rfl
 t50:=Tryz.underlying279
 a50:=Tryz.isAgg279
 z50:=Tryz.sizeOf279
 v50:=Tryz.zeroValue279
 i50:=by kernel_rfl
 t52:=Tryz.underlying271
 a52:=Tryz.isAgg271
 z52:=Tryz.sizeOf271
 v52:=Tryz.zeroValue271
 i52:=by kernel_rfl
 t55:=Tryz.underlying274
 a55:=Tryz.isAgg274
 z55:=Tryz.sizeOf274
 v55:=Tryz.zeroValue274
 i55:=by kernel_rfl
 t59:=Tryz.underlying281
 a59:=Tryz.isAgg281
 z59:=Tryz.sizeOf281
 v59:=Tryz.zeroValue281
 i59:=by kernel_rfl
 t60:=Tryz.underlying206
 a60:=Tryz.isAgg206
 z60:=Tryz.sizeOf206
 v60:=Tryz.zeroValue206
 i60:=by kernel_rfl
 t61:=Tryz.underlying282
 a61:=Tryz.isAgg282
 z61:=Tryz.sizeOf282
 t65:=Tryz.underlying289
 a65:=Tryz.isAgg289
 z65:=Tryz.sizeOf289
 v65:=Tryz.zeroValue289
 i65:=by kernel_rfl
 t66:=Tryz.underlying290
 a66:=Tryz.isAgg290
 z66:=Tryz.sizeOf290
 v66:=Tryz.zeroValue290
 i66:=by kernel_rfl
 t67:=Tryz.underlying227
 a67:=Tryz.isAgg227
 z67:=Tryz.sizeOf227
 v67:=Tryz.zeroValue227
 i67:=by kernel_rfl
 g0:=by kernel_rfl
 m0:=by kernel_rfl
 g1:=by kernel_rfl
 m1:=by kernel_rfl
 g2:=by kernel_rfl
 m2:=by kernel_rfl
 g3:=by kernel_rfl
 m3:=by kernel_rfl
 g4:=by kernel_rfl
 m4:=by kernel_rfl }
def Xk:Go.Shelf.Ren:=⟨fun | 219=>209 | 217=>220 | 225=>221 | 224=>222 | 267=>223 | 266=>236 | 314=>237 | n=>n,fun | 9=>9 | 3=>3 | 4=>4 | 5=>5 | 46=>207 | 146=>240 | 51=>206 | n=>n,fun | 1=>0 | n=>n⟩
theorem axN:Go.Proofs.Lays.n219 Tryz.prog Xk:={
 mixed:=by kernel_rfl
 f217:=Tryz.func220.trans (congrArg some (by kernel_rfl))
 f219:=Tryz.func209.trans (congrArg some (by kernel_rfl))
 f224:=Tryz.func222.trans (congrArg some (by kernel_rfl))
 f225:=Tryz.func221.trans (congrArg some (by kernel_rfl))
 f266:=Tryz.func236.trans (congrArg some (by kernel_rfl))
 f267:=Tryz.func223.trans (congrArg some (by kernel_rfl))
 f314:=Tryz.func237.trans (congrArg some (by kernel_rfl))
 t3:=Tryz.underlying3
 a3:=Tryz.isAgg3
 z3:=Tryz.sizeOf3
 v3:=Tryz.zeroValue3
 t4:=Tryz.underlying4
 a4:=Tryz.isAgg4
 z4:=Tryz.sizeOf4
 v4:=Tryz.zeroValue4
 t5:=Tryz.underlying5
 a5:=Tryz.isAgg5
 z5:=Tryz.sizeOf5
 v5:=Tryz.zeroValue5
 t9:=Tryz.underlying9
 a9:=Tryz.isAgg9
 z9:=Tryz.sizeOf9
 v9:=Tryz.zeroValue9
 t46:=Tryz.underlying207
 a46:=Tryz.isAgg207
 z46:=Tryz.sizeOf207
 v46:=Tryz.zeroValue207
 t51:=Tryz.underlying206
 a51:=Tryz.isAgg206
 z51:=Tryz.sizeOf206
 v51:=Tryz.zeroValue206
 t146:=Tryz.underlying240
 a146:=Tryz.isAgg240
 z146:=Tryz.sizeOf240
 v146:=Tryz.zeroValue240
 g1:=by kernel_rfl }
def PW:Go.Shelf.Ren:=⟨fun | 105=>215 | 212=>187 | 99=>231 | 165=>232 | 166=>233 | 170=>234 | 169=>235 | 263=>206 | 264=>207 | 206=>210 | 240=>245 | 241=>246 | 276=>253 | 277=>254 | n=>n,fun | 9=>9 | 3=>3 | 4=>4 | 20=>20 | 0=>0 | 46=>207 | 109=>215 | 5=>5 | 72=>262 | 76=>264 | 51=>206 | 146=>240 | 53=>171 | 148=>242 | 70=>260 | 37=>187 | 75=>220 | 127=>276 | 164=>285 | 80=>227 | n=>n,fun | n=>n⟩
theorem axY:Go.Proofs.Lays.n105 Tryz.prog PW:={
 mixed:=by kernel_rfl
 f99:=Tryz.func231.trans (congrArg some (by kernel_rfl))
 f105:=Tryz.func215.trans (congrArg some (by kernel_rfl))
 f165:=Tryz.func232.trans (congrArg some (by kernel_rfl))
 f166:=Tryz.func233.trans (congrArg some (by kernel_rfl))
 f169:=Tryz.func235.trans (congrArg some (by kernel_rfl))
 f170:=Tryz.func234.trans (congrArg some (by kernel_rfl))
 f206:=Tryz.func210.trans (congrArg some (by kernel_rfl))
 f212:=Tryz.func187.trans (congrArg some (by kernel_rfl))
 f240:=Tryz.func245.trans (congrArg some (by kernel_rfl))
 f241:=Tryz.func246.trans (congrArg some (by kernel_rfl))
 f263:=Tryz.func206.trans (congrArg some (by kernel_rfl))
 f264:=Tryz.func207.trans (congrArg some (by kernel_rfl))
 f276:=Tryz.func253.trans (congrArg some (by kernel_rfl))
 f277:=Tryz.func254.trans (congrArg some (by kernel_rfl))
 t0:=Tryz.underlying0
 a0:=Tryz.isAgg0
 z0:=Tryz.sizeOf0
 v0:=Tryz.zeroValue0
 t3:=Tryz.underlying3
 a3:=Tryz.isAgg3
 z3:=Tryz.sizeOf3
 v3:=Tryz.zeroValue3
 t4:=Tryz.underlying4
 a4:=Tryz.isAgg4
 z4:=Tryz.sizeOf4
 v4:=Tryz.zeroValue4
 t5:=Tryz.underlying5
 a5:=Tryz.isAgg5
 z5:=Tryz.sizeOf5
 v5:=Tryz.zeroValue5
 t9:=Tryz.underlying9
 a9:=Tryz.isAgg9
 z9:=Tryz.sizeOf9
 v9:=Tryz.zeroValue9
 t20:=Tryz.underlying20
 a20:=Tryz.isAgg20
 z20:=Tryz.sizeOf20
 v20:=Tryz.zeroValue20
 t37:=Tryz.underlying187
 a37:=Tryz.isAgg187
 z37:=Tryz.sizeOf187
 v37:=Tryz.zeroValue187
 t46:=Tryz.underlying207
 a46:=Tryz.isAgg207
 z46:=Tryz.sizeOf207
 v46:=Tryz.zeroValue207
 t51:=Tryz.underlying206
 a51:=Tryz.isAgg206
 z51:=Tryz.sizeOf206
 v51:=Tryz.zeroValue206
 t53:=Tryz.underlying171
 a53:=Tryz.isAgg171
 z53:=Tryz.sizeOf171
 v53:=Tryz.zeroValue171
 t70:=Tryz.underlying260
 a70:=Tryz.isAgg260
 z70:=Tryz.sizeOf260
 v70:=Tryz.zeroValue260
 t72:=Tryz.underlying262
 a72:=Tryz.isAgg262
 z72:=Tryz.sizeOf262
 v72:=Tryz.zeroValue262
 t75:=Tryz.underlying220
 a75:=Tryz.isAgg220
 z75:=Tryz.sizeOf220
 v75:=Tryz.zeroValue220
 t76:=Tryz.underlying264
 a76:=Tryz.isAgg264
 z76:=Tryz.sizeOf264
 v76:=Tryz.zeroValue264
 t109:=Tryz.underlying215
 a109:=Tryz.isAgg215
 z109:=Tryz.sizeOf215
 v109:=Tryz.zeroValue215
 t127:=Tryz.underlying276
 a127:=Tryz.isAgg276
 z127:=Tryz.sizeOf276
 v127:=Tryz.zeroValue276
 t146:=Tryz.underlying240
 a146:=Tryz.isAgg240
 z146:=Tryz.sizeOf240
 v146:=Tryz.zeroValue240
 t148:=Tryz.underlying242
 a148:=Tryz.isAgg242
 z148:=Tryz.sizeOf242
 v148:=Tryz.zeroValue242
 t164:=Tryz.underlying285
 a164:=Tryz.isAgg285
 z164:=Tryz.sizeOf285
 v164:=Tryz.zeroValue285 }
theorem atJ:Builder.Extra Tryz.prog PW:={
 sizeBuilder:=by kernel_rfl
 liesBuilder:=by kernel_rfl
 t5:=Tryz.underlying5
 a5:=Tryz.isAgg5
 z5:=Tryz.sizeOf5
 v5:=Tryz.zeroValue5
 infoByte:=by kernel_rfl
 cellsByte:=by kernel_rfl
 sizeByte:=by kernel_rfl
 neB5:=by decide }
end Go.Proofs
namespace Go.Proofs
open Go.Shelf Go.RowKit Go.Sort Go.Lib
abbrev Yd:UInt8→Value:=fun b=>Value.int .u8 (b.toNat:Int)
theorem aeQ (w:World) (T:TypeId) (nd:Nat) (hs:nd≤24):Holds Yd (w.alloc (.cells Lib.zeros24 T)) w.heap.size 0 (aLf nd (0:UInt8)):=fun j hj=>by
 have hj':j<nd:=by simpa using hj
 refine⟨?_,World.frozen?_alloc_new _ _ _ _⟩
 rw[World.cell?_alloc_new,Lib.zeros24_at _ (by omega),getElem!_pos _ j hj]
 simp
theorem DC (w:World) (o:Obj) (dk:Array UInt8) (k:Nat):Below w.heap.size w ((putRow Yd (w.alloc o) w.heap.size 0 dk).drewN k):=by
 rw[alloc_eq_grow]
 obtain⟨os',_,e⟩:=putRow_grow_new Yd w #[o] w.heap.size 0 dk (aKx _)
 rw[e]
 refine⟨rfl,rfl,rfl,by show w.heap.size≤(w.heap++os').size;simp,fun i hi => ?_⟩
 show (w.heap++os')[i]? = _
 rw[aLg hi]
set_option maxHeartbeats 6400000 in
set_option maxRecDepth 100000 in
theorem ayZ (u:Nat) (amH:u<18446744073709551616) (w:World) (awX:Lib.TabIs Tryz.prog w "internal/strconv.uint64pow10" .u64 Lib.pow10Tab) :
  Calls Tryz.prog 230 #[.int .u64 u,.int .i64 10] w fun e w'=>e = .returned (.string ⟨(Lib.decDigits u).toArray⟩)∧Below w.heap.size w w':=by
 by_cases hs:u<100
 ·go_enter Tryz.func230,Tryz.ntmps230
  go_wp2_with (go_at_call 241;refine(Any.internal_strconv_small axR u hs _).mono ?_;rintro e w' ⟨rfl,rfl⟩)
  go_ret
  exact⟨rfl,Below.refl _ _⟩
 ·have hu1:1≤u:=by omega
  have aGQ:Lib.nDigits u≤20:=by have:=Lib.numDigits_eq u hu1 amH;split at this<;>omega
  have hH0:=aeQ w 271 (Lib.nDigits u) (by omega)
  have aBe:=Any.internal_strconv_formatBase10 ayG w.heap.size 0 24 u (aLf (Lib.nDigits u) 0) (w.alloc (.cells Lib.zeros24 271)) hH0 (by rw[aLo];exact Lib.lt_pow_nDigits u) amH (by rw[aLo];omega)
  rw[aLo] at aBe
  have HH0:=Lib.hid hH0
  have hal:Tryz.prog.arrayLen 271=24:=by simp[Program.arrayLen,Tryz.underlying271]
  have SO:∀W,(Instr.sliceAt 271 (.pointer (some ⟨w.heap.size,0,none⟩)) none (some (.int .i64 (Lib.nDigits u:Int))) none).run Tryz.prog W = .ok (.slice (some ⟨w.heap.size,0,none⟩) (Lib.nDigits u) 24) W:=fun W=>by
   rw[run_sliceAt_array_h W 271 ⟨w.heap.size,0,none⟩ (by simp[Program.arrayLen,Program.elem,Tryz.underlying271]) .i64 (Lib.nDigits u:Int) (by omega) (by rw[hal];omega)]
   go_simp
  clear hH0 hal
  go_enter Tryz.func230,Tryz.ntmps230
  go_wp2_with (first
   | (go_at_call 242;refine(Any.internal_strconv_numDigits awH u hu1 amH _ (Lib.tabIs_alloc awX _)).mono ?_;rintro e w' ⟨rfl,rfl⟩))
  go_at_call 243
  refine aBe.mono ?_
  rintro e w' ⟨rfl,k,v',dk,rfl,hF⟩
  have hcv:(convert 187 9 (.slice (some ⟨w.heap.size,0,none⟩) (Lib.nDigits u) 24)).run Tryz.prog ((putRow Yd (w.alloc (.cells Lib.zeros24 271)) w.heap.size 0 dk).drewN k) = .ok (.string ⟨(Lib.decDigits u).toArray⟩) ((putRow Yd (w.alloc (.cells Lib.zeros24 271)) w.heap.size 0 dk).drewN k):=by
   have h:=run_convert_bytes_back (P:=Tryz.prog) ((putRow Yd (w.alloc (.cells Lib.zeros24 271)) w.heap.size 0 dk).drewN k) 187 9 5 ⟨w.heap.size,0,none⟩ 24 (Lib.decDigits u) Tryz.underlying187 Tryz.underlying5 Tryz.underlying9 (fun j hj=>by
    rw[Lib.row_is_numeral hF j hj,Lib.add_plain,World.cell?_drewN]
    exact cell?_putRow Yd _ w.heap.size 0 _ dk HH0.out (by rw[hF.size,aLo]) j (by rw[hF.size];rw[Lib.decDigits_length] at hj;exact hj))
   rw[Lib.decDigits_length] at h
   exact h
  go_wp2
  go_ret
  exact⟨rfl,DC w _ dk k⟩
theorem ahS (u:Nat) (amH:u<18446744073709551616) (w:World) (awX:Lib.TabIs Tryz.prog w "internal/strconv.uint64pow10" .u64 Lib.pow10Tab) :
  Calls Tryz.prog 214 #[.int .u64 u,.int .i64 10] w fun e w'=>e = .returned (.string ⟨(Lib.decDigits u).toArray⟩)∧Below w.heap.size w w':=by
 go_enter Tryz.func214,Tryz.ntmps214
 go_wp2_with (go_at_call 230;refine(ayZ u amH _ awX).mono ?_;rintro e w' ⟨rfl,hb⟩)
 go_ret
 exact⟨rfl,hb⟩
end Go.Proofs
namespace Go.PM
open Go.Proofs Go.RowKit
theorem Below.Dd {w w':World} (h:Below w.heap.size w w'):w.heap.size≤w'.heap.size∧(∀rb,rb<w.heap.size→w'.heap[rb]? = w.heap[rb]?)∧w'.os=w.os∧w'.output=w.output∧w'.tape=w.tape :=
 ⟨h.size,h.block,h.os,h.output,h.tape⟩
theorem DH {w:World}:w.heap.size≤w.heap.size∧(∀rb,rb<w.heap.size→w.heap[rb]? = w.heap[rb]?)∧w.os=w.os∧w.output=w.output∧w.tape=w.tape :=
 ⟨aKx _,fun _ _=>rfl,rfl,rfl,rfl⟩
def Gs (f:Nat) (p:List Value→aI→Option Value):Prop :=
 Pa Tryz.prog f∧∀L0 args H v,p args H=some v→∀m w iV,Rel m L0 H w→RL m args iV →
  Calls Tryz.prog f iV.toArray w fun e w'=>∃rv,e = .returned rv∧RV m v rv∧w.heap.size≤w'.heap.size∧(∀rb,rb<w.heap.size→w'.heap[rb]? = w.heap[rb]?)∧w'.os=w.os∧w'.output=w.output∧w'.tape=w.tape
theorem RL.one {m:dM} {x:Value} {ys:List Value} (h:RL m [x] ys):∃y,ys=[y]∧RV m x y:=by
 match ys,h with
 | [y],h=>exact⟨y,rfl,h.lW.1⟩
 | [],h=>exact absurd h.1 (by simp)
 | _::_::_,h=>exact absurd h.1 (by simp)
theorem RL.two {m:dM} {x x':Value} {ys:List Value} (h:RL m [x,x'] ys):∃y y',ys=[y,y']∧RV m x y∧RV m x' y':=by
 match ys,h with
 | [y,y'],h=>exact⟨y,y',rfl,h.lW.1,h.lW.2.lW.1⟩
 | [],h=>exact absurd h.1 (by simp)
 | [_],h=>exact absurd h.1 (by simp)
 | _::_::_::_,h=>exact absurd h.1 (by simp)
theorem RL.three {m:dM} {x x' x'':Value} {ys:List Value} (h:RL m [x,x',x''] ys):∃y y' y'',ys=[y,y',y'']∧RV m x y∧RV m x' y'∧RV m x'' y'':=by
 match ys,h with
 | [y,y',y''],h=>exact⟨y,y',y'',rfl,h.lW.1,h.lW.2.lW.1,h.lW.2.lW.2.lW.1⟩
 | [],h=>exact absurd h.1 (by simp)
 | [_],h=>exact absurd h.1 (by simp)
 | [_,_],h=>exact absurd h.1 (by simp)
 | _::_::_::_::_,h=>exact absurd h.1 (by simp)
theorem HW {m:dM}:∀ {cs rs:List Value} {xs:List ByteArray},strCells cs=some xs→RL m cs rs→rs=xs.map .string
 |
  [],rs,xs,h,hr=>by
  cases h
  match rs,hr with
  | [],_=>rfl
  | _::_,hr=>exact absurd hr.1 (by simp)
 |
  c::cs,rs,xs,h,hr=>by
  match rs,hr with
  | [],hr=>exact absurd hr.1 (by simp)
  |
   r::rs,hr =>
   obtain⟨h1,h2⟩:=hr.lW
   cases c with
   |
    string s =>
    rw[strCells] at h
    cases hc:strCells cs with
    | none=>rw[hc] at h;cases h
    |
     some ys =>
     rw[hc] at h
     cases h
     cases h1
     rw[HW hc h2]
     rfl
   | _=>cases h
theorem L6:Gs 198 Gk:=by
 refine⟨⟨_,Tryz.func198,by kernel_rfl,by kernel_rfl⟩,fun L0 args H v hp m w iV hR hr => ?_⟩
 unfold Gk at hp
 split at hp
 case h_2=>cases hp
 rename_i x
 split at hp
 case isFalse=>cases hp
 rename_i hx
 cases hp
 obtain⟨y,rfl,h1⟩:=hr.one
 cases h1
 refine(Any.bits_LeadingZeros32 axZ x w hx.1 hx.2).mono ?_
 rintro e w' ⟨rfl,rfl⟩
 exact⟨_,rfl,.int _ _,DH⟩
theorem OH:Gs 215 JS:=by
 refine⟨⟨_,Tryz.func215,by kernel_rfl,by kernel_rfl⟩,fun L0 args H v hp m w iV hR hr => ?_⟩
 unfold JS at hp
 split at hp
 case h_2=>cases hp
 rename_i s c
 split at hp
 case isFalse=>cases hp
 rename_i hx
 cases hp
 obtain⟨y,y',rfl,h1,h2⟩:=hr.two
 cases h1
 cases h2
 obtain⟨k,rfl⟩:∃k:Nat,c=k:=⟨c.toNat,by omega⟩
 refine(Any.strings_Repeat axY atJ s k w (by omega) hx.2.2).mono ?_
 rintro e w' ⟨rfl,hb⟩
 exact⟨_,rfl,.str _,Below.Dd hb⟩
theorem WO:Gs 217 V6:=by
 refine⟨⟨_,Tryz.func217,by kernel_rfl,by kernel_rfl⟩,fun L0 args H v hp m w iV hR hr => ?_⟩
 unfold V6 at hp
 split at hp
 case h_3=>cases hp
 ·cases hp
  obtain⟨y,y',rfl,h1,h2⟩:=hr.two
  cases h1
  cases h2
  refine(Any.strings_Join_none YQ SZ none 0 _ w).mono ?_
  rintro e w' ⟨rfl,rfl⟩
  exact⟨_,rfl,.str _,DH⟩
 ·rename_i b o n c sep
  obtain⟨y,y',rfl,h1,h2⟩:=hr.two
  cases h2
  cases h1 with
  |
   slice _ _ _ _ l ra rc h hn hc hx ha =>
   split at hp
   ·rename_i hn0
    subst hn0
    cases hp
    refine(Any.strings_Join_none YQ SZ (some ra) rc _ w).mono ?_
    rintro e w' ⟨rfl,rfl⟩
    exact⟨_,rfl,.str _,DH⟩
   ·rename_i hn0
    split at hp
    case h_2=>cases hp
    rename_i xs M3
    split at hp
    case isFalse=>cases hp
    rename_i Uv
    cases hp
    obtain⟨cs,HQ,PO⟩:=Option.bind_eq_some_iff.1 M3
    obtain⟨rs,r1,r2,_,r4⟩:=Bk hR h HQ
    have hrs:=HW PO r1
    subst hrs
    rcases ha with ha | ⟨rfl,ha⟩
    ·omega
    obtain⟨arr,e0,fz0,v1,_⟩:=hR.valid b l h
    have E4:l.rb<w.heap.size:=(aKG.1 v1).1
    obtain⟨c1,c2,c3,c4⟩:=Uv
    subst c1
    refine(Any.strings_Join YQ SZ l.rb (l.base+o) rc xs sep w (fun j x hj => ?_) E4 c3 (by omega) c4).mono ?_
    ·have:=r4 j (.string x) (by simp[hj])
     rw[Addr.add_lit] at this
     exact this
    ·rintro e w' ⟨rfl,hb⟩
     exact⟨_,rfl,.str _,Below.Dd hb⟩
theorem YT {m:dM} {L0:Nat} {H:aI} {w:World} (hR:Rel m L0 H w):Lib.TabIs Tryz.prog w "internal/strconv.uint64pow10" .u64 Lib.pow10Tab:=by
 obtain⟨e,fz,h⟩:=(hR.Fu (3,(Lib.pow10Tab.map fun z=>Value.int .u64 z).toArray) (by simp[asW])).1
 have hg:Tryz.prog.globalNamed "internal/strconv.uint64pow10"=some 3:=by kernel_rfl
 unfold Lib.TabIs World.var?
 rw[hg]
 simp only[Option.bind_some,h]
theorem U8:Gs 214 zY:=by
 refine⟨⟨_,Tryz.func214,by kernel_rfl,by kernel_rfl⟩,fun L0 args H v hp m w iV hR hr => ?_⟩
 unfold zY at hp
 split at hp
 case h_2=>cases hp
 rename_i n b
 split at hp
 case isFalse=>cases hp
 rename_i hx
 cases hp
 obtain⟨y,y',rfl,h1,h2⟩:=hr.two
 cases h1
 cases h2
 obtain⟨rfl,h0,h1⟩:=hx
 obtain⟨u,rfl⟩:∃u:Nat,n=u:=⟨n.toNat,by omega⟩
 refine(ahS u (by omega) w (YT hR)).mono ?_
 rintro e w' ⟨rfl,hb⟩
 exact⟨_,rfl,.str _,Below.Dd hb⟩
theorem QV:Gs 209 Sx:=by
 refine⟨⟨_,Tryz.func209,by kernel_rfl,by kernel_rfl⟩,fun L0 args H v hp m w iV hR hr => ?_⟩
 unfold Sx at hp
 split at hp
 case h_2=>cases hp
 rename_i s p
 split at hp
 case h_2=>cases hp
 rename_i c hc
 cases hp
 obtain⟨y,y',rfl,h1,h2⟩:=hr.two
 cases h1
 cases h2
 have hp:p=⟨#[c]⟩:=by
  obtain⟨a⟩:=p
  obtain⟨l⟩:=a
  have:l=[c]:=hc
  rw[this]
 subst hp
 refine(Any.stringslite_Index_one axN s c w).mono ?_
 rintro e w' ⟨rfl,rfl⟩
 exact⟨_,rfl,.int _ _,DH⟩
theorem Sf:Gs 192 BL:=by
 refine⟨⟨_,Tryz.func192,by kernel_rfl,by kernel_rfl⟩,fun L0 args H v hp m w iV hR hr => ?_⟩
 unfold BL at hp
 split at hp
 case h_2=>cases hp
 rename_i s b z
 split at hp
 case isFalse=>cases hp
 rename_i hx
 obtain⟨rfl,rfl,hs⟩:=hx
 split at hp
 case h_2=>cases hp
 rename_i u hu
 cases hp
 obtain⟨y,y',y'',rfl,h1,h2,h3⟩:=hr.three
 cases h1
 cases h2
 cases h3
 refine(Any.strconv_ParseUint_10_at64_ok apD s hs u hu w).mono ?_
 have hv:∀m,RV m (.tuple #[.int .u64 (u:Int),.nilIface]) (.tuple #[.int .u64 (u:Int),.nilIface]):=fun m => .tuple _ _ rfl fun i hi=>by
  match i,hi with
  | 0,_=>exact .int _ _
  | 1,_=>exact .nilIface
  | n+2,hi=>exact absurd hi (by simp)
 rintro e w' ⟨rfl,rfl | rfl⟩
 ·exact⟨_,rfl,hv m,DH⟩
 ·exact⟨_,rfl,hv m,Below.Dd (Lib.bytesWorld_below _ _ _)⟩
theorem aAc {L0:Nat}:alY Tryz.prog cfg L0:=by
 intro f p hp
 have BX:MI f=some p:=hp
 unfold MI at BX
 split at BX
 ·rename_i h;subst h;cases BX;exact⟨U8.1,U8.2 L0⟩
 split at BX
 ·rename_i h;subst h;cases BX;exact⟨OH.1,OH.2 L0⟩
 split at BX
 ·rename_i h;subst h;cases BX;exact⟨WO.1,WO.2 L0⟩
 split at BX
 ·rename_i h;subst h;cases BX;exact⟨L6.1,L6.2 L0⟩
 split at BX
 ·rename_i h;subst h;cases BX;exact⟨QV.1,QV.2 L0⟩
 split at BX
 ·rename_i h;subst h;cases BX;exact⟨Sf.1,Sf.2 L0⟩
 cases BX
end Go.PM
namespace Go.PM
open Go.ChangeShapes Go.WideShapes Go.ChangeAt Go.RowKit
open Go.Proofs
structure In (m:dM) (H:aI) (W:World):Prop where
 dom:∀b l,m b=some l→b<H.length
 valid:∀b l,m b=some l→∃arr e fz,W.heap[l.rb]? = some (.cells arr e fz)∧arr.size=l.SQ
 row:∀b l cs e p,m b=some l→H[b]? = some (.row cs e p)→l.gR=e∧l.Wk=p∧l.base+cs.length≤l.SQ ∧
  ∀i,i<cs.length→∃rv,W.cell? ⟨l.rb,l.base+i,none⟩=some rv∧RV m (cs.getD i Go.undef) rv∧PM.iP (cs.getD i Go.undef)=true
section
variable {m:dM} {H:aI} {W:World}
theorem In.empty:In (fun _=>none) [] W:=⟨fun _ _ h=>(by cases h),fun _ _ h=>(by cases h),fun _ _ _ _ _ h=>(by cases h)⟩
theorem In.rel (h:In m H W) (hg:Tc W):Rel m H.length H W :=
 ⟨fun b l hb=>by
  obtain⟨arr,e,fz,h1,h2⟩:=h.valid b l hb
  exact⟨arr,e,fz,h1,h2,fun hl=>by have:=h.dom b l hb;omega⟩,h.row,fun b1 b2 l1 l2 hl h1 _ _ _ _=>by have:=h.dom b1 l1 h1;omega,fun x hx=>⟨hg x hx,fun b l hb hm _=>by have:=h.dom b l hm;omega⟩⟩
theorem In.Ur (h:In m H W) {b:Nat} (hb:H.length≤b):m b=none:=by
 cases hm:m b with
 | none=>rfl
 | some l=>have:=h.dom b l hm;omega
theorem In.add (h:In m H W) {rb base gR:Nat} {arr:Array Value} {e:TypeId} {fz:Nat×Nat} {cs:List Value} (hb:W.heap[rb]? = some (.cells arr e fz)) (xB:base+cs.length≤arr.size)
  (hc:∀i,i<cs.length→∃rv,W.cell? ⟨rb,base+i,none⟩=some rv∧RV (yI m H.length ⟨rb,base,gR,arr.size,false⟩) (cs.getD i Go.undef) rv∧PM.iP (cs.getD i Go.undef)=true) :
  In (yI m H.length ⟨rb,base,gR,arr.size,false⟩) (H++[.row cs gR false]) W:=by
 have hn:=h.Ur (aKx H.length)
 refine⟨fun b l zB => ?_,fun b l zB => ?_,fun b l ds e' p zB lL => ?_⟩
 ·by_cases he:b=H.length
  ·subst he;simp
  ·rw[dB he] at zB
   have:=h.dom b l zB
   simp;omega
 ·by_cases he:b=H.length
  ·subst he
   rw[cC] at zB
   cases zB
   exact⟨arr,e,fz,hb,rfl⟩
  ·rw[dB he] at zB
   exact h.valid b l zB
 ·by_cases he:b=H.length
  ·subst he
   rw[cC] at zB
   cases zB
   rw[Z1] at lL
   cases lL
   exact⟨rfl,rfl,xB,hc⟩
  ·rw[dB he] at zB
   have bH:=h.dom b l zB
   rw[Tp bH] at lL
   obtain⟨h1,h2,h3,h4⟩:=h.row b l ds e' p zB lL
   refine⟨h1,h2,h3,fun i hi => ?_⟩
   obtain⟨rv,g1,g2,g3⟩:=h4 i hi
   exact⟨rv,g1,g2.mono (yF hn),g3⟩
end
theorem Zf {α:Type} (p:Nat→α→Prop):∀c,(∀i,i<c→∃x,p i x)→∃xs:List α,xs.length=c∧∀i x,xs[i]? = some x→p i x
 | 0,_=>⟨[],rfl,fun i x hx=>by simp at hx⟩
 |
  c+1,h=>by
  obtain⟨xs,h1,h2⟩:=Zf p c fun i hi=>h i (by omega)
  obtain⟨x,h3⟩:=h c (by omega)
  refine⟨xs++[x],by simp[h1],fun i y hy => ?_⟩
  rcases aKA i xs.length with hi | hi
  ·rw[aKO hi] at hy
   exact h2 i y hy
  ·rw[aKP hi] at hy
   have hi0:i-xs.length=0:=by
    rcases Nat.eq_zero_or_pos (i-xs.length) with h | h
    ·exact h
    ·rw[aKX (by simp;omega)] at hy;cases hy
   rw[hi0] at hy
   cases hy
   have:i=c:=by omega
   subst this
   exact h3
theorem aiI {f:Nat} {args iV:List Value} {H H':aI} {v:Value} {m:dM} {W:World} (hI:In m H W) (hr:RL m args iV) (h:uN f args H.length H=some (v,H')) (hg:Tc W:=by first | assumption | exact fun x hx=>nomatch hx) :
  Calls Tryz.prog f iV.toArray W fun e W'=>∃m' rv,e = .returned rv∧RV m' v rv∧Below W.heap.size W W':=by
 obtain⟨n,hn⟩:=(zW cfg fQ).1 h
 refine(KP Tryz.checked.mixed aAc azM n f args H.length H v H' hn m W iV (hI.rel hg) (aKx _) (aKx _) hr (fun b hb _=>hI.Ur hb)).2.mono ?_
 rintro e W' ⟨m',rv,rfl,h1,_,h3⟩
 refine⟨m',rv,rfl,h1,⟨h3.same.1,h3.same.2.2,h3.same.2.1,h3.size,fun k hk=>h3.dC k hk fun b l hb hm _ => ?_⟩⟩
 rw[hI.Ur hb] at hm
 cases hm
end Go.PM
namespace Go.PM
def XO (c:lT):Prop:=(0≤c.t∧c.t≤10000)∧(1≤c.w∧c.w≤1000)∧(0≤c.k∧c.k≤9)
instance (c:lT):Decidable (XO c):=by unfold XO;infer_instance
def azR (cs:List lT) (i:Nat) (c:lT):Prop:=XO c∧∀b,0<i→cs[i-1]? = some b→b.t≤c.t
def oS (cs:List lT):Prop:=(∀i c,cs[i]? = some c→azR cs i c)∧cs.length≤24
noncomputable instance (cs:List lT):Decidable (oS cs):=Classical.propDecidable _
theorem oS.at {cs:List lT} (h:oS cs) {i:Nat} {c:lT} (hc:cs[i]? = some c):(0≤c.t∧c.t≤10000)∧(1≤c.w∧c.w≤1000)∧(0≤c.k∧c.k≤9):=(h.1 i c hc).1
def wl (time:Int):List lT→Int→Int→Int
 | [],l,s=>max (l-(time-s)) 0
 | c::cs,l,s=>if time<c.t then max (l-(time-s)) 0 else wl time cs (max (l-(c.t-s)) 0+c.w) c.t
def aDX (cs:List lT) (time:Int):Prop:=oS cs∧(0≤time∧time≤1000000000)
noncomputable instance (cs:List lT) (time:Int):Decidable (aDX cs time):=Classical.propDecidable _
def aB8 (cs:List lT) (ls:List Int):Prop:=oS cs∧ls.length=cs.length∧∀x∈ls,0≤x∧x≤1000000000
noncomputable instance (cs:List lT) (ls:List Int):Decidable (aB8 cs ls):=Classical.propDecidable _
def aAT (cs:List lT) (ls:List Int) (time:Int):Prop:=aB8 cs ls∧(0≤time∧time≤1000000000)
noncomputable instance (cs:List lT) (ls:List Int) (time:Int):Decidable (aAT cs ls time):=Classical.propDecidable _
def aEN (cs:List lT) (ps:List Int):Prop:=oS cs∧ps.length=cs.length∧∀x∈ps,0≤x∧x≤10000
noncomputable instance (cs:List lT) (ps:List Int):Decidable (aEN cs ps):=Classical.propDecidable _
end Go.PM
namespace Go.Proofs.YtjmflicajplclaaGreatDoor
open Go.ChangeShapes Go.WideShapes Go.ChangeAt Go.RowKit Go.PM
theorem own:ownKnob Tryz.prog.godebug=none:=by kernel_rfl
theorem laidOut:laidOutB Tryz.prog=true:=by kernel_rfl
theorem three {α:Type} {l:List α} (h:l.length=3):∃a b c,l=[a,b,c]:=by
 rcases l with _ | ⟨a,_ | ⟨b,_ | ⟨c,_ | ⟨d,l⟩⟩⟩⟩
 ·cases h
 ·cases h
 ·cases h
 ·exact⟨a,b,c,rfl⟩
 ·simp at h
end Go.Proofs.YtjmflicajplclaaGreatDoor
namespace Go.PM
def Fv:List Nat:=[]
 ++ [34]
 ++ [36]
 ++ [37]
 ++ [17]
 ++ [20]
 ++ [21]
 ++ [26]
 ++ [28]
 ++ [29]
 ++ [22]
 ++ [46]
 ++ [48]
 ++ [18]
 ++ [16]
 ++ [27]
 ++ [25]
 ++ [41]
 ++ [40]
 ++ [43]
 ++ [42]
 ++ [31]
 ++ [30]
 ++ [39]
 ++ [38]
 ++ [35]
 ++ [33]
 ++ [182]
 ++ [199]
 ++ [200]
 ++ [204]
 ++ [205]
 ++ [162]
 ++ [216]
 ++ [147]
 ++ [181]
 ++ [71]
 ++ [138]
 ++ [61]
 ++ [99]
 ++ [76]
 ++ [133]
 ++ [149]
 ++ [94]
 ++ [95]
 ++ [90]
 ++ [118]
 ++ [134]
 ++ [179]
 ++ [103]
 ++ [119]
 ++ [72]
 ++ [62]
 ++ [78]
 ++ [120]
 ++ [121]
 ++ [113]
 ++ [114]
 ++ [122]
 ++ [70]
 ++ [60]
end Go.PM