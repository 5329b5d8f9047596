/- Texts of a claim, in one: part 3. -/
import Derived.Lib.ItoaNum
import Derived.Lib.Join
import Derived.Lib.BitFns
import Derived.Lib.Repeat
import Derived.Lib.Bytealg
import Derived.Lib.ParseIntB
import Derived.Test.YtjmflicajplclaaGreatDoorChecked
import Derived.Laws.BitsLemmas
import Derived.Shelf.Strings.OnBuilder
import Derived.Shelf.Strings.Repeat
import Derived.Shelf.Small.Bits
import Derived.Shelf.Strconv.Itoa1
import Derived.Shelf.Strconv.Itoa2
import Derived.Shelf.LaysM
import Derived.Shelf.Strings.Search2
import Derived.Shelf.Pu.ParseUintPublic10
import Derived.KernelRfl
import Derived.Test.YtjmflicajplclaaGreatDoorProg
import Derived.Lib.Walk
import Derived.Lib.ItoaMem
import Derived.WalkKit
import Derived.BigCall
import Derived.BigGuard
import Derived.Below
import Derived.Shelf.Strings.Search2
import Derived.Shelf.Pu.ParseUintPublic10
import Derived.Shelf.Strings.OnBuilder
import Derived.Shelf.Strings.Repeat
import Derived.Shelf.Small.Bits
import Derived.ProofKit
import Derived.OpenShut
import Derived.ShutString
import Derived.ChangeOld
import Derived.Carry
import Derived.SizedLaws
import Derived.Test.YtjmflicajplclaaGreatDoorRows
import Derived.Test.YtjmflicajplclaaGreatDoorKBb
open Array renaming getD_eq_getD_getElem? → aKJ,getElem?_append_left → aLk,getElem?_eq_some_iff → aKK,replicate → aLj,size_replicate → aLs
open List renaming drop_eq_getElem_cons → aKG,flatMap_cons → aLp,getD_eq_getElem?_getD → aKy,getElem?_append_left → aKS,getElem?_append_right → aKT,getElem?_drop → aKz,getElem?_eq_getElem → aKI,getElem?_eq_none → aK1,getElem?_eq_some_iff → aKA,length_cons → aKL,replicate → aLr,take_succ_cons → aLo
open Nat renaming le_max_left → aLm,le_max_right → aLn,le_refl → aKB,le_succ → aLl,lt_or_ge → aKE,mul_le_mul_right → aK2,succ_mul → aLq
set_option linter.unusedSimpArgs false
set_option linter.unusedVariables false
namespace Go.PM
def aBg:Ex→Exit
 | .normal => .normal
 | .exit id => .exit id
 | .ret => .ret
section
variable {P:Program} {E:Db} {n:Nat} {call:iL} {lo L0:Nat}
def TO (P:Program) (n lo L0:Nat) (c:Code) (run:Env→aJ→Option (Ex×Env×aJ)):Prop :=
 ∀ρ H x aQ H',run ρ H=some (x,aQ,H')→∀m a w,Lx n L0 m ρ H a w→L0≤H.length→(∀b,H.length≤b→b<H'.length→m b=none) →
  ∀Q:Exit→Act→World→Prop,(∀m' a' w',Lx n L0 m' aQ H' a' w'→Trans lo m H w m' H' w'→Q (aBg x) a' w')→c.wp P Q a w
theorem anT {c:Code} {run:Env→aJ→Option (Ex×Env×aJ)} (hc:TO P n lo L0 c run) (he:∀ρ H x aQ H',run ρ H=some (x,aQ,H')→Ext lo H H') (N:Nat):TO P n lo L0 (.loop c) (BW run N):=by
 intro ρ H x aQ H' hr m a w h hl hf Q hQ
 apply wp_loop_rounds N
 have key:∀N ρ H,BW run N ρ H=some (x,aQ,H')→∀m a w,Lx n L0 m ρ H a w→L0≤H.length→(∀b,H.length≤b→b<H'.length→m b=none) →
   (∀m' a' w',Lx n L0 m' aQ H' a' w'→Trans lo m H w m' H' w'→Q (aBg x) a' w')→Code.rounds P c Q N a w:=by
  intro N
  induction N with
  | zero=>intro ρ H h;cases h
  |
   succ N ih =>
   intro ρ H hr m a w h hl hf hQ
   rw[rounds_succ]
   rw[BW] at hr
   split at hr
   ·rename_i AS H1 h1
    have e1:=he _ _ _ _ _ h1
    have e2:=Ld he N hr
    refine hc ρ H _ AS H1 h1 m a w h hl (fun b GZ hb2=>hf b GZ (Nat.lt_of_lt_of_le hb2 e2.len)) _ fun m1 a1 w1 hh hT => ?_
    exact ih AS H1 hr m1 a1 w1 hh (Nat.le_trans hl e1.len) (hT.fresh e1.len hf) fun m2 a2 w2 h2 RU=>hQ m2 a2 w2 h2 (Trans.trans hf e1 e2 hT RU)
   ·rename_i fW
    refine hc ρ H _ aQ H' hr m a w h hl hf _ fun m1 a1 w1 hh hT => ?_
    have:=hQ m1 a1 w1 hh hT
    cases x with
    | normal=>exact absurd hr (fW aQ H')
    | exit id=>exact this
    | ret=>exact this
 exact key N ρ H hr m a w h hl hf hQ
theorem rB (Gm:P.follows .mixedOrders=true) (qV:AU P L0 call) (uX:vC call) (dS:L0≤lo) (N:Nat):∀(c:Code) (pc:aE),jU P E n c=some pc→TO P n lo L0 c (dV call lo N pc)
 |
  .skip,pc,hp=>by
  cases hp
  intro ρ H x aQ H' hr m a w h hl hf Q hQ
  cases hr
  exact wp_skip (hQ m a w h (Trans.refl _ _ _ _))
 |
  .region id ops draw,pc,hp=>by
  rw[jU] at hp
  cases hpr:Bj P E n ops draw with
  | none=>rw[hpr] at hp;cases hp
  |
   some xE =>
   rw[hpr] at hp
   cases hp
   intro ρ H x aQ H' hr m a w h hl hf Q hQ
   rw[dV] at hr
   cases hs:jF call lo xE ρ H with
   | none=>rw[hs] at hr;cases hr
   |
    some q =>
    obtain⟨AS,H1⟩:=q
    rw[hs] at hr
    cases hr
    exact Yw Gm qV uX hpr hs h dS hl hf hQ
 |
  .seq x y,pc,hp=>by
  rw[jU] at hp
  split at hp
  ·rename_i px py hpx hpy
   cases hp
   intro ρ H e aQ H' hr m a w h hl hf Q hQ
   rw[dV] at hr
   apply wp_seq
   split at hr
   ·rename_i AS H1 h1
    have e1:=lJ uX px h1
    have e2:=lJ uX py hr
    refine rB Gm qV uX dS N x px hpx ρ H _ AS H1 h1 m a w h hl (fun b GZ hb2=>hf b GZ (Nat.lt_of_lt_of_le hb2 e2.len)) _ fun m1 a1 w1 hh hT => ?_
    exact rB Gm qV uX dS N y py hpy AS H1 _ aQ H' hr m1 a1 w1 hh (Nat.le_trans hl e1.len) (hT.fresh e1.len hf) Q fun m2 a2 w2 h2 RU=>hQ m2 a2 w2 h2 (Trans.trans hf e1 e2 hT RU)
   ·rename_i fW
    refine rB Gm qV uX dS N x px hpx ρ H _ aQ H' hr m a w h hl hf _ fun m1 a1 w1 hh hT => ?_
    have:=hQ m1 a1 w1 hh hT
    cases e with
    | normal=>exact absurd hr (fW aQ H')
    | exit id=>exact this
    | ret=>exact this
  ·cases hp
 |
  .cond o x y,pc,hp=>by
  rw[jU] at hp
  split at hp
  ·rename_i GX
   split at hp
   ·rename_i px py hpx hpy
    cases hp
    intro ρ H e aQ H' hr m a w h hl hf Q hQ
    rw[dV] at hr
    split at hr
    ·rename_i t ht
     have X5:=XA (a:=a) (m:=m) (ρ:=ρ) GX fun t _=>h.env t
     rw[ht] at X5
     generalize hev:a.eval o=ro at X5
     cases X5
     refine wp_cond hev ?_
     cases t with
     | true=>exact rB Gm qV uX dS N x px hpx ρ H _ aQ H' hr m a w h hl hf Q hQ
     | false=>exact rB Gm qV uX dS N y py hpy ρ H _ aQ H' hr m a w h hl hf Q hQ
    ·cases hr
   ·cases hp
  ·cases hp
 |
  .block id x,pc,hp=>by
  rw[jU] at hp
  cases hpx:jU P E n x with
  | none=>rw[hpx] at hp;cases hp
  |
   some px =>
   rw[hpx] at hp
   cases hp
   intro ρ H e aQ H' hr m a w h hl hf Q hQ
   rw[dV] at hr
   apply wp_block
   split at hr
   ·rename_i We AS H1 h1
    split at hr
    ·rename_i hid
     cases hr
     refine rB Gm qV uX dS N x px hpx ρ H _ aQ H' h1 m a w h hl hf _ fun m1 a1 w1 hh hT => ?_
     have:=hQ m1 a1 w1 hh hT
     show Exit.inBlock id Q (.exit We) a1 w1
     simp only[Exit.inBlock,if_pos hid]
     exact this
    ·rename_i hid
     cases hr
     refine rB Gm qV uX dS N x px hpx ρ H _ aQ H' h1 m a w h hl hf _ fun m1 a1 w1 hh hT => ?_
     have:=hQ m1 a1 w1 hh hT
     show Exit.inBlock id Q (.exit We) a1 w1
     simp only[Exit.inBlock,if_neg hid]
     exact this
   ·rename_i fW
    refine rB Gm qV uX dS N x px hpx ρ H _ aQ H' hr m a w h hl hf _ fun m1 a1 w1 hh hT => ?_
    have:=hQ m1 a1 w1 hh hT
    cases e with
    | normal=>exact this
    | exit We=>exact absurd hr (fW We aQ H')
    | ret=>exact this
 |
  .loop x,pc,hp=>by
  rw[jU] at hp
  cases hpx:jU P E n x with
  | none=>rw[hpx] at hp;cases hp
  |
   some px =>
   rw[hpx] at hp
   cases hp
   have hx:=rB Gm qV uX dS N x px hpx
   intro ρ H e aQ H' hr
   rw[dV] at hr
   exact anT hx (fun ρ H x aQ H' h=>lJ uX px h) N ρ H e aQ H' hr
 |
  .exit id,pc,hp=>by
  cases hp
  intro ρ H x aQ H' hr m a w h hl hf Q hQ
  cases hr
  exact wp_exit (hQ m a w h (Trans.refl _ _ _ _))
 |
  .ret,pc,hp=>by
  cases hp
  intro ρ H x aQ H' hr m a w h hl hf Q hQ
  cases hr
  exact wp_ret (hQ m a w h (Trans.refl _ _ _ _))
 | .rangeFunc ..,pc,hp=>by cases hp
 | .scope _,pc,hp=>by cases hp
 | .label _,pc,hp=>by cases hp
 | .goto _,pc,hp=>by cases hp
 | .refuse _,pc,hp=>by cases hp
def Cv (P:Program):ResultVar→Option CY
 | .tmp t=>some (.tmp t)
 | .cell t ty=>(oO P ty).map fun(agg,size,_,_) => .cell t agg size
def Ol (a:Act):ResultVar→Sem Value
 | .tmp t=>pure (a.tmps.getD t undef)
 | .cell x t=>do loadVar t (←asAddr (a.tmps.getD x undef))
theorem aFG {m:dO} {ρ:Env} {H:aJ} {a:Act} {w:World} (h:Lx n L0 m ρ H a w) {r:ResultVar} {pr:CY} (hp:Cv P r=some pr) {v:Value} (hv:ZT ρ H pr=some v) :
  ∃rv,RV m v rv∧(Ol a r).run P w = .ok rv w:=by
 cases r with
 |
  tmp t =>
  cases hp
  cases hv
  exact⟨_,h.env t,rfl⟩
 |
  cell x t =>
  simp only[Cv] at hp
  cases ht:oO P t with
  | none=>rw[ht] at hp;cases hp
  |
   some q =>
   obtain⟨agg,size,z,nb⟩:=q
   rw[ht] at hp
   cases hp
   obtain⟨rv,h1,h2⟩:=RD ht hv h.rel (h.env x)
   refine⟨rv,h1,?_⟩
   unfold Ol
   have hpv:=h.env x
   simp only[ZT,qQ] at hv
   split at hv
   ·rename_i b o hb
    rw[hb] at hpv
    show (do loadVar t (←asAddr (a.tmps.getD x undef)):Sem Value).run P w=_
    generalize a.tmps.getD x undef=rp at h2 hpv ⊢
    cases hpv
    exact h2
   ·cases hv
theorem ajO {m:dO} {ρ:Env} {H:aJ} {a:Act} {w:World} (h:Lx n L0 m ρ H a w):∀ {rs:List ResultVar} {prs:List CY} {vs:List Value},rs.mapM (Cv P)=some prs→DW ρ H prs=some vs →
  ∃rvs,RL m vs rvs∧(rs.mapM (Ol a)).run P w = .ok rvs w
 |
  [],prs,vs,hp,hv=>by
  simp at hp
  subst hp
  cases hv
  exact⟨[],RL.nil m,rfl⟩
 |
  r::rs,prs,vs,hp,hv=>by
  simp only[List.mapM_cons,Option.pure_def,Option.bind_eq_bind] at hp
  cases h1:Cv P r with
  | none=>rw[h1] at hp;cases hp
  |
   some pr =>
   rw[h1] at hp
   cases h2:rs.mapM (Cv P) with
   | none=>rw[h2] at hp;cases hp
   |
    some aHj =>
    rw[h2] at hp
    cases hp
    simp only[DW] at hv
    split at hv
    ·rename_i v vs' hv1 hv2
     cases hv
     obtain⟨rv,g1,g2⟩:=aFG h h1 hv1
     obtain⟨rvs,g3,g4⟩:=ajO h h2 hv2
     refine⟨rv::rvs,RL.cons g1 g3,?_⟩
     rw[List.mapM_cons,Sem.run_bind,g2,Result.andThen_ok,Sem.run_bind,g4]
     rfl
    ·cases hv
theorem Mj {m:dO} {ρ:Env} {H:aJ} {a:Act} {w:World} (h:Lx n L0 m ρ H a w) {fn:Func} {prs:List CY} (hp:fn.results.toList.mapM (Cv P)=some prs) {v:Value} (hv:tZ prs ρ H=some v) :
  ∃rv,RV m v rv∧(results fn a.tmps).run P w = .ok rv w:=by
 unfold tZ at hv
 cases jP:DW ρ H prs with
 | none=>rw[jP] at hv;cases hv
 |
  some vs =>
  obtain⟨rvs,h1,h2⟩:=ajO h hp jP
  rw[jP] at hv
  have sN:∀rv,(if h:rvs.toArray.size=1 then rvs.toArray[0] else .tuple rvs.toArray)=rv→(results fn a.tmps).run P w = .ok rv w:=by
   intro rv X5
   have e:results fn a.tmps=(do let vs ←fn.results.mapM (Ol a);pure (if h:vs.size=1 then vs[0] else .tuple vs)):=by
    unfold results
    congr 2
   rw[e,Array.mapM_eq_mapM_toList,Sem.run_bind]
   have:(List.toArray <$> fn.results.toList.mapM (Ol a)).run P w = .ok rvs.toArray w:=by
    rw[map_eq_pure_bind,Sem.run_bind,h2]
    rfl
   rw[this,←X5]
   rfl
  clear h2 jP
  rcases vs with _ | ⟨x,_ | ⟨y,xs⟩⟩
  ·rcases rvs with _ | ⟨x',ys⟩
   ·cases hv
    exact⟨_,h1.Zo,sN _ rfl⟩
   ·cases h1.1
  ·rcases rvs with _ | ⟨x',_ | ⟨y',ys⟩⟩
   ·cases h1.1
   ·cases hv
    exact⟨x',h1.lO.1,sN x' rfl⟩
   ·cases h1.1
  ·rcases rvs with _ | ⟨x',_ | ⟨y',ys⟩⟩
   ·cases h1.1
   ·cases h1.1
   ·cases hv
    exact⟨_,h1.Zo,sN _ (by simp)⟩
end
end Go.PM
namespace Go.PM
def ahL (P:Program) (E:Db) (L0:Nat):Prop :=
 ∀f p,E.DN f=some p→Qd P f∧∀args H v,p args H=some v→∀m w iX,Rel m L0 H w→RL m args iX →
  Calls P f iX.toArray w fun e w'=>∃rv,e = .returned rv∧RV m v rv∧w.heap.size≤w'.heap.size∧(∀rb,rb<w.heap.size→w'.heap[rb]? = w.heap[rb]?)∧w'.os=w.os∧w'.output=w.output∧w'.tape=w.tape
theorem Rel.more {m:dO} {L0:Nat} {H:aJ} {w w':World} (h:Rel m L0 H w) (hk:∀rb,rb<w.heap.size→w'.heap[rb]? = w.heap[rb]?):Rel m L0 H w':=by
 have hv:∀b l,m b=some l→l.rb<w.heap.size:=fun b l hb=>by
  obtain⟨arr,e,fz,h1,_⟩:=h.valid b l hb
  exact(aKK.1 h1).1
 refine⟨fun b l hb=>by rw[hk _ (hv b l hb)];exact h.valid b l hb,fun b l cs e p hm hb => ?_,h.inj,fun x hx=>⟨?_,(h.FX x hx).2⟩⟩
 ·obtain⟨h1,h2,h3,h4⟩:=h.row b l cs e p hm hb
  refine⟨h1,h2,h3,fun i hi => ?_⟩
  obtain⟨rv,g1,g2⟩:=h4 i hi
  refine⟨rv,?_,g2⟩
  rw[←g1]
  unfold World.cell?
  simp only[hk _ (hv b l hm)]
 ·obtain⟨e,fz,g1⟩:=(h.FX x hx).1
  exact⟨e,fz,by rw[hk _ (aKK.1 g1).1];exact g1⟩
theorem anG {P:Program} {E:Db} {f:Nat} {pf:aU} (h:W1 P E f=some pf):∃fn c,P.funcs[f]? = some fn∧fn.body=some c∧(fn.name == "runtime.NumGoroutine")=false∧fn.results.toList.mapM (Cv P)=some pf.res∧jU P E fn.ntmps c=some pf.body∧pf.ntmps=fn.ntmps:=by
 unfold W1 at h
 cases hf:P.funcs[f]? with
 | none=>rw[hf] at h;cases h
 |
  some fn =>
  rw[hf] at h
  have h':PK P E fn=some pf:=h
  unfold PK at h'
  cases hb:fn.body with
  | none=>rw[hb] at h';cases h'
  |
   some c =>
   rw[hb] at h'
   simp only at h'
   split at h'
   ·cases h'
   ·rename_i ajF
    split at h'
    ·cases h'
    ·rename_i res Xs
     cases hc:jU P E fn.ntmps c with
     | none=>rw[hc] at h';cases h'
     |
      some body =>
      rw[hc] at h'
      cases h'
      refine⟨fn,c,rfl,hb,by simpa using ajF,?_,hc,rfl⟩
      have e:(fun(r:ResultVar)=>match r with
       | .tmp t=>some (CY.tmp t)
       | .cell t ty=>(oO P ty).map fun(agg,size,_,_) => .cell t agg size)=Cv P:=by
       funext r
       cases r<;>rfl
      rw[←e]
      exact Xs
theorem KB {P:Program} {E:Db} {T:Tab} {L0:Nat} (Gm:P.follows .mixedOrders=true) (anV:ahL P E L0) (hT:∀f pf,T f=some pf→W1 P E f=some pf):∀n,AU P L0 (oN E T n)
 | 0=>fun f args lo H v H' h=>by cases h
 |
  n+1=>fun f args lo H v H' h m w iX hR dS hlen Xc hf=>by
  have uX:=G2 E T n
  rw[oN] at h
  split at h
  ·rename_i p hp
   obtain⟨hco,aEa⟩:=anV f p hp
   refine⟨hco,?_⟩
   cases hpv:p args H with
   | none=>rw[hpv] at h;cases h
   |
    some u =>
    rw[hpv] at h
    cases h
    refine(aEa args H v hpv m w iX hR Xc).mono ?_
    rintro e w' ⟨rv,rfl,h1,h2,h3,h4⟩
    exact⟨m,rv,rfl,h1,hR.more h3,fun _ _ h=>h,fun b l hb hn=>(by rw[hb] at hn;cases hn),h2,fun rb Bm _=>h3 rb Bm,h4⟩
  ·split at h
   ·cases h
   ·rename_i pf hpf
    obtain⟨fn,c,h1,h2,h3,h4,h5,h6⟩:=anG (hT _ _ hpf)
    split at h
    case isFalse=>cases h
    rename_i Br
    refine⟨⟨fn,h1,h3,by rw[h2];rfl⟩,calls_of_wp h1 h2 ?_⟩
    have Fa:iX.toArray.size≤fn.ntmps:=by
     have:=Xc.1
     simp;omega
    have hH:Lx fn.ntmps L0 m (acZ args) H { tmps:=iX.toArray++aLj (fn.ntmps-iX.toArray.size) undef,defers:=[] } w:=by
     refine⟨by simp at Fa ⊢;omega,rfl,fun t => ?_,hR⟩
     rcases aKE t args.length with ht | ht
     ·have h7:=Xc.2 t ht
      have ht':t<iX.length:=by rw[←Xc.1];exact ht
      have e:(iX.toArray++aLj (fn.ntmps-iX.toArray.size) undef).getD t undef=iX.getD t undef:=by
       rw[aKJ,aLk (by simpa using ht')]
       simp
      show RV m (args.getD t undef) _
      rw[e]
      exact h7
     ·have e1:args.getD t undef=undef:=by simp[aKy,aK1 ht]
      have ht':iX.length≤t:=by rw[←Xc.1];exact ht
      have e2:(iX.toArray++aLj (fn.ntmps-iX.toArray.size) undef).getD t undef=undef:=by
       rw[aKJ,Array.getElem?_append_right (by simpa using ht')]
       rw[Array.getElem?_replicate]
       split<;>rfl
      show RV m (args.getD t undef) _
      rw[e1,e2]
      exact RV.undef m
    split at h
    ·rename_i AS H1 sN
     cases hr:tZ pf.res AS H1 with
     | none=>rw[hr] at h;cases h
     |
      some u =>
      rw[hr] at h
      cases h
      refine rB Gm (KB Gm anV hT n) uX dS n c pf.body h5 _ _ _ _ _ sN m _ w hH hlen hf _ fun m' a' w' hh hTr => ?_
      obtain⟨rv,g1,g2⟩:=Mj hh h4 hr
      exact⟨hh.defs,rv,g2,m',rv,rfl,g1,hh.rel,hTr⟩
    ·rename_i AS H1 sN
     cases hr:tZ pf.res AS H1 with
     | none=>rw[hr] at h;cases h
     |
      some u =>
      rw[hr] at h
      cases h
      refine rB Gm (KB Gm anV hT n) uX dS n c pf.body h5 _ _ _ _ _ sN m _ w hH hlen hf _ fun m' a' w' hh hTr => ?_
      obtain⟨rv,g1,g2⟩:=Mj hh h4 hr
      exact⟨hh.defs,rv,g2,m',rv,rfl,g1,hh.rel,hTr⟩
    ·cases h
end Go.PM
namespace Go.PM
def CLe (c c':iL):Prop:=∀f args lo H r,c f args lo H=some r→c' f args lo H=some r
section
variable {c c':iL} {lo:Nat}
theorem QV (h:CLe c c') {i:PI} {ρ:Env} {H:aJ} {r:Value×aJ} (hr:B1 c lo i ρ H=some r):B1 c' lo i ρ H=some r:=by
 unfold B1 at hr ⊢
 split at hr
 ·cases hr
 ·exact hr
 ·split at hr
  ·rename_i T5
   rw[if_pos T5]
   split at hr
   ·exact hr
   ·exact h _ _ _ _ _ hr
   ·cases hr
  ·cases hr
theorem YE (h:CLe c c') {i:PI} {ρ:Env} {H:aJ} {r:Env×aJ} (hr:BD c lo i ρ H=some r):BD c' lo i ρ H=some r:=by
 unfold BD at hr ⊢
 split at hr
 ·rename_i v H' hv
  rw[QV h hv]
  exact hr
 ·cases hr
theorem Cq (h:CLe c c'):∀ {is:List PI} {ρ:Env} {H:aJ} {r:Env×aJ},jF c lo is ρ H=some r→jF c' lo is ρ H=some r
 | [],_,_,_,hr=>hr
 |
  i::is,ρ,H,r,hr=>by
  rw[jF] at hr ⊢
  split at hr
  ·rename_i h1
   rw[YE h h1]
   exact Cq h hr
  ·cases hr
theorem Bq {b b':Env→aJ→Option (Ex×Env×aJ)} (h:∀ρ H r,b ρ H=some r→b' ρ H=some r):∀ {n n':Nat} {ρ:Env} {H:aJ} {r:Ex×Env×aJ},n≤n'→BW b n ρ H=some r→BW b' n' ρ H=some r
 | 0,_,_,_,_,_,hr=>by cases hr
 | n+1,0,_,_,_,hn,_=>by omega
 |
  n+1,n'+1,ρ,H,r,hn,hr=>by
  rw[BW] at hr ⊢
  split at hr
  ·rename_i h1
   rw[h _ _ _ h1]
   exact Bq h (by omega) hr
  ·rename_i fW
   rw[h _ _ _ hr]
   split
   ·rename_i aQ H' he
    cases he
    exact absurd hr (fW _ _)
   ·rfl
theorem fS (h:CLe c c') {n n':Nat} (hn:n≤n'):∀(p:aE) {ρ:Env} {H:aJ} {r:Ex×Env×aJ},dV c lo n p ρ H=some r→dV c' lo n' p ρ H=some r
 | .skip,_,_,_,hr=>hr
 |
  .cU ops,ρ,H,r,hr=>by
  rw[dV] at hr ⊢
  cases hs:jF c lo ops ρ H with
  | none=>rw[hs] at hr;cases hr
  | some q=>rw[hs] at hr;rw[Cq h hs];exact hr
 |
  .seq a b,ρ,H,r,hr=>by
  rw[dV] at hr ⊢
  split at hr
  ·rename_i h1
   rw[fS h hn a h1]
   exact fS h hn b hr
  ·rename_i fW
   rw[fS h hn a hr]
   split
   ·rename_i he;cases he;exact absurd hr (fW _ _)
   ·rfl
 |
  .cond x a b,ρ,H,r,hr=>by
  rw[dV] at hr ⊢
  split at hr
  ·split at hr
   ·rename_i ht;rw[if_pos ht];exact fS h hn a hr
   ·rename_i ht;rw[if_neg ht];exact fS h hn b hr
  ·cases hr
 |
  .block id a,ρ,H,r,hr=>by
  rw[dV] at hr ⊢
  split at hr
  ·rename_i h1
   rw[fS h hn a h1]
   exact hr
  ·rename_i fW
   rw[fS h hn a hr]
   split
   ·rename_i he;cases he;exact absurd hr (fW _ _ _)
   ·rfl
 |
  .loop a,ρ,H,r,hr=>by
  rw[dV] at hr ⊢
  exact Bq (fun ρ H r hr=>fS h hn a hr) hn hr
 | .exit id,_,_,_,hr=>hr
 | .ret,_,_,_,hr=>hr
theorem Ep (E:Db) (T:Tab):∀n,CLe (oN E T n) (oN E T (n+1))
 | 0,_,_,_,_,_,hr=>by cases hr
 |
  n+1,f,args,lo,H,r,hr=>by
  rw[oN] at hr ⊢
  split at hr
  ·exact hr
  ·split at hr
   ·cases hr
   ·split at hr
    ·rename_i pf _ ha
     rw[if_pos ha]
     split at hr
     ·rename_i h1
      rw[fS (Ep E T n) (aLl n) pf.body h1]
      exact hr
     ·rename_i h1
      rw[fS (Ep E T n) (aLl n) pf.body h1]
      exact hr
     ·cases hr
    ·cases hr
theorem rG (E:Db) (T:Tab) {n n':Nat} (h:n≤n'):CLe (oN E T n) (oN E T n'):=by
 induction h with
 | refl=>exact fun _ _ _ _ _ h=>h
 | step _ ih=>exact fun f args lo H r hr=>Ep E T _ f args lo H r (ih f args lo H r hr)
end
section
variable (E:Db) (T:Tab)
open Classical in
noncomputable def lim {α:Type} (run:Nat→Option α):Option α:=if h:∃r,∃n,run n=some r then some (Classical.choose h) else none
theorem aaB {α:Type} {run:Nat→Option α} (hm:∀n n' r,n≤n'→run n=some r→run n'=some r) {r:α}:lim run=some r↔∃n,run n=some r:=by
 unfold lim
 constructor
 ·intro h
  split at h
  ·rename_i hx
   cases h
   exact Classical.choose_spec hx
  ·cases h
 ·rintro⟨n,hn⟩
  have hx:∃r,∃n,run n=some r:=⟨r,n,hn⟩
  rw[dif_pos hx]
  obtain⟨n',W8⟩:=Classical.choose_spec hx
  have h1:=hm n (max n n') r (aLm _ _) hn
  have h2:=hm n' (max n n') _ (aLn _ _) W8
  rw[h1] at h2
  injection h2 with h2
  rw[←h2]
noncomputable def call:iL:=fun f args lo H=>lim fun n=>oN E T n f args lo H
noncomputable def code (lo:Nat) (c:aE) (ρ:Env) (H:aJ):Option (Ex×Env×aJ):=lim fun n=>dV (oN E T n) lo n c ρ H
theorem zM {f:Nat} {args:List Value} {lo:Nat} {H:aJ} {r:Value×aJ}:call E T f args lo H=some r↔∃n,oN E T n f args lo H=some r :=
 aaB fun _ _ r h hr=>rG E T h f args lo H r hr
theorem cR {lo:Nat} {c:aE} {ρ:Env} {H:aJ} {r:Ex×Env×aJ}:code E T lo c ρ H=some r↔∃n,dV (oN E T n) lo n c ρ H=some r :=
 aaB fun _ _ _ h hr=>fS (rG E T h) h c hr
theorem Pw {lo:Nat}:∀ {is:List PI} {ρ:Env} {H:aJ} {r:Env×aJ},jF (call E T) lo is ρ H=some r↔∃n,jF (oN E T n) lo is ρ H=some r:=by
 have le:∀n,CLe (oN E T n) (call E T):=fun n f args lo H r hr=>(zM E T).2 ⟨n,hr⟩
 have val:∀ {i:PI} {ρ:Env} {H:aJ} {r:Value×aJ},B1 (call E T) lo i ρ H=some r→∃n,B1 (oN E T n) lo i ρ H=some r:=by
  intro i ρ H r hr
  unfold B1 at hr ⊢
  split at hr
  ·cases hr
  ·exact⟨0,hr⟩
  ·split at hr
   ·rename_i T5
    split at hr
    ·exact⟨0,by rw[if_pos T5];exact hr⟩
    ·obtain⟨n,hn⟩:=(zM E T).1 hr
     exact⟨n,by rw[if_pos T5];exact hn⟩
    ·cases hr
   ·cases hr
 intro is
 induction is with
 | nil=>exact fun {ρ H r}=>⟨fun h=>⟨0,h⟩,fun⟨_,h⟩=>h⟩
 |
  cons i is ih =>
  intro ρ H r
  constructor
  ·intro h
   rw[jF] at h
   split at h
   ·rename_i AS H1 h1
    obtain⟨v,hv,rfl⟩:=Be h1
    obtain⟨n1,hn1⟩:=val hv
    obtain⟨n2,hn2⟩:=ih.1 h
    refine⟨max n1 n2,?_⟩
    rw[jF]
    have e:BD (oN E T (max n1 n2)) lo i ρ H=some (put ρ i.dst v,H1):=by
     unfold BD
     rw[QV (rG E T (aLm n1 n2)) hn1]
    rw[e]
    exact Cq (rG E T (aLn n1 n2)) hn2
   ·cases h
  ·rintro⟨n,h⟩
   exact Cq (le n) h
theorem DY {α:Type} {a b:Option α} (h:∀r,a=some r↔b=some r):a=b:=by
 cases a with
 |
  none =>
  cases b with
  | none=>rfl
  | some y=>exact((h y).2 rfl)
 | some x=>exact((h x).1 rfl).symm
variable {lo:Nat} {ρ:Env} {H:aJ}
theorem acW:code E T lo .skip ρ H=some (.normal,ρ,H):=(cR E T).2 ⟨0,rfl⟩
theorem afS {id:Nat}:code E T lo (.exit id) ρ H=some (.exit id,ρ,H):=(cR E T).2 ⟨0,rfl⟩
theorem anA:code E T lo .ret ρ H=some (.ret,ρ,H):=(cR E T).2 ⟨0,rfl⟩
theorem aoF {ops:List PI}:code E T lo (.cU ops) ρ H=(jF (call E T) lo ops ρ H).map fun(aQ,H')=>(.normal,aQ,H'):=by
 refine DY fun r => ?_
 rw[cR]
 constructor
 ·rintro⟨n,h⟩
  rw[dV] at h
  cases hs:jF (oN E T n) lo ops ρ H with
  | none=>rw[hs] at h;cases h
  |
   some q =>
   rw[hs] at h
   rw[(Pw E T).2 ⟨n,hs⟩]
   exact h
 ·intro h
  cases hs:jF (call E T) lo ops ρ H with
  | none=>rw[hs] at h;cases h
  |
   some q =>
   rw[hs] at h
   obtain⟨n,hn⟩:=(Pw E T).1 hs
   exact⟨n,by rw[dV,hn];exact h⟩
theorem ajE {a b:aE}:code E T lo (.seq a b) ρ H=match code E T lo a ρ H with
  | some (.normal,aQ,H')=>code E T lo b aQ H'
  | r=>r:=by
 refine DY fun r => ?_
 rw[cR]
 constructor
 ·rintro⟨n,h⟩
  rw[dV] at h
  split at h
  ·rename_i h1
   rw[(cR E T).2 ⟨n,h1⟩]
   exact(cR E T).2 ⟨n,h⟩
  ·rename_i fW
   rw[(cR E T).2 ⟨n,h⟩]
   split
   ·rename_i he;cases he;exact absurd h (fW _ _)
   ·rfl
 ·intro h
  split at h
  ·rename_i h1
   obtain⟨n1,h1⟩:=(cR E T).1 h1
   obtain⟨n2,h2⟩:=(cR E T).1 h
   refine⟨max n1 n2,?_⟩
   rw[dV,fS (rG E T (aLm n1 n2)) (aLm n1 n2) a h1]
   exact fS (rG E T (aLn n1 n2)) (aLn n1 n2) b h2
  ·rename_i fW
   obtain⟨n,h1⟩:=(cR E T).1 h
   refine⟨n,?_⟩
   rw[dV,h1]
   split
   ·rename_i he;cases he;exact absurd h (fW _ _)
   ·rfl
theorem adC {x:Operand} {a b:aE}:code E T lo (.cond x a b) ρ H=match ev ρ x with
  | .bool t=>if t then code E T lo a ρ H else code E T lo b ρ H
  | _=>none:=by
 refine DY fun r => ?_
 rw[cR]
 constructor
 ·rintro⟨n,h⟩
  rw[dV] at h
  split at h
  ·rename_i t he
   rw[he]
   show (if t=true then code E T lo a ρ H else code E T lo b ρ H)=some r
   split at h
   ·rename_i ht;rw[if_pos ht];exact(cR E T).2 ⟨n,h⟩
   ·rename_i ht;rw[if_neg ht];exact(cR E T).2 ⟨n,h⟩
  ·cases h
 ·intro h
  split at h
  ·rename_i t he
   split at h
   ·rename_i ht
    obtain⟨n,h⟩:=(cR E T).1 h
    refine⟨n,?_⟩
    rw[dV,he]
    show (if t=true then _ else _)=_
    rw[if_pos ht]
    exact h
   ·rename_i ht
    obtain⟨n,h⟩:=(cR E T).1 h
    refine⟨n,?_⟩
    rw[dV,he]
    show (if t=true then _ else _)=_
    rw[if_neg ht]
    exact h
  ·cases h
theorem Xp {id:Nat} {a:aE}:code E T lo (.block id a) ρ H=match code E T lo a ρ H with
  | some (.exit We,aQ,H')=>if We=id then some (.normal,aQ,H') else some (.exit We,aQ,H')
  | r=>r:=by
 refine DY fun r => ?_
 rw[cR]
 constructor
 ·rintro⟨n,h⟩
  rw[dV] at h
  split at h
  ·rename_i h1
   rw[(cR E T).2 ⟨n,h1⟩]
   exact h
  ·rename_i fW
   rw[(cR E T).2 ⟨n,h⟩]
   split
   ·rename_i he;cases he;exact absurd h (fW _ _ _)
   ·rfl
 ·intro h
  split at h
  ·rename_i h1
   obtain⟨n,h1⟩:=(cR E T).1 h1
   exact⟨n,by rw[dV,h1];exact h⟩
  ·rename_i fW
   obtain⟨n,h1⟩:=(cR E T).1 h
   refine⟨n,?_⟩
   rw[dV,h1]
   split
   ·rename_i he;cases he;exact absurd h (fW _ _ _)
   ·rfl
theorem abV {a:aE}:code E T lo (.loop a) ρ H=match code E T lo a ρ H with
  | some (.normal,aQ,H')=>code E T lo (.loop a) aQ H'
  | r=>r:=by
 refine DY fun r => ?_
 rw[cR]
 constructor
 ·rintro⟨n,h⟩
  rw[dV] at h
  cases n with
  | zero=>cases h
  |
   succ n =>
   rw[BW] at h
   split at h
   ·rename_i h1
    rw[(cR E T).2 ⟨n+1,h1⟩]
    refine(cR E T).2 ⟨n+1,?_⟩
    rw[dV]
    exact Bq (fun _ _ _ h=>h) (aLl n) h
   ·rename_i fW
    rw[(cR E T).2 ⟨n+1,h⟩]
    split
    ·rename_i he;cases he;exact absurd h (fW _ _)
    ·rfl
 ·intro h
  split at h
  ·rename_i h1
   obtain⟨n1,h1⟩:=(cR E T).1 h1
   obtain⟨n2,h2⟩:=(cR E T).1 h
   refine⟨max n1 n2+1,?_⟩
   have g1:=fS (rG E T (show n1≤max n1 n2+1 by omega)) (show n1≤max n1 n2+1 by omega) a h1
   rw[dV,BW,g1]
   rw[dV] at h2
   exact Bq (fun _ _ _ h=>fS (rG E T (show n2≤max n1 n2+1 by omega)) (show n2≤max n1 n2+1 by omega) a h) (show n2≤max n1 n2 by omega) h2
  ·rename_i fW
   obtain⟨n,h1⟩:=(cR E T).1 h
   refine⟨n+1,?_⟩
   rw[dV,BW,fS (Ep E T n) (aLl n) a h1]
   split
   ·rename_i he;cases he;exact absurd h (fW _ _)
   ·rfl
noncomputable def axZ (lo:Nat) (pf:aU) (args:List Value) (H:aJ):Option (Value×aJ) :=
 if args.length≤pf.ntmps then
  match code E T lo pf.body (acZ args) H with
  | some (.normal,ρ,H') | some (.ret,ρ,H')=>(tZ pf.res ρ H').map (·,H')
  | _=>none
 else none
theorem abQ {f:Nat} {p:List Value→aJ→Option Value} (h:E.DN f=some p) {args:List Value}:call E T f args lo H=(p args H).map (·,H):=by
 refine DY fun r => ?_
 rw[zM]
 constructor
 ·rintro⟨n,hr⟩
  cases n with
  | zero=>cases hr
  | succ n=>rw[oN,h] at hr;exact hr
 ·intro hr
  exact⟨1,by rw[oN,h];exact hr⟩
theorem arQ {f:Nat} {pf:aU} (hp:E.DN f=none) (h:T f=some pf) {args:List Value}:call E T f args lo H=axZ E T lo pf args H:=by
 refine DY fun r => ?_
 rw[zM]
 unfold axZ
 constructor
 ·rintro⟨n,hr⟩
  cases n with
  | zero=>cases hr
  |
   succ n =>
   rw[oN,hp,h] at hr
   simp only at hr
   split at hr
   ·rename_i ha
    rw[if_pos ha]
    split at hr
    ·rename_i h1
     rw[(cR E T).2 ⟨n,h1⟩]
     exact hr
    ·rename_i h1
     rw[(cR E T).2 ⟨n,h1⟩]
     exact hr
    ·cases hr
   ·cases hr
 ·intro hr
  split at hr
  ·rename_i ha
   split at hr
   ·rename_i h1
    obtain⟨n,h1⟩:=(cR E T).1 h1
    exact⟨n+1,by rw[oN,hp,h];simp only;rw[if_pos ha,h1];exact hr⟩
   ·rename_i h1
    obtain⟨n,h1⟩:=(cR E T).1 h1
    exact⟨n+1,by rw[oN,hp,h];simp only;rw[if_pos ha,h1];exact hr⟩
   ·cases hr
  ·cases hr
end
end Go.PM
namespace Go.PM
theorem Gu {H H':aJ} {lo gF b o:Nat} {new:List Value} (hl:gF≤lo) (h:H.write lo b o new=some H'):H.write gF b o new=some H':=by
 unfold aJ.write at h ⊢
 split at h
 ·split at h
  ·rename_i hc
   rw[if_pos ⟨by omega,hc.2⟩]
   exact h
  ·cases h
 ·cases h
theorem Ee {α β:Type} {a b:Option α} {f:α→β} {r:β} (I0:∀x,a=some x→b=some x) (h:a.map f=some r):b.map f=some r:=by
 cases a with
 | none=>cases h
 | some x=>rw[I0 x rfl];exact h
theorem MQ {lo gF size bytes add:Nat} {x:Value} {new:List Value} {H:aJ} {r:Value×aJ} (hl:gF≤lo) (h:fJ lo size bytes x add new H=some r):fJ gF size bytes x add new H=some r:=by
 unfold fJ at h ⊢
 split at h
 case isFalse=>cases h
 rename_i hc
 rw[if_pos hc]
 split at h
 ·exact h
 ·split at h
  ·split at h
   ·rename_i h1
    skip
    rw[if_pos h1]
    split at h
    ·rename_i h2
     rw[if_pos h2]
     split at h
     ·rename_i h3;rw[if_pos h3];exact h
     ·rename_i h3
      rw[if_neg h3]
      exact Ee (fun H' hw=>Gu hl hw) h
    ·rename_i h2
     rw[if_neg h2]
     split at h
     ·rename_i h3
      rw[if_pos h3]
      split at h
      ·rename_i h4
       rw[if_pos h4]
       split at h
       ·rename_i h5;rw[if_pos (by omega)];exact h
       ·cases h
      ·rename_i h4;rw[if_neg h4];exact h
     ·cases h
   ·cases h
  ·cases h
 ·cases h
theorem Zz {lo gF:Nat} {p:qH} {ρ:Env} {H:aJ} {o:Out} (hl:gF≤lo) (h:pop lo p ρ H=some o):pop gF p ρ H=some o:=by
 cases p<;>first | exact h | skip
 case store size q v =>
  simp only[pop] at h ⊢
  split at h
  ·split at h
   ·rename_i h1
    skip
    rw[if_pos h1]
    exact Ee (fun H' hw=>Gu hl hw) h
   ·cases h
  ·cases h
 case app size bytes x y =>
  simp only[pop] at h ⊢
  split at h
  ·split at h
   ·skip
    exact Ee (fun H' hw=>MQ hl hw) h
   ·cases h
  ·cases h
 case appz z bytes x n =>
  simp only[pop] at h ⊢
  split at h
  ·split at h
   ·rename_i h1
    skip
    rw[if_pos h1]
    exact Ee (fun H' hw=>MQ hl hw) h
   ·cases h
  ·cases h
 case copy size x y =>
  simp only[pop] at h ⊢
  split at h
  ·exact h
  ·split at h
   ·skip
    exact Ee (fun H' hw=>Gu hl hw) h
   ·cases h
  ·cases h
 case clear z x =>
  simp only[pop] at h ⊢
  split at h
  ·exact h
  ·skip
   split at h
   ·rename_i h1;rw[if_pos h1];exact h
   ·rename_i h1
    rw[if_neg h1]
    exact Ee (fun H' hw=>Gu hl hw) h
  ·cases h
def anM (c:iL):Prop:=∀f args lo gF H r,gF≤lo→c f args lo H=some r→c f args gF H=some r
section
variable {c:iL} {lo gF:Nat}
theorem Ph (hc:anM c) (hl:gF≤lo):∀ {is:List PI} {ρ:Env} {H:aJ} {r:Env×aJ},jF c lo is ρ H=some r→jF c gF is ρ H=some r
 | [],_,_,_,h=>h
 |
  i::is,ρ,H,r,h=>by
  rw[jF] at h ⊢
  split at h
  ·rename_i AS H1 h1
   have e:BD c gF i ρ H=some (AS,H1):=by
    unfold BD at h1 ⊢
    split at h1
    ·rename_i v H2 hv
     have:B1 c gF i ρ H=some (v,H2):=by
      unfold B1 at hv ⊢
      split at hv
      ·cases hv
      ·exact hv
      ·split at hv
       ·rename_i T5
        rw[if_pos T5]
        split at hv
        ·rename_i hp;rw[Zz hl hp];exact hv
        ·rename_i hp
         rw[Zz hl hp]
         show c _ _ (if i.quiet=true then H.length else gF) H=_
         cases hq:i.quiet with
         | true=>rw[hq] at hv;exact hv
         | false=>rw[hq] at hv;exact hc _ _ _ _ _ _ hl hv
        ·cases hv
       ·cases hv
     rw[this]
     exact h1
    ·cases h1
   rw[e]
   exact Ph hc hl h
  ·cases h
theorem adL {b b':Env→aJ→Option (Ex×Env×aJ)} (h:∀ρ H r,b ρ H=some r→b' ρ H=some r):∀ {n:Nat} {ρ:Env} {H:aJ} {r:Ex×Env×aJ},BW b n ρ H=some r→BW b' n ρ H=some r :=
 fun hr=>Bq h (aKB _) hr
theorem pZ (hc:anM c) (hl:gF≤lo) {n:Nat}:∀(p:aE) {ρ:Env} {H:aJ} {r:Ex×Env×aJ},dV c lo n p ρ H=some r→dV c gF n p ρ H=some r
 | .skip,_,_,_,hr=>hr
 |
  .cU ops,ρ,H,r,hr=>by
  rw[dV] at hr ⊢
  exact Ee (fun _ h=>Ph hc hl h) hr
 |
  .seq a b,ρ,H,r,hr=>by
  rw[dV] at hr ⊢
  split at hr
  ·rename_i h1
   rw[pZ hc hl a h1]
   exact pZ hc hl b hr
  ·rename_i fW
   rw[pZ hc hl a hr]
   split
   ·rename_i he;cases he;exact absurd hr (fW _ _)
   ·rfl
 |
  .cond x a b,ρ,H,r,hr=>by
  rw[dV] at hr ⊢
  split at hr
  ·split at hr
   ·rename_i ht;rw[if_pos ht];exact pZ hc hl a hr
   ·rename_i ht;rw[if_neg ht];exact pZ hc hl b hr
  ·cases hr
 |
  .block id a,ρ,H,r,hr=>by
  rw[dV] at hr ⊢
  split at hr
  ·rename_i h1
   rw[pZ hc hl a h1]
   exact hr
  ·rename_i fW
   rw[pZ hc hl a hr]
   split
   ·rename_i he;cases he;exact absurd hr (fW _ _ _)
   ·rfl
 |
  .loop a,ρ,H,r,hr=>by
  rw[dV] at hr ⊢
  exact adL (fun ρ H r hr=>pZ hc hl a hr) hr
 | .exit id,_,_,_,hr=>hr
 | .ret,_,_,_,hr=>hr
end
theorem LC (E:Db) (T:Tab):∀n,anM (oN E T n)
 | 0,_,_,_,_,_,_,_,h=>by cases h
 |
  n+1,f,args,lo,gF,H,r,hl,h=>by
  rw[oN] at h ⊢
  split at h
  ·exact h
  ·split at h
   ·cases h
   ·split at h
    ·rename_i pf _ ha
     rw[if_pos ha]
     split at h
     ·rename_i h1;rw[pZ (LC E T n) hl pf.body h1];exact h
     ·rename_i h1;rw[pZ (LC E T n) hl pf.body h1];exact h
     ·cases h
    ·cases h
section
variable {E:Db} {T:Tab}
theorem agX {f:Nat} {args:List Value} {lo gF:Nat} {H:aJ} {r:Value×aJ} (hl:gF≤lo) (h:call E T f args lo H=some r):call E T f args gF H=some r:=by
 obtain⟨n,hn⟩:=(zM E T).1 h
 exact(zM E T).2 ⟨n,LC E T n f args lo gF H r hl hn⟩
theorem aoJ {f:Nat} {args:List Value} {lo:Nat} {H H':aJ} {v:Value} (h:call E T f args lo H=some (v,H')):Ext lo H H':=by
 obtain⟨n,hn⟩:=(zM E T).1 h
 exact G2 E T n f args lo H v H' hn
theorem Ext.more {H H':aJ} (h:Ext H.length H H'):∃K,H'=H++K:=by
 refine⟨H'.drop H.length,?_⟩
 apply List.ext_getElem?
 intro i
 rcases aKE i H.length with hi | hi
 ·rw[aKS hi]
  exact h.low i hi hi
 ·rw[aKT hi,aKz,show H.length+(i-H.length)=i by omega]
def Zq (E:Db) (T:Tab) (f:Nat) (args:List Value) (H:aJ) (R:Value→aJ→Prop):Prop :=
 ∃v K,call E T f args H.length H=some (v,H++K)∧R v (H++K)
theorem Zq.at {f:Nat} {args:List Value} {H:aJ} {R:Value→aJ→Prop} (h:Zq E T f args H R) {lo:Nat} (hl:lo≤H.length):∃v K,call E T f args lo H=some (v,H++K)∧R v (H++K):=by
 obtain⟨v,K,h1,h2⟩:=h
 exact⟨v,K,agX hl h1,h2⟩
theorem Zq.mk {f:Nat} {args:List Value} {H H':aJ} {v:Value} {R:Value→aJ→Prop} (h:call E T f args H.length H=some (v,H')) (hr:R v H'):Zq E T f args H R:=by
 obtain⟨K,rfl⟩:=(aoJ h).more
 exact⟨v,K,h,hr⟩
end
end Go.PM
namespace Go.PM
def strCells:List Value→Option (List ByteArray)
 | []=>some []
 | .string s::r=>(strCells r).map (s :: ·)
 | _=>none
def zK:List Value→aJ→Option Value
 | [.int .u64 n,.int .i64 b],_=>if b=10∧0≤n∧n<18446744073709551616 then some (.string ⟨(Lib.decDigits n.toNat).toArray⟩) else none
 | _,_=>none
def Ji:List Value→aJ→Option Value
 | [.string s,.int .i64 c],_=>if 0≤c∧c≤9223372036854775807∧s.size*c.toNat≤140737488355328 then some (.string ⟨(Lib.repeatL s.data.toList c.toNat).toArray⟩) else none
 | _,_=>none
def F4:List Value→aJ→Option Value
 | [.int .u32 x],_=>if 0≤x∧x≤4294967295 then some (.int .i64 (32-(Lib.bitLen x.toNat:Int))) else none
 | _,_=>none
def Wu:List Value→aJ→Option Value
 | [.slice none 0 0,.string _],_=>some (.string ⟨#[]⟩)
 |
  [.slice (some ⟨b,o,none⟩) n c,.string sep],H =>
  if n=0 then some (.string ⟨#[]⟩) else
  match (H.read b o n).bind strCells with
  | some xs=>if xs.length=n∧n≤c∧n≤140737488355328∧(Lib.join (xs.map (·.data.toList)) sep.data.toList).length≤140737488355328 then some (.string ⟨(Lib.join (xs.map (·.data.toList)) sep.data.toList).toArray⟩) else none
  | none=>none
 | _,_=>none
def Td:List Value→aJ→Option Value
 |
  [.string s,.string p],_=>match p.data.toList with
  | [c]=>some (.int .i64 (Lib.indexByte s.data.toList c))
  | _=>none
 | _,_=>none
def BK:List Value→aJ→Option Value
 |
  [.string s,.int .i64 b,.int .i64 z],_=>if b=10∧z=64∧s.size≤9223372036854775806 then
   match Lib.parseUintB 64 s.data.toList with
   | .ok u=>some (.tuple #[.int .u64 (u:Int),.nilIface])
   | _=>none
  else none
 | _,_=>none
end Go.PM
namespace Go.PM
open Go.Proofs
def aDu:List Nat:=[]
 ++ [200]
 ++ [204]
 ++ [205]
 ++ [95]
 ++ [90]
 ++ [118]
 ++ [134]
 ++ [179]
def MN (f:Nat):Option (List Value→aJ→Option Value) :=
 if f=214 then some zK else
 if f=215 then some Ji else
 if f=217 then some Wu else
 if f=198 then some F4 else
 if f=209 then some Td else
 if f=192 then some BK else
 (fun _=>none) f
def cfg:Db:={ DN:=MN,eff:=fun f=>aDu.contains f }
noncomputable def fT:Tab:=fun f=>if (MN f).isSome then none else W1 Tryz.prog cfg f
theorem axV (f:Nat) (pf:aU) (h:fT f=some pf):W1 Tryz.prog cfg f=some pf:=by
 unfold fT at h
 split at h
 ·cases h
 ·exact h
theorem Ym {f:Nat} {pf:aU} (h:fT f=some pf):cfg.DN f=none:=by
 unfold fT at h
 split at h
 ·cases h
 ·rename_i h1
  show MN f=none
  cases hp:MN f with
  | none=>rfl
  | some p=>rw[hp] at h1;exact absurd rfl h1
end Go.PM
namespace Go.PM
noncomputable abbrev uO:iL:=call cfg fT
def W (lo:Nat) (c:aE) (Q:Ex→Env→aJ→Prop) (ρ:Env) (H:aJ):Prop:=∃x aQ H',code cfg fT lo c ρ H=some (x,aQ,H')∧Q x aQ H'
def WS (lo:Nat) (is:List PI) (K:Env→aJ→Prop) (ρ:Env) (H:aJ):Prop:=∃aQ H',jF uO lo is ρ H=some (aQ,H')∧K aQ H'
def aDW (lo:Nat) (b:aE) (Q:Ex→Env→aJ→Prop):Ex→Env→aJ→Prop
 | .normal,ρ,H=>W lo b Q ρ H
 | x,ρ,H=>Q x ρ H
def aBQ (id:Nat) (Q:Ex→Env→aJ→Prop):Ex→Env→aJ→Prop
 | .exit We,ρ,H=>if We=id then Q .normal ρ H else Q (.exit We) ρ H
 | x,ρ,H=>Q x ρ H
def aFD (res:List CY) (R:Value→aJ→Prop):Ex→Env→aJ→Prop
 | .exit _,_,_=>False
 | _,ρ,H=>∃v,tZ res ρ H=some v∧R v H
def aBE (J:Env→aJ→Prop) (Q:Ex→Env→aJ→Prop):Ex→Env→aJ→Prop
 | .normal,ρ,H=>J ρ H
 | x,ρ,H=>Q x ρ H
section
variable {lo:Nat} {Q:Ex→Env→aJ→Prop} {K:Env→aJ→Prop} {ρ:Env} {H:aJ} {b:aE} {id:Nat} {R:Value→aJ→Prop} {res:List CY} {J:Env→aJ→Prop}
theorem KP {i:Nat}:aBQ id Q (.exit i) ρ H=if i=id then Q .normal ρ H else Q (.exit i) ρ H:=rfl
theorem axR:W lo .skip Q ρ H=Q .normal ρ H:=by
 unfold W
 rw[acW]
 exact propext ⟨fun⟨_,_,_,h,hq⟩=>(by cases h;exact hq),fun h=>⟨_,_,_,rfl,h⟩⟩
theorem awV {i:Nat}:W lo (.exit i) Q ρ H=Q (.exit i) ρ H:=by
 unfold W
 rw[afS]
 exact propext ⟨fun⟨_,_,_,h,hq⟩=>(by cases h;exact hq),fun h=>⟨_,_,_,rfl,h⟩⟩
theorem aCk:W lo .ret Q ρ H=Q .ret ρ H:=by
 unfold W
 rw[anA]
 exact propext ⟨fun⟨_,_,_,h,hq⟩=>(by cases h;exact hq),fun h=>⟨_,_,_,rfl,h⟩⟩
theorem aB8 {ops:List PI}:W lo (.cU ops) Q ρ H=WS lo ops (Q .normal) ρ H:=by
 unfold W WS
 rw[aoF]
 apply propext
 constructor
 ·rintro⟨x,aQ,H',h,hq⟩
  cases hs:jF (call cfg fT) lo ops ρ H with
  | none=>rw[hs] at h;cases h
  |
   some q =>
   rw[hs] at h
   cases h
   exact⟨_,_,rfl,hq⟩
 ·rintro⟨aQ,H',h,hq⟩
  exact⟨_,_,_,by rw[h];rfl,hq⟩
theorem aAS {a:aE}:W lo (.seq a b) Q ρ H=W lo a (aDW lo b Q) ρ H:=by
 unfold W
 rw[ajE]
 apply propext
 constructor
 ·rintro⟨x,aQ,H',h,hq⟩
  split at h
  ·rename_i AS H1 h1
   exact⟨_,_,_,h1,x,aQ,H',h,hq⟩
  ·rename_i fW
   refine⟨x,aQ,H',h,?_⟩
   cases x with
   | normal=>exact absurd h (fW _ _)
   | exit i=>exact hq
   | ret=>exact hq
 ·rintro⟨x,aQ,H',h,hq⟩
  rw[h]
  cases x with
  | normal=>exact hq
  | exit i=>exact⟨_,_,_,rfl,hq⟩
  | ret=>exact⟨_,_,_,rfl,hq⟩
theorem apH {a:aE}:W lo (.block id a) Q ρ H=W lo a (aBQ id Q) ρ H:=by
 unfold W
 rw[Xp]
 apply propext
 constructor
 ·rintro⟨x,aQ,H',h,hq⟩
  split at h
  ·rename_i We AS H1 h1
   refine⟨_,_,_,h1,?_⟩
   rw[KP]
   split at h
   ·rename_i he;cases h;rw[if_pos he];exact hq
   ·rename_i he;cases h;rw[if_neg he];exact hq
  ·rename_i fW
   refine⟨x,aQ,H',h,?_⟩
   cases x with
   | normal=>exact hq
   | exit i=>exact absurd h (fW _ _ _)
   | ret=>exact hq
 ·rintro⟨x,aQ,H',h,hq⟩
  rw[h]
  cases x with
  | normal=>exact⟨_,_,_,rfl,hq⟩
  |
   exit i =>
   rw[KP] at hq
   show ∃x BZ W4,(if i=id then some (Ex.normal,aQ,H') else some (Ex.exit i,aQ,H'))=some (x,BZ,W4)∧Q x BZ W4
   split at hq
   ·rename_i he;rw[if_pos he];exact⟨_,_,_,rfl,hq⟩
   ·rename_i he;rw[if_neg he];exact⟨_,_,_,rfl,hq⟩
  | ret=>exact⟨_,_,_,rfl,hq⟩
theorem axO {x:Operand} {a:aE}:W lo (.cond x a b) Q ρ H=∃t,ev ρ x = .bool t∧((t=true→W lo a Q ρ H)∧(t=false→W lo b Q ρ H)):=by
 unfold W
 rw[adC]
 apply propext
 constructor
 ·rintro⟨y,aQ,H',h,hq⟩
  split at h
  ·rename_i t ht
   cases t with
   | true=>exact⟨true,ht,fun _=>⟨y,aQ,H',h,hq⟩,fun h=>by cases h⟩
   | false=>exact⟨false,ht,fun h=>(by cases h),fun _=>⟨y,aQ,H',h,hq⟩⟩
  ·cases h
 ·rintro⟨t,ht,h1,h2⟩
  rw[ht]
  cases t with
  | true=>exact h1 rfl
  | false=>exact h2 rfl
theorem W.mono {Q':Ex→Env→aJ→Prop} {c:aE} (h:W lo c Q ρ H) (hq:∀x ρ H,Q x ρ H→Q' x ρ H):W lo c Q' ρ H:=by
 obtain⟨x,aQ,H',h1,h2⟩:=h
 exact⟨x,aQ,H',h1,hq _ _ _ h2⟩
noncomputable def lZ (lo:Nat) (q:Bool) (op:qH) (ρ:Env) (H:aJ):Option (Value×aJ) :=
 match pop lo op ρ H with
 | some (.val v H')=>some (v,H')
 | some (.call f args)=>uO f args (if q then H.length else lo) H
 | none=>none
theorem ayW:WS lo [] K ρ H=K ρ H:=by
 unfold WS
 apply propext
 constructor
 ·rintro⟨aQ,H',h,hk⟩;cases h;exact hk
 ·intro h;exact⟨ρ,H,rfl,h⟩
theorem aAZ {i:PI} {is:List PI}:WS lo (i::is) K ρ H=∃v H',B1 uO lo i ρ H=some (v,H')∧WS lo is K (put ρ i.dst v) H':=by
 unfold WS
 apply propext
 constructor
 ·rintro⟨aQ,H',h,hk⟩
  rw[jF] at h
  split at h
  ·rename_i AS H1 h1
   obtain⟨v,hv,rfl⟩:=Be h1
   exact⟨v,H1,hv,aQ,H',h,hk⟩
  ·cases h
 ·rintro⟨v,H1,hv,aQ,H',h,hk⟩
  refine⟨aQ,H',?_,hk⟩
  rw[jF]
  unfold BD
  rw[hv]
  exact h
variable {q:Bool}
theorem dY {op:qH} (h:yG op=true):lZ lo q op ρ H=(kE op ρ).map (·,H):=by
 unfold lZ
 rw[BB h]
 cases kE op ρ<;>rfl
theorem arD {x:Operand}:lZ lo q (.mv x) ρ H=some (ev ρ x,H):=rfl
theorem aeF {c a b:Operand}:lZ lo q (.pick c a b) ρ H=(match ev ρ c with | .bool t=>some ((if t=true then ev ρ a else ev ρ b),H) | _=>none):=by
 rw[dY rfl]
 simp only[kE]
 cases ev ρ c<;>rfl
theorem agW {op:BinOp} {x y:Operand}:lZ lo q (.bin op x y) ρ H=(dK op (ev ρ x) (ev ρ y)).map (·,H):=dY rfl
theorem aqY {op:UnOp} {x:Operand}:lZ lo q (.un op x) ρ H=(pun op (ev ρ x)).map (·,H):=dY rfl
theorem adI {f:Nat} {args:List Operand}:lZ lo q (.call f args) ρ H=uO f (args.map (ev ρ)) (if q then H.length else lo) H:=rfl
end
theorem amZ {f lo:Nat} {pf:aU} {args:List Value} {H:aJ} {R:Value→aJ→Prop} (ht:fT f=some pf) (ha:args.length≤pf.ntmps) (h:W lo pf.body (aFD pf.res R) (acZ args) H):∃v H',uO f args lo H=some (v,H')∧R v H':=by
 obtain⟨x,aQ,H',h1,h2⟩:=h
 show ∃v H',call cfg fT f args lo H=some (v,H')∧R v H'
 rw[arQ cfg fT (Ym ht) ht]
 unfold axZ
 rw[if_pos ha,h1]
 cases x with
 | exit i=>exact h2.elim
 |
  normal =>
  obtain⟨v,h3,h4⟩:=h2
  exact⟨v,H',by simp only;rw[h3];rfl,h4⟩
 |
  ret =>
  obtain⟨v,h3,h4⟩:=h2
  exact⟨v,H',by simp only;rw[h3];rfl,h4⟩
end Go.PM
namespace Go.PM
theorem wrap64 {x:Int} (h1 : -9223372036854775808≤x) (h2:x≤9223372036854775807):IntKind.i64.wrap x=x:=by
 rw[IntKind.wrap_i64]
 omega
section
variable {k:IntKind} {a b:Int}
theorem WR:dK .add (.int k a) (.int k b)=some (.int k (k.wrap (a+b))):=by simp[dK]
theorem Wb:dK .sub (.int k a) (.int k b)=some (.int k (k.wrap (a-b))):=by simp[dK]
theorem W7:dK .mul (.int k a) (.int k b)=some (.int k (k.wrap (a*b))):=by simp[dK]
theorem Ws (h:b≠0):dK .rem (.int k a) (.int k b)=some (.int k (a.tmod b)):=by simp[dK,h]
theorem Uv:dK .lss (.int k a) (.int k b)=some (.bool (decide (a<b))):=by simp[dK]
theorem Us:dK .leq (.int k a) (.int k b)=some (.bool (decide (a≤b))):=by simp[dK]
theorem U9:dK .gtr (.int k a) (.int k b)=some (.bool (decide (b<a))):=by simp[dK]
theorem Vb:dK .geq (.int k a) (.int k b)=some (.bool (decide (b≤a))):=by simp[dK]
theorem Wr:dK .eql (.int k a) (.int k b)=some (.bool (decide (a=b))):=by
 simp only[dK,if_true]
 rfl
theorem Wg:dK .neq (.int k a) (.int k b)=some (.bool (!decide (a=b))):=by
 simp only[dK,if_true]
 rfl
theorem aaC:pun .neg (.int k a)=some (.int k (k.wrap (0-a))):=rfl
theorem ZK {t:Bool}:pun .not (.bool t)=some (.bool (!t)):=rfl
end
def ayB:Value→Option Value
 | .slice _ n _=>some (.int .i64 n)
 | _=>none
def Oc (neg:Bool):Value→Value→Option Value
 | .bool a,.bool b=>some (.bool ((a == b) != neg))
 | _,_=>none
def akO (neg:Bool):Value→Option Value
 | .slice none _ _=>some (.bool (true != neg))
 | .slice (some _) _ _=>some (.bool (false != neg))
 | _=>none
def ahY (neg:Bool) (ks:List CK):Value→Value→Option Value
 | .agg a,.agg b=>(sU ks a.toList b.toList).map fun t => .bool (t != neg)
 | _,_=>none
def Xx (k:IntKind):Value→Option Value
 | .int _ n=>some (.int k (k.wrap n))
 | _=>none
def awU (i:Nat):Value→Option Value
 | .tuple vs=>vs[i]?
 | _=>none
def arT (agg:Bool) (off size:Nat):Value→Option Value
 | .agg cs=>if agg then (if off+size≤cs.size then some (.agg (cs.extract off (off+size))) else none) else cs[off]?
 | _=>none
def aBW:Value→Option Value
 | .pointer (some a)=>some (.pointer (some a))
 | _=>none
def alE (off:Nat):Value→Option Value
 | .pointer (some ⟨b,o,none⟩)=>some (.pointer (some ⟨b,o+off,none⟩))
 | _=>none
def Tr (size:Nat):Value→Value→Option Value
 | .slice (some ⟨b,o,none⟩) n _,.int _ i=>if 0≤i∧i<n then some (.pointer (some ⟨b,o+i.toNat*size,none⟩)) else none
 | _,_=>none
def WY:Value→Value→Option Value
 | .int k a,.int _ b=>some (.int k (if b<a then b else a))
 | _,_=>none
def Wo:Value→Value→Option Value
 | .int k a,.int _ b=>some (.int k (if b>a then b else a))
 | _,_=>none
section
variable {lo:Nat} {ρ:Env} {H:aJ} {q:Bool}
theorem sS {op:qH} {r:Option (Value×aJ)} (h:pop lo op ρ H=r.map fun(v,H') => .val v H'):lZ lo q op ρ H=r:=by
 unfold lZ
 rw[h]
 cases r<;>rfl
theorem amX {x:Operand}:lZ lo q (.len x) ρ H=(ayB (ev ρ x)).map (·,H):=dY rfl
theorem alA {neg:Bool} {x y:Operand}:lZ lo q (.eqb neg x y) ρ H=(Oc neg (ev ρ x) (ev ρ y)).map (·,H):=dY rfl
theorem YH {neg:Bool} {x:Operand}:lZ lo q (.isnil neg x) ρ H=(akO neg (ev ρ x)).map (·,H):=dY rfl
theorem XQ {neg:Bool} {ks:List CK} {x y:Operand}:lZ lo q (.eqagg neg ks x y) ρ H=(ahY neg ks (ev ρ x) (ev ρ y)).map (·,H):=dY rfl
theorem anZ {k:IntKind} {x:Operand}:lZ lo q (.cvt k x) ρ H=(Xx k (ev ρ x)).map (·,H):=dY rfl
theorem amN {i:Nat} {x:Operand}:lZ lo q (.ext x i) ρ H=(awU i (ev ρ x)).map (·,H):=dY rfl
theorem agT {agg:Bool} {off size:Nat} {x:Operand}:lZ lo q (.fld agg off size x) ρ H=(arT agg off size (ev ρ x)).map (·,H):=dY rfl
theorem XP {z:List Value} {places:List (Nat×Nat)} {parts:List (Nat×Operand)}:lZ lo q (.build z places parts) ρ H=((Au places z (parts.map fun(i,x)=>(i,ev ρ x))).map fun cs=>Value.agg cs.toArray).map (·,H):=dY rfl
theorem ajK {x:Operand}:lZ lo q (.chk x) ρ H=(aBW (ev ρ x)).map (·,H):=dY rfl
theorem XU {off:Nat} {x:Operand}:lZ lo q (.faddr off x) ρ H=(alE off (ev ρ x)).map (·,H):=dY rfl
theorem Xn {size:Nat} {x i:Operand}:lZ lo q (.iaddr size x i) ρ H=(Tr size (ev ρ x) (ev ρ i)).map (·,H):=dY rfl
theorem adD {f:Nat} {gG:List Operand}:lZ lo q (.mkfn f gG) ρ H=some (.func (.func f) #[] (gG.map (ev ρ)).toArray,H):=dY rfl
theorem anP {x y:Operand}:lZ lo q (.min x y) ρ H=(WY (ev ρ x) (ev ρ y)).map (·,H):=dY rfl
theorem alQ {x y:Operand}:lZ lo q (.max x y) ρ H=(Wo (ev ρ x) (ev ρ y)).map (·,H):=dY rfl
theorem afB {agg:Bool} {size:Nat} {p:Operand}:lZ lo q (.load agg size p) ρ H=(qQ agg size (ev ρ p) H).map (·,H):=by
 unfold lZ
 simp only[pop]
 cases qQ agg size (ev ρ p) H<;>rfl
theorem alF {size:Nat} {x:Operand} {l h m:Option Operand}:lZ lo q (.sub size x l h m) ρ H=E9 size (ev ρ x) (l.map (ev ρ)) (h.map (ev ρ)) (m.map (ev ρ)) H:=by
 unfold lZ
 simp only[pop]
 cases E9 size (ev ρ x) (l.map (ev ρ)) (h.map (ev ρ)) (m.map (ev ρ)) H<;>rfl
theorem ajA {z:List Value}:lZ lo q (.new z) ρ H=some (.pointer (some ⟨H.length,0,none⟩),H++[.row z z.length false]):=rfl
theorem anJ {x:Operand}:lZ lo q (.box x) ρ H=if (aX (ev ρ x)).all iQ then some (.pointer (some ⟨H.length,0,none⟩),H++[.row (aX (ev ρ x)) (aX (ev ρ x)).length false]) else none:=by
 apply sS
 simp only[pop]
 by_cases h:(aX (ev ρ x)).all iQ=true
 ·rw[if_pos h,if_pos h];rfl
 ·rw[if_neg h,if_neg h];rfl
def aaF (z:List Value) (bytes:Nat) (l c:Value) (H:aJ):Option (Value×aJ) :=
 match l,c with
 | .int .i64 l,.int .i64 c=>if 0≤l∧l≤c∧c*bytes≤281474976710656∧c≤9223372036854775807 then
  some (.slice (some ⟨H.length,0,none⟩) l.toNat c.toNat,H++[.row (dG c.toNat z) z.length false]) else none
 | _,_=>none
theorem adR {z:List Value} {bytes:Nat} {l c:Operand}:lZ lo q (.make z bytes l c) ρ H=aaF z bytes (ev ρ l) (ev ρ c) H:=by
 apply sS
 simp only[pop]
 unfold aaF
 split
 ·rename_i l c h1 h2
  simp only[h1,h2]
  split<;>rfl
 ·rename_i h1
  split
  ·rename_i h2 h3
   exact(h1 _ _ h2 h3).elim
  ·rfl
def atN (z:List Value) (n:Nat) (parts:List (Nat×Value)) (H:aJ):Option (Value×aJ) :=
 match Au ((List.range n).map fun i=>(i*z.length,z.length)) (dG n z) parts with
 | some cs=>if cs.all iQ then some (.slice (some ⟨H.length,0,none⟩) n n,H++[.row cs z.length false]) else none
 | none=>none
theorem ajW {z:List Value} {n:Nat} {parts:List (Nat×Operand)}:lZ lo q (.lit z n parts) ρ H=atN z n (parts.map fun(i,x)=>(i,ev ρ x)) H:=by
 apply sS
 simp only[pop]
 unfold atN
 split
 ·rename_i cs h1
  simp only[h1]
  split<;>rfl
 ·rename_i h1
  simp only[h1]
  rfl
def IC (lo size:Nat) (p v:Value) (H:aJ):Option (Value×aJ) :=
 match p with
 | .pointer (some ⟨b,o,none⟩)=>if (aX v).length=size then (H.write lo b o (aX v)).map fun H'=>(undef,H') else none
 | _=>none
theorem YS {size:Nat} {p v:Operand}:lZ lo q (.store size p v) ρ H=IC lo size (ev ρ p) (ev ρ v) H:=by
 apply sS
 simp only[pop]
 unfold IC
 split
 ·rename_i b o h1
  simp only[h1]
  split
  ·cases H.write lo b o (aX (ev ρ v))<;>rfl
  ·rfl
 ·rename_i h1
  split
  ·rename_i h2
   exact(h1 _ _ h2).elim
  ·rfl
def awY (lo size bytes:Nat) (x y:Value) (H:aJ):Option (Value×aJ) :=
 match wC y with
 |
  some n=>match lD H size n y with
  | some new=>fJ lo size bytes x n new H
  | none=>none
 | none=>none
theorem ahK {size bytes:Nat} {x y:Operand}:lZ lo q (.app size bytes x y) ρ H=awY lo size bytes (ev ρ x) (ev ρ y) H:=by
 apply sS
 simp only[pop]
 unfold awY
 cases wC (ev ρ y) with
 | none=>rfl
 |
  some n =>
  cases hs:lD H size n (ev ρ y) with
  | none=>simp only[hs];rfl
  | some new=>simp only[hs]
def aiP (lo:Nat) (z:List Value) (bytes:Nat) (x n:Value) (H:aJ):Option (Value×aJ) :=
 match n with
 | .int .i64 n=>if 0≤n∧n*bytes≤140737488355328 then fJ lo z.length bytes x n.toNat (dG n.toNat z) H else none
 | _=>none
theorem acY {z:List Value} {bytes:Nat} {x n:Operand}:lZ lo q (.appz z bytes x n) ρ H=aiP lo z bytes (ev ρ x) (ev ρ n) H:=by
 apply sS
 simp only[pop]
 unfold aiP
 split
 ·rename_i n h1
  simp only[h1]
  split<;>rfl
 ·rename_i h1
  split
  ·rename_i h2
   exact(h1 _ h2).elim
  ·rfl
def copyV (lo size:Nat) (x y:Value) (H:aJ):Option (Value×aJ) :=
 match x,wC y with
 | .slice none _ _,some _=>some (.int .i64 0,H)
 |
  .slice (some ⟨b,o,none⟩) d _,some s=>match lD H size (Nat.min s d) y with
  | some new=>(H.write lo b o new).map fun H'=>(.int .i64 (Nat.min s d),H')
  | none=>none
 | _,_=>none
theorem adK {size:Nat} {x y:Operand}:lZ lo q (.copy size x y) ρ H=copyV lo size (ev ρ x) (ev ρ y) H:=by
 apply sS
 simp only[pop]
 unfold copyV
 split
 ·rename_i h1 h2
  simp only[h1,h2]
  rfl
 ·rename_i b o d _ s h1 h2
  simp only[h1,h2]
  cases hs:lD H size (Nat.min s d) (ev ρ y) with
  | none=>rfl
  |
   some new =>
   simp only
   cases H.write lo b o new<;>rfl
 ·rename_i h1 h2
  split
  ·rename_i h3 h4
   exact(h1 _ _ _ h3 h4).elim
  ·rename_i h3 h4
   exact(h2 _ _ _ _ _ h3 h4).elim
  ·rfl
def S3 (lo:Nat) (z:List Value) (x:Value) (H:aJ):Option (Value×aJ) :=
 match x with
 | .slice none _ _=>some (undef,H)
 | .slice (some ⟨b,o,none⟩) n _=>if n=0 then some (undef,H) else (H.write lo b o (dG n z)).map fun H'=>(undef,H')
 | _=>none
theorem Xr {z:List Value} {x:Operand}:lZ lo q (.clear z x) ρ H=S3 lo z (ev ρ x) H:=by
 apply sS
 simp only[pop]
 unfold S3
 split
 ·rename_i h1
  simp only[h1]
  rfl
 ·rename_i b o n _ h1
  simp only[h1]
  split
  ·rfl
  ·cases H.write lo b o (dG n z)<;>rfl
 ·rename_i h1 h2
  split
  ·rename_i h3
   exact(h1 _ _ h3).elim
  ·rename_i h3
   exact(h2 _ _ _ _ h3).elim
  ·rfl
noncomputable def akZ (lo:Nat) (fv:Value) (args:List Value) (H:aJ):Option (Value×aJ) :=
 match fv with
 | .func (.func f) first gG=>uO f (first.toList++args++gG.toList) lo H
 | _=>none
theorem X9 {fv:Operand} {args:List Operand}:lZ lo q (.callv fv args) ρ H=akZ (if q then H.length else lo) (ev ρ fv) (args.map (ev ρ)) H:=by
 unfold lZ
 simp only[pop]
 unfold akZ
 generalize ev ρ fv=v
 cases v with
 | func fn f c=>cases fn<;>rfl
 | _=>rfl
end
end Go.PM
namespace Go.PM
section
variable {lo:Nat} {Q:Ex→Env→aJ→Prop} {K:Env→aJ→Prop} {ρ:Env} {H:aJ} {q:Bool}
def aBj (u v:Value):Bool:=match kV u,kV v with
 | some a,some b=>a != b
 | _,_=>true
end
theorem Zu {k:IntKind} {a b:Int}:Wo (.int k a) (.int k b)=some (.int k (max a b)):=by
 simp only[Wo]
 congr 2
 split<;>omega
theorem Z6 {k:IntKind} {a b:Int}:WY (.int k a) (.int k b)=some (.int k (min a b)):=by
 simp only[WY]
 congr 2
 split<;>omega
end Go.PM
namespace Go.PM
abbrev ptr (b o:Nat):Value := .pointer (some ⟨b,o,none⟩)
abbrev I (n:Int):Value := .int .i64 n
section
variable {H H':aJ} {lo b o n size:Nat} {cs r:List Value} {L K:aJ} {v:Value}
theorem TQ (hb:b<H.length):(H++L)[b]? = H[b]? := aKS hb
theorem Z2 {x:QI}:(H++x::L)[H.length]? = some x:=by simp
theorem akP (hb:b<H.length):(H++L).read b o n=H.read b o n:=Ip (TQ hb)
theorem Dr {e:Nat} {p:Bool} (h:H[b]? = some (.row r e p)) (hn:o+n≤r.length):H.read b o n=some ((r.drop o).take n):=by
 unfold aJ.read
 rw[h]
 simp only[hn,if_true]
structure Gd (H:aJ) (b o:Nat) (cs:List Value):Prop where
 lt:b<H.length
 rd:H.read b o cs.length=some cs
theorem Gd.app (h:Gd H b o cs):Gd (H++L) b o cs:=⟨by have:=h.lt;simp;omega,by rw[akP h.lt];exact h.rd⟩
theorem Gd.pre (h:Gd H b o cs) (hp:H <+: H'):Gd H' b o cs:=by
 obtain⟨L,rfl⟩:=hp
 exact h.app
theorem Gd.all (h:Gd H b o cs) (hs:cs.length=size):qQ true size (.pointer (some ⟨b,o,none⟩)) H=some (.agg cs.toArray):=by
 subst hs
 simp only[qQ,if_true,h.rd]
 rfl
theorem Gd.one {u:Value} (h:Gd H b o [u]):qQ false size (.pointer (some ⟨b,o,none⟩)) H=some u:=by
 have:=h.rd
 simp only[aKL,List.length_nil] at this
 simp only[qQ,this]
 rfl
theorem Gd.sub {k:Nat} {u:Value} (h:Gd H b o cs) (hk:cs[k]? = some u):Gd H b (o+k) [u]:=by
 refine⟨h.lt,?_⟩
 have h1:=h.rd
 unfold aJ.read at h1 ⊢
 split at h1
 ·rename_i r e p hb
  split at h1
  ·rename_i hl
   have hk':=(aKA.1 hk).1
   simp only[aKL,List.length_nil]
   rw[if_pos (by simp;omega)]
   injection h1 with h1
   rw[←h1] at hk
   rw[List.getElem?_take,if_pos (by omega),aKz] at hk
   have bI:=(aKA.1 hk).1
   rw[aKG bI]
   simp only[aLo,List.take_zero]
   rw[aKI bI] at hk
   injection hk with hk
   rw[hk]
  ·cases h1
 ·cases h1
theorem Gd.fld {k:Nat} {u:Value} (h:Gd H b o cs) (hk:cs[k]? = some u):qQ false size (.pointer (some ⟨b,o+k,none⟩)) H=some u:=(h.sub hk).one
theorem UO {a:Nat} {c:Nat} {i:Int} {k:IntKind} (h0:0≤i) (h1:i<n):Tr size (.slice (some ⟨b,a,none⟩) n c) (.int k i)=some (.pointer (some ⟨b,a+i.toNat*size,none⟩)):=by
 simp only[Tr]
 rw[if_pos ⟨h0,h1⟩]
structure Arr {α:Type} (enc:α→List Value) (gU:Nat) (H:aJ) (a:Option Addr) (n:Nat) (xs:List α):Prop where
 len:n=xs.length
 el:∀(i:Nat) x,xs[i]? = some x→∃b o,a=some ⟨b,o,none⟩∧Gd H b (o+i*gU) (enc x)
theorem Arr.pre {α:Type} {enc:α→List Value} {gU:Nat} {a:Option Addr} {xs:List α} (h:Arr enc gU H a n xs) (hp:H <+: H'):Arr enc gU H' a n xs :=
 ⟨h.len,fun i x hx=>by obtain⟨b,o,h1,h2⟩:=h.el i x hx;exact⟨b,o,h1,h2.pre hp⟩⟩
end
structure lS where
 t:Int
 w:Int
 k:Int
 deriving DecidableEq
def cc (c:lS):List Value:=[I c.t,I c.w,I c.k]
def ci (n:Int):List Value:=[I n]
end Go.PM
namespace Go.PM
structure Mb {α:Type} (enc:α→List Value) (gU:Nat):Prop where
 len:∀x,(enc x).length=gU
 sc:∀x,(enc x).all iQ=true
 pos:1≤gU
section
variable {α:Type} {enc:α→List Value} {gU:Nat} {H H':aJ} {lo b:Nat} {xs ys:List α} {p:Bool}
theorem OK (e:Mb enc gU):(xs.flatMap enc).length=xs.length*gU:=by
 induction xs with
 | nil=>simp
 | cons x xs ih=>simp only[aLp,List.length_append,e.len,ih,aKL,aLq];omega
theorem Ly (e:Mb enc gU) (i:Nat):(xs.flatMap enc).drop (i*gU)=(xs.drop i).flatMap enc:=by
 induction i generalizing xs with
 | zero=>simp
 |
  succ i ih =>
  cases xs with
  | nil=>simp
  |
   cons x xs =>
   rw[aLp,List.drop_succ_cons,←ih,show (i+1)*gU=(enc x).length+i*gU by rw[e.len,aLq];omega,List.drop_append]
   simp
theorem Ra (e:Mb enc gU) (i:Nat):(xs.flatMap enc).take (i*gU)=(xs.take i).flatMap enc:=by
 induction i generalizing xs with
 | zero=>simp
 |
  succ i ih =>
  cases xs with
  | nil=>simp
  |
   cons x xs =>
   rw[aLp,aLo,aLp,←ih,show (i+1)*gU=(enc x).length+i*gU by rw[e.len,aLq];omega,List.take_append]
   simp
   exact List.take_of_length_le (by omega)
theorem U7 (e:Mb enc gU) {i:Nat} (x:α) (hi:i<xs.length):kM (xs.flatMap enc) (i*gU) (enc x)=(xs.set i x).flatMap enc:=by
 unfold kM
 rw[Ra e,e.len,show i*gU+gU=(i+1)*gU by rw[aLq],Ly e,List.set_eq_take_append_cons_drop,if_pos hi]
 simp
def Row (enc:α→List Value) (gU:Nat) (H:aJ) (b:Nat) (p:Bool) (xs:List α):Prop:=H[b]? = some (.row (xs.flatMap enc) gU p)
theorem Row.lt (h:Row enc gU H b p xs):b<H.length:=(aKA.1 h).1
theorem Row.pre (h:Row enc gU H b p xs) (hp:H <+: H'):Row enc gU H' b p xs:=by
 obtain⟨L,rfl⟩:=hp
 unfold Row
 rw[TQ h.lt]
 exact h
theorem Row.elem (h:Row enc gU H b p xs) (e:Mb enc gU) {i:Nat} {x:α} (hx:xs[i]? = some x):Gd H b (i*gU) (enc x):=by
 refine⟨h.lt,?_⟩
 have hi:=(aKA.1 hx).1
 have hm:(i+1)*gU≤xs.length*gU:=aK2 _ hi
 rw[aLq] at hm
 rw[Dr h (by rw[e.len,OK e];omega),Ly e,e.len]
 have:=Ra (xs:=xs.drop i) e 1
 rw[Nat.one_mul] at this
 rw[this,aKG hi]
 rw[aKI hi] at hx
 injection hx with hx
 simp[hx]
theorem Row.arr (h:Row enc gU H b p xs) (e:Mb enc gU) {n:Nat} (hn:n≤xs.length):Arr enc gU H (some ⟨b,0,none⟩) n (xs.take n):=by
 refine⟨by simp;omega,fun i x hx=>⟨b,0,rfl,?_⟩⟩
 rw[Nat.zero_add]
 refine h.elem e ?_
 rw[List.getElem?_take] at hx
 split at hx
 ·exact hx
 ·cases hx
theorem Row.store (h:Row enc gU H b p xs) (e:Mb enc gU) {i:Nat} {x:α} {u:Value} (hu:aX u=enc x) (hi:i<xs.length) (hl:lo≤b):IC lo gU (.pointer (some ⟨b,i*gU,none⟩)) u H=some (undef,H.set b (.row ((xs.set i x).flatMap enc) gU p)):=by
 simp only[IC,aJ.write,hu,e.len,if_true]
 have h':H[b]? = some (.row (xs.flatMap enc) gU p):=h
 have hm:(i+1)*gU≤xs.length*gU:=aK2 _ hi
 rw[aLq] at hm
 simp only[h']
 rw[if_pos ⟨hl,by rw[OK e];omega,e.sc x⟩,U7 e x hi]
 rfl
theorem Row.set (h:Row enc gU H b p xs) (ys:List α):Row enc gU (H.set b (.row (ys.flatMap enc) gU p)) b p ys:=by
 unfold Row
 rw[List.getElem?_set_self h.lt]
theorem WX (e:Mb enc gU) {n:Nat} {x:α}:dG n (enc x)=(aLr n x).flatMap enc:=by
 have jZ:=e.pos
 have hlen:=e.len x
 apply List.ext_getElem?
 intro i
 unfold dG
 rw[List.getElem?_map,hlen]
 rcases aKE i (n*gU) with hi | hi
 ·rw[List.getElem?_range hi]
  have hq:i / gU<n:=Nat.div_lt_of_lt_mul (by rw[Nat.mul_comm];exact hi)
  have h1:((aLr n x).flatMap enc)[i]? = (((aLr n x).flatMap enc).drop (i / gU*gU))[i % gU]? := by
   rw[aKz]
   congr 1
   rw[Nat.mul_comm]
   exact(Nat.div_add_mod i gU).symm
  have hr:i % gU<(enc x).length:=by rw[hlen];exact Nat.mod_lt _ (by omega)
  rw[h1,Ly e,List.drop_replicate,show n-i / gU=(n-i / gU-1)+1 by omega,List.replicate_succ,aLp,aKS hr]
  simp[aKy,aKI hr]
 ·rw[aK1 (by simpa using hi),aK1 (by rw[OK e];simpa using hi)]
  rfl
theorem Row.top {K:aJ}:Row enc gU (H ++ .row (xs.flatMap enc) gU p::K) H.length p xs:=Z2
end
end Go.PM
namespace Go.PM
section
variable {H L:aJ} {lo k o size:Nat} {agg:Bool} {u:Value}
end
end Go.PM
namespace Go.Proofs
open Go.Shelf
def Of:Go.Shelf.Ren:=⟨fun | 156=>217 | 165=>232 | 166=>233 | 169=>235 | 240=>245 | 241=>246 | 276=>253 | 277=>254 | n=>n,fun | 31=>33 | 9=>9 | 3=>3 | 4=>4 | 0=>0 | 20=>20 | 72=>262 | 76=>264 | 70=>260 | 37=>187 | 75=>220 | 127=>276 | 164=>285 | 5=>5 | 80=>227 | n=>n,fun | n=>n⟩
theorem XT:Go.Proofs.Lays.n156 Tryz.prog Of:={
 mixed:=by kernel_rfl
 f156:=Tryz.func217.trans (congrArg some (by kernel_rfl))
 f165:=Tryz.func232.trans (congrArg some (by kernel_rfl))
 f166:=Tryz.func233.trans (congrArg some (by kernel_rfl))
 f169:=Tryz.func235.trans (congrArg some (by kernel_rfl))
 f240:=Tryz.func245.trans (congrArg some (by kernel_rfl))
 f241:=Tryz.func246.trans (congrArg some (by kernel_rfl))
 f276:=Tryz.func253.trans (congrArg some (by kernel_rfl))
 f277:=Tryz.func254.trans (congrArg some (by kernel_rfl))
 t0:=Tryz.underlying0
 a0:=Tryz.isAgg0
 z0:=Tryz.sizeOf0
 v0:=Tryz.zeroValue0
 t3:=Tryz.underlying3
 a3:=Tryz.isAgg3
 z3:=Tryz.sizeOf3
 v3:=Tryz.zeroValue3
 t4:=Tryz.underlying4
 a4:=Tryz.isAgg4
 z4:=Tryz.sizeOf4
 v4:=Tryz.zeroValue4
 t9:=Tryz.underlying9
 a9:=Tryz.isAgg9
 z9:=Tryz.sizeOf9
 v9:=Tryz.zeroValue9
 t20:=Tryz.underlying20
 a20:=Tryz.isAgg20
 z20:=Tryz.sizeOf20
 v20:=Tryz.zeroValue20
 t31:=Tryz.underlying33
 a31:=Tryz.isAgg33
 z31:=Tryz.sizeOf33
 v31:=Tryz.zeroValue33
 t37:=Tryz.underlying187
 a37:=Tryz.isAgg187
 z37:=Tryz.sizeOf187
 v37:=Tryz.zeroValue187
 t70:=Tryz.underlying260
 a70:=Tryz.isAgg260
 z70:=Tryz.sizeOf260
 v70:=Tryz.zeroValue260
 t72:=Tryz.underlying262
 a72:=Tryz.isAgg262
 z72:=Tryz.sizeOf262
 v72:=Tryz.zeroValue262
 t75:=Tryz.underlying220
 a75:=Tryz.isAgg220
 z75:=Tryz.sizeOf220
 v75:=Tryz.zeroValue220
 t76:=Tryz.underlying264
 a76:=Tryz.isAgg264
 z76:=Tryz.sizeOf264
 v76:=Tryz.zeroValue264
 t127:=Tryz.underlying276
 a127:=Tryz.isAgg276
 z127:=Tryz.sizeOf276
 v127:=Tryz.zeroValue276
 t164:=Tryz.underlying285
 a164:=Tryz.isAgg285
 z164:=Tryz.sizeOf285
 v164:=Tryz.zeroValue285 }
theorem Tg:Builder.Extra Tryz.prog Of:={
 sizeBuilder:=by kernel_rfl
 liesBuilder:=by kernel_rfl
 t5:=Tryz.underlying5
 a5:=Tryz.isAgg5
 z5:=Tryz.sizeOf5
 v5:=Tryz.zeroValue5
 infoByte:=by kernel_rfl
 cellsByte:=by kernel_rfl
 sizeByte:=by kernel_rfl
 neB5:=by decide }
def XS:Go.Shelf.Ren:=⟨fun | 133=>198 | 128=>218 | n=>n,fun | 51=>206 | 3=>3 | 4=>4 | 46=>207 | 5=>5 | 9=>9 | n=>n,fun | n=>n⟩
theorem azN:Go.Proofs.Lays.n133 Tryz.prog XS:={
 mixed:=by kernel_rfl
 f128:=Tryz.func218.trans (congrArg some (by kernel_rfl))
 f133:=Tryz.func198.trans (congrArg some (by kernel_rfl))
 t3:=Tryz.underlying3
 a3:=Tryz.isAgg3
 z3:=Tryz.sizeOf3
 v3:=Tryz.zeroValue3
 t4:=Tryz.underlying4
 a4:=Tryz.isAgg4
 z4:=Tryz.sizeOf4
 v4:=Tryz.zeroValue4
 t5:=Tryz.underlying5
 a5:=Tryz.isAgg5
 z5:=Tryz.sizeOf5
 v5:=Tryz.zeroValue5
 t9:=Tryz.underlying9
 a9:=Tryz.isAgg9
 z9:=Tryz.sizeOf9
 v9:=Tryz.zeroValue9
 t46:=Tryz.underlying207
 a46:=Tryz.isAgg207
 z46:=Tryz.sizeOf207
 v46:=Tryz.zeroValue207
 t51:=Tryz.underlying206
 a51:=Tryz.isAgg206
 z51:=Tryz.sizeOf206
 v51:=Tryz.zeroValue206 }
def Xu:Go.Shelf.Ren:=⟨fun | 283=>241 | n=>n,fun | 3=>3 | 9=>9 | 4=>4 | n=>n,fun | n=>n⟩
theorem awE:Go.Proofs.Lays.n283 Tryz.prog Xu:={
 mixed:=by kernel_rfl
 f283:=Tryz.func241.trans (congrArg some (by kernel_rfl))
 t3:=Tryz.underlying3
 a3:=Tryz.isAgg3
 z3:=Tryz.sizeOf3
 v3:=Tryz.zeroValue3
 t4:=Tryz.underlying4
 a4:=Tryz.isAgg4
 z4:=Tryz.sizeOf4
 v4:=Tryz.zeroValue4
 t9:=Tryz.underlying9
 a9:=Tryz.isAgg9
 z9:=Tryz.sizeOf9
 v9:=Tryz.zeroValue9 }
def Y2:Go.Shelf.Ren:=⟨fun | 284=>242 | 129=>249 | 317=>248 | 318=>250 | n=>n,fun | 53=>171 | 3=>3 | 212=>281 | 0=>0 | 4=>4 | 46=>207 | 5=>5 | 9=>9 | n=>n,fun | 17=>3 | n=>n⟩
theorem axB:Go.Proofs.LaysM.n284 Tryz.prog Y2:={
 mixed:=by kernel_rfl
 f129:=Tryz.func249.trans (congrArg some (by kernel_rfl))
 f284:=Tryz.func242.trans (congrArg some (by kernel_rfl))
 f317:=Tryz.func248.trans (congrArg some (by kernel_rfl))
 f318:=Tryz.func250.trans (congrArg some (by kernel_rfl))
 t0:=Tryz.underlying0
 a0:=Tryz.isAgg0
 z0:=Tryz.sizeOf0
 v0:=Tryz.zeroValue0
 t3:=Tryz.underlying3
 a3:=Tryz.isAgg3
 z3:=Tryz.sizeOf3
 v3:=Tryz.zeroValue3
 t4:=Tryz.underlying4
 a4:=Tryz.isAgg4
 z4:=Tryz.sizeOf4
 v4:=Tryz.zeroValue4
 t5:=Tryz.underlying5
 a5:=Tryz.isAgg5
 z5:=Tryz.sizeOf5
 v5:=Tryz.zeroValue5
 t9:=Tryz.underlying9
 a9:=Tryz.isAgg9
 z9:=Tryz.sizeOf9
 v9:=Tryz.zeroValue9
 t46:=Tryz.underlying207
 a46:=Tryz.isAgg207
 z46:=Tryz.sizeOf207
 v46:=Tryz.zeroValue207
 t53:=Tryz.underlying171
 a53:=Tryz.isAgg171
 z53:=Tryz.sizeOf171
 v53:=Tryz.zeroValue171
 t212:=Tryz.underlying281
 a212:=Tryz.isAgg281
 z212:=Tryz.sizeOf281
 v212:=Tryz.zeroValue281
 g17:=by kernel_rfl
 i0:=by kernel_rfl
 i3:=by kernel_rfl
 i4:=by kernel_rfl
 i5:=by kernel_rfl
 i9:=by kernel_rfl
 i46:=by kernel_rfl
 i53:=by kernel_rfl
 i212:=by kernel_rfl
 m17:=by kernel_rfl }
def Yu:Go.Shelf.Ren:=⟨fun | 285=>243 | n=>n,fun | 37=>187 | 53=>171 | 3=>3 | 4=>4 | 51=>206 | 9=>9 | 5=>5 | 0=>0 | n=>n,fun | n=>n⟩
theorem azA:Go.Proofs.Lays.n285 Tryz.prog Yu:={
 mixed:=by kernel_rfl
 f285:=Tryz.func243.trans (congrArg some (by kernel_rfl))
 t0:=Tryz.underlying0
 a0:=Tryz.isAgg0
 z0:=Tryz.sizeOf0
 v0:=Tryz.zeroValue0
 t3:=Tryz.underlying3
 a3:=Tryz.isAgg3
 z3:=Tryz.sizeOf3
 v3:=Tryz.zeroValue3
 t4:=Tryz.underlying4
 a4:=Tryz.isAgg4
 z4:=Tryz.sizeOf4
 v4:=Tryz.zeroValue4
 t5:=Tryz.underlying5
 a5:=Tryz.isAgg5
 z5:=Tryz.sizeOf5
 v5:=Tryz.zeroValue5
 t9:=Tryz.underlying9
 a9:=Tryz.isAgg9
 z9:=Tryz.sizeOf9
 v9:=Tryz.zeroValue9
 t37:=Tryz.underlying187
 a37:=Tryz.isAgg187
 z37:=Tryz.sizeOf187
 v37:=Tryz.zeroValue187
 t51:=Tryz.underlying206
 a51:=Tryz.isAgg206
 z51:=Tryz.sizeOf206
 v51:=Tryz.zeroValue206
 t53:=Tryz.underlying171
 a53:=Tryz.isAgg171
 z53:=Tryz.sizeOf171
 v53:=Tryz.zeroValue171 }
def Ug:Go.Shelf.Ren:=⟨fun | 14=>192 | 16=>211 | 17=>212 | 19=>224 | 20=>225 | 21=>226 | 22=>227 | 23=>228 | 24=>229 | 25=>238 | 27=>240 | 26=>239 | 28=>247 | 29=>255 | 30=>241 | 31=>242 | 32=>243 | 33=>244 | 35=>249 | 34=>248 | 36=>250 | 37=>251 | 38=>252 | 39=>256 | 40=>257 | n=>n,fun | 9=>9 | 3=>3 | 22=>171 | 24=>220 | 25=>221 | 4=>4 | 34=>255 | 5=>5 | 36=>207 | 37=>187 | 0=>0 | 39=>257 | 21=>21 | 44=>269 | 47=>276 | 50=>279 | 48=>277 | 2=>2 | 52=>271 | 55=>274 | 59=>281 | 60=>206 | 20=>20 | 61=>282 | 65=>289 | 66=>290 | 67=>227 | n=>n,fun | 0=>1 | 1=>2 | 2=>3 | 3=>4 | 4=>5 | n=>n⟩
theorem atB:Go.Proofs.LaysPu.n14 Tryz.prog Ug:={
 mixed:=by kernel_rfl
 f14:=Tryz.func192.trans (congrArg some (by kernel_rfl))
 f16:=Tryz.func211.trans (congrArg some (by kernel_rfl))
 f17:=Tryz.func212.trans (congrArg some (by kernel_rfl))
 f19:=Tryz.func224.trans (congrArg some (by kernel_rfl))
 f20:=Tryz.func225.trans (congrArg some (by kernel_rfl))
 f21:=Tryz.func226.trans (congrArg some (by kernel_rfl))
 f22:=Tryz.func227.trans (congrArg some (by kernel_rfl))
 f23:=Tryz.func228.trans (congrArg some (by kernel_rfl))
 f24:=Tryz.func229.trans (congrArg some (by kernel_rfl))
 f25:=Tryz.func238.trans (congrArg some (by kernel_rfl))
 f26:=Tryz.func239.trans (congrArg some (by kernel_rfl))
 f27:=Tryz.func240.trans (congrArg some (by kernel_rfl))
 f28:=Tryz.func247.trans (congrArg some (by kernel_rfl))
 f29:=Tryz.func255.trans (congrArg some (by kernel_rfl))
 f30:=Tryz.func241.trans (congrArg some (by kernel_rfl))
 f31:=Tryz.func242.trans (congrArg some (by kernel_rfl))
 f32:=Tryz.func243.trans (congrArg some (by kernel_rfl))
 f33:=Tryz.func244.trans (congrArg some (by kernel_rfl))
 f34:=Tryz.func248.trans (congrArg some (by kernel_rfl))
 f35:=Tryz.func249.trans (congrArg some (by kernel_rfl))
 f36:=Tryz.func250.trans (congrArg some (by kernel_rfl))
 f37:=Tryz.func251.trans (congrArg some (by kernel_rfl))
 f38:=Tryz.func252.trans (congrArg some (by kernel_rfl))
 f39:=Tryz.func256.trans (congrArg some (by kernel_rfl))
 f40:=Tryz.func257.trans (congrArg some (by kernel_rfl))
 t0:=Tryz.underlying0
 a0:=Tryz.isAgg0
 z0:=Tryz.sizeOf0
 v0:=Tryz.zeroValue0
 i0:=by kernel_rfl
 t2:=Tryz.underlying2
 a2:=Tryz.isAgg2
 z2:=Tryz.sizeOf2
 v2:=Tryz.zeroValue2
 i2:=by kernel_rfl
 t3:=Tryz.underlying3
 a3:=Tryz.isAgg3
 z3:=Tryz.sizeOf3
 v3:=Tryz.zeroValue3
 i3:=by kernel_rfl
 t4:=Tryz.underlying4
 a4:=Tryz.isAgg4
 z4:=Tryz.sizeOf4
 v4:=Tryz.zeroValue4
 i4:=by kernel_rfl
 t5:=Tryz.underlying5
 a5:=Tryz.isAgg5
 z5:=Tryz.sizeOf5
 v5:=Tryz.zeroValue5
 i5:=by kernel_rfl
 t9:=Tryz.underlying9
 a9:=Tryz.isAgg9
 z9:=Tryz.sizeOf9
 v9:=Tryz.zeroValue9
 i9:=by kernel_rfl
 t20:=Tryz.underlying20
 a20:=Tryz.isAgg20
 z20:=Tryz.sizeOf20
 v20:=Tryz.zeroValue20
 i20:=by kernel_rfl
 t21:=Tryz.underlying21
 a21:=Tryz.isAgg21
 z21:=Tryz.sizeOf21
 v21:=Tryz.zeroValue21
 i21:=by kernel_rfl
 t22:=Tryz.underlying171
 a22:=Tryz.isAgg171
 z22:=Tryz.sizeOf171
 v22:=Tryz.zeroValue171
 i22:=by kernel_rfl
 t24:=Tryz.underlying220
 a24:=Tryz.isAgg220
 z24:=Tryz.sizeOf220
 v24:=Tryz.zeroValue220
 i24:=by kernel_rfl
 t25:=Tryz.underlying221
 a25:=Tryz.isAgg221
 z25:=Tryz.sizeOf221
 v25:=Tryz.zeroValue221
 i25:=by kernel_rfl
 t34:=Tryz.underlying255
 a34:=Tryz.isAgg255
 z34:=Tryz.sizeOf255
 v34:=Tryz.zeroValue255
 i34:=by kernel_rfl
 c34:=by kernel_rfl
 t36:=Tryz.underlying207
 a36:=Tryz.isAgg207
 z36:=Tryz.sizeOf207
 v36:=Tryz.zeroValue207
 i36:=by kernel_rfl
 t37:=Tryz.underlying187
 a37:=Tryz.isAgg187
 z37:=Tryz.sizeOf187
 v37:=Tryz.zeroValue187
 i37:=by kernel_rfl
 t39:=Tryz.underlying257
 a39:=Tryz.isAgg257
 z39:=Tryz.sizeOf257
 v39:=Tryz.zeroValue257
 i39:=by kernel_rfl
 t44:=Tryz.underlying269
 a44:=Tryz.isAgg269
 z44:=Tryz.sizeOf269
 v44:=Tryz.zeroValue269
 i44:=by kernel_rfl
 t47:=Tryz.underlying276
 a47:=Tryz.isAgg276
 z47:=Tryz.sizeOf276
 v47:=Tryz.zeroValue276
 i47:=by kernel_rfl
 t48:=Tryz.underlying277
 a48:=Tryz.isAgg277
 z48:=Tryz.sizeOf277
 v48:=Tryz.zeroValue277
 i48:=by kernel_rfl
 t50:=Tryz.underlying279
 a50:=Tryz.isAgg279
 z50:=Tryz.sizeOf279
 v50:=Tryz.zeroValue279
 i50:=by kernel_rfl
 t52:=Tryz.underlying271
 a52:=Tryz.isAgg271
 z52:=Tryz.sizeOf271
 v52:=Tryz.zeroValue271
 i52:=by kernel_rfl
 t55:=Tryz.underlying274
 a55:=Tryz.isAgg274
 z55:=Tryz.sizeOf274
 v55:=Tryz.zeroValue274
 i55:=by kernel_rfl
 t59:=Tryz.underlying281
 a59:=Tryz.isAgg281
 z59:=Tryz.sizeOf281
 v59:=Tryz.zeroValue281
 i59:=by kernel_rfl
 t60:=Tryz.underlying206
 a60:=Tryz.isAgg206
 z60:=Tryz.sizeOf206
 v60:=Tryz.zeroValue206
 i60:=by kernel_rfl
 t61:=Tryz.underlying282
 a61:=Tryz.isAgg282
 z61:=Tryz.sizeOf282
 t65:=Tryz.underlying289
 a65:=Tryz.isAgg289
 z65:=Tryz.sizeOf289
 v65:=Tryz.zeroValue289
 i65:=by kernel_rfl
 t66:=Tryz.underlying290
 a66:=Tryz.isAgg290
 z66:=Tryz.sizeOf290
 v66:=Tryz.zeroValue290
 i66:=by kernel_rfl
 t67:=Tryz.underlying227
 a67:=Tryz.isAgg227
 z67:=Tryz.sizeOf227
 v67:=Tryz.zeroValue227
 i67:=by kernel_rfl
 g0:=by kernel_rfl
 m0:=by kernel_rfl
 g1:=by kernel_rfl
 m1:=by kernel_rfl
 g2:=by kernel_rfl
 m2:=by kernel_rfl
 g3:=by kernel_rfl
 m3:=by kernel_rfl
 g4:=by kernel_rfl
 m4:=by kernel_rfl }
def XZ:Go.Shelf.Ren:=⟨fun | 219=>209 | 217=>220 | 225=>221 | 224=>222 | 267=>223 | 266=>236 | 314=>237 | n=>n,fun | 9=>9 | 3=>3 | 4=>4 | 5=>5 | 46=>207 | 146=>240 | 51=>206 | n=>n,fun | 1=>0 | n=>n⟩
theorem ayY:Go.Proofs.Lays.n219 Tryz.prog XZ:={
 mixed:=by kernel_rfl
 f217:=Tryz.func220.trans (congrArg some (by kernel_rfl))
 f219:=Tryz.func209.trans (congrArg some (by kernel_rfl))
 f224:=Tryz.func222.trans (congrArg some (by kernel_rfl))
 f225:=Tryz.func221.trans (congrArg some (by kernel_rfl))
 f266:=Tryz.func236.trans (congrArg some (by kernel_rfl))
 f267:=Tryz.func223.trans (congrArg some (by kernel_rfl))
 f314:=Tryz.func237.trans (congrArg some (by kernel_rfl))
 t3:=Tryz.underlying3
 a3:=Tryz.isAgg3
 z3:=Tryz.sizeOf3
 v3:=Tryz.zeroValue3
 t4:=Tryz.underlying4
 a4:=Tryz.isAgg4
 z4:=Tryz.sizeOf4
 v4:=Tryz.zeroValue4
 t5:=Tryz.underlying5
 a5:=Tryz.isAgg5
 z5:=Tryz.sizeOf5
 v5:=Tryz.zeroValue5
 t9:=Tryz.underlying9
 a9:=Tryz.isAgg9
 z9:=Tryz.sizeOf9
 v9:=Tryz.zeroValue9
 t46:=Tryz.underlying207
 a46:=Tryz.isAgg207
 z46:=Tryz.sizeOf207
 v46:=Tryz.zeroValue207
 t51:=Tryz.underlying206
 a51:=Tryz.isAgg206
 z51:=Tryz.sizeOf206
 v51:=Tryz.zeroValue206
 t146:=Tryz.underlying240
 a146:=Tryz.isAgg240
 z146:=Tryz.sizeOf240
 v146:=Tryz.zeroValue240
 g1:=by kernel_rfl }
def Py:Go.Shelf.Ren:=⟨fun | 105=>215 | 212=>187 | 99=>231 | 165=>232 | 166=>233 | 170=>234 | 169=>235 | 263=>206 | 264=>207 | 206=>210 | 240=>245 | 241=>246 | 276=>253 | 277=>254 | n=>n,fun | 9=>9 | 3=>3 | 4=>4 | 20=>20 | 0=>0 | 46=>207 | 109=>215 | 5=>5 | 72=>262 | 76=>264 | 51=>206 | 146=>240 | 53=>171 | 148=>242 | 70=>260 | 37=>187 | 75=>220 | 127=>276 | 164=>285 | 80=>227 | n=>n,fun | n=>n⟩
theorem ayE:Go.Proofs.Lays.n105 Tryz.prog Py:={
 mixed:=by kernel_rfl
 f99:=Tryz.func231.trans (congrArg some (by kernel_rfl))
 f105:=Tryz.func215.trans (congrArg some (by kernel_rfl))
 f165:=Tryz.func232.trans (congrArg some (by kernel_rfl))
 f166:=Tryz.func233.trans (congrArg some (by kernel_rfl))
 f169:=Tryz.func235.trans (congrArg some (by kernel_rfl))
 f170:=Tryz.func234.trans (congrArg some (by kernel_rfl))
 f206:=Tryz.func210.trans (congrArg some (by kernel_rfl))
 f212:=Tryz.func187.trans (congrArg some (by kernel_rfl))
 f240:=Tryz.func245.trans (congrArg some (by kernel_rfl))
 f241:=Tryz.func246.trans (congrArg some (by kernel_rfl))
 f263:=Tryz.func206.trans (congrArg some (by kernel_rfl))
 f264:=Tryz.func207.trans (congrArg some (by kernel_rfl))
 f276:=Tryz.func253.trans (congrArg some (by kernel_rfl))
 f277:=Tryz.func254.trans (congrArg some (by kernel_rfl))
 t0:=Tryz.underlying0
 a0:=Tryz.isAgg0
 z0:=Tryz.sizeOf0
 v0:=Tryz.zeroValue0
 t3:=Tryz.underlying3
 a3:=Tryz.isAgg3
 z3:=Tryz.sizeOf3
 v3:=Tryz.zeroValue3
 t4:=Tryz.underlying4
 a4:=Tryz.isAgg4
 z4:=Tryz.sizeOf4
 v4:=Tryz.zeroValue4
 t5:=Tryz.underlying5
 a5:=Tryz.isAgg5
 z5:=Tryz.sizeOf5
 v5:=Tryz.zeroValue5
 t9:=Tryz.underlying9
 a9:=Tryz.isAgg9
 z9:=Tryz.sizeOf9
 v9:=Tryz.zeroValue9
 t20:=Tryz.underlying20
 a20:=Tryz.isAgg20
 z20:=Tryz.sizeOf20
 v20:=Tryz.zeroValue20
 t37:=Tryz.underlying187
 a37:=Tryz.isAgg187
 z37:=Tryz.sizeOf187
 v37:=Tryz.zeroValue187
 t46:=Tryz.underlying207
 a46:=Tryz.isAgg207
 z46:=Tryz.sizeOf207
 v46:=Tryz.zeroValue207
 t51:=Tryz.underlying206
 a51:=Tryz.isAgg206
 z51:=Tryz.sizeOf206
 v51:=Tryz.zeroValue206
 t53:=Tryz.underlying171
 a53:=Tryz.isAgg171
 z53:=Tryz.sizeOf171
 v53:=Tryz.zeroValue171
 t70:=Tryz.underlying260
 a70:=Tryz.isAgg260
 z70:=Tryz.sizeOf260
 v70:=Tryz.zeroValue260
 t72:=Tryz.underlying262
 a72:=Tryz.isAgg262
 z72:=Tryz.sizeOf262
 v72:=Tryz.zeroValue262
 t75:=Tryz.underlying220
 a75:=Tryz.isAgg220
 z75:=Tryz.sizeOf220
 v75:=Tryz.zeroValue220
 t76:=Tryz.underlying264
 a76:=Tryz.isAgg264
 z76:=Tryz.sizeOf264
 v76:=Tryz.zeroValue264
 t109:=Tryz.underlying215
 a109:=Tryz.isAgg215
 z109:=Tryz.sizeOf215
 v109:=Tryz.zeroValue215
 t127:=Tryz.underlying276
 a127:=Tryz.isAgg276
 z127:=Tryz.sizeOf276
 v127:=Tryz.zeroValue276
 t146:=Tryz.underlying240
 a146:=Tryz.isAgg240
 z146:=Tryz.sizeOf240
 v146:=Tryz.zeroValue240
 t148:=Tryz.underlying242
 a148:=Tryz.isAgg242
 z148:=Tryz.sizeOf242
 v148:=Tryz.zeroValue242
 t164:=Tryz.underlying285
 a164:=Tryz.isAgg285
 z164:=Tryz.sizeOf285
 v164:=Tryz.zeroValue285 }
theorem asS:Builder.Extra Tryz.prog Py:={
 sizeBuilder:=by kernel_rfl
 liesBuilder:=by kernel_rfl
 t5:=Tryz.underlying5
 a5:=Tryz.isAgg5
 z5:=Tryz.sizeOf5
 v5:=Tryz.zeroValue5
 infoByte:=by kernel_rfl
 cellsByte:=by kernel_rfl
 sizeByte:=by kernel_rfl
 neB5:=by decide }
end Go.Proofs
namespace Go.Proofs
open Go.Shelf Go.RowKit Go.Sort Go.Lib
abbrev X1:UInt8→Value:=fun b=>Value.int .u8 (b.toNat:Int)
theorem acT (w:World) (T:TypeId) (nd:Nat) (hs:nd≤24):Holds X1 (w.alloc (.cells Lib.zeros24 T)) w.heap.size 0 (aLj nd (0:UInt8)):=fun j hj=>by
 have hj':j<nd:=by simpa using hj
 refine⟨?_,World.frozen?_alloc_new _ _ _ _⟩
 rw[World.cell?_alloc_new,Lib.zeros24_at _ (by omega),getElem!_pos _ j hj]
 simp
theorem DP (w:World) (o:Obj) (dk:Array UInt8) (k:Nat):Below w.heap.size w ((putRow X1 (w.alloc o) w.heap.size 0 dk).drewN k):=by
 rw[alloc_eq_grow]
 obtain⟨os',_,e⟩:=putRow_grow_new X1 w #[o] w.heap.size 0 dk (aKB _)
 rw[e]
 refine⟨rfl,rfl,rfl,by show w.heap.size≤(w.heap++os').size;simp,fun i hi => ?_⟩
 show (w.heap++os')[i]? = _
 rw[aLk hi]
set_option maxHeartbeats 6400000 in
set_option maxRecDepth 100000 in
theorem awD (u:Nat) (akJ:u<18446744073709551616) (w:World) (awZ:Lib.TabIs Tryz.prog w "internal/strconv.uint64pow10" .u64 Lib.pow10Tab) :
  Calls Tryz.prog 230 #[.int .u64 u,.int .i64 10] w fun e w'=>e = .returned (.string ⟨(Lib.decDigits u).toArray⟩)∧Below w.heap.size w w':=by
 by_cases hs:u<100
 ·go_enter Tryz.func230,Tryz.ntmps230
  go_wp2_with (go_at_call 241;refine(Any.internal_strconv_small awE u hs _).mono ?_;rintro e w' ⟨rfl,rfl⟩)
  go_ret
  exact⟨rfl,Below.refl _ _⟩
 ·have hu1:1≤u:=by omega
  have aGT:Lib.nDigits u≤20:=by have:=Lib.numDigits_eq u hu1 akJ;split at this<;>omega
  have hH0:=acT w 271 (Lib.nDigits u) (by omega)
  have aBv:=Any.internal_strconv_formatBase10 azA w.heap.size 0 24 u (aLj (Lib.nDigits u) 0) (w.alloc (.cells Lib.zeros24 271)) hH0 (by rw[aLs];exact Lib.lt_pow_nDigits u) akJ (by rw[aLs];omega)
  rw[aLs] at aBv
  have HH0:=Lib.hid hH0
  have hal:Tryz.prog.arrayLen 271=24:=by simp[Program.arrayLen,Tryz.underlying271]
  have Tv:∀W,(Instr.sliceAt 271 (.pointer (some ⟨w.heap.size,0,none⟩)) none (some (.int .i64 (Lib.nDigits u:Int))) none).run Tryz.prog W = .ok (.slice (some ⟨w.heap.size,0,none⟩) (Lib.nDigits u) 24) W:=fun W=>by
   rw[run_sliceAt_array_h W 271 ⟨w.heap.size,0,none⟩ (by simp[Program.arrayLen,Program.elem,Tryz.underlying271]) .i64 (Lib.nDigits u:Int) (by omega) (by rw[hal];omega)]
   go_simp
  clear hH0 hal
  go_enter Tryz.func230,Tryz.ntmps230
  go_wp2_with (first
   | (go_at_call 242;refine(Any.internal_strconv_numDigits axB u hu1 akJ _ (Lib.tabIs_alloc awZ _)).mono ?_;rintro e w' ⟨rfl,rfl⟩))
  go_at_call 243
  refine aBv.mono ?_
  rintro e w' ⟨rfl,k,v',dk,rfl,hF⟩
  have hcv:(convert 187 9 (.slice (some ⟨w.heap.size,0,none⟩) (Lib.nDigits u) 24)).run Tryz.prog ((putRow X1 (w.alloc (.cells Lib.zeros24 271)) w.heap.size 0 dk).drewN k) = .ok (.string ⟨(Lib.decDigits u).toArray⟩) ((putRow X1 (w.alloc (.cells Lib.zeros24 271)) w.heap.size 0 dk).drewN k):=by
   have h:=run_convert_bytes_back (P:=Tryz.prog) ((putRow X1 (w.alloc (.cells Lib.zeros24 271)) w.heap.size 0 dk).drewN k) 187 9 5 ⟨w.heap.size,0,none⟩ 24 (Lib.decDigits u) Tryz.underlying187 Tryz.underlying5 Tryz.underlying9 (fun j hj=>by
    rw[Lib.row_is_numeral hF j hj,Lib.add_plain,World.cell?_drewN]
    exact cell?_putRow X1 _ w.heap.size 0 _ dk HH0.out (by rw[hF.size,aLs]) j (by rw[hF.size];rw[Lib.decDigits_length] at hj;exact hj))
   rw[Lib.decDigits_length] at h
   exact h
  go_wp2
  go_ret
  exact⟨rfl,DP w _ dk k⟩
theorem aiC (u:Nat) (akJ:u<18446744073709551616) (w:World) (awZ:Lib.TabIs Tryz.prog w "internal/strconv.uint64pow10" .u64 Lib.pow10Tab) :
  Calls Tryz.prog 214 #[.int .u64 u,.int .i64 10] w fun e w'=>e = .returned (.string ⟨(Lib.decDigits u).toArray⟩)∧Below w.heap.size w w':=by
 go_enter Tryz.func214,Tryz.ntmps214
 go_wp2_with (go_at_call 230;refine(awD u akJ _ awZ).mono ?_;rintro e w' ⟨rfl,hb⟩)
 go_ret
 exact⟨rfl,hb⟩
end Go.Proofs
namespace Go.PM
open Go.Proofs Go.RowKit
theorem Below.DN {w w':World} (h:Below w.heap.size w w'):w.heap.size≤w'.heap.size∧(∀rb,rb<w.heap.size→w'.heap[rb]? = w.heap[rb]?)∧w'.os=w.os∧w'.output=w.output∧w'.tape=w.tape :=
 ⟨h.size,h.block,h.os,h.output,h.tape⟩
theorem DL {w:World}:w.heap.size≤w.heap.size∧(∀rb,rb<w.heap.size→w.heap[rb]? = w.heap[rb]?)∧w.os=w.os∧w.output=w.output∧w.tape=w.tape :=
 ⟨aKB _,fun _ _=>rfl,rfl,rfl,rfl⟩
def G6 (f:Nat) (p:List Value→aJ→Option Value):Prop :=
 Qd Tryz.prog f∧∀L0 args H v,p args H=some v→∀m w iX,Rel m L0 H w→RL m args iX →
  Calls Tryz.prog f iX.toArray w fun e w'=>∃rv,e = .returned rv∧RV m v rv∧w.heap.size≤w'.heap.size∧(∀rb,rb<w.heap.size→w'.heap[rb]? = w.heap[rb]?)∧w'.os=w.os∧w'.output=w.output∧w'.tape=w.tape
theorem RL.one {m:dO} {x:Value} {ys:List Value} (h:RL m [x] ys):∃y,ys=[y]∧RV m x y:=by
 match ys,h with
 | [y],h=>exact⟨y,rfl,h.lO.1⟩
 | [],h=>exact absurd h.1 (by simp)
 | _::_::_,h=>exact absurd h.1 (by simp)
theorem RL.two {m:dO} {x x':Value} {ys:List Value} (h:RL m [x,x'] ys):∃y y',ys=[y,y']∧RV m x y∧RV m x' y':=by
 match ys,h with
 | [y,y'],h=>exact⟨y,y',rfl,h.lO.1,h.lO.2.lO.1⟩
 | [],h=>exact absurd h.1 (by simp)
 | [_],h=>exact absurd h.1 (by simp)
 | _::_::_::_,h=>exact absurd h.1 (by simp)
theorem RL.three {m:dO} {x x' x'':Value} {ys:List Value} (h:RL m [x,x',x''] ys):∃y y' y'',ys=[y,y',y'']∧RV m x y∧RV m x' y'∧RV m x'' y'':=by
 match ys,h with
 | [y,y',y''],h=>exact⟨y,y',y'',rfl,h.lO.1,h.lO.2.lO.1,h.lO.2.lO.2.lO.1⟩
 | [],h=>exact absurd h.1 (by simp)
 | [_],h=>exact absurd h.1 (by simp)
 | [_,_],h=>exact absurd h.1 (by simp)
 | _::_::_::_::_,h=>exact absurd h.1 (by simp)
theorem H8 {m:dO}:∀ {cs rs:List Value} {xs:List ByteArray},strCells cs=some xs→RL m cs rs→rs=xs.map .string
 |
  [],rs,xs,h,hr=>by
  cases h
  match rs,hr with
  | [],_=>rfl
  | _::_,hr=>exact absurd hr.1 (by simp)
 |
  c::cs,rs,xs,h,hr=>by
  match rs,hr with
  | [],hr=>exact absurd hr.1 (by simp)
  |
   r::rs,hr =>
   obtain⟨h1,h2⟩:=hr.lO
   cases c with
   |
    string s =>
    rw[strCells] at h
    cases hc:strCells cs with
    | none=>rw[hc] at h;cases h
    |
     some ys =>
     rw[hc] at h
     cases h
     cases h1
     rw[H8 hc h2]
     rfl
   | _=>cases h
theorem Mg:G6 198 F4:=by
 refine⟨⟨_,Tryz.func198,by kernel_rfl,by kernel_rfl⟩,fun L0 args H v hp m w iX hR hr => ?_⟩
 unfold F4 at hp
 split at hp
 case h_2=>cases hp
 rename_i x
 split at hp
 case isFalse=>cases hp
 rename_i hx
 cases hp
 obtain⟨y,rfl,h1⟩:=hr.one
 cases h1
 refine(Any.bits_LeadingZeros32 azN x w hx.1 hx.2).mono ?_
 rintro e w' ⟨rfl,rfl⟩
 exact⟨_,rfl,.int _ _,DL⟩
theorem Ov:G6 215 Ji:=by
 refine⟨⟨_,Tryz.func215,by kernel_rfl,by kernel_rfl⟩,fun L0 args H v hp m w iX hR hr => ?_⟩
 unfold Ji at hp
 split at hp
 case h_2=>cases hp
 rename_i s c
 split at hp
 case isFalse=>cases hp
 rename_i hx
 cases hp
 obtain⟨y,y',rfl,h1,h2⟩:=hr.two
 cases h1
 cases h2
 obtain⟨k,rfl⟩:∃k:Nat,c=k:=⟨c.toNat,by omega⟩
 refine(Any.strings_Repeat ayE asS s k w (by omega) hx.2.2).mono ?_
 rintro e w' ⟨rfl,hb⟩
 exact⟨_,rfl,.str _,Below.DN hb⟩
theorem Uc:G6 217 Wu:=by
 refine⟨⟨_,Tryz.func217,by kernel_rfl,by kernel_rfl⟩,fun L0 args H v hp m w iX hR hr => ?_⟩
 unfold Wu at hp
 split at hp
 case h_3=>cases hp
 ·cases hp
  obtain⟨y,y',rfl,h1,h2⟩:=hr.two
  cases h1
  cases h2
  refine(Any.strings_Join_none XT Tg none 0 _ w).mono ?_
  rintro e w' ⟨rfl,rfl⟩
  exact⟨_,rfl,.str _,DL⟩
 ·rename_i b o n c sep
  obtain⟨y,y',rfl,h1,h2⟩:=hr.two
  cases h2
  cases h1 with
  |
   slice _ _ _ _ l ra rc h hn hc hx ha =>
   split at hp
   ·rename_i hn0
    subst hn0
    cases hp
    refine(Any.strings_Join_none XT Tg (some ra) rc _ w).mono ?_
    rintro e w' ⟨rfl,rfl⟩
    exact⟨_,rfl,.str _,DL⟩
   ·rename_i hn0
    split at hp
    case h_2=>cases hp
    rename_i xs Na
    split at hp
    case isFalse=>cases hp
    rename_i Vd
    cases hp
    obtain⟨cs,HA,P4⟩:=Option.bind_eq_some_iff.1 Na
    obtain⟨rs,r1,r2,_,r4⟩:=Bw hR h HA
    have hrs:=H8 P4 r1
    subst hrs
    rcases ha with ha | ⟨rfl,ha⟩
    ·omega
    obtain⟨arr,e0,fz0,v1,_⟩:=hR.valid b l h
    have Fa:l.rb<w.heap.size:=(aKK.1 v1).1
    obtain⟨c1,c2,c3,c4⟩:=Vd
    subst c1
    refine(Any.strings_Join XT Tg l.rb (l.base+o) rc xs sep w (fun j x hj => ?_) Fa c3 (by omega) c4).mono ?_
    ·have:=r4 j (.string x) (by simp[hj])
     rw[Addr.add_lit] at this
     exact this
    ·rintro e w' ⟨rfl,hb⟩
     exact⟨_,rfl,.str _,Below.DN hb⟩
theorem Yf {m:dO} {L0:Nat} {H:aJ} {w:World} (hR:Rel m L0 H w):Lib.TabIs Tryz.prog w "internal/strconv.uint64pow10" .u64 Lib.pow10Tab:=by
 obtain⟨e,fz,h⟩:=(hR.FX (3,(Lib.pow10Tab.map fun z=>Value.int .u64 z).toArray) (by simp[arM])).1
 have hg:Tryz.prog.globalNamed "internal/strconv.uint64pow10"=some 3:=by kernel_rfl
 unfold Lib.TabIs World.var?
 rw[hg]
 simp only[Option.bind_some,h]
theorem Vz:G6 214 zK:=by
 refine⟨⟨_,Tryz.func214,by kernel_rfl,by kernel_rfl⟩,fun L0 args H v hp m w iX hR hr => ?_⟩
 unfold zK at hp
 split at hp
 case h_2=>cases hp
 rename_i n b
 split at hp
 case isFalse=>cases hp
 rename_i hx
 cases hp
 obtain⟨y,y',rfl,h1,h2⟩:=hr.two
 cases h1
 cases h2
 obtain⟨rfl,h0,h1⟩:=hx
 obtain⟨u,rfl⟩:∃u:Nat,n=u:=⟨n.toNat,by omega⟩
 refine(aiC u (by omega) w (Yf hR)).mono ?_
 rintro e w' ⟨rfl,hb⟩
 exact⟨_,rfl,.str _,Below.DN hb⟩
theorem Rz:G6 209 Td:=by
 refine⟨⟨_,Tryz.func209,by kernel_rfl,by kernel_rfl⟩,fun L0 args H v hp m w iX hR hr => ?_⟩
 unfold Td at hp
 split at hp
 case h_2=>cases hp
 rename_i s p
 split at hp
 case h_2=>cases hp
 rename_i c hc
 cases hp
 obtain⟨y,y',rfl,h1,h2⟩:=hr.two
 cases h1
 cases h2
 have hp:p=⟨#[c]⟩:=by
  obtain⟨a⟩:=p
  obtain⟨l⟩:=a
  have:l=[c]:=hc
  rw[this]
 subst hp
 refine(Any.stringslite_Index_one ayY s c w).mono ?_
 rintro e w' ⟨rfl,rfl⟩
 exact⟨_,rfl,.int _ _,DL⟩
theorem Q1:G6 192 BK:=by
 refine⟨⟨_,Tryz.func192,by kernel_rfl,by kernel_rfl⟩,fun L0 args H v hp m w iX hR hr => ?_⟩
 unfold BK at hp
 split at hp
 case h_2=>cases hp
 rename_i s b z
 split at hp
 case isFalse=>cases hp
 rename_i hx
 obtain⟨rfl,rfl,hs⟩:=hx
 split at hp
 case h_2=>cases hp
 rename_i u hu
 cases hp
 obtain⟨y,y',y'',rfl,h1,h2,h3⟩:=hr.three
 cases h1
 cases h2
 cases h3
 refine(Any.strconv_ParseUint_10_at64_ok atB s hs u hu w).mono ?_
 have hv:∀m,RV m (.tuple #[.int .u64 (u:Int),.nilIface]) (.tuple #[.int .u64 (u:Int),.nilIface]):=fun m => .tuple _ _ rfl fun i hi=>by
  match i,hi with
  | 0,_=>exact .int _ _
  | 1,_=>exact .nilIface
  | n+2,hi=>exact absurd hi (by simp)
 rintro e w' ⟨rfl,rfl | rfl⟩
 ·exact⟨_,rfl,hv m,DL⟩
 ·exact⟨_,rfl,hv m,Below.DN (Lib.bytesWorld_below _ _ _)⟩
theorem axY {L0:Nat}:ahL Tryz.prog cfg L0:=by
 intro f p hp
 have BY:MN f=some p:=hp
 unfold MN at BY
 split at BY
 ·rename_i h;subst h;cases BY;exact⟨Vz.1,Vz.2 L0⟩
 split at BY
 ·rename_i h;subst h;cases BY;exact⟨Ov.1,Ov.2 L0⟩
 split at BY
 ·rename_i h;subst h;cases BY;exact⟨Uc.1,Uc.2 L0⟩
 split at BY
 ·rename_i h;subst h;cases BY;exact⟨Mg.1,Mg.2 L0⟩
 split at BY
 ·rename_i h;subst h;cases BY;exact⟨Rz.1,Rz.2 L0⟩
 split at BY
 ·rename_i h;subst h;cases BY;exact⟨Q1.1,Q1.2 L0⟩
 cases BY
end Go.PM
namespace Go.PM
open Go.ChangeShapes Go.WideShapes Go.ChangeAt Go.RowKit
open Go.Proofs
structure In (m:dO) (H:aJ) (W:World):Prop where
 dom:∀b l,m b=some l→b<H.length
 valid:∀b l,m b=some l→∃arr e fz,W.heap[l.rb]? = some (.cells arr e fz)∧arr.size=l.St
 row:∀b l cs e p,m b=some l→H[b]? = some (.row cs e p)→l.gU=e∧l.Uy=p∧l.base+cs.length≤l.St ∧
  ∀i,i<cs.length→∃rv,W.cell? ⟨l.rb,l.base+i,none⟩=some rv∧RV m (cs.getD i Go.undef) rv∧PM.iQ (cs.getD i Go.undef)=true
section
variable {m:dO} {H:aJ} {W:World}
theorem In.empty:In (fun _=>none) [] W:=⟨fun _ _ h=>(by cases h),fun _ _ h=>(by cases h),fun _ _ _ _ _ h=>(by cases h)⟩
theorem In.rel (h:In m H W) (hg:SA W):Rel m H.length H W :=
 ⟨fun b l hb=>by
  obtain⟨arr,e,fz,h1,h2⟩:=h.valid b l hb
  exact⟨arr,e,fz,h1,h2,fun hl=>by have:=h.dom b l hb;omega⟩,h.row,fun b1 b2 l1 l2 hl h1 _ _ _ _=>by have:=h.dom b1 l1 h1;omega,fun x hx=>⟨hg x hx,fun b l hb hm _=>by have:=h.dom b l hm;omega⟩⟩
theorem In.VC (h:In m H W) {b:Nat} (hb:H.length≤b):m b=none:=by
 cases hm:m b with
 | none=>rfl
 | some l=>have:=h.dom b l hm;omega
theorem In.add (h:In m H W) {rb base gU:Nat} {arr:Array Value} {e:TypeId} {fz:Nat×Nat} {cs:List Value} (hb:W.heap[rb]? = some (.cells arr e fz)) (xG:base+cs.length≤arr.size)
  (hc:∀i,i<cs.length→∃rv,W.cell? ⟨rb,base+i,none⟩=some rv∧RV (yT m H.length ⟨rb,base,gU,arr.size,false⟩) (cs.getD i Go.undef) rv∧PM.iQ (cs.getD i Go.undef)=true) :
  In (yT m H.length ⟨rb,base,gU,arr.size,false⟩) (H++[.row cs gU false]) W:=by
 have hn:=h.VC (aKB H.length)
 refine⟨fun b l zE => ?_,fun b l zE => ?_,fun b l ds e' p zE lT => ?_⟩
 ·by_cases he:b=H.length
  ·subst he;simp
  ·rw[dA he] at zE
   have:=h.dom b l zE
   simp;omega
 ·by_cases he:b=H.length
  ·subst he
   rw[cD] at zE
   cases zE
   exact⟨arr,e,fz,hb,rfl⟩
  ·rw[dA he] at zE
   exact h.valid b l zE
 ·by_cases he:b=H.length
  ·subst he
   rw[cD] at zE
   cases zE
   rw[Z2] at lT
   cases lT
   exact⟨rfl,rfl,xG,hc⟩
  ·rw[dA he] at zE
   have bI:=h.dom b l zE
   rw[TQ bI] at lT
   obtain⟨h1,h2,h3,h4⟩:=h.row b l ds e' p zE lT
   refine⟨h1,h2,h3,fun i hi => ?_⟩
   obtain⟨rv,g1,g2,g3⟩:=h4 i hi
   exact⟨rv,g1,g2.mono (yJ hn),g3⟩
end
theorem Z4 {α:Type} (p:Nat→α→Prop):∀c,(∀i,i<c→∃x,p i x)→∃xs:List α,xs.length=c∧∀i x,xs[i]? = some x→p i x
 | 0,_=>⟨[],rfl,fun i x hx=>by simp at hx⟩
 |
  c+1,h=>by
  obtain⟨xs,h1,h2⟩:=Z4 p c fun i hi=>h i (by omega)
  obtain⟨x,h3⟩:=h c (by omega)
  refine⟨xs++[x],by simp[h1],fun i y hy => ?_⟩
  rcases aKE i xs.length with hi | hi
  ·rw[aKS hi] at hy
   exact h2 i y hy
  ·rw[aKT hi] at hy
   have hi0:i-xs.length=0:=by
    rcases Nat.eq_zero_or_pos (i-xs.length) with h | h
    ·exact h
    ·rw[aK1 (by simp;omega)] at hy;cases hy
   rw[hi0] at hy
   cases hy
   have:i=c:=by omega
   subst this
   exact h3
theorem ahF {f:Nat} {args iX:List Value} {H H':aJ} {v:Value} {m:dO} {W:World} (hI:In m H W) (hr:RL m args iX) (h:uO f args H.length H=some (v,H')) (hg:SA W:=by first | assumption | exact fun x hx=>nomatch hx) :
  Calls Tryz.prog f iX.toArray W fun e W'=>∃m' rv,e = .returned rv∧RV m' v rv∧Below W.heap.size W W':=by
 obtain⟨n,hn⟩:=(zM cfg fT).1 h
 refine(KB Tryz.checked.mixed axY axV n f args H.length H v H' hn m W iX (hI.rel hg) (aKB _) (aKB _) hr (fun b hb _=>hI.VC hb)).2.mono ?_
 rintro e W' ⟨m',rv,rfl,h1,_,h3⟩
 refine⟨m',rv,rfl,h1,⟨h3.same.1,h3.same.2.2,h3.same.2.1,h3.size,fun k hk=>h3.dB k hk fun b l hb hm _ => ?_⟩⟩
 rw[hI.VC hb] at hm
 cases hm
end Go.PM
namespace Go.PM
def Xq (c:lS):Prop:=(0≤c.t∧c.t≤10000)∧(1≤c.w∧c.w≤1000)∧(0≤c.k∧c.k≤9)
instance (c:lS):Decidable (Xq c):=by unfold Xq;infer_instance
def azO (cs:List lS) (i:Nat) (c:lS):Prop:=Xq c∧∀b,0<i→cs[i-1]? = some b→b.t≤c.t
def oR (cs:List lS):Prop:=(∀i c,cs[i]? = some c→azO cs i c)∧cs.length≤24
noncomputable instance (cs:List lS):Decidable (oR cs):=Classical.propDecidable _
theorem oR.at {cs:List lS} (h:oR cs) {i:Nat} {c:lS} (hc:cs[i]? = some c):(0≤c.t∧c.t≤10000)∧(1≤c.w∧c.w≤1000)∧(0≤c.k∧c.k≤9):=(h.1 i c hc).1
def wl (time:Int):List lS→Int→Int→Int
 | [],l,s=>max (l-(time-s)) 0
 | c::cs,l,s=>if time<c.t then max (l-(time-s)) 0 else wl time cs (max (l-(c.t-s)) 0+c.w) c.t
def aE7 (cs:List lS) (time:Int):Prop:=oR cs∧(0≤time∧time≤1000000000)
noncomputable instance (cs:List lS) (time:Int):Decidable (aE7 cs time):=Classical.propDecidable _
def aCm (cs:List lS) (ls:List Int):Prop:=oR cs∧ls.length=cs.length∧∀x∈ls,0≤x∧x≤1000000000
noncomputable instance (cs:List lS) (ls:List Int):Decidable (aCm cs ls):=Classical.propDecidable _
def aBh (cs:List lS) (ls:List Int) (time:Int):Prop:=aCm cs ls∧(0≤time∧time≤1000000000)
noncomputable instance (cs:List lS) (ls:List Int) (time:Int):Decidable (aBh cs ls time):=Classical.propDecidable _
def aDz (cs:List lS) (ps:List Int):Prop:=oR cs∧ps.length=cs.length∧∀x∈ps,0≤x∧x≤10000
noncomputable instance (cs:List lS) (ps:List Int):Decidable (aDz cs ps):=Classical.propDecidable _
end Go.PM
namespace Go.Proofs.YtjmflicajplclaaGreatDoor
open Go.ChangeShapes Go.WideShapes Go.ChangeAt Go.RowKit Go.PM
theorem own:ownKnob Tryz.prog.godebug=none:=by kernel_rfl
theorem laidOut:laidOutB Tryz.prog=true:=by kernel_rfl
theorem three {α:Type} {l:List α} (h:l.length=3):∃a b c,l=[a,b,c]:=by
 rcases l with _ | ⟨a,_ | ⟨b,_ | ⟨c,_ | ⟨d,l⟩⟩⟩⟩
 ·cases h
 ·cases h
 ·cases h
 ·exact⟨a,b,c,rfl⟩
 ·simp at h
end Go.Proofs.YtjmflicajplclaaGreatDoor
namespace Go.PM
def FH:List Nat:=[]
 ++ [34]
 ++ [36]
 ++ [37]
 ++ [17]
 ++ [20]
 ++ [21]
 ++ [26]
 ++ [28]
 ++ [29]
 ++ [22]
 ++ [46]
 ++ [48]
 ++ [18]
 ++ [16]
 ++ [27]
 ++ [25]
 ++ [41]
 ++ [40]
 ++ [43]
 ++ [42]
 ++ [31]
 ++ [30]
 ++ [39]
 ++ [38]
 ++ [35]
 ++ [33]
 ++ [182]
 ++ [199]
 ++ [200]
 ++ [204]
 ++ [205]
 ++ [162]
 ++ [216]
 ++ [147]
 ++ [181]
 ++ [71]
 ++ [138]
 ++ [61]
 ++ [99]
 ++ [76]
 ++ [133]
 ++ [149]
 ++ [94]
 ++ [95]
 ++ [90]
 ++ [118]
 ++ [134]
 ++ [179]
 ++ [103]
 ++ [119]
 ++ [72]
 ++ [62]
 ++ [78]
 ++ [120]
 ++ [121]
 ++ [113]
 ++ [114]
 ++ [122]
 ++ [70]
 ++ [60]
end Go.PM