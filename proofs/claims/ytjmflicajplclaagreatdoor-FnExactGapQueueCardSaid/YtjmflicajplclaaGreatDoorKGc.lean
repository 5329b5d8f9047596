/- Texts of a claim, in one: part 3. -/
import Derived.Lib.ItoaNum
import Derived.Lib.Join
import Derived.Lib.BitFns
import Derived.Lib.Repeat
import Derived.Lib.Bytealg
import Derived.Lib.ParseIntB
import Derived.Test.YtjmflicajplclaaGreatDoorChecked
import Derived.Laws.BitsLemmas
import Derived.Shelf.Strings.OnBuilder
import Derived.Shelf.Strings.Repeat
import Derived.Shelf.Small.Bits
import Derived.Shelf.Strconv.Itoa1
import Derived.Shelf.Strconv.Itoa2
import Derived.Shelf.LaysM
import Derived.Shelf.Strings.Search2
import Derived.Shelf.Pu.ParseUintPublic10
import Derived.KernelRfl
import Derived.Test.YtjmflicajplclaaGreatDoorProg
import Derived.Lib.Walk
import Derived.Lib.ItoaMem
import Derived.WalkKit
import Derived.BigCall
import Derived.BigGuard
import Derived.Below
import Derived.Shelf.Strings.Search2
import Derived.Shelf.Pu.ParseUintPublic10
import Derived.Shelf.Strings.OnBuilder
import Derived.Shelf.Strings.Repeat
import Derived.Shelf.Small.Bits
import Derived.ProofKit
import Derived.OpenShut
import Derived.ShutString
import Derived.ChangeOld
import Derived.Carry
import Derived.SizedLaws
import Derived.Test.YtjmflicajplclaaGreatDoorRows
import Derived.Test.YtjmflicajplclaaGreatDoorKGb
set_option linter.unusedSimpArgs false
set_option linter.unusedVariables false
namespace Go.PM
def apR:Ex→Exit
 | .normal => .normal
 | .exit id => .exit id
 | .ret => .ret
section
variable {P:Program} {E:AF} {n:Nat} {call:fV} {lo L0:Nat}
def Pd (P:Program) (n lo L0:Nat) (c:Code) (run:Env→aE→Option (Ex×Env×aE)):Prop :=
 ∀ρ H x bC H',run ρ H=some (x,bC,H')→∀m a w,Ie n L0 m ρ H a w→L0≤H.length→(∀b,H.length≤b→b<H'.length→m b=none) →
  ∀Q:Exit→Act→World→Prop,(∀m' a' w',Ie n L0 m' bC H' a' w'→Trans lo m H w m' H' w'→Q (apR x) a' w')→c.wp P Q a w
theorem Z0 {c:Code} {run:Env→aE→Option (Ex×Env×aE)} (hc:Pd P n lo L0 c run) (he:∀ρ H x bC H',run ρ H=some (x,bC,H')→Ext lo H H') (N:Nat):Pd P n lo L0 (.loop c) (wW run N):=by
 intro ρ H x bC H' hr m a w h hl hf Q hQ
 apply wp_loop_rounds N
 have key:∀N ρ H,wW run N ρ H=some (x,bC,H')→∀m a w,Ie n L0 m ρ H a w→L0≤H.length→(∀b,H.length≤b→b<H'.length→m b=none) →
   (∀m' a' w',Ie n L0 m' bC H' a' w'→Trans lo m H w m' H' w'→Q (apR x) a' w')→Code.rounds P c Q N a w:=by
  intro N
  induction N with
  | zero=>intro ρ H h;cases h
  |
   succ N ih =>
   intro ρ H hr m a w h hl hf hQ
   rw[rounds_succ]
   rw[wW] at hr
   split at hr
   ·rename_i wB H1 h1
    have e1:=he _ _ _ _ _ h1
    have e2:=HQ he N hr
    refine hc ρ H _ wB H1 h1 m a w h hl (fun b Ee hb2=>hf b Ee (Nat.lt_of_lt_of_le hb2 e2.len)) _ fun m1 a1 w1 hh hT => ?_
    exact ih wB H1 hr m1 a1 w1 hh (Nat.le_trans hl e1.len) (hT.fresh e1.len hf) fun m2 a2 w2 h2 hT2=>hQ m2 a2 w2 h2 (Trans.trans hf e1 e2 hT hT2)
   ·rename_i fC
    refine hc ρ H _ bC H' hr m a w h hl hf _ fun m1 a1 w1 hh hT => ?_
    have:=hQ m1 a1 w1 hh hT
    cases x with
    | normal=>exact absurd hr (fC bC H')
    | exit id=>exact this
    | ret=>exact this
 exact key N ρ H hr m a w h hl hf hQ
theorem oB (Dw:P.follows .mixedOrders=true) (mZ:wC P L0 call) (qJ:qX call) (eQ:L0≤lo) (N:Nat):∀(c:Code) (pc:aD),gX P E n c=some pc→Pd P n lo L0 c (dI call lo N pc)
 |
  .skip,pc,hp=>by
  cases hp
  intro ρ H x bC H' hr m a w h hl hf Q hQ
  cases hr
  exact wp_skip (hQ m a w h (Trans.refl _ _ _ _))
 |
  .region id ops draw,pc,hp=>by
  rw[gX] at hp
  cases hpr:xL P E n ops draw with
  | none=>rw[hpr] at hp;cases hp
  |
   some sP =>
   rw[hpr] at hp
   cases hp
   intro ρ H x bC H' hr m a w h hl hf Q hQ
   rw[dI] at hr
   cases hs:gM call lo sP ρ H with
   | none=>rw[hs] at hr;cases hr
   |
    some q =>
    obtain⟨wB,H1⟩:=q
    rw[hs] at hr
    cases hr
    exact Tj Dw mZ qJ hpr hs h eQ hl hf hQ
 |
  .seq x y,pc,hp=>by
  rw[gX] at hp
  split at hp
  ·rename_i px py UM hpy
   cases hp
   intro ρ H e bC H' hr m a w h hl hf Q hQ
   rw[dI] at hr
   apply wp_seq
   split at hr
   ·rename_i wB H1 h1
    have e1:=iX qJ px h1
    have e2:=iX qJ py hr
    refine oB Dw mZ qJ eQ N x px UM ρ H _ wB H1 h1 m a w h hl (fun b Ee hb2=>hf b Ee (Nat.lt_of_lt_of_le hb2 e2.len)) _ fun m1 a1 w1 hh hT => ?_
    exact oB Dw mZ qJ eQ N y py hpy wB H1 _ bC H' hr m1 a1 w1 hh (Nat.le_trans hl e1.len) (hT.fresh e1.len hf) Q fun m2 a2 w2 h2 hT2=>hQ m2 a2 w2 h2 (Trans.trans hf e1 e2 hT hT2)
   ·rename_i fC
    refine oB Dw mZ qJ eQ N x px UM ρ H _ bC H' hr m a w h hl hf _ fun m1 a1 w1 hh hT => ?_
    have:=hQ m1 a1 w1 hh hT
    cases e with
    | normal=>exact absurd hr (fC bC H')
    | exit id=>exact this
    | ret=>exact this
  ·cases hp
 |
  .cond o x y,pc,hp=>by
  rw[gX] at hp
  split at hp
  ·rename_i Dx
   split at hp
   ·rename_i px py UM hpy
    cases hp
    intro ρ H e bC H' hr m a w h hl hf Q hQ
    rw[dI] at hr
    split at hr
    ·rename_i t ht
     have UB:=TV (a:=a) (m:=m) (ρ:=ρ) Dx fun t _=>h.env t
     rw[ht] at UB
     generalize hev:a.eval o=ro at UB
     cases UB
     refine wp_cond hev ?_
     cases t with
     | true=>exact oB Dw mZ qJ eQ N x px UM ρ H _ bC H' hr m a w h hl hf Q hQ
     | false=>exact oB Dw mZ qJ eQ N y py hpy ρ H _ bC H' hr m a w h hl hf Q hQ
    ·cases hr
   ·cases hp
  ·cases hp
 |
  .block id x,pc,hp=>by
  rw[gX] at hp
  cases UM:gX P E n x with
  | none=>rw[UM] at hp;cases hp
  |
   some px =>
   rw[UM] at hp
   cases hp
   intro ρ H e bC H' hr m a w h hl hf Q hQ
   rw[dI] at hr
   apply wp_block
   split at hr
   ·rename_i QA wB H1 h1
    split at hr
    ·rename_i hid
     cases hr
     refine oB Dw mZ qJ eQ N x px UM ρ H _ bC H' h1 m a w h hl hf _ fun m1 a1 w1 hh hT => ?_
     have:=hQ m1 a1 w1 hh hT
     show Exit.inBlock id Q (.exit QA) a1 w1
     simp only[Exit.inBlock,if_pos hid]
     exact this
    ·rename_i hid
     cases hr
     refine oB Dw mZ qJ eQ N x px UM ρ H _ bC H' h1 m a w h hl hf _ fun m1 a1 w1 hh hT => ?_
     have:=hQ m1 a1 w1 hh hT
     show Exit.inBlock id Q (.exit QA) a1 w1
     simp only[Exit.inBlock,if_neg hid]
     exact this
   ·rename_i fC
    refine oB Dw mZ qJ eQ N x px UM ρ H _ bC H' hr m a w h hl hf _ fun m1 a1 w1 hh hT => ?_
    have:=hQ m1 a1 w1 hh hT
    cases e with
    | normal=>exact this
    | exit QA=>exact absurd hr (fC QA bC H')
    | ret=>exact this
 |
  .loop x,pc,hp=>by
  rw[gX] at hp
  cases UM:gX P E n x with
  | none=>rw[UM] at hp;cases hp
  |
   some px =>
   rw[UM] at hp
   cases hp
   have hx:=oB Dw mZ qJ eQ N x px UM
   intro ρ H e bC H' hr
   rw[dI] at hr
   exact Z0 hx (fun ρ H x bC H' h=>iX qJ px h) N ρ H e bC H' hr
 |
  .exit id,pc,hp=>by
  cases hp
  intro ρ H x bC H' hr m a w h hl hf Q hQ
  cases hr
  exact wp_exit (hQ m a w h (Trans.refl _ _ _ _))
 |
  .ret,pc,hp=>by
  cases hp
  intro ρ H x bC H' hr m a w h hl hf Q hQ
  cases hr
  exact wp_ret (hQ m a w h (Trans.refl _ _ _ _))
 | .rangeFunc ..,pc,hp=>by cases hp
 | .scope _,pc,hp=>by cases hp
 | .label _,pc,hp=>by cases hp
 | .goto _,pc,hp=>by cases hp
 | .refuse _,pc,hp=>by cases hp
def zF (P:Program):ResultVar→Option AS
 | .tmp t=>some (.tmp t)
 | .cell t ty=>(lM P ty).map fun(agg,size,_,_) => .cell t agg size
def Ly (a:Act):ResultVar→Sem Value
 | .tmp t=>pure (a.tmps.getD t undef)
 | .cell x t=>do loadVar t (←asAddr (a.tmps.getD x undef))
theorem awR {m:dE} {ρ:Env} {H:aE} {a:Act} {w:World} (h:Ie n L0 m ρ H a w) {r:ResultVar} {pr:AS} (hp:zF P r=some pr) {v:Value} (hv:V7 ρ H pr=some v) :
  ∃rv,RV m v rv∧(Ly a r).run P w = .ok rv w:=by
 cases r with
 |
  tmp t =>
  cases hp
  cases hv
  exact⟨_,h.env t,rfl⟩
 |
  cell x t =>
  simp only[zF] at hp
  cases ht:lM P t with
  | none=>rw[ht] at hp;cases hp
  |
   some q =>
   obtain⟨agg,size,z,nb⟩:=q
   rw[ht] at hp
   cases hp
   obtain⟨rv,h1,h2⟩:=NR ht hv h.rel (h.env x)
   refine⟨rv,h1,?_⟩
   unfold Ly
   have hpv:=h.env x
   simp only[V7,nK] at hv
   split at hv
   ·rename_i b o hb
    rw[hb] at hpv
    show (do loadVar t (←asAddr (a.tmps.getD x undef)):Sem Value).run P w=_
    generalize a.tmps.getD x undef=rp at h2 hpv ⊢
    cases hpv
    exact h2
   ·cases hv
theorem abX {m:dE} {ρ:Env} {H:aE} {a:Act} {w:World} (h:Ie n L0 m ρ H a w):∀ {rs:List ResultVar} {prs:List AS} {vs:List Value},rs.mapM (zF P)=some prs→Bd ρ H prs=some vs →
  ∃Yt,RL m vs Yt∧(rs.mapM (Ly a)).run P w = .ok Yt w
 |
  [],prs,vs,hp,hv=>by
  simp at hp
  subst hp
  cases hv
  exact⟨[],RL.nil m,rfl⟩
 |
  r::rs,prs,vs,hp,hv=>by
  simp only[List.mapM_cons,Option.pure_def,Option.bind_eq_bind] at hp
  cases h1:zF P r with
  | none=>rw[h1] at hp;cases hp
  |
   some pr =>
   rw[h1] at hp
   cases h2:rs.mapM (zF P) with
   | none=>rw[h2] at hp;cases hp
   |
    some aBo =>
    rw[h2] at hp
    cases hp
    simp only[Bd] at hv
    split at hv
    ·rename_i v vs' hv1 hv2
     cases hv
     obtain⟨rv,g1,g2⟩:=awR h h1 hv1
     obtain⟨Yt,g3,g4⟩:=abX h h2 hv2
     refine⟨rv::Yt,RL.cons g1 g3,?_⟩
     rw[List.mapM_cons,Sem.run_bind,g2,Result.andThen_ok,Sem.run_bind,g4]
     rfl
    ·cases hv
theorem IA {m:dE} {ρ:Env} {H:aE} {a:Act} {w:World} (h:Ie n L0 m ρ H a w) {fn:Func} {prs:List AS} (hp:fn.results.toList.mapM (zF P)=some prs) {v:Value} (hv:qA prs ρ H=some v) :
  ∃rv,RV m v rv∧(results fn a.tmps).run P w = .ok rv w:=by
 unfold qA at hv
 cases lF:Bd ρ H prs with
 | none=>rw[lF] at hv;cases hv
 |
  some vs =>
  obtain⟨Yt,h1,h2⟩:=abX h hp lF
  rw[lF] at hv
  have oY:∀rv,(if h:Yt.toArray.size=1 then Yt.toArray[0] else .tuple Yt.toArray)=rv→(results fn a.tmps).run P w = .ok rv w:=by
   intro rv UB
   have e:results fn a.tmps=(do let vs ←fn.results.mapM (Ly a);pure (if h:vs.size=1 then vs[0] else .tuple vs)):=by
    unfold results
    congr 2
   rw[e,Array.mapM_eq_mapM_toList,Sem.run_bind]
   have:(List.toArray <$> fn.results.toList.mapM (Ly a)).run P w = .ok Yt.toArray w:=by
    rw[map_eq_pure_bind,Sem.run_bind,h2]
    rfl
   rw[this,←UB]
   rfl
  clear h2 lF
  rcases vs with _ | ⟨x,_ | ⟨y,xs⟩⟩
  ·rcases Yt with _ | ⟨x',ys⟩
   ·cases hv
    exact⟨_,h1.Vl,oY _ rfl⟩
   ·cases h1.1
  ·rcases Yt with _ | ⟨x',_ | ⟨y',ys⟩⟩
   ·cases h1.1
   ·cases hv
    exact⟨x',h1.jF.1,oY x' rfl⟩
   ·cases h1.1
  ·rcases Yt with _ | ⟨x',_ | ⟨y',ys⟩⟩
   ·cases h1.1
   ·cases h1.1
   ·cases hv
    exact⟨_,h1.Vl,oY _ (by simp)⟩
end
end Go.PM
namespace Go.PM
def ZK (P:Program) (E:AF) (L0:Nat):Prop :=
 ∀f p,E.Aj f=some p→Me P f∧∀args H v,p args H=some v→∀m w gI,Rel m L0 H w→RL m args gI →
  Calls P f gI.toArray w fun e w'=>∃rv,e = .returned rv∧RV m v rv∧w.heap.size≤w'.heap.size∧(∀rb,rb<w.heap.size→w'.heap[rb]? = w.heap[rb]?)∧w'.os=w.os∧w'.output=w.output∧w'.tape=w.tape
theorem Rel.more {m:dE} {L0:Nat} {H:aE} {w w':World} (h:Rel m L0 H w) (hk:∀rb,rb<w.heap.size→w'.heap[rb]? = w.heap[rb]?):Rel m L0 H w':=by
 have hv:∀b l,m b=some l→l.rb<w.heap.size:=fun b l hb=>by
  obtain⟨arr,e,fz,h1,_⟩:=h.valid b l hb
  exact(Array.getElem?_eq_some_iff.1 h1).1
 refine⟨fun b l hb=>by rw[hk _ (hv b l hb)];exact h.valid b l hb,fun b l cs e p hm hb => ?_,h.inj,fun x hx=>⟨?_,(h.Dv x hx).2⟩⟩
 ·obtain⟨h1,h2,h3,h4⟩:=h.row b l cs e p hm hb
  refine⟨h1,h2,h3,fun i hi => ?_⟩
  obtain⟨rv,g1,g2⟩:=h4 i hi
  refine⟨rv,?_,g2⟩
  rw[←g1]
  unfold World.cell?
  simp only[hk _ (hv b l hm)]
 ·obtain⟨e,fz,g1⟩:=(h.Dv x hx).1
  exact⟨e,fz,by rw[hk _ (Array.getElem?_eq_some_iff.1 g1).1];exact g1⟩
theorem Z3 {P:Program} {E:AF} {f:Nat} {pf:aR} (h:Qn P E f=some pf):∃fn c,P.funcs[f]? = some fn∧fn.body=some c∧(fn.name == "runtime.NumGoroutine")=false∧fn.results.toList.mapM (zF P)=some pf.res∧gX P E fn.ntmps c=some pf.body∧pf.ntmps=fn.ntmps:=by
 unfold Qn at h
 cases hf:P.funcs[f]? with
 | none=>rw[hf] at h;cases h
 |
  some fn =>
  rw[hf] at h
  have h':Kz P E fn=some pf:=h
  unfold Kz at h'
  cases hb:fn.body with
  | none=>rw[hb] at h';cases h'
  |
   some c =>
   rw[hb] at h'
   simp only at h'
   split at h'
   ·cases h'
   ·rename_i aaT
    split at h'
    ·cases h'
    ·rename_i res Ti
     cases hc:gX P E fn.ntmps c with
     | none=>rw[hc] at h';cases h'
     |
      some body =>
      rw[hc] at h'
      cases h'
      refine⟨fn,c,rfl,hb,by simpa using aaT,?_,hc,rfl⟩
      have e:(fun(r:ResultVar)=>match r with
       | .tmp t=>some (AS.tmp t)
       | .cell t ty=>(lM P ty).map fun(agg,size,_,_) => .cell t agg size)=zF P:=by
       funext r
       cases r<;>rfl
      rw[←e]
      exact Ti
theorem Hg {P:Program} {E:AF} {T:Z2} {L0:Nat} (Dw:P.follows .mixedOrders=true) (aaO:ZK P E L0) (hT:∀f pf,T f=some pf→Qn P E f=some pf):∀n,wC P L0 (lJ E T n)
 | 0=>fun f args lo H v H' h=>by cases h
 |
  n+1=>fun f args lo H v H' h m w gI hR eQ hlen SD hf=>by
  have qJ:=DZ E T n
  rw[lJ] at h
  split at h
  ·rename_i p hp
   obtain⟨hco,auK⟩:=aaO f p hp
   refine⟨hco,?_⟩
   cases hpv:p args H with
   | none=>rw[hpv] at h;cases h
   |
    some u =>
    rw[hpv] at h
    cases h
    refine(auK args H v hpv m w gI hR SD).mono ?_
    rintro e w' ⟨rv,rfl,h1,h2,h3,h4⟩
    exact⟨m,rv,rfl,h1,hR.more h3,fun _ _ h=>h,fun b l hb hn=>(by rw[hb] at hn;cases hn),h2,fun rb C3 _=>h3 rb C3,h4⟩
  ·split at h
   ·cases h
   ·rename_i pf hpf
    obtain⟨fn,c,h1,h2,h3,h4,h5,h6⟩:=Z3 (hT _ _ hpf)
    split at h
    case isFalse=>cases h
    rename_i xU
    refine⟨⟨fn,h1,h3,by rw[h2];rfl⟩,calls_of_wp h1 h2 ?_⟩
    have Ck:gI.toArray.size≤fn.ntmps:=by
     have:=SD.1
     simp;omega
    have hH:Ie fn.ntmps L0 m (XN args) H { tmps:=gI.toArray++Array.replicate (fn.ntmps-gI.toArray.size) undef,defers:=[] } w:=by
     refine⟨by simp at Ck ⊢;omega,rfl,fun t => ?_,hR⟩
     rcases Nat.lt_or_ge t args.length with ht | ht
     ·have h7:=SD.2 t ht
      have ht':t<gI.length:=by rw[←SD.1];exact ht
      have e:(gI.toArray++Array.replicate (fn.ntmps-gI.toArray.size) undef).getD t undef=gI.getD t undef:=by
       rw[Array.getD_eq_getD_getElem?,Array.getElem?_append_left (by simpa using ht')]
       simp
      show RV m (args.getD t undef) _
      rw[e]
      exact h7
     ·have e1:args.getD t undef=undef:=by simp[List.getD_eq_getElem?_getD,List.getElem?_eq_none ht]
      have ht':gI.length≤t:=by rw[←SD.1];exact ht
      have e2:(gI.toArray++Array.replicate (fn.ntmps-gI.toArray.size) undef).getD t undef=undef:=by
       rw[Array.getD_eq_getD_getElem?,Array.getElem?_append_right (by simpa using ht')]
       rw[Array.getElem?_replicate]
       split<;>rfl
      show RV m (args.getD t undef) _
      rw[e1,e2]
      exact RV.undef m
    split at h
    ·rename_i wB H1 oY
     cases hr:qA pf.res wB H1 with
     | none=>rw[hr] at h;cases h
     |
      some u =>
      rw[hr] at h
      cases h
      refine oB Dw (Hg Dw aaO hT n) qJ eQ n c pf.body h5 _ _ _ _ _ oY m _ w hH hlen hf _ fun m' a' w' hh hTr => ?_
      obtain⟨rv,g1,g2⟩:=IA hh h4 hr
      exact⟨hh.defs,rv,g2,m',rv,rfl,g1,hh.rel,hTr⟩
    ·rename_i wB H1 oY
     cases hr:qA pf.res wB H1 with
     | none=>rw[hr] at h;cases h
     |
      some u =>
      rw[hr] at h
      cases h
      refine oB Dw (Hg Dw aaO hT n) qJ eQ n c pf.body h5 _ _ _ _ _ oY m _ w hH hlen hf _ fun m' a' w' hh hTr => ?_
      obtain⟨rv,g1,g2⟩:=IA hh h4 hr
      exact⟨hh.defs,rv,g2,m',rv,rfl,g1,hh.rel,hTr⟩
    ·cases h
end Go.PM
namespace Go.PM
def CLe (c c':fV):Prop:=∀f args lo H r,c f args lo H=some r→c' f args lo H=some r
section
variable {c c':fV} {lo:Nat}
theorem M5 (h:CLe c c') {i:PI} {ρ:Env} {H:aE} {r:Value×aE} (hr:yO c lo i ρ H=some r):yO c' lo i ρ H=some r:=by
 unfold yO at hr ⊢
 split at hr
 ·cases hr
 ·exact hr
 ·split at hr
  ·rename_i PQ
   rw[if_pos PQ]
   split at hr
   ·exact hr
   ·exact h _ _ _ _ _ hr
   ·cases hr
  ·cases hr
theorem TL (h:CLe c c') {i:PI} {ρ:Env} {H:aE} {r:Env×aE} (hr:xQ c lo i ρ H=some r):xQ c' lo i ρ H=some r:=by
 unfold xQ at hr ⊢
 split at hr
 ·rename_i v H' hv
  rw[M5 h hv]
  exact hr
 ·cases hr
theorem yX (h:CLe c c'):∀ {is:List PI} {ρ:Env} {H:aE} {r:Env×aE},gM c lo is ρ H=some r→gM c' lo is ρ H=some r
 | [],_,_,_,hr=>hr
 |
  i::is,ρ,H,r,hr=>by
  rw[gM] at hr ⊢
  split at hr
  ·rename_i h1
   rw[TL h h1]
   exact yX h hr
  ·cases hr
theorem wY {b b':Env→aE→Option (Ex×Env×aE)} (h:∀ρ H r,b ρ H=some r→b' ρ H=some r):∀ {n n':Nat} {ρ:Env} {H:aE} {r:Ex×Env×aE},n≤n'→wW b n ρ H=some r→wW b' n' ρ H=some r
 | 0,_,_,_,_,_,hr=>by cases hr
 | n+1,0,_,_,_,hn,_=>by omega
 |
  n+1,n'+1,ρ,H,r,hn,hr=>by
  rw[wW] at hr ⊢
  split at hr
  ·rename_i h1
   rw[h _ _ _ h1]
   exact wY h (by omega) hr
  ·rename_i fC
   rw[h _ _ _ hr]
   split
   ·rename_i bC H' he
    cases he
    exact absurd hr (fC _ _)
   ·rfl
theorem eU (h:CLe c c') {n n':Nat} (hn:n≤n'):∀(p:aD) {ρ:Env} {H:aE} {r:Ex×Env×aE},dI c lo n p ρ H=some r→dI c' lo n' p ρ H=some r
 | .skip,_,_,_,hr=>hr
 |
  .dH ops,ρ,H,r,hr=>by
  rw[dI] at hr ⊢
  cases hs:gM c lo ops ρ H with
  | none=>rw[hs] at hr;cases hr
  | some q=>rw[hs] at hr;rw[yX h hs];exact hr
 |
  .seq a b,ρ,H,r,hr=>by
  rw[dI] at hr ⊢
  split at hr
  ·rename_i h1
   rw[eU h hn a h1]
   exact eU h hn b hr
  ·rename_i fC
   rw[eU h hn a hr]
   split
   ·rename_i he;cases he;exact absurd hr (fC _ _)
   ·rfl
 |
  .cond x a b,ρ,H,r,hr=>by
  rw[dI] at hr ⊢
  split at hr
  ·split at hr
   ·rename_i ht;rw[if_pos ht];exact eU h hn a hr
   ·rename_i ht;rw[if_neg ht];exact eU h hn b hr
  ·cases hr
 |
  .block id a,ρ,H,r,hr=>by
  rw[dI] at hr ⊢
  split at hr
  ·rename_i h1
   rw[eU h hn a h1]
   exact hr
  ·rename_i fC
   rw[eU h hn a hr]
   split
   ·rename_i he;cases he;exact absurd hr (fC _ _ _)
   ·rfl
 |
  .loop a,ρ,H,r,hr=>by
  rw[dI] at hr ⊢
  exact wY (fun ρ H r hr=>eU h hn a hr) hn hr
 | .exit id,_,_,_,hr=>hr
 | .ret,_,_,_,hr=>hr
theorem By (E:AF) (T:Z2):∀n,CLe (lJ E T n) (lJ E T (n+1))
 | 0,_,_,_,_,_,hr=>by cases hr
 |
  n+1,f,args,lo,H,r,hr=>by
  rw[lJ] at hr ⊢
  split at hr
  ·exact hr
  ·split at hr
   ·cases hr
   ·split at hr
    ·rename_i pf _ ha
     rw[if_pos ha]
     split at hr
     ·rename_i h1
      rw[eU (By E T n) (Nat.le_succ n) pf.body h1]
      exact hr
     ·rename_i h1
      rw[eU (By E T n) (Nat.le_succ n) pf.body h1]
      exact hr
     ·cases hr
    ·cases hr
theorem nX (E:AF) (T:Z2) {n n':Nat} (h:n≤n'):CLe (lJ E T n) (lJ E T n'):=by
 induction h with
 | refl=>exact fun _ _ _ _ _ h=>h
 | step _ ih=>exact fun f args lo H r hr=>By E T _ f args lo H r (ih f args lo H r hr)
end
section
variable (E:AF) (T:Z2)
open Classical in
noncomputable def nT {α:Type} (run:Nat→Option α):Option α:=if h:∃r,∃n,run n=some r then some (Classical.choose h) else none
theorem Wb {α:Type} {run:Nat→Option α} (hm:∀n n' r,n≤n'→run n=some r→run n'=some r) {r:α}:nT run=some r↔∃n,run n=some r:=by
 unfold nT
 constructor
 ·intro h
  split at h
  ·rename_i hx
   cases h
   exact Classical.choose_spec hx
  ·cases h
 ·rintro⟨n,hn⟩
  have hx:∃r,∃n,run n=some r:=⟨r,n,hn⟩
  rw[dif_pos hx]
  obtain⟨n',QZ⟩:=Classical.choose_spec hx
  have h1:=hm n (max n n') r (Nat.le_max_left _ _) hn
  have h2:=hm n' (max n n') _ (Nat.le_max_right _ _) QZ
  rw[h1] at h2
  injection h2 with h2
  rw[←h2]
noncomputable def call:fV:=fun f args lo H=>nT fun n=>lJ E T n f args lo H
noncomputable def code (lo:Nat) (c:aD) (ρ:Env) (H:aE):Option (Ex×Env×aE):=nT fun n=>dI (lJ E T n) lo n c ρ H
theorem uD {f:Nat} {args:List Value} {lo:Nat} {H:aE} {r:Value×aE}:call E T f args lo H=some r↔∃n,lJ E T n f args lo H=some r :=
 Wb fun _ _ r h hr=>nX E T h f args lo H r hr
theorem cJ {lo:Nat} {c:aD} {ρ:Env} {H:aE} {r:Ex×Env×aE}:code E T lo c ρ H=some r↔∃n,dI (lJ E T n) lo n c ρ H=some r :=
 Wb fun _ _ _ h hr=>eU (nX E T h) h c hr
theorem Kt {lo:Nat}:∀ {is:List PI} {ρ:Env} {H:aE} {r:Env×aE},gM (call E T) lo is ρ H=some r↔∃n,gM (lJ E T n) lo is ρ H=some r:=by
 have le:∀n,CLe (lJ E T n) (call E T):=fun n f args lo H r hr=>(uD E T).2 ⟨n,hr⟩
 have val:∀ {i:PI} {ρ:Env} {H:aE} {r:Value×aE},yO (call E T) lo i ρ H=some r→∃n,yO (lJ E T n) lo i ρ H=some r:=by
  intro i ρ H r hr
  unfold yO at hr ⊢
  split at hr
  ·cases hr
  ·exact⟨0,hr⟩
  ·split at hr
   ·rename_i PQ
    split at hr
    ·exact⟨0,by rw[if_pos PQ];exact hr⟩
    ·obtain⟨n,hn⟩:=(uD E T).1 hr
     exact⟨n,by rw[if_pos PQ];exact hn⟩
    ·cases hr
   ·cases hr
 intro is
 induction is with
 | nil=>exact fun {ρ H r}=>⟨fun h=>⟨0,h⟩,fun⟨_,h⟩=>h⟩
 |
  cons i is ih =>
  intro ρ H r
  constructor
  ·intro h
   rw[gM] at h
   split at h
   ·rename_i wB H1 h1
    obtain⟨v,hv,rfl⟩:=wS h1
    obtain⟨n1,hn1⟩:=val hv
    obtain⟨n2,hn2⟩:=ih.1 h
    refine⟨max n1 n2,?_⟩
    rw[gM]
    have e:xQ (lJ E T (max n1 n2)) lo i ρ H=some (put ρ i.dst v,H1):=by
     unfold xQ
     rw[M5 (nX E T (Nat.le_max_left n1 n2)) hn1]
    rw[e]
    exact yX (nX E T (Nat.le_max_right n1 n2)) hn2
   ·cases h
  ·rintro⟨n,h⟩
   exact yX (le n) h
theorem BE {α:Type} {a b:Option α} (h:∀r,a=some r↔b=some r):a=b:=by
 cases a with
 |
  none =>
  cases b with
  | none=>rfl
  | some y=>exact((h y).2 rfl)
 | some x=>exact((h x).1 rfl).symm
variable {lo:Nat} {ρ:Env} {H:aE}
theorem XM:code E T lo .skip ρ H=some (.normal,ρ,H):=(cJ E T).2 ⟨0,rfl⟩
theorem WX {id:Nat}:code E T lo (.exit id) ρ H=some (.exit id,ρ,H):=(cJ E T).2 ⟨0,rfl⟩
theorem ZD:code E T lo .ret ρ H=some (.ret,ρ,H):=(cJ E T).2 ⟨0,rfl⟩
theorem Zd {ops:List PI}:code E T lo (.dH ops) ρ H=(gM (call E T) lo ops ρ H).map fun(bC,H')=>(.normal,bC,H'):=by
 refine BE fun r => ?_
 rw[cJ]
 constructor
 ·rintro⟨n,h⟩
  rw[dI] at h
  cases hs:gM (lJ E T n) lo ops ρ H with
  | none=>rw[hs] at h;cases h
  |
   some q =>
   rw[hs] at h
   rw[(Kt E T).2 ⟨n,hs⟩]
   exact h
 ·intro h
  cases hs:gM (call E T) lo ops ρ H with
  | none=>rw[hs] at h;cases h
  |
   some q =>
   rw[hs] at h
   obtain⟨n,hn⟩:=(Kt E T).1 hs
   exact⟨n,by rw[dI,hn];exact h⟩
theorem Zu {a b:aD}:code E T lo (.seq a b) ρ H=match code E T lo a ρ H with
  | some (.normal,bC,H')=>code E T lo b bC H'
  | r=>r:=by
 refine BE fun r => ?_
 rw[cJ]
 constructor
 ·rintro⟨n,h⟩
  rw[dI] at h
  split at h
  ·rename_i h1
   rw[(cJ E T).2 ⟨n,h1⟩]
   exact(cJ E T).2 ⟨n,h⟩
  ·rename_i fC
   rw[(cJ E T).2 ⟨n,h⟩]
   split
   ·rename_i he;cases he;exact absurd h (fC _ _)
   ·rfl
 ·intro h
  split at h
  ·rename_i h1
   obtain⟨n1,h1⟩:=(cJ E T).1 h1
   obtain⟨n2,h2⟩:=(cJ E T).1 h
   refine⟨max n1 n2,?_⟩
   rw[dI,eU (nX E T (Nat.le_max_left n1 n2)) (Nat.le_max_left n1 n2) a h1]
   exact eU (nX E T (Nat.le_max_right n1 n2)) (Nat.le_max_right n1 n2) b h2
  ·rename_i fC
   obtain⟨n,h1⟩:=(cJ E T).1 h
   refine⟨n,?_⟩
   rw[dI,h1]
   split
   ·rename_i he;cases he;exact absurd h (fC _ _)
   ·rfl
theorem Xr {x:Operand} {a b:aD}:code E T lo (.cond x a b) ρ H=match ev ρ x with
  | .bool t=>if t then code E T lo a ρ H else code E T lo b ρ H
  | _=>none:=by
 refine BE fun r => ?_
 rw[cJ]
 constructor
 ·rintro⟨n,h⟩
  rw[dI] at h
  split at h
  ·rename_i t he
   rw[he]
   show (if t=true then code E T lo a ρ H else code E T lo b ρ H)=some r
   split at h
   ·rename_i ht;rw[if_pos ht];exact(cJ E T).2 ⟨n,h⟩
   ·rename_i ht;rw[if_neg ht];exact(cJ E T).2 ⟨n,h⟩
  ·cases h
 ·intro h
  split at h
  ·rename_i t he
   split at h
   ·rename_i ht
    obtain⟨n,h⟩:=(cJ E T).1 h
    refine⟨n,?_⟩
    rw[dI,he]
    show (if t=true then _ else _)=_
    rw[if_pos ht]
    exact h
   ·rename_i ht
    obtain⟨n,h⟩:=(cJ E T).1 h
    refine⟨n,?_⟩
    rw[dI,he]
    show (if t=true then _ else _)=_
    rw[if_neg ht]
    exact h
  ·cases h
theorem TG {id:Nat} {a:aD}:code E T lo (.block id a) ρ H=match code E T lo a ρ H with
  | some (.exit QA,bC,H')=>if QA=id then some (.normal,bC,H') else some (.exit QA,bC,H')
  | r=>r:=by
 refine BE fun r => ?_
 rw[cJ]
 constructor
 ·rintro⟨n,h⟩
  rw[dI] at h
  split at h
  ·rename_i h1
   rw[(cJ E T).2 ⟨n,h1⟩]
   exact h
  ·rename_i fC
   rw[(cJ E T).2 ⟨n,h⟩]
   split
   ·rename_i he;cases he;exact absurd h (fC _ _ _)
   ·rfl
 ·intro h
  split at h
  ·rename_i h1
   obtain⟨n,h1⟩:=(cJ E T).1 h1
   exact⟨n,by rw[dI,h1];exact h⟩
  ·rename_i fC
   obtain⟨n,h1⟩:=(cJ E T).1 h
   refine⟨n,?_⟩
   rw[dI,h1]
   split
   ·rename_i he;cases he;exact absurd h (fC _ _ _)
   ·rfl
theorem Xj {a:aD}:code E T lo (.loop a) ρ H=match code E T lo a ρ H with
  | some (.normal,bC,H')=>code E T lo (.loop a) bC H'
  | r=>r:=by
 refine BE fun r => ?_
 rw[cJ]
 constructor
 ·rintro⟨n,h⟩
  rw[dI] at h
  cases n with
  | zero=>cases h
  |
   succ n =>
   rw[wW] at h
   split at h
   ·rename_i h1
    rw[(cJ E T).2 ⟨n+1,h1⟩]
    refine(cJ E T).2 ⟨n+1,?_⟩
    rw[dI]
    exact wY (fun _ _ _ h=>h) (Nat.le_succ n) h
   ·rename_i fC
    rw[(cJ E T).2 ⟨n+1,h⟩]
    split
    ·rename_i he;cases he;exact absurd h (fC _ _)
    ·rfl
 ·intro h
  split at h
  ·rename_i h1
   obtain⟨n1,h1⟩:=(cJ E T).1 h1
   obtain⟨n2,h2⟩:=(cJ E T).1 h
   refine⟨max n1 n2+1,?_⟩
   have g1:=eU (nX E T (show n1≤max n1 n2+1 by omega)) (show n1≤max n1 n2+1 by omega) a h1
   rw[dI,wW,g1]
   rw[dI] at h2
   exact wY (fun _ _ _ h=>eU (nX E T (show n2≤max n1 n2+1 by omega)) (show n2≤max n1 n2+1 by omega) a h) (show n2≤max n1 n2 by omega) h2
  ·rename_i fC
   obtain⟨n,h1⟩:=(cJ E T).1 h
   refine⟨n+1,?_⟩
   rw[dI,wW,eU (By E T n) (Nat.le_succ n) a h1]
   split
   ·rename_i he;cases he;exact absurd h (fC _ _)
   ·rfl
noncomputable def akF (lo:Nat) (pf:aR) (args:List Value) (H:aE):Option (Value×aE) :=
 if args.length≤pf.ntmps then
  match code E T lo pf.body (XN args) H with
  | some (.normal,ρ,H') | some (.ret,ρ,H')=>(qA pf.res ρ H').map (·,H')
  | _=>none
 else none
theorem W1 {f:Nat} {p:List Value→aE→Option Value} (h:E.Aj f=some p) {args:List Value}:call E T f args lo H=(p args H).map (·,H):=by
 refine BE fun r => ?_
 rw[uD]
 constructor
 ·rintro⟨n,hr⟩
  cases n with
  | zero=>cases hr
  | succ n=>rw[lJ,h] at hr;exact hr
 ·intro hr
  exact⟨1,by rw[lJ,h];exact hr⟩
theorem aeP {f:Nat} {pf:aR} (hp:E.Aj f=none) (h:T f=some pf) {args:List Value}:call E T f args lo H=akF E T lo pf args H:=by
 refine BE fun r => ?_
 rw[uD]
 unfold akF
 constructor
 ·rintro⟨n,hr⟩
  cases n with
  | zero=>cases hr
  |
   succ n =>
   rw[lJ,hp,h] at hr
   simp only at hr
   split at hr
   ·rename_i ha
    rw[if_pos ha]
    split at hr
    ·rename_i h1
     rw[(cJ E T).2 ⟨n,h1⟩]
     exact hr
    ·rename_i h1
     rw[(cJ E T).2 ⟨n,h1⟩]
     exact hr
    ·cases hr
   ·cases hr
 ·intro hr
  split at hr
  ·rename_i ha
   split at hr
   ·rename_i h1
    obtain⟨n,h1⟩:=(cJ E T).1 h1
    exact⟨n+1,by rw[lJ,hp,h];simp only;rw[if_pos ha,h1];exact hr⟩
   ·rename_i h1
    obtain⟨n,h1⟩:=(cJ E T).1 h1
    exact⟨n+1,by rw[lJ,hp,h];simp only;rw[if_pos ha,h1];exact hr⟩
   ·cases hr
  ·cases hr
end
end Go.PM
namespace Go.PM
theorem DA {H H':aE} {lo jI b o:Nat} {new:List Value} (hl:jI≤lo) (h:H.write lo b o new=some H'):H.write jI b o new=some H':=by
 unfold aE.write at h ⊢
 split at h
 ·split at h
  ·rename_i hc
   rw[if_pos ⟨by omega,hc.2⟩]
   exact h
  ·cases h
 ·cases h
theorem Bs {α β:Type} {a b:Option α} {f:α→β} {r:β} (HC:∀x,a=some x→b=some x) (h:a.map f=some r):b.map f=some r:=by
 cases a with
 | none=>cases h
 | some x=>rw[HC x rfl];exact h
theorem IH {lo jI size bytes add:Nat} {x:Value} {new:List Value} {H:aE} {r:Value×aE} (hl:jI≤lo) (h:eJ lo size bytes x add new H=some r):eJ jI size bytes x add new H=some r:=by
 unfold eJ at h ⊢
 split at h
 case isFalse=>cases h
 rename_i hc
 rw[if_pos hc]
 split at h
 ·exact h
 ·split at h
  ·split at h
   ·rename_i h1
    skip
    rw[if_pos h1]
    split at h
    ·rename_i h2
     rw[if_pos h2]
     split at h
     ·rename_i h3;rw[if_pos h3];exact h
     ·rename_i h3
      rw[if_neg h3]
      exact Bs (fun H' hw=>DA hl hw) h
    ·rename_i h2
     rw[if_neg h2]
     split at h
     ·rename_i h3
      rw[if_pos h3]
      split at h
      ·rename_i h4
       rw[if_pos h4]
       split at h
       ·rename_i h5;rw[if_pos (by omega)];exact h
       ·cases h
      ·rename_i h4;rw[if_neg h4];exact h
     ·cases h
   ·cases h
  ·cases h
 ·cases h
theorem Vn {lo jI:Nat} {p:mV} {ρ:Env} {H:aE} {o:Out} (hl:jI≤lo) (h:pop lo p ρ H=some o):pop jI p ρ H=some o:=by
 cases p<;>first | exact h | skip
 case store size q v =>
  simp only[pop] at h ⊢
  split at h
  ·split at h
   ·rename_i h1
    skip
    rw[if_pos h1]
    exact Bs (fun H' hw=>DA hl hw) h
   ·cases h
  ·cases h
 case app size bytes x y =>
  simp only[pop] at h ⊢
  split at h
  ·split at h
   ·skip
    exact Bs (fun H' hw=>IH hl hw) h
   ·cases h
  ·cases h
 case appz z bytes x n =>
  simp only[pop] at h ⊢
  split at h
  ·split at h
   ·rename_i h1
    skip
    rw[if_pos h1]
    exact Bs (fun H' hw=>IH hl hw) h
   ·cases h
  ·cases h
 case copy size x y =>
  simp only[pop] at h ⊢
  split at h
  ·exact h
  ·split at h
   ·skip
    exact Bs (fun H' hw=>DA hl hw) h
   ·cases h
  ·cases h
 case clear z x =>
  simp only[pop] at h ⊢
  split at h
  ·exact h
  ·skip
   split at h
   ·rename_i h1;rw[if_pos h1];exact h
   ·rename_i h1
    rw[if_neg h1]
    exact Bs (fun H' hw=>DA hl hw) h
  ·cases h
def Zn (c:fV):Prop:=∀f args lo jI H r,jI≤lo→c f args lo H=some r→c f args jI H=some r
section
variable {c:fV} {lo jI:Nat}
theorem Kc (hc:Zn c) (hl:jI≤lo):∀ {is:List PI} {ρ:Env} {H:aE} {r:Env×aE},gM c lo is ρ H=some r→gM c jI is ρ H=some r
 | [],_,_,_,h=>h
 |
  i::is,ρ,H,r,h=>by
  rw[gM] at h ⊢
  split at h
  ·rename_i wB H1 h1
   have e:xQ c jI i ρ H=some (wB,H1):=by
    unfold xQ at h1 ⊢
    split at h1
    ·rename_i v H2 hv
     have:yO c jI i ρ H=some (v,H2):=by
      unfold yO at hv ⊢
      split at hv
      ·cases hv
      ·exact hv
      ·split at hv
       ·rename_i PQ
        rw[if_pos PQ]
        split at hv
        ·rename_i hp;rw[Vn hl hp];exact hv
        ·rename_i hp
         rw[Vn hl hp]
         show c _ _ (if i.quiet=true then H.length else jI) H=_
         cases hq:i.quiet with
         | true=>rw[hq] at hv;exact hv
         | false=>rw[hq] at hv;exact hc _ _ _ _ _ _ hl hv
        ·cases hv
       ·cases hv
     rw[this]
     exact h1
    ·cases h1
   rw[e]
   exact Kc hc hl h
  ·cases h
theorem W3 {b b':Env→aE→Option (Ex×Env×aE)} (h:∀ρ H r,b ρ H=some r→b' ρ H=some r):∀ {n:Nat} {ρ:Env} {H:aE} {r:Ex×Env×aE},wW b n ρ H=some r→wW b' n ρ H=some r :=
 fun hr=>wY h (Nat.le_refl _) hr
theorem mR (hc:Zn c) (hl:jI≤lo) {n:Nat}:∀(p:aD) {ρ:Env} {H:aE} {r:Ex×Env×aE},dI c lo n p ρ H=some r→dI c jI n p ρ H=some r
 | .skip,_,_,_,hr=>hr
 |
  .dH ops,ρ,H,r,hr=>by
  rw[dI] at hr ⊢
  exact Bs (fun _ h=>Kc hc hl h) hr
 |
  .seq a b,ρ,H,r,hr=>by
  rw[dI] at hr ⊢
  split at hr
  ·rename_i h1
   rw[mR hc hl a h1]
   exact mR hc hl b hr
  ·rename_i fC
   rw[mR hc hl a hr]
   split
   ·rename_i he;cases he;exact absurd hr (fC _ _)
   ·rfl
 |
  .cond x a b,ρ,H,r,hr=>by
  rw[dI] at hr ⊢
  split at hr
  ·split at hr
   ·rename_i ht;rw[if_pos ht];exact mR hc hl a hr
   ·rename_i ht;rw[if_neg ht];exact mR hc hl b hr
  ·cases hr
 |
  .block id a,ρ,H,r,hr=>by
  rw[dI] at hr ⊢
  split at hr
  ·rename_i h1
   rw[mR hc hl a h1]
   exact hr
  ·rename_i fC
   rw[mR hc hl a hr]
   split
   ·rename_i he;cases he;exact absurd hr (fC _ _ _)
   ·rfl
 |
  .loop a,ρ,H,r,hr=>by
  rw[dI] at hr ⊢
  exact W3 (fun ρ H r hr=>mR hc hl a hr) hr
 | .exit id,_,_,_,hr=>hr
 | .ret,_,_,_,hr=>hr
end
theorem Ia (E:AF) (T:Z2):∀n,Zn (lJ E T n)
 | 0,_,_,_,_,_,_,_,h=>by cases h
 |
  n+1,f,args,lo,jI,H,r,hl,h=>by
  rw[lJ] at h ⊢
  split at h
  ·exact h
  ·split at h
   ·cases h
   ·split at h
    ·rename_i pf _ ha
     rw[if_pos ha]
     split at h
     ·rename_i h1;rw[mR (Ia E T n) hl pf.body h1];exact h
     ·rename_i h1;rw[mR (Ia E T n) hl pf.body h1];exact h
     ·cases h
    ·cases h
section
variable {E:AF} {T:Z2}
theorem acU {f:Nat} {args:List Value} {lo jI:Nat} {H:aE} {r:Value×aE} (hl:jI≤lo) (h:call E T f args lo H=some r):call E T f args jI H=some r:=by
 obtain⟨n,hn⟩:=(uD E T).1 h
 exact(uD E T).2 ⟨n,Ia E T n f args lo jI H r hl hn⟩
theorem aaU {f:Nat} {args:List Value} {lo:Nat} {H H':aE} {v:Value} (h:call E T f args lo H=some (v,H')):Ext lo H H':=by
 obtain⟨n,hn⟩:=(uD E T).1 h
 exact DZ E T n f args lo H v H' hn
theorem Ext.more {H H':aE} (h:Ext H.length H H'):∃K,H'=H++K:=by
 refine⟨H'.drop H.length,?_⟩
 apply List.ext_getElem?
 intro i
 rcases Nat.lt_or_ge i H.length with hi | hi
 ·rw[List.getElem?_append_left hi]
  exact h.low i hi hi
 ·rw[List.getElem?_append_right hi,List.getElem?_drop,show H.length+(i-H.length)=i by omega]
def Wa (E:AF) (T:Z2) (f:Nat) (args:List Value) (H:aE) (R:Value→aE→Prop):Prop :=
 ∃v K,call E T f args H.length H=some (v,H++K)∧R v (H++K)
theorem Wa.at {f:Nat} {args:List Value} {H:aE} {R:Value→aE→Prop} (h:Wa E T f args H R) {lo:Nat} (hl:lo≤H.length):∃v K,call E T f args lo H=some (v,H++K)∧R v (H++K):=by
 obtain⟨v,K,h1,h2⟩:=h
 exact⟨v,K,acU hl h1,h2⟩
theorem Wa.mk {f:Nat} {args:List Value} {H H':aE} {v:Value} {R:Value→aE→Prop} (h:call E T f args H.length H=some (v,H')) (hr:R v H'):Wa E T f args H R:=by
 obtain⟨K,rfl⟩:=(aaU h).more
 exact⟨v,K,h,hr⟩
end
end Go.PM
namespace Go.PM
def strCells:List Value→Option (List ByteArray)
 | []=>some []
 | .string s::r=>(strCells r).map (s :: ·)
 | _=>none
def uK:List Value→aE→Option Value
 | [.int .u64 n,.int .i64 b],_=>if b=10∧0≤n∧n<18446744073709551616 then some (.string ⟨(Lib.decDigits n.toNat).toArray⟩) else none
 | _,_=>none
def FR:List Value→aE→Option Value
 | [.string s,.int .i64 c],_=>if 0≤c∧c≤9223372036854775807∧s.size*c.toNat≤140737488355328 then some (.string ⟨(Lib.repeatL s.data.toList c.toNat).toArray⟩) else none
 | _,_=>none
def C9:List Value→aE→Option Value
 | [.int .u32 x],_=>if 0≤x∧x≤4294967295 then some (.int .i64 (32-(Lib.bitLen x.toNat:Int))) else none
 | _,_=>none
def Sd:List Value→aE→Option Value
 | [.slice none 0 0,.string _],_=>some (.string ⟨#[]⟩)
 |
  [.slice (some ⟨b,o,none⟩) n c,.string sep],H =>
  if n=0 then some (.string ⟨#[]⟩) else
  match (H.read b o n).bind strCells with
  | some xs=>if xs.length=n∧n≤c∧n≤140737488355328∧(Lib.join (xs.map (·.data.toList)) sep.data.toList).length≤140737488355328 then some (.string ⟨(Lib.join (xs.map (·.data.toList)) sep.data.toList).toArray⟩) else none
  | none=>none
 | _,_=>none
def O2:List Value→aE→Option Value
 |
  [.string s,.string p],_=>match p.data.toList with
  | [c]=>some (.int .i64 (Lib.indexByte s.data.toList c))
  | _=>none
 | _,_=>none
def wJ:List Value→aE→Option Value
 |
  [.string s,.int .i64 b,.int .i64 z],_=>if b=10∧z=64∧s.size≤9223372036854775806 then
   match Lib.parseUintB 64 s.data.toList with
   | .ok u=>some (.tuple #[.int .u64 (u:Int),.nilIface])
   | _=>none
  else none
 | _,_=>none
end Go.PM
namespace Go.PM
open Go.Proofs
def awC:List Nat:=[]
 ++ [200]
 ++ [204]
 ++ [205]
 ++ [95]
 ++ [90]
 ++ [118]
 ++ [134]
 ++ [179]
def Ja (f:Nat):Option (List Value→aE→Option Value) :=
 if f=214 then some uK else
 if f=215 then some FR else
 if f=217 then some Sd else
 if f=198 then some C9 else
 if f=209 then some O2 else
 if f=192 then some wJ else
 (fun _=>none) f
def cfg:AF:={ Aj:=Ja,eff:=fun f=>awC.contains f }
noncomputable def gD:Z2:=fun f=>if (Ja f).isSome then none else Qn Tryz.prog cfg f
theorem aiZ (f:Nat) (pf:aR) (h:gD f=some pf):Qn Tryz.prog cfg f=some pf:=by
 unfold gD at h
 split at h
 ·cases h
 ·exact h
theorem SQ {f:Nat} {pf:aR} (h:gD f=some pf):cfg.Aj f=none:=by
 unfold gD at h
 split at h
 ·cases h
 ·rename_i h1
  show Ja f=none
  cases hp:Ja f with
  | none=>rfl
  | some p=>rw[hp] at h1;exact absurd rfl h1
end Go.PM
namespace Go.PM
noncomputable abbrev qO:fV:=call cfg gD
def W (lo:Nat) (c:aD) (Q:Ex→Env→aE→Prop) (ρ:Env) (H:aE):Prop:=∃x bC H',code cfg gD lo c ρ H=some (x,bC,H')∧Q x bC H'
def WS (lo:Nat) (is:List PI) (K:Env→aE→Prop) (ρ:Env) (H:aE):Prop:=∃bC H',gM qO lo is ρ H=some (bC,H')∧K bC H'
def awG (lo:Nat) (b:aD) (Q:Ex→Env→aE→Prop):Ex→Env→aE→Prop
 | .normal,ρ,H=>W lo b Q ρ H
 | x,ρ,H=>Q x ρ H
def aqB (id:Nat) (Q:Ex→Env→aE→Prop):Ex→Env→aE→Prop
 | .exit QA,ρ,H=>if QA=id then Q .normal ρ H else Q (.exit QA) ρ H
 | x,ρ,H=>Q x ρ H
def avS (res:List AS) (R:Value→aE→Prop):Ex→Env→aE→Prop
 | .exit _,_,_=>False
 | _,ρ,H=>∃v,qA res ρ H=some v∧R v H
def aoE (J:Env→aE→Prop) (Q:Ex→Env→aE→Prop):Ex→Env→aE→Prop
 | .normal,ρ,H=>J ρ H
 | x,ρ,H=>Q x ρ H
section
variable {lo:Nat} {Q:Ex→Env→aE→Prop} {K:Env→aE→Prop} {ρ:Env} {H:aE} {b:aD} {id:Nat} {R:Value→aE→Prop} {res:List AS} {J:Env→aE→Prop}
theorem Hu {i:Nat}:aqB id Q (.exit i) ρ H=if i=id then Q .normal ρ H else Q (.exit i) ρ H:=rfl
theorem akP:W lo .skip Q ρ H=Q .normal ρ H:=by
 unfold W
 rw[XM]
 exact propext ⟨fun⟨_,_,_,h,hq⟩=>(by cases h;exact hq),fun h=>⟨_,_,_,rfl,h⟩⟩
theorem ajB {i:Nat}:W lo (.exit i) Q ρ H=Q (.exit i) ρ H:=by
 unfold W
 rw[WX]
 exact propext ⟨fun⟨_,_,_,h,hq⟩=>(by cases h;exact hq),fun h=>⟨_,_,_,rfl,h⟩⟩
theorem arC:W lo .ret Q ρ H=Q .ret ρ H:=by
 unfold W
 rw[ZD]
 exact propext ⟨fun⟨_,_,_,h,hq⟩=>(by cases h;exact hq),fun h=>⟨_,_,_,rfl,h⟩⟩
theorem arL {ops:List PI}:W lo (.dH ops) Q ρ H=WS lo ops (Q .normal) ρ H:=by
 unfold W WS
 rw[Zd]
 apply propext
 constructor
 ·rintro⟨x,bC,H',h,hq⟩
  cases hs:gM (call cfg gD) lo ops ρ H with
  | none=>rw[hs] at h;cases h
  |
   some q =>
   rw[hs] at h
   cases h
   exact⟨_,_,rfl,hq⟩
 ·rintro⟨bC,H',h,hq⟩
  exact⟨_,_,_,by rw[h];rfl,hq⟩
theorem arU {a:aD}:W lo (.seq a b) Q ρ H=W lo a (awG lo b Q) ρ H:=by
 unfold W
 rw[Zu]
 apply propext
 constructor
 ·rintro⟨x,bC,H',h,hq⟩
  split at h
  ·rename_i wB H1 h1
   exact⟨_,_,_,h1,x,bC,H',h,hq⟩
  ·rename_i fC
   refine⟨x,bC,H',h,?_⟩
   cases x with
   | normal=>exact absurd h (fC _ _)
   | exit i=>exact hq
   | ret=>exact hq
 ·rintro⟨x,bC,H',h,hq⟩
  rw[h]
  cases x with
  | normal=>exact hq
  | exit i=>exact⟨_,_,_,rfl,hq⟩
  | ret=>exact⟨_,_,_,rfl,hq⟩
theorem afD {a:aD}:W lo (.block id a) Q ρ H=W lo a (aqB id Q) ρ H:=by
 unfold W
 rw[TG]
 apply propext
 constructor
 ·rintro⟨x,bC,H',h,hq⟩
  split at h
  ·rename_i QA wB H1 h1
   refine⟨_,_,_,h1,?_⟩
   rw[Hu]
   split at h
   ·rename_i he;cases h;rw[if_pos he];exact hq
   ·rename_i he;cases h;rw[if_neg he];exact hq
  ·rename_i fC
   refine⟨x,bC,H',h,?_⟩
   cases x with
   | normal=>exact hq
   | exit i=>exact absurd h (fC _ _ _)
   | ret=>exact hq
 ·rintro⟨x,bC,H',h,hq⟩
  rw[h]
  cases x with
  | normal=>exact⟨_,_,_,rfl,hq⟩
  |
   exit i =>
   rw[Hu] at hq
   show ∃x Aw H'',(if i=id then some (Ex.normal,bC,H') else some (Ex.exit i,bC,H'))=some (x,Aw,H'')∧Q x Aw H''
   split at hq
   ·rename_i he;rw[if_pos he];exact⟨_,_,_,rfl,hq⟩
   ·rename_i he;rw[if_neg he];exact⟨_,_,_,rfl,hq⟩
  | ret=>exact⟨_,_,_,rfl,hq⟩
theorem alL {x:Operand} {a:aD}:W lo (.cond x a b) Q ρ H=∃t,ev ρ x = .bool t∧((t=true→W lo a Q ρ H)∧(t=false→W lo b Q ρ H)):=by
 unfold W
 rw[Xr]
 apply propext
 constructor
 ·rintro⟨y,bC,H',h,hq⟩
  split at h
  ·rename_i t ht
   cases t with
   | true=>exact⟨true,ht,fun _=>⟨y,bC,H',h,hq⟩,fun h=>by cases h⟩
   | false=>exact⟨false,ht,fun h=>(by cases h),fun _=>⟨y,bC,H',h,hq⟩⟩
  ·cases h
 ·rintro⟨t,ht,h1,h2⟩
  rw[ht]
  cases t with
  | true=>exact h1 rfl
  | false=>exact h2 rfl
theorem W.mono {Q':Ex→Env→aE→Prop} {c:aD} (h:W lo c Q ρ H) (hq:∀x ρ H,Q x ρ H→Q' x ρ H):W lo c Q' ρ H:=by
 obtain⟨x,bC,H',h1,h2⟩:=h
 exact⟨x,bC,H',h1,hq _ _ _ h2⟩
noncomputable def jJ (lo:Nat) (q:Bool) (op:mV) (ρ:Env) (H:aE):Option (Value×aE) :=
 match pop lo op ρ H with
 | some (.val v H')=>some (v,H')
 | some (.call f args)=>qO f args (if q then H.length else lo) H
 | none=>none
theorem ajA:WS lo [] K ρ H=K ρ H:=by
 unfold WS
 apply propext
 constructor
 ·rintro⟨bC,H',h,hk⟩;cases h;exact hk
 ·intro h;exact⟨ρ,H,rfl,h⟩
theorem aqL {i:PI} {is:List PI}:WS lo (i::is) K ρ H=∃v H',yO qO lo i ρ H=some (v,H')∧WS lo is K (put ρ i.dst v) H':=by
 unfold WS
 apply propext
 constructor
 ·rintro⟨bC,H',h,hk⟩
  rw[gM] at h
  split at h
  ·rename_i wB H1 h1
   obtain⟨v,hv,rfl⟩:=wS h1
   exact⟨v,H1,hv,bC,H',h,hk⟩
  ·cases h
 ·rintro⟨v,H1,hv,bC,H',h,hk⟩
  refine⟨bC,H',?_,hk⟩
  rw[gM]
  unfold xQ
  rw[hv]
  exact h
variable {q:Bool}
theorem dJ {op:mV} (h:tD op=true):jJ lo q op ρ H=(iC op ρ).map (·,H):=by
 unfold jJ
 rw[wZ h]
 cases iC op ρ<;>rfl
theorem ahB {x:Operand}:jJ lo q (.mv x) ρ H=some (ev ρ x,H):=rfl
theorem XF {c a b:Operand}:jJ lo q (.pick c a b) ρ H=(match ev ρ c with | .bool t=>some ((if t=true then ev ρ a else ev ρ b),H) | _=>none):=by
 rw[dJ rfl]
 simp only[iC]
 cases ev ρ c<;>rfl
theorem acY {op:BinOp} {x y:Operand}:jJ lo q (.bin op x y) ρ H=(dB op (ev ρ x) (ev ρ y)).map (·,H):=dJ rfl
theorem afE {op:UnOp} {x:Operand}:jJ lo q (.un op x) ρ H=(YY op (ev ρ x)).map (·,H):=dJ rfl
theorem XV {f:Nat} {args:List Operand}:jJ lo q (.call f args) ρ H=qO f (args.map (ev ρ)) (if q then H.length else lo) H:=rfl
end
theorem acF {f lo:Nat} {pf:aR} {args:List Value} {H:aE} {R:Value→aE→Prop} (ht:gD f=some pf) (ha:args.length≤pf.ntmps) (h:W lo pf.body (avS pf.res R) (XN args) H):∃v H',qO f args lo H=some (v,H')∧R v H':=by
 obtain⟨x,bC,H',h1,h2⟩:=h
 show ∃v H',call cfg gD f args lo H=some (v,H')∧R v H'
 rw[aeP cfg gD (SQ ht) ht]
 unfold akF
 rw[if_pos ha,h1]
 cases x with
 | exit i=>exact h2.elim
 |
  normal =>
  obtain⟨v,h3,h4⟩:=h2
  exact⟨v,H',by simp only;rw[h3];rfl,h4⟩
 |
  ret =>
  obtain⟨v,h3,h4⟩:=h2
  exact⟨v,H',by simp only;rw[h3];rfl,h4⟩
end Go.PM
namespace Go.PM
theorem wrap64 {x:Int} (h1 : -9223372036854775808≤x) (h2:x≤9223372036854775807):IntKind.i64.wrap x=x:=by
 rw[IntKind.wrap_i64]
 omega
section
variable {k:IntKind} {a b:Int}
theorem QF:dB .add (.int k a) (.int k b)=some (.int k (k.wrap (a+b))):=by simp[dB]
theorem Sl:dB .sub (.int k a) (.int k b)=some (.int k (k.wrap (a-b))):=by simp[dB]
theorem RY:dB .mul (.int k a) (.int k b)=some (.int k (k.wrap (a*b))):=by simp[dB]
theorem Qp (h:b≠0):dB .rem (.int k a) (.int k b)=some (.int k (a.tmod b)):=by simp[dB,h]
theorem Rx:dB .lss (.int k a) (.int k b)=some (.bool (decide (a<b))):=by simp[dB]
theorem QI:dB .leq (.int k a) (.int k b)=some (.bool (decide (a≤b))):=by simp[dB]
theorem RN:dB .gtr (.int k a) (.int k b)=some (.bool (decide (b<a))):=by simp[dB]
theorem Sc:dB .geq (.int k a) (.int k b)=some (.bool (decide (b≤a))):=by simp[dB]
theorem Q6:dB .eql (.int k a) (.int k b)=some (.bool (decide (a=b))):=by
 simp only[dB,if_true]
 rfl
theorem Sb:dB .neq (.int k a) (.int k b)=some (.bool (!decide (a=b))):=by
 simp only[dB,if_true]
 rfl
theorem UQ:YY .neg (.int k a)=some (.int k (k.wrap (0-a))):=rfl
theorem Wm {t:Bool}:YY .not (.bool t)=some (.bool (!t)):=rfl
end
def akO:Value→Option Value
 | .slice _ n _=>some (.int .i64 n)
 | _=>none
def MO (neg:Bool):Value→Value→Option Value
 | .bool a,.bool b=>some (.bool ((a == b) != neg))
 | _,_=>none
def Zf (neg:Bool):Value→Option Value
 | .slice none _ _=>some (.bool (true != neg))
 | .slice (some _) _ _=>some (.bool (false != neg))
 | _=>none
def aaJ (neg:Bool) (ks:List CK):Value→Value→Option Value
 | .agg a,.agg b=>(oX ks a.toList b.toList).map fun t => .bool (t != neg)
 | _,_=>none
def S3 (k:IntKind):Value→Option Value
 | .int _ n=>some (.int k (k.wrap n))
 | _=>none
def ajK (i:Nat):Value→Option Value
 | .tuple vs=>vs[i]?
 | _=>none
def agB (agg:Bool) (off size:Nat):Value→Option Value
 | .agg cs=>if agg then (if off+size≤cs.size then some (.agg (cs.extract off (off+size))) else none) else cs[off]?
 | _=>none
def apD:Value→Option Value
 | .pointer (some a)=>some (.pointer (some a))
 | _=>none
def abV (off:Nat):Value→Option Value
 | .pointer (some ⟨b,o,none⟩)=>some (.pointer (some ⟨b,o+off,none⟩))
 | _=>none
def PA (size:Nat):Value→Value→Option Value
 | .slice (some ⟨b,o,none⟩) n _,.int _ i=>if 0≤i∧i<n then some (.pointer (some ⟨b,o+i.toNat*size,none⟩)) else none
 | _,_=>none
def Ri:Value→Value→Option Value
 | .int k a,.int _ b=>some (.int k (if b<a then b else a))
 | _,_=>none
def Qh:Value→Value→Option Value
 | .int k a,.int _ b=>some (.int k (if b>a then b else a))
 | _,_=>none
section
variable {lo:Nat} {ρ:Env} {H:aE} {q:Bool}
theorem oK {op:mV} {r:Option (Value×aE)} (h:pop lo op ρ H=r.map fun(v,H') => .val v H'):jJ lo q op ρ H=r:=by
 unfold jJ
 rw[h]
 cases r<;>rfl
theorem Zi {x:Operand}:jJ lo q (.len x) ρ H=(akO (ev ρ x)).map (·,H):=dJ rfl
theorem acI {neg:Bool} {x y:Operand}:jJ lo q (.eqb neg x y) ρ H=(MO neg (ev ρ x) (ev ρ y)).map (·,H):=dJ rfl
theorem Ts {neg:Bool} {x:Operand}:jJ lo q (.isnil neg x) ρ H=(Zf neg (ev ρ x)).map (·,H):=dJ rfl
theorem SV {neg:Bool} {ks:List CK} {x y:Operand}:jJ lo q (.eqagg neg ks x y) ρ H=(aaJ neg ks (ev ρ x) (ev ρ y)).map (·,H):=dJ rfl
theorem YJ {k:IntKind} {x:Operand}:jJ lo q (.cvt k x) ρ H=(S3 k (ev ρ x)).map (·,H):=dJ rfl
theorem acE {i:Nat} {x:Operand}:jJ lo q (.ext x i) ρ H=(ajK i (ev ρ x)).map (·,H):=dJ rfl
theorem abA {agg:Bool} {off size:Nat} {x:Operand}:jJ lo q (.fld agg off size x) ρ H=(agB agg off size (ev ρ x)).map (·,H):=dJ rfl
theorem Tk {z:List Value} {places:List (Nat×Nat)} {parts:List (Nat×Operand)}:jJ lo q (.build z places parts) ρ H=((vH places z (parts.map fun(i,x)=>(i,ev ρ x))).map fun cs=>Value.agg cs.toArray).map (·,H):=dJ rfl
theorem abC {x:Operand}:jJ lo q (.chk x) ρ H=(apD (ev ρ x)).map (·,H):=dJ rfl
theorem Uv {off:Nat} {x:Operand}:jJ lo q (.faddr off x) ρ H=(abV off (ev ρ x)).map (·,H):=dJ rfl
theorem Ux {size:Nat} {x i:Operand}:jJ lo q (.iaddr size x i) ρ H=(PA size (ev ρ x) (ev ρ i)).map (·,H):=dJ rfl
theorem XW {f:Nat} {fN:List Operand}:jJ lo q (.mkfn f fN) ρ H=some (.func (.func f) #[] (fN.map (ev ρ)).toArray,H):=dJ rfl
theorem YO {x y:Operand}:jJ lo q (.min x y) ρ H=(Ri (ev ρ x) (ev ρ y)).map (·,H):=dJ rfl
theorem Zt {x y:Operand}:jJ lo q (.max x y) ρ H=(Qh (ev ρ x) (ev ρ y)).map (·,H):=dJ rfl
theorem Yj {agg:Bool} {size:Nat} {p:Operand}:jJ lo q (.load agg size p) ρ H=(nK agg size (ev ρ p) H).map (·,H):=by
 unfold jJ
 simp only[pop]
 cases nK agg size (ev ρ p) H<;>rfl
theorem abQ {size:Nat} {x:Operand} {l h m:Option Operand}:jJ lo q (.sub size x l h m) ρ H=Cf size (ev ρ x) (l.map (ev ρ)) (h.map (ev ρ)) (m.map (ev ρ)) H:=by
 unfold jJ
 simp only[pop]
 cases Cf size (ev ρ x) (l.map (ev ρ)) (h.map (ev ρ)) (m.map (ev ρ)) H<;>rfl
theorem abJ {z:List Value}:jJ lo q (.new z) ρ H=some (.pointer (some ⟨H.length,0,none⟩),H++[.row z z.length false]):=rfl
theorem ZI {x:Operand}:jJ lo q (.box x) ρ H=if (aM (ev ρ x)).all fO then some (.pointer (some ⟨H.length,0,none⟩),H++[.row (aM (ev ρ x)) (aM (ev ρ x)).length false]) else none:=by
 apply oK
 simp only[pop]
 by_cases h:(aM (ev ρ x)).all fO=true
 ·rw[if_pos h,if_pos h];rfl
 ·rw[if_neg h,if_neg h];rfl
def Vy (z:List Value) (bytes:Nat) (l c:Value) (H:aE):Option (Value×aE) :=
 match l,c with
 | .int .i64 l,.int .i64 c=>if 0≤l∧l≤c∧c*bytes≤281474976710656∧c≤9223372036854775807 then
  some (.slice (some ⟨H.length,0,none⟩) l.toNat c.toNat,H++[.row (cU c.toNat z) z.length false]) else none
 | _,_=>none
theorem XQ {z:List Value} {bytes:Nat} {l c:Operand}:jJ lo q (.make z bytes l c) ρ H=Vy z bytes (ev ρ l) (ev ρ c) H:=by
 apply oK
 simp only[pop]
 unfold Vy
 split
 ·rename_i l c h1 h2
  simp only[h1,h2]
  split<;>rfl
 ·rename_i h1
  split
  ·rename_i h2 h3
   exact(h1 _ _ h2 h3).elim
  ·rfl
def adU (z:List Value) (n:Nat) (parts:List (Nat×Value)) (H:aE):Option (Value×aE) :=
 match vH ((List.range n).map fun i=>(i*z.length,z.length)) (cU n z) parts with
 | some cs=>if cs.all fO then some (.slice (some ⟨H.length,0,none⟩) n n,H++[.row cs z.length false]) else none
 | none=>none
theorem YX {z:List Value} {n:Nat} {parts:List (Nat×Operand)}:jJ lo q (.lit z n parts) ρ H=adU z n (parts.map fun(i,x)=>(i,ev ρ x)) H:=by
 apply oK
 simp only[pop]
 unfold adU
 split
 ·rename_i cs h1
  simp only[h1]
  split<;>rfl
 ·rename_i h1
  simp only[h1]
  rfl
def E3 (lo size:Nat) (p v:Value) (H:aE):Option (Value×aE) :=
 match p with
 | .pointer (some ⟨b,o,none⟩)=>if (aM v).length=size then (H.write lo b o (aM v)).map fun H'=>(undef,H') else none
 | _=>none
theorem SU {size:Nat} {p v:Operand}:jJ lo q (.store size p v) ρ H=E3 lo size (ev ρ p) (ev ρ v) H:=by
 apply oK
 simp only[pop]
 unfold E3
 split
 ·rename_i b o h1
  simp only[h1]
  split
  ·cases H.write lo b o (aM (ev ρ v))<;>rfl
  ·rfl
 ·rename_i h1
  split
  ·rename_i h2
   exact(h1 _ _ h2).elim
  ·rfl
def alA (lo size bytes:Nat) (x y:Value) (H:aE):Option (Value×aE) :=
 match rJ y with
 |
  some n=>match iQ H size n y with
  | some new=>eJ lo size bytes x n new H
  | none=>none
 | none=>none
theorem YU {size bytes:Nat} {x y:Operand}:jJ lo q (.app size bytes x y) ρ H=alA lo size bytes (ev ρ x) (ev ρ y) H:=by
 apply oK
 simp only[pop]
 unfold alA
 cases rJ (ev ρ y) with
 | none=>rfl
 |
  some n =>
  cases hs:iQ H size n (ev ρ y) with
  | none=>simp only[hs];rfl
  | some new=>simp only[hs]
def acS (lo:Nat) (z:List Value) (bytes:Nat) (x n:Value) (H:aE):Option (Value×aE) :=
 match n with
 | .int .i64 n=>if 0≤n∧n*bytes≤140737488355328 then eJ lo z.length bytes x n.toNat (cU n.toNat z) H else none
 | _=>none
theorem WE {z:List Value} {bytes:Nat} {x n:Operand}:jJ lo q (.appz z bytes x n) ρ H=acS lo z bytes (ev ρ x) (ev ρ n) H:=by
 apply oK
 simp only[pop]
 unfold acS
 split
 ·rename_i n h1
  simp only[h1]
  split<;>rfl
 ·rename_i h1
  split
  ·rename_i h2
   exact(h1 _ h2).elim
  ·rfl
def copyV (lo size:Nat) (x y:Value) (H:aE):Option (Value×aE) :=
 match x,rJ y with
 | .slice none _ _,some _=>some (.int .i64 0,H)
 |
  .slice (some ⟨b,o,none⟩) d _,some s=>match iQ H size (Nat.min s d) y with
  | some new=>(H.write lo b o new).map fun H'=>(.int .i64 (Nat.min s d),H')
  | none=>none
 | _,_=>none
theorem Xm {size:Nat} {x y:Operand}:jJ lo q (.copy size x y) ρ H=copyV lo size (ev ρ x) (ev ρ y) H:=by
 apply oK
 simp only[pop]
 unfold copyV
 split
 ·rename_i h1 h2
  simp only[h1,h2]
  rfl
 ·rename_i b o d _ s h1 h2
  simp only[h1,h2]
  cases hs:iQ H size (Nat.min s d) (ev ρ y) with
  | none=>rfl
  |
   some new =>
   simp only
   cases H.write lo b o new<;>rfl
 ·rename_i h1 h2
  split
  ·rename_i h3 h4
   exact(h1 _ _ _ h3 h4).elim
  ·rename_i h3 h4
   exact(h2 _ _ _ _ _ h3 h4).elim
  ·rfl
def OL (lo:Nat) (z:List Value) (x:Value) (H:aE):Option (Value×aE) :=
 match x with
 | .slice none _ _=>some (undef,H)
 | .slice (some ⟨b,o,none⟩) n _=>if n=0 then some (undef,H) else (H.write lo b o (cU n z)).map fun H'=>(undef,H')
 | _=>none
theorem Tn {z:List Value} {x:Operand}:jJ lo q (.clear z x) ρ H=OL lo z (ev ρ x) H:=by
 apply oK
 simp only[pop]
 unfold OL
 split
 ·rename_i h1
  simp only[h1]
  rfl
 ·rename_i b o n _ h1
  simp only[h1]
  split
  ·rfl
  ·cases H.write lo b o (cU n z)<;>rfl
 ·rename_i h1 h2
  split
  ·rename_i h3
   exact(h1 _ _ h3).elim
  ·rename_i h3
   exact(h2 _ _ _ _ h3).elim
  ·rfl
noncomputable def acJ (lo:Nat) (fv:Value) (args:List Value) (H:aE):Option (Value×aE) :=
 match fv with
 | .func (.func f) first fN=>qO f (first.toList++args++fN.toList) lo H
 | _=>none
theorem S8 {fv:Operand} {args:List Operand}:jJ lo q (.callv fv args) ρ H=acJ (if q then H.length else lo) (ev ρ fv) (args.map (ev ρ)) H:=by
 unfold jJ
 simp only[pop]
 unfold acJ
 generalize ev ρ fv=v
 cases v with
 | func fn f c=>cases fn<;>rfl
 | _=>rfl
end
end Go.PM
namespace Go.PM
section
variable {lo:Nat} {Q:Ex→Env→aE→Prop} {K:Env→aE→Prop} {ρ:Env} {H:aE} {q:Bool}
def aqI (u v:Value):Bool:=match iN u,iN v with
 | some a,some b=>a != b
 | _,_=>true
end
theorem V9 {k:IntKind} {a b:Int}:Qh (.int k a) (.int k b)=some (.int k (max a b)):=by
 simp only[Qh]
 congr 2
 split<;>omega
theorem US {k:IntKind} {a b:Int}:Ri (.int k a) (.int k b)=some (.int k (min a b)):=by
 simp only[Ri]
 congr 2
 split<;>omega
end Go.PM
namespace Go.PM
abbrev ptr (b o:Nat):Value := .pointer (some ⟨b,o,none⟩)
abbrev I (n:Int):Value := .int .i64 n
section
variable {H H':aE} {lo b o n size:Nat} {cs r:List Value} {L K:aE} {v:Value}
theorem Pf (hb:b<H.length):(H++L)[b]? = H[b]? := List.getElem?_append_left hb
theorem Vo {x:MJ}:(H++x::L)[H.length]? = some x:=by simp
theorem abM (hb:b<H.length):(H++L).read b o n=H.read b o n:=Ft (Pf hb)
theorem AG {e:Nat} {p:Bool} (h:H[b]? = some (.row r e p)) (hn:o+n≤r.length):H.read b o n=some ((r.drop o).take n):=by
 unfold aE.read
 rw[h]
 simp only[hn,if_true]
structure Di (H:aE) (b o:Nat) (cs:List Value):Prop where
 lt:b<H.length
 rd:H.read b o cs.length=some cs
theorem Di.app (h:Di H b o cs):Di (H++L) b o cs:=⟨by have:=h.lt;simp;omega,by rw[abM h.lt];exact h.rd⟩
theorem Di.pre (h:Di H b o cs) (hp:H <+: H'):Di H' b o cs:=by
 obtain⟨L,rfl⟩:=hp
 exact h.app
theorem Di.all (h:Di H b o cs) (hs:cs.length=size):nK true size (.pointer (some ⟨b,o,none⟩)) H=some (.agg cs.toArray):=by
 subst hs
 simp only[nK,if_true,h.rd]
 rfl
theorem Di.one {u:Value} (h:Di H b o [u]):nK false size (.pointer (some ⟨b,o,none⟩)) H=some u:=by
 have:=h.rd
 simp only[List.length_cons,List.length_nil] at this
 simp only[nK,this]
 rfl
theorem Di.sub {k:Nat} {u:Value} (h:Di H b o cs) (hk:cs[k]? = some u):Di H b (o+k) [u]:=by
 refine⟨h.lt,?_⟩
 have h1:=h.rd
 unfold aE.read at h1 ⊢
 split at h1
 ·rename_i r e p hb
  split at h1
  ·rename_i hl
   have hk':=(List.getElem?_eq_some_iff.1 hk).1
   simp only[List.length_cons,List.length_nil]
   rw[if_pos (by simp;omega)]
   injection h1 with h1
   rw[←h1] at hk
   rw[List.getElem?_take,if_pos (by omega),List.getElem?_drop] at hk
   have bA:=(List.getElem?_eq_some_iff.1 hk).1
   rw[List.drop_eq_getElem_cons bA]
   simp only[List.take_succ_cons,List.take_zero]
   rw[List.getElem?_eq_getElem bA] at hk
   injection hk with hk
   rw[hk]
  ·cases h1
 ·cases h1
theorem Di.fld {k:Nat} {u:Value} (h:Di H b o cs) (hk:cs[k]? = some u):nK false size (.pointer (some ⟨b,o+k,none⟩)) H=some u:=(h.sub hk).one
theorem RI {a:Nat} {c:Nat} {i:Int} {k:IntKind} (h0:0≤i) (h1:i<n):PA size (.slice (some ⟨b,a,none⟩) n c) (.int k i)=some (.pointer (some ⟨b,a+i.toNat*size,none⟩)):=by
 simp only[PA]
 rw[if_pos ⟨h0,h1⟩]
structure Arr {α:Type} (enc:α→List Value) (fJ:Nat) (H:aE) (a:Option Addr) (n:Nat) (xs:List α):Prop where
 len:n=xs.length
 el:∀(i:Nat) x,xs[i]? = some x→∃b o,a=some ⟨b,o,none⟩∧Di H b (o+i*fJ) (enc x)
theorem Arr.pre {α:Type} {enc:α→List Value} {fJ:Nat} {a:Option Addr} {xs:List α} (h:Arr enc fJ H a n xs) (hp:H <+: H'):Arr enc fJ H' a n xs :=
 ⟨h.len,fun i x hx=>by obtain⟨b,o,h1,h2⟩:=h.el i x hx;exact⟨b,o,h1,h2.pre hp⟩⟩
end
structure jG where
 t:Int
 w:Int
 k:Int
 deriving DecidableEq
def cc (c:jG):List Value:=[I c.t,I c.w,I c.k]
def ci (n:Int):List Value:=[I n]
end Go.PM
namespace Go.PM
structure IY {α:Type} (enc:α→List Value) (fJ:Nat):Prop where
 len:∀x,(enc x).length=fJ
 sc:∀x,(enc x).all fO=true
 pos:1≤fJ
section
variable {α:Type} {enc:α→List Value} {fJ:Nat} {H H':aE} {lo b:Nat} {xs ys:List α} {p:Bool}
theorem Lc (e:IY enc fJ):(xs.flatMap enc).length=xs.length*fJ:=by
 induction xs with
 | nil=>simp
 | cons x xs ih=>simp only[List.flatMap_cons,List.length_append,e.len,ih,List.length_cons,Nat.succ_mul];omega
theorem Hh (e:IY enc fJ) (i:Nat):(xs.flatMap enc).drop (i*fJ)=(xs.drop i).flatMap enc:=by
 induction i generalizing xs with
 | zero=>simp
 |
  succ i ih =>
  cases xs with
  | nil=>simp
  |
   cons x xs =>
   rw[List.flatMap_cons,List.drop_succ_cons,←ih,show (i+1)*fJ=(enc x).length+i*fJ by rw[e.len,Nat.succ_mul];omega,List.drop_append]
   simp
theorem Nh (e:IY enc fJ) (i:Nat):(xs.flatMap enc).take (i*fJ)=(xs.take i).flatMap enc:=by
 induction i generalizing xs with
 | zero=>simp
 |
  succ i ih =>
  cases xs with
  | nil=>simp
  |
   cons x xs =>
   rw[List.flatMap_cons,List.take_succ_cons,List.flatMap_cons,←ih,show (i+1)*fJ=(enc x).length+i*fJ by rw[e.len,Nat.succ_mul];omega,List.take_append]
   simp
   exact List.take_of_length_le (by omega)
theorem Sv (e:IY enc fJ) {i:Nat} (x:α) (hi:i<xs.length):iH (xs.flatMap enc) (i*fJ) (enc x)=(xs.set i x).flatMap enc:=by
 unfold iH
 rw[Nh e,e.len,show i*fJ+fJ=(i+1)*fJ by rw[Nat.succ_mul],Hh e,List.set_eq_take_append_cons_drop,if_pos hi]
 simp
def Row (enc:α→List Value) (fJ:Nat) (H:aE) (b:Nat) (p:Bool) (xs:List α):Prop:=H[b]? = some (.row (xs.flatMap enc) fJ p)
theorem Row.lt (h:Row enc fJ H b p xs):b<H.length:=(List.getElem?_eq_some_iff.1 h).1
theorem Row.pre (h:Row enc fJ H b p xs) (hp:H <+: H'):Row enc fJ H' b p xs:=by
 obtain⟨L,rfl⟩:=hp
 unfold Row
 rw[Pf h.lt]
 exact h
theorem Row.elem (h:Row enc fJ H b p xs) (e:IY enc fJ) {i:Nat} {x:α} (hx:xs[i]? = some x):Di H b (i*fJ) (enc x):=by
 refine⟨h.lt,?_⟩
 have hi:=(List.getElem?_eq_some_iff.1 hx).1
 have hm:(i+1)*fJ≤xs.length*fJ:=Nat.mul_le_mul_right _ hi
 rw[Nat.succ_mul] at hm
 rw[AG h (by rw[e.len,Lc e];omega),Hh e,e.len]
 have:=Nh (xs:=xs.drop i) e 1
 rw[Nat.one_mul] at this
 rw[this,List.drop_eq_getElem_cons hi]
 rw[List.getElem?_eq_getElem hi] at hx
 injection hx with hx
 simp[hx]
theorem Row.arr (h:Row enc fJ H b p xs) (e:IY enc fJ) {n:Nat} (hn:n≤xs.length):Arr enc fJ H (some ⟨b,0,none⟩) n (xs.take n):=by
 refine⟨by simp;omega,fun i x hx=>⟨b,0,rfl,?_⟩⟩
 rw[Nat.zero_add]
 refine h.elem e ?_
 rw[List.getElem?_take] at hx
 split at hx
 ·exact hx
 ·cases hx
theorem Row.store (h:Row enc fJ H b p xs) (e:IY enc fJ) {i:Nat} {x:α} {u:Value} (hu:aM u=enc x) (hi:i<xs.length) (hl:lo≤b):E3 lo fJ (.pointer (some ⟨b,i*fJ,none⟩)) u H=some (undef,H.set b (.row ((xs.set i x).flatMap enc) fJ p)):=by
 simp only[E3,aE.write,hu,e.len,if_true]
 have h':H[b]? = some (.row (xs.flatMap enc) fJ p):=h
 have hm:(i+1)*fJ≤xs.length*fJ:=Nat.mul_le_mul_right _ hi
 rw[Nat.succ_mul] at hm
 simp only[h']
 rw[if_pos ⟨hl,by rw[Lc e];omega,e.sc x⟩,Sv e x hi]
 rfl
theorem Row.set (h:Row enc fJ H b p xs) (ys:List α):Row enc fJ (H.set b (.row (ys.flatMap enc) fJ p)) b p ys:=by
 unfold Row
 rw[List.getElem?_set_self h.lt]
theorem QG (e:IY enc fJ) {n:Nat} {x:α}:cU n (enc x)=(List.replicate n x).flatMap enc:=by
 have kH:=e.pos
 have hlen:=e.len x
 apply List.ext_getElem?
 intro i
 unfold cU
 rw[List.getElem?_map,hlen]
 rcases Nat.lt_or_ge i (n*fJ) with hi | hi
 ·rw[List.getElem?_range hi]
  have hq:i / fJ<n:=Nat.div_lt_of_lt_mul (by rw[Nat.mul_comm];exact hi)
  have h1:((List.replicate n x).flatMap enc)[i]? = (((List.replicate n x).flatMap enc).drop (i / fJ*fJ))[i % fJ]? := by
   rw[List.getElem?_drop]
   congr 1
   rw[Nat.mul_comm]
   exact(Nat.div_add_mod i fJ).symm
  have hr:i % fJ<(enc x).length:=by rw[hlen];exact Nat.mod_lt _ (by omega)
  rw[h1,Hh e,List.drop_replicate,show n-i / fJ=(n-i / fJ-1)+1 by omega,List.replicate_succ,List.flatMap_cons,List.getElem?_append_left hr]
  simp[List.getD_eq_getElem?_getD,List.getElem?_eq_getElem hr]
 ·rw[List.getElem?_eq_none (by simpa using hi),List.getElem?_eq_none (by rw[Lc e];simpa using hi)]
  rfl
theorem Row.top {K:aE}:Row enc fJ (H ++ .row (xs.flatMap enc) fJ p::K) H.length p xs:=Vo
end
end Go.PM
namespace Go.PM
section
variable {H L:aE} {lo k o size:Nat} {agg:Bool} {u:Value}
end
end Go.PM
namespace Go.Proofs
open Go.Shelf
def LB:Go.Shelf.Ren:=⟨fun | 156=>217 | 165=>232 | 166=>233 | 169=>235 | 240=>245 | 241=>246 | 276=>253 | 277=>254 | n=>n,fun | 31=>33 | 9=>9 | 3=>3 | 4=>4 | 0=>0 | 20=>20 | 72=>262 | 76=>264 | 70=>260 | 37=>187 | 75=>220 | 127=>276 | 164=>285 | 5=>5 | 80=>227 | n=>n,fun | n=>n⟩
theorem Ug:Go.Proofs.Lays.n156 Tryz.prog LB:={
 mixed:=by kernel_rfl
 f156:=Tryz.func217.trans (congrArg some (by kernel_rfl))
 f165:=Tryz.func232.trans (congrArg some (by kernel_rfl))
 f166:=Tryz.func233.trans (congrArg some (by kernel_rfl))
 f169:=Tryz.func235.trans (congrArg some (by kernel_rfl))
 f240:=Tryz.func245.trans (congrArg some (by kernel_rfl))
 f241:=Tryz.func246.trans (congrArg some (by kernel_rfl))
 f276:=Tryz.func253.trans (congrArg some (by kernel_rfl))
 f277:=Tryz.func254.trans (congrArg some (by kernel_rfl))
 t0:=Tryz.underlying0
 a0:=Tryz.isAgg0
 z0:=Tryz.sizeOf0
 v0:=Tryz.zeroValue0
 t3:=Tryz.underlying3
 a3:=Tryz.isAgg3
 z3:=Tryz.sizeOf3
 v3:=Tryz.zeroValue3
 t4:=Tryz.underlying4
 a4:=Tryz.isAgg4
 z4:=Tryz.sizeOf4
 v4:=Tryz.zeroValue4
 t9:=Tryz.underlying9
 a9:=Tryz.isAgg9
 z9:=Tryz.sizeOf9
 v9:=Tryz.zeroValue9
 t20:=Tryz.underlying20
 a20:=Tryz.isAgg20
 z20:=Tryz.sizeOf20
 v20:=Tryz.zeroValue20
 t31:=Tryz.underlying33
 a31:=Tryz.isAgg33
 z31:=Tryz.sizeOf33
 v31:=Tryz.zeroValue33
 t37:=Tryz.underlying187
 a37:=Tryz.isAgg187
 z37:=Tryz.sizeOf187
 v37:=Tryz.zeroValue187
 t70:=Tryz.underlying260
 a70:=Tryz.isAgg260
 z70:=Tryz.sizeOf260
 v70:=Tryz.zeroValue260
 t72:=Tryz.underlying262
 a72:=Tryz.isAgg262
 z72:=Tryz.sizeOf262
 v72:=Tryz.zeroValue262
 t75:=Tryz.underlying220
 a75:=Tryz.isAgg220
 z75:=Tryz.sizeOf220
 v75:=Tryz.zeroValue220
 t76:=Tryz.underlying264
 a76:=Tryz.isAgg264
 z76:=Tryz.sizeOf264
 v76:=Tryz.zeroValue264
 t127:=Tryz.underlying276
 a127:=Tryz.isAgg276
 z127:=Tryz.sizeOf276
 v127:=Tryz.zeroValue276
 t164:=Tryz.underlying285
 a164:=Tryz.isAgg285
 z164:=Tryz.sizeOf285
 v164:=Tryz.zeroValue285 }
theorem OV:Builder.Extra Tryz.prog LB:={
 sizeBuilder:=by kernel_rfl
 liesBuilder:=by kernel_rfl
 t5:=Tryz.underlying5
 a5:=Tryz.isAgg5
 z5:=Tryz.sizeOf5
 v5:=Tryz.zeroValue5
 infoByte:=by kernel_rfl
 cellsByte:=by kernel_rfl
 sizeByte:=by kernel_rfl
 neB5:=by decide }
def Te:Go.Shelf.Ren:=⟨fun | 133=>198 | 128=>218 | n=>n,fun | 51=>206 | 3=>3 | 4=>4 | 46=>207 | 5=>5 | 9=>9 | n=>n,fun | n=>n⟩
theorem akD:Go.Proofs.Lays.n133 Tryz.prog Te:={
 mixed:=by kernel_rfl
 f128:=Tryz.func218.trans (congrArg some (by kernel_rfl))
 f133:=Tryz.func198.trans (congrArg some (by kernel_rfl))
 t3:=Tryz.underlying3
 a3:=Tryz.isAgg3
 z3:=Tryz.sizeOf3
 v3:=Tryz.zeroValue3
 t4:=Tryz.underlying4
 a4:=Tryz.isAgg4
 z4:=Tryz.sizeOf4
 v4:=Tryz.zeroValue4
 t5:=Tryz.underlying5
 a5:=Tryz.isAgg5
 z5:=Tryz.sizeOf5
 v5:=Tryz.zeroValue5
 t9:=Tryz.underlying9
 a9:=Tryz.isAgg9
 z9:=Tryz.sizeOf9
 v9:=Tryz.zeroValue9
 t46:=Tryz.underlying207
 a46:=Tryz.isAgg207
 z46:=Tryz.sizeOf207
 v46:=Tryz.zeroValue207
 t51:=Tryz.underlying206
 a51:=Tryz.isAgg206
 z51:=Tryz.sizeOf206
 v51:=Tryz.zeroValue206 }
def UE:Go.Shelf.Ren:=⟨fun | 283=>241 | n=>n,fun | 3=>3 | 9=>9 | 4=>4 | n=>n,fun | n=>n⟩
theorem aiX:Go.Proofs.Lays.n283 Tryz.prog UE:={
 mixed:=by kernel_rfl
 f283:=Tryz.func241.trans (congrArg some (by kernel_rfl))
 t3:=Tryz.underlying3
 a3:=Tryz.isAgg3
 z3:=Tryz.sizeOf3
 v3:=Tryz.zeroValue3
 t4:=Tryz.underlying4
 a4:=Tryz.isAgg4
 z4:=Tryz.sizeOf4
 v4:=Tryz.zeroValue4
 t9:=Tryz.underlying9
 a9:=Tryz.isAgg9
 z9:=Tryz.sizeOf9
 v9:=Tryz.zeroValue9 }
def S6:Go.Shelf.Ren:=⟨fun | 284=>242 | 129=>249 | 317=>248 | 318=>250 | n=>n,fun | 53=>171 | 3=>3 | 212=>281 | 0=>0 | 4=>4 | 46=>207 | 5=>5 | 9=>9 | n=>n,fun | 17=>3 | n=>n⟩
theorem alU:Go.Proofs.LaysM.n284 Tryz.prog S6:={
 mixed:=by kernel_rfl
 f129:=Tryz.func249.trans (congrArg some (by kernel_rfl))
 f284:=Tryz.func242.trans (congrArg some (by kernel_rfl))
 f317:=Tryz.func248.trans (congrArg some (by kernel_rfl))
 f318:=Tryz.func250.trans (congrArg some (by kernel_rfl))
 t0:=Tryz.underlying0
 a0:=Tryz.isAgg0
 z0:=Tryz.sizeOf0
 v0:=Tryz.zeroValue0
 t3:=Tryz.underlying3
 a3:=Tryz.isAgg3
 z3:=Tryz.sizeOf3
 v3:=Tryz.zeroValue3
 t4:=Tryz.underlying4
 a4:=Tryz.isAgg4
 z4:=Tryz.sizeOf4
 v4:=Tryz.zeroValue4
 t5:=Tryz.underlying5
 a5:=Tryz.isAgg5
 z5:=Tryz.sizeOf5
 v5:=Tryz.zeroValue5
 t9:=Tryz.underlying9
 a9:=Tryz.isAgg9
 z9:=Tryz.sizeOf9
 v9:=Tryz.zeroValue9
 t46:=Tryz.underlying207
 a46:=Tryz.isAgg207
 z46:=Tryz.sizeOf207
 v46:=Tryz.zeroValue207
 t53:=Tryz.underlying171
 a53:=Tryz.isAgg171
 z53:=Tryz.sizeOf171
 v53:=Tryz.zeroValue171
 t212:=Tryz.underlying281
 a212:=Tryz.isAgg281
 z212:=Tryz.sizeOf281
 v212:=Tryz.zeroValue281
 g17:=by kernel_rfl
 i0:=by kernel_rfl
 i3:=by kernel_rfl
 i4:=by kernel_rfl
 i5:=by kernel_rfl
 i9:=by kernel_rfl
 i46:=by kernel_rfl
 i53:=by kernel_rfl
 i212:=by kernel_rfl
 m17:=by kernel_rfl }
def Uc:Go.Shelf.Ren:=⟨fun | 285=>243 | n=>n,fun | 37=>187 | 53=>171 | 3=>3 | 4=>4 | 51=>206 | 9=>9 | 5=>5 | 0=>0 | n=>n,fun | n=>n⟩
theorem akT:Go.Proofs.Lays.n285 Tryz.prog Uc:={
 mixed:=by kernel_rfl
 f285:=Tryz.func243.trans (congrArg some (by kernel_rfl))
 t0:=Tryz.underlying0
 a0:=Tryz.isAgg0
 z0:=Tryz.sizeOf0
 v0:=Tryz.zeroValue0
 t3:=Tryz.underlying3
 a3:=Tryz.isAgg3
 z3:=Tryz.sizeOf3
 v3:=Tryz.zeroValue3
 t4:=Tryz.underlying4
 a4:=Tryz.isAgg4
 z4:=Tryz.sizeOf4
 v4:=Tryz.zeroValue4
 t5:=Tryz.underlying5
 a5:=Tryz.isAgg5
 z5:=Tryz.sizeOf5
 v5:=Tryz.zeroValue5
 t9:=Tryz.underlying9
 a9:=Tryz.isAgg9
 z9:=Tryz.sizeOf9
 v9:=Tryz.zeroValue9
 t37:=Tryz.underlying187
 a37:=Tryz.isAgg187
 z37:=Tryz.sizeOf187
 v37:=Tryz.zeroValue187
 t51:=Tryz.underlying206
 a51:=Tryz.isAgg206
 z51:=Tryz.sizeOf206
 v51:=Tryz.zeroValue206
 t53:=Tryz.underlying171
 a53:=Tryz.isAgg171
 z53:=Tryz.sizeOf171
 v53:=Tryz.zeroValue171 }
def Qo:Go.Shelf.Ren:=⟨fun | 14=>192 | 16=>211 | 17=>212 | 19=>224 | 20=>225 | 21=>226 | 22=>227 | 23=>228 | 24=>229 | 25=>238 | 27=>240 | 26=>239 | 28=>247 | 29=>255 | 30=>241 | 31=>242 | 32=>243 | 33=>244 | 35=>249 | 34=>248 | 36=>250 | 37=>251 | 38=>252 | 39=>256 | 40=>257 | n=>n,fun | 9=>9 | 3=>3 | 22=>171 | 24=>220 | 25=>221 | 4=>4 | 34=>255 | 5=>5 | 36=>207 | 37=>187 | 0=>0 | 39=>257 | 21=>21 | 44=>269 | 47=>276 | 50=>279 | 48=>277 | 2=>2 | 52=>271 | 55=>274 | 59=>281 | 60=>206 | 20=>20 | 61=>282 | 65=>289 | 66=>290 | 67=>227 | n=>n,fun | 0=>1 | 1=>2 | 2=>3 | 3=>4 | 4=>5 | n=>n⟩
theorem agP:Go.Proofs.LaysPu.n14 Tryz.prog Qo:={
 mixed:=by kernel_rfl
 f14:=Tryz.func192.trans (congrArg some (by kernel_rfl))
 f16:=Tryz.func211.trans (congrArg some (by kernel_rfl))
 f17:=Tryz.func212.trans (congrArg some (by kernel_rfl))
 f19:=Tryz.func224.trans (congrArg some (by kernel_rfl))
 f20:=Tryz.func225.trans (congrArg some (by kernel_rfl))
 f21:=Tryz.func226.trans (congrArg some (by kernel_rfl))
 f22:=Tryz.func227.trans (congrArg some (by kernel_rfl))
 f23:=Tryz.func228.trans (congrArg some (by kernel_rfl))
 f24:=Tryz.func229.trans (congrArg some (by kernel_rfl))
 f25:=Tryz.func238.trans (congrArg some (by kernel_rfl))
 f26:=Tryz.func239.trans (congrArg some (by kernel_rfl))
 f27:=Tryz.func240.trans (congrArg some (by kernel_rfl))
 f28:=Tryz.func247.trans (congrArg some (by kernel_rfl))
 f29:=Tryz.func255.trans (congrArg some (by kernel_rfl))
 f30:=Tryz.func241.trans (congrArg some (by kernel_rfl))
 f31:=Tryz.func242.trans (congrArg some (by kernel_rfl))
 f32:=Tryz.func243.trans (congrArg some (by kernel_rfl))
 f33:=Tryz.func244.trans (congrArg some (by kernel_rfl))
 f34:=Tryz.func248.trans (congrArg some (by kernel_rfl))
 f35:=Tryz.func249.trans (congrArg some (by kernel_rfl))
 f36:=Tryz.func250.trans (congrArg some (by kernel_rfl))
 f37:=Tryz.func251.trans (congrArg some (by kernel_rfl))
 f38:=Tryz.func252.trans (congrArg some (by kernel_rfl))
 f39:=Tryz.func256.trans (congrArg some (by kernel_rfl))
 f40:=Tryz.func257.trans (congrArg some (by kernel_rfl))
 t0:=Tryz.underlying0
 a0:=Tryz.isAgg0
 z0:=Tryz.sizeOf0
 v0:=Tryz.zeroValue0
 i0:=by kernel_rfl
 t2:=Tryz.underlying2
 a2:=Tryz.isAgg2
 z2:=Tryz.sizeOf2
 v2:=Tryz.zeroValue2
 i2:=by kernel_rfl
 t3:=Tryz.underlying3
 a3:=Tryz.isAgg3
 z3:=Tryz.sizeOf3
 v3:=Tryz.zeroValue3
 i3:=by kernel_rfl
 t4:=Tryz.underlying4
 a4:=Tryz.isAgg4
 z4:=Tryz.sizeOf4
 v4:=Tryz.zeroValue4
 i4:=by kernel_rfl
 t5:=Tryz.underlying5
 a5:=Tryz.isAgg5
 z5:=Tryz.sizeOf5
 v5:=Tryz.zeroValue5
 i5:=by kernel_rfl
 t9:=Tryz.underlying9
 a9:=Tryz.isAgg9
 z9:=Tryz.sizeOf9
 v9:=Tryz.zeroValue9
 i9:=by kernel_rfl
 t20:=Tryz.underlying20
 a20:=Tryz.isAgg20
 z20:=Tryz.sizeOf20
 v20:=Tryz.zeroValue20
 i20:=by kernel_rfl
 t21:=Tryz.underlying21
 a21:=Tryz.isAgg21
 z21:=Tryz.sizeOf21
 v21:=Tryz.zeroValue21
 i21:=by kernel_rfl
 t22:=Tryz.underlying171
 a22:=Tryz.isAgg171
 z22:=Tryz.sizeOf171
 v22:=Tryz.zeroValue171
 i22:=by kernel_rfl
 t24:=Tryz.underlying220
 a24:=Tryz.isAgg220
 z24:=Tryz.sizeOf220
 v24:=Tryz.zeroValue220
 i24:=by kernel_rfl
 t25:=Tryz.underlying221
 a25:=Tryz.isAgg221
 z25:=Tryz.sizeOf221
 v25:=Tryz.zeroValue221
 i25:=by kernel_rfl
 t34:=Tryz.underlying255
 a34:=Tryz.isAgg255
 z34:=Tryz.sizeOf255
 v34:=Tryz.zeroValue255
 i34:=by kernel_rfl
 c34:=by kernel_rfl
 t36:=Tryz.underlying207
 a36:=Tryz.isAgg207
 z36:=Tryz.sizeOf207
 v36:=Tryz.zeroValue207
 i36:=by kernel_rfl
 t37:=Tryz.underlying187
 a37:=Tryz.isAgg187
 z37:=Tryz.sizeOf187
 v37:=Tryz.zeroValue187
 i37:=by kernel_rfl
 t39:=Tryz.underlying257
 a39:=Tryz.isAgg257
 z39:=Tryz.sizeOf257
 v39:=Tryz.zeroValue257
 i39:=by kernel_rfl
 t44:=Tryz.underlying269
 a44:=Tryz.isAgg269
 z44:=Tryz.sizeOf269
 v44:=Tryz.zeroValue269
 i44:=by kernel_rfl
 t47:=Tryz.underlying276
 a47:=Tryz.isAgg276
 z47:=Tryz.sizeOf276
 v47:=Tryz.zeroValue276
 i47:=by kernel_rfl
 t48:=Tryz.underlying277
 a48:=Tryz.isAgg277
 z48:=Tryz.sizeOf277
 v48:=Tryz.zeroValue277
 i48:=by kernel_rfl
 t50:=Tryz.underlying279
 a50:=Tryz.isAgg279
 z50:=Tryz.sizeOf279
 v50:=Tryz.zeroValue279
 i50:=by kernel_rfl
 t52:=Tryz.underlying271
 a52:=Tryz.isAgg271
 z52:=Tryz.sizeOf271
 v52:=Tryz.zeroValue271
 i52:=by kernel_rfl
 t55:=Tryz.underlying274
 a55:=Tryz.isAgg274
 z55:=Tryz.sizeOf274
 v55:=Tryz.zeroValue274
 i55:=by kernel_rfl
 t59:=Tryz.underlying281
 a59:=Tryz.isAgg281
 z59:=Tryz.sizeOf281
 v59:=Tryz.zeroValue281
 i59:=by kernel_rfl
 t60:=Tryz.underlying206
 a60:=Tryz.isAgg206
 z60:=Tryz.sizeOf206
 v60:=Tryz.zeroValue206
 i60:=by kernel_rfl
 t61:=Tryz.underlying282
 a61:=Tryz.isAgg282
 z61:=Tryz.sizeOf282
 t65:=Tryz.underlying289
 a65:=Tryz.isAgg289
 z65:=Tryz.sizeOf289
 v65:=Tryz.zeroValue289
 i65:=by kernel_rfl
 t66:=Tryz.underlying290
 a66:=Tryz.isAgg290
 z66:=Tryz.sizeOf290
 v66:=Tryz.zeroValue290
 i66:=by kernel_rfl
 t67:=Tryz.underlying227
 a67:=Tryz.isAgg227
 z67:=Tryz.sizeOf227
 v67:=Tryz.zeroValue227
 i67:=by kernel_rfl
 g0:=by kernel_rfl
 m0:=by kernel_rfl
 g1:=by kernel_rfl
 m1:=by kernel_rfl
 g2:=by kernel_rfl
 m2:=by kernel_rfl
 g3:=by kernel_rfl
 m3:=by kernel_rfl
 g4:=by kernel_rfl
 m4:=by kernel_rfl }
def SN:Go.Shelf.Ren:=⟨fun | 219=>209 | 217=>220 | 225=>221 | 224=>222 | 267=>223 | 266=>236 | 314=>237 | n=>n,fun | 9=>9 | 3=>3 | 4=>4 | 5=>5 | 46=>207 | 146=>240 | 51=>206 | n=>n,fun | 1=>0 | n=>n⟩
theorem akE:Go.Proofs.Lays.n219 Tryz.prog SN:={
 mixed:=by kernel_rfl
 f217:=Tryz.func220.trans (congrArg some (by kernel_rfl))
 f219:=Tryz.func209.trans (congrArg some (by kernel_rfl))
 f224:=Tryz.func222.trans (congrArg some (by kernel_rfl))
 f225:=Tryz.func221.trans (congrArg some (by kernel_rfl))
 f266:=Tryz.func236.trans (congrArg some (by kernel_rfl))
 f267:=Tryz.func223.trans (congrArg some (by kernel_rfl))
 f314:=Tryz.func237.trans (congrArg some (by kernel_rfl))
 t3:=Tryz.underlying3
 a3:=Tryz.isAgg3
 z3:=Tryz.sizeOf3
 v3:=Tryz.zeroValue3
 t4:=Tryz.underlying4
 a4:=Tryz.isAgg4
 z4:=Tryz.sizeOf4
 v4:=Tryz.zeroValue4
 t5:=Tryz.underlying5
 a5:=Tryz.isAgg5
 z5:=Tryz.sizeOf5
 v5:=Tryz.zeroValue5
 t9:=Tryz.underlying9
 a9:=Tryz.isAgg9
 z9:=Tryz.sizeOf9
 v9:=Tryz.zeroValue9
 t46:=Tryz.underlying207
 a46:=Tryz.isAgg207
 z46:=Tryz.sizeOf207
 v46:=Tryz.zeroValue207
 t51:=Tryz.underlying206
 a51:=Tryz.isAgg206
 z51:=Tryz.sizeOf206
 v51:=Tryz.zeroValue206
 t146:=Tryz.underlying240
 a146:=Tryz.isAgg240
 z146:=Tryz.sizeOf240
 v146:=Tryz.zeroValue240
 g1:=by kernel_rfl }
def Ll:Go.Shelf.Ren:=⟨fun | 105=>215 | 212=>187 | 99=>231 | 165=>232 | 166=>233 | 170=>234 | 169=>235 | 263=>206 | 264=>207 | 206=>210 | 240=>245 | 241=>246 | 276=>253 | 277=>254 | n=>n,fun | 9=>9 | 3=>3 | 4=>4 | 20=>20 | 0=>0 | 46=>207 | 109=>215 | 5=>5 | 72=>262 | 76=>264 | 51=>206 | 146=>240 | 53=>171 | 148=>242 | 70=>260 | 37=>187 | 75=>220 | 127=>276 | 164=>285 | 80=>227 | n=>n,fun | n=>n⟩
theorem ajJ:Go.Proofs.Lays.n105 Tryz.prog Ll:={
 mixed:=by kernel_rfl
 f99:=Tryz.func231.trans (congrArg some (by kernel_rfl))
 f105:=Tryz.func215.trans (congrArg some (by kernel_rfl))
 f165:=Tryz.func232.trans (congrArg some (by kernel_rfl))
 f166:=Tryz.func233.trans (congrArg some (by kernel_rfl))
 f169:=Tryz.func235.trans (congrArg some (by kernel_rfl))
 f170:=Tryz.func234.trans (congrArg some (by kernel_rfl))
 f206:=Tryz.func210.trans (congrArg some (by kernel_rfl))
 f212:=Tryz.func187.trans (congrArg some (by kernel_rfl))
 f240:=Tryz.func245.trans (congrArg some (by kernel_rfl))
 f241:=Tryz.func246.trans (congrArg some (by kernel_rfl))
 f263:=Tryz.func206.trans (congrArg some (by kernel_rfl))
 f264:=Tryz.func207.trans (congrArg some (by kernel_rfl))
 f276:=Tryz.func253.trans (congrArg some (by kernel_rfl))
 f277:=Tryz.func254.trans (congrArg some (by kernel_rfl))
 t0:=Tryz.underlying0
 a0:=Tryz.isAgg0
 z0:=Tryz.sizeOf0
 v0:=Tryz.zeroValue0
 t3:=Tryz.underlying3
 a3:=Tryz.isAgg3
 z3:=Tryz.sizeOf3
 v3:=Tryz.zeroValue3
 t4:=Tryz.underlying4
 a4:=Tryz.isAgg4
 z4:=Tryz.sizeOf4
 v4:=Tryz.zeroValue4
 t5:=Tryz.underlying5
 a5:=Tryz.isAgg5
 z5:=Tryz.sizeOf5
 v5:=Tryz.zeroValue5
 t9:=Tryz.underlying9
 a9:=Tryz.isAgg9
 z9:=Tryz.sizeOf9
 v9:=Tryz.zeroValue9
 t20:=Tryz.underlying20
 a20:=Tryz.isAgg20
 z20:=Tryz.sizeOf20
 v20:=Tryz.zeroValue20
 t37:=Tryz.underlying187
 a37:=Tryz.isAgg187
 z37:=Tryz.sizeOf187
 v37:=Tryz.zeroValue187
 t46:=Tryz.underlying207
 a46:=Tryz.isAgg207
 z46:=Tryz.sizeOf207
 v46:=Tryz.zeroValue207
 t51:=Tryz.underlying206
 a51:=Tryz.isAgg206
 z51:=Tryz.sizeOf206
 v51:=Tryz.zeroValue206
 t53:=Tryz.underlying171
 a53:=Tryz.isAgg171
 z53:=Tryz.sizeOf171
 v53:=Tryz.zeroValue171
 t70:=Tryz.underlying260
 a70:=Tryz.isAgg260
 z70:=Tryz.sizeOf260
 v70:=Tryz.zeroValue260
 t72:=Tryz.underlying262
 a72:=Tryz.isAgg262
 z72:=Tryz.sizeOf262
 v72:=Tryz.zeroValue262
 t75:=Tryz.underlying220
 a75:=Tryz.isAgg220
 z75:=Tryz.sizeOf220
 v75:=Tryz.zeroValue220
 t76:=Tryz.underlying264
 a76:=Tryz.isAgg264
 z76:=Tryz.sizeOf264
 v76:=Tryz.zeroValue264
 t109:=Tryz.underlying215
 a109:=Tryz.isAgg215
 z109:=Tryz.sizeOf215
 v109:=Tryz.zeroValue215
 t127:=Tryz.underlying276
 a127:=Tryz.isAgg276
 z127:=Tryz.sizeOf276
 v127:=Tryz.zeroValue276
 t146:=Tryz.underlying240
 a146:=Tryz.isAgg240
 z146:=Tryz.sizeOf240
 v146:=Tryz.zeroValue240
 t148:=Tryz.underlying242
 a148:=Tryz.isAgg242
 z148:=Tryz.sizeOf242
 v148:=Tryz.zeroValue242
 t164:=Tryz.underlying285
 a164:=Tryz.isAgg285
 z164:=Tryz.sizeOf285
 v164:=Tryz.zeroValue285 }
theorem aeJ:Builder.Extra Tryz.prog Ll:={
 sizeBuilder:=by kernel_rfl
 liesBuilder:=by kernel_rfl
 t5:=Tryz.underlying5
 a5:=Tryz.isAgg5
 z5:=Tryz.sizeOf5
 v5:=Tryz.zeroValue5
 infoByte:=by kernel_rfl
 cellsByte:=by kernel_rfl
 sizeByte:=by kernel_rfl
 neB5:=by decide }
end Go.Proofs
namespace Go.Proofs
open Go.Shelf Go.RowKit Go.Sort Go.Lib
abbrev Uy:UInt8→Value:=fun b=>Value.int .u8 (b.toNat:Int)
theorem W9 (w:World) (T:TypeId) (nd:Nat) (hs:nd≤24):Holds Uy (w.alloc (.cells Lib.zeros24 T)) w.heap.size 0 (Array.replicate nd (0:UInt8)):=fun j hj=>by
 have hj':j<nd:=by simpa using hj
 refine⟨?_,World.frozen?_alloc_new _ _ _ _⟩
 rw[World.cell?_alloc_new,Lib.zeros24_at _ (by omega),getElem!_pos _ j hj]
 simp
theorem Ax (w:World) (o:Obj) (dk:Array UInt8) (k:Nat):Below w.heap.size w ((putRow Uy (w.alloc o) w.heap.size 0 dk).drewN k):=by
 rw[alloc_eq_grow]
 obtain⟨os',_,e⟩:=putRow_grow_new Uy w #[o] w.heap.size 0 dk (Nat.le_refl _)
 rw[e]
 refine⟨rfl,rfl,rfl,by show w.heap.size≤(w.heap++os').size;simp,fun i hi => ?_⟩
 show (w.heap++os')[i]? = _
 rw[Array.getElem?_append_left hi]
set_option maxHeartbeats 6400000 in
set_option maxRecDepth 100000 in
theorem amL (u:Nat) (Y7:u<18446744073709551616) (w:World) (amD:Lib.TabIs Tryz.prog w "internal/strconv.uint64pow10" .u64 Lib.pow10Tab) :
  Calls Tryz.prog 230 #[.int .u64 u,.int .i64 10] w fun e w'=>e = .returned (.string ⟨(Lib.decDigits u).toArray⟩)∧Below w.heap.size w w':=by
 by_cases hs:u<100
 ·go_enter Tryz.func230,Tryz.ntmps230
  go_wp2_with (go_at_call 241;refine(Any.internal_strconv_small aiX u hs _).mono ?_;rintro e w' ⟨rfl,rfl⟩)
  go_ret
  exact⟨rfl,Below.refl _ _⟩
 ·have hu1:1≤u:=by omega
  have aAj:Lib.nDigits u≤20:=by have:=Lib.numDigits_eq u hu1 Y7;split at this<;>omega
  have hH0:=W9 w 271 (Lib.nDigits u) (by omega)
  have apI:=Any.internal_strconv_formatBase10 akT w.heap.size 0 24 u (Array.replicate (Lib.nDigits u) 0) (w.alloc (.cells Lib.zeros24 271)) hH0 (by rw[Array.size_replicate];exact Lib.lt_pow_nDigits u) Y7 (by rw[Array.size_replicate];omega)
  rw[Array.size_replicate] at apI
  have HH0:=Lib.hid hH0
  have hal:Tryz.prog.arrayLen 271=24:=by simp[Program.arrayLen,Tryz.underlying271]
  have OO:∀W,(Instr.sliceAt 271 (.pointer (some ⟨w.heap.size,0,none⟩)) none (some (.int .i64 (Lib.nDigits u:Int))) none).run Tryz.prog W = .ok (.slice (some ⟨w.heap.size,0,none⟩) (Lib.nDigits u) 24) W:=fun W=>by
   rw[run_sliceAt_array_h W 271 ⟨w.heap.size,0,none⟩ (by simp[Program.arrayLen,Program.elem,Tryz.underlying271]) .i64 (Lib.nDigits u:Int) (by omega) (by rw[hal];omega)]
   go_simp
  clear hH0 hal
  go_enter Tryz.func230,Tryz.ntmps230
  go_wp2_with (first
   | (go_at_call 242;refine(Any.internal_strconv_numDigits alU u hu1 Y7 _ (Lib.tabIs_alloc amD _)).mono ?_;rintro e w' ⟨rfl,rfl⟩))
  go_at_call 243
  refine apI.mono ?_
  rintro e w' ⟨rfl,k,v',dk,rfl,hF⟩
  have hcv:(convert 187 9 (.slice (some ⟨w.heap.size,0,none⟩) (Lib.nDigits u) 24)).run Tryz.prog ((putRow Uy (w.alloc (.cells Lib.zeros24 271)) w.heap.size 0 dk).drewN k) = .ok (.string ⟨(Lib.decDigits u).toArray⟩) ((putRow Uy (w.alloc (.cells Lib.zeros24 271)) w.heap.size 0 dk).drewN k):=by
   have h:=run_convert_bytes_back (P:=Tryz.prog) ((putRow Uy (w.alloc (.cells Lib.zeros24 271)) w.heap.size 0 dk).drewN k) 187 9 5 ⟨w.heap.size,0,none⟩ 24 (Lib.decDigits u) Tryz.underlying187 Tryz.underlying5 Tryz.underlying9 (fun j hj=>by
    rw[Lib.row_is_numeral hF j hj,Lib.add_plain,World.cell?_drewN]
    exact cell?_putRow Uy _ w.heap.size 0 _ dk HH0.out (by rw[hF.size,Array.size_replicate]) j (by rw[hF.size];rw[Lib.decDigits_length] at hj;exact hj))
   rw[Lib.decDigits_length] at h
   exact h
  go_wp2
  go_ret
  exact⟨rfl,Ax w _ dk k⟩
theorem ZB (u:Nat) (Y7:u<18446744073709551616) (w:World) (amD:Lib.TabIs Tryz.prog w "internal/strconv.uint64pow10" .u64 Lib.pow10Tab) :
  Calls Tryz.prog 214 #[.int .u64 u,.int .i64 10] w fun e w'=>e = .returned (.string ⟨(Lib.decDigits u).toArray⟩)∧Below w.heap.size w w':=by
 go_enter Tryz.func214,Tryz.ntmps214
 go_wp2_with (go_at_call 230;refine(amL u Y7 _ amD).mono ?_;rintro e w' ⟨rfl,hb⟩)
 go_ret
 exact⟨rfl,hb⟩
end Go.Proofs
namespace Go.PM
open Go.Proofs Go.RowKit
theorem Below.Aj {w w':World} (h:Below w.heap.size w w'):w.heap.size≤w'.heap.size∧(∀rb,rb<w.heap.size→w'.heap[rb]? = w.heap[rb]?)∧w'.os=w.os∧w'.output=w.output∧w'.tape=w.tape :=
 ⟨h.size,h.block,h.os,h.output,h.tape⟩
theorem AJ {w:World}:w.heap.size≤w.heap.size∧(∀rb,rb<w.heap.size→w.heap[rb]? = w.heap[rb]?)∧w.os=w.os∧w.output=w.output∧w.tape=w.tape :=
 ⟨Nat.le_refl _,fun _ _=>rfl,rfl,rfl,rfl⟩
def D2 (f:Nat) (p:List Value→aE→Option Value):Prop :=
 Me Tryz.prog f∧∀L0 args H v,p args H=some v→∀m w gI,Rel m L0 H w→RL m args gI →
  Calls Tryz.prog f gI.toArray w fun e w'=>∃rv,e = .returned rv∧RV m v rv∧w.heap.size≤w'.heap.size∧(∀rb,rb<w.heap.size→w'.heap[rb]? = w.heap[rb]?)∧w'.os=w.os∧w'.output=w.output∧w'.tape=w.tape
theorem RL.one {m:dE} {x:Value} {ys:List Value} (h:RL m [x] ys):∃y,ys=[y]∧RV m x y:=by
 match ys,h with
 | [y],h=>exact⟨y,rfl,h.jF.1⟩
 | [],h=>exact absurd h.1 (by simp)
 | _::_::_,h=>exact absurd h.1 (by simp)
theorem RL.two {m:dE} {x x':Value} {ys:List Value} (h:RL m [x,x'] ys):∃y y',ys=[y,y']∧RV m x y∧RV m x' y':=by
 match ys,h with
 | [y,y'],h=>exact⟨y,y',rfl,h.jF.1,h.jF.2.jF.1⟩
 | [],h=>exact absurd h.1 (by simp)
 | [_],h=>exact absurd h.1 (by simp)
 | _::_::_::_,h=>exact absurd h.1 (by simp)
theorem RL.three {m:dE} {x x' x'':Value} {ys:List Value} (h:RL m [x,x',x''] ys):∃y y' y'',ys=[y,y',y'']∧RV m x y∧RV m x' y'∧RV m x'' y'':=by
 match ys,h with
 | [y,y',y''],h=>exact⟨y,y',y'',rfl,h.jF.1,h.jF.2.jF.1,h.jF.2.jF.2.jF.1⟩
 | [],h=>exact absurd h.1 (by simp)
 | [_],h=>exact absurd h.1 (by simp)
 | [_,_],h=>exact absurd h.1 (by simp)
 | _::_::_::_::_,h=>exact absurd h.1 (by simp)
theorem El {m:dE}:∀ {cs rs:List Value} {xs:List ByteArray},strCells cs=some xs→RL m cs rs→rs=xs.map .string
 |
  [],rs,xs,h,hr=>by
  cases h
  match rs,hr with
  | [],_=>rfl
  | _::_,hr=>exact absurd hr.1 (by simp)
 |
  c::cs,rs,xs,h,hr=>by
  match rs,hr with
  | [],hr=>exact absurd hr.1 (by simp)
  |
   r::rs,hr =>
   obtain⟨h1,h2⟩:=hr.jF
   cases c with
   |
    string s =>
    rw[strCells] at h
    cases hc:strCells cs with
    | none=>rw[hc] at h;cases h
    |
     some ys =>
     rw[hc] at h
     cases h
     cases h1
     rw[El hc h2]
     rfl
   | _=>cases h
theorem I3:D2 198 C9:=by
 refine⟨⟨_,Tryz.func198,by kernel_rfl,by kernel_rfl⟩,fun L0 args H v hp m w gI hR hr => ?_⟩
 unfold C9 at hp
 split at hp
 case h_2=>cases hp
 rename_i x
 split at hp
 case isFalse=>cases hp
 rename_i hx
 cases hp
 obtain⟨y,rfl,h1⟩:=hr.one
 cases h1
 refine(Any.bits_LeadingZeros32 akD x w hx.1 hx.2).mono ?_
 rintro e w' ⟨rfl,rfl⟩
 exact⟨_,rfl,.int _ _,AJ⟩
theorem Mf:D2 215 FR:=by
 refine⟨⟨_,Tryz.func215,by kernel_rfl,by kernel_rfl⟩,fun L0 args H v hp m w gI hR hr => ?_⟩
 unfold FR at hp
 split at hp
 case h_2=>cases hp
 rename_i s c
 split at hp
 case isFalse=>cases hp
 rename_i hx
 cases hp
 obtain⟨y,y',rfl,h1,h2⟩:=hr.two
 cases h1
 cases h2
 obtain⟨k,rfl⟩:∃k:Nat,c=k:=⟨c.toNat,by omega⟩
 refine(Any.strings_Repeat ajJ aeJ s k w (by omega) hx.2.2).mono ?_
 rintro e w' ⟨rfl,hb⟩
 exact⟨_,rfl,.str _,Below.Aj hb⟩
theorem RD:D2 217 Sd:=by
 refine⟨⟨_,Tryz.func217,by kernel_rfl,by kernel_rfl⟩,fun L0 args H v hp m w gI hR hr => ?_⟩
 unfold Sd at hp
 split at hp
 case h_3=>cases hp
 ·cases hp
  obtain⟨y,y',rfl,h1,h2⟩:=hr.two
  cases h1
  cases h2
  refine(Any.strings_Join_none Ug OV none 0 _ w).mono ?_
  rintro e w' ⟨rfl,rfl⟩
  exact⟨_,rfl,.str _,AJ⟩
 ·rename_i b o n c sep
  obtain⟨y,y',rfl,h1,h2⟩:=hr.two
  cases h2
  cases h1 with
  |
   slice _ _ _ _ l ra rc h hn hc hx ha =>
   split at hp
   ·rename_i YC
    subst YC
    cases hp
    refine(Any.strings_Join_none Ug OV (some ra) rc _ w).mono ?_
    rintro e w' ⟨rfl,rfl⟩
    exact⟨_,rfl,.str _,AJ⟩
   ·rename_i YC
    split at hp
    case h_2=>cases hp
    rename_i xs Ml
    split at hp
    case isFalse=>cases hp
    rename_i QQ
    cases hp
    obtain⟨cs,UH,NW⟩:=Option.bind_eq_some_iff.1 Ml
    obtain⟨rs,r1,r2,_,r4⟩:=wK hR h UH
    have Yw:=El NW r1
    subst Yw
    rcases ha with ha | ⟨rfl,ha⟩
    ·omega
    obtain⟨arr,e0,fz0,v1,_⟩:=hR.valid b l h
    have Ck:l.rb<w.heap.size:=(Array.getElem?_eq_some_iff.1 v1).1
    obtain⟨c1,c2,c3,c4⟩:=QQ
    subst c1
    refine(Any.strings_Join Ug OV l.rb (l.base+o) rc xs sep w (fun j x hj => ?_) Ck c3 (by omega) c4).mono ?_
    ·have:=r4 j (.string x) (by simp[hj])
     rw[Addr.add_lit] at this
     exact this
    ·rintro e w' ⟨rfl,hb⟩
     exact⟨_,rfl,.str _,Below.Aj hb⟩
theorem TZ {m:dE} {L0:Nat} {H:aE} {w:World} (hR:Rel m L0 H w):Lib.TabIs Tryz.prog w "internal/strconv.uint64pow10" .u64 Lib.pow10Tab:=by
 obtain⟨e,fz,h⟩:=(hR.Dv (3,(Lib.pow10Tab.map fun z=>Value.int .u64 z).toArray) (by simp[adY])).1
 have hg:Tryz.prog.globalNamed "internal/strconv.uint64pow10"=some 3:=by kernel_rfl
 unfold Lib.TabIs World.var?
 rw[hg]
 simp only[Option.bind_some,h]
theorem Ra:D2 214 uK:=by
 refine⟨⟨_,Tryz.func214,by kernel_rfl,by kernel_rfl⟩,fun L0 args H v hp m w gI hR hr => ?_⟩
 unfold uK at hp
 split at hp
 case h_2=>cases hp
 rename_i n b
 split at hp
 case isFalse=>cases hp
 rename_i hx
 cases hp
 obtain⟨y,y',rfl,h1,h2⟩:=hr.two
 cases h1
 cases h2
 obtain⟨rfl,h0,h1⟩:=hx
 obtain⟨u,rfl⟩:∃u:Nat,n=u:=⟨n.toNat,by omega⟩
 refine(ZB u (by omega) w (TZ hR)).mono ?_
 rintro e w' ⟨rfl,hb⟩
 exact⟨_,rfl,.str _,Below.Aj hb⟩
theorem NJ:D2 209 O2:=by
 refine⟨⟨_,Tryz.func209,by kernel_rfl,by kernel_rfl⟩,fun L0 args H v hp m w gI hR hr => ?_⟩
 unfold O2 at hp
 split at hp
 case h_2=>cases hp
 rename_i s p
 split at hp
 case h_2=>cases hp
 rename_i c hc
 cases hp
 obtain⟨y,y',rfl,h1,h2⟩:=hr.two
 cases h1
 cases h2
 have hp:p=⟨#[c]⟩:=by
  obtain⟨a⟩:=p
  obtain⟨l⟩:=a
  have:l=[c]:=hc
  rw[this]
 subst hp
 refine(Any.stringslite_Index_one akE s c w).mono ?_
 rintro e w' ⟨rfl,rfl⟩
 exact⟨_,rfl,.int _ _,AJ⟩
theorem M9:D2 192 wJ:=by
 refine⟨⟨_,Tryz.func192,by kernel_rfl,by kernel_rfl⟩,fun L0 args H v hp m w gI hR hr => ?_⟩
 unfold wJ at hp
 split at hp
 case h_2=>cases hp
 rename_i s b z
 split at hp
 case isFalse=>cases hp
 rename_i hx
 obtain⟨rfl,rfl,hs⟩:=hx
 split at hp
 case h_2=>cases hp
 rename_i u hu
 cases hp
 obtain⟨y,y',y'',rfl,h1,h2,h3⟩:=hr.three
 cases h1
 cases h2
 cases h3
 refine(Any.strconv_ParseUint_10_at64_ok agP s hs u hu w).mono ?_
 have hv:∀m,RV m (.tuple #[.int .u64 (u:Int),.nilIface]) (.tuple #[.int .u64 (u:Int),.nilIface]):=fun m => .tuple _ _ rfl fun i hi=>by
  match i,hi with
  | 0,_=>exact .int _ _
  | 1,_=>exact .nilIface
  | n+2,hi=>exact absurd hi (by simp)
 rintro e w' ⟨rfl,rfl | rfl⟩
 ·exact⟨_,rfl,hv m,AJ⟩
 ·exact⟨_,rfl,hv m,Below.Aj (Lib.bytesWorld_below _ _ _)⟩
theorem akH {L0:Nat}:ZK Tryz.prog cfg L0:=by
 intro f p hp
 have Cj:Ja f=some p:=hp
 unfold Ja at Cj
 split at Cj
 ·rename_i h;subst h;cases Cj;exact⟨Ra.1,Ra.2 L0⟩
 split at Cj
 ·rename_i h;subst h;cases Cj;exact⟨Mf.1,Mf.2 L0⟩
 split at Cj
 ·rename_i h;subst h;cases Cj;exact⟨RD.1,RD.2 L0⟩
 split at Cj
 ·rename_i h;subst h;cases Cj;exact⟨I3.1,I3.2 L0⟩
 split at Cj
 ·rename_i h;subst h;cases Cj;exact⟨NJ.1,NJ.2 L0⟩
 split at Cj
 ·rename_i h;subst h;cases Cj;exact⟨M9.1,M9.2 L0⟩
 cases Cj
end Go.PM
namespace Go.PM
open Go.ChangeShapes Go.WideShapes Go.ChangeAt Go.RowKit
open Go.Proofs
structure In (m:dE) (H:aE) (W:World):Prop where
 Yr:∀b l,m b=some l→b<H.length
 valid:∀b l,m b=some l→∃arr e fz,W.heap[l.rb]? = some (.cells arr e fz)∧arr.size=l.O6
 row:∀b l cs e p,m b=some l→H[b]? = some (.row cs e p)→l.fJ=e∧l.P8=p∧l.base+cs.length≤l.O6 ∧
  ∀i,i<cs.length→∃rv,W.cell? ⟨l.rb,l.base+i,none⟩=some rv∧RV m (cs.getD i Go.undef) rv∧PM.fO (cs.getD i Go.undef)=true
section
variable {m:dE} {H:aE} {W:World}
theorem In.empty:In (fun _=>none) [] W:=⟨fun _ _ h=>(by cases h),fun _ _ h=>(by cases h),fun _ _ _ _ _ h=>(by cases h)⟩
theorem In.rel (h:In m H W) (hg:Po W):Rel m H.length H W :=
 ⟨fun b l hb=>by
  obtain⟨arr,e,fz,h1,h2⟩:=h.valid b l hb
  exact⟨arr,e,fz,h1,h2,fun hl=>by have:=h.Yr b l hb;omega⟩,h.row,fun b1 b2 l1 l2 hl h1 _ _ _ _=>by have:=h.Yr b1 l1 h1;omega,fun x hx=>⟨hg x hx,fun b l hb hm _=>by have:=h.Yr b l hm;omega⟩⟩
theorem In.R3 (h:In m H W) {b:Nat} (hb:H.length≤b):m b=none:=by
 cases hm:m b with
 | none=>rfl
 | some l=>have:=h.Yr b l hm;omega
theorem In.add (h:In m H W) {rb base fJ:Nat} {arr:Array Value} {e:TypeId} {fz:Nat×Nat} {cs:List Value} (hb:W.heap[rb]? = some (.cells arr e fz)) (qK:base+cs.length≤arr.size)
  (hc:∀i,i<cs.length→∃rv,W.cell? ⟨rb,base+i,none⟩=some rv∧RV (tF m H.length ⟨rb,base,fJ,arr.size,false⟩) (cs.getD i Go.undef) rv∧PM.fO (cs.getD i Go.undef)=true) :
  In (tF m H.length ⟨rb,base,fJ,arr.size,false⟩) (H++[.row cs fJ false]) W:=by
 have hn:=h.R3 (Nat.le_refl H.length)
 refine⟨fun b l sS => ?_,fun b l sS => ?_,fun b l ds e' p sS pL => ?_⟩
 ·by_cases he:b=H.length
  ·subst he;simp
  ·rw[cO he] at sS
   have:=h.Yr b l sS
   simp;omega
 ·by_cases he:b=H.length
  ·subst he
   rw[bR] at sS
   cases sS
   exact⟨arr,e,fz,hb,rfl⟩
  ·rw[cO he] at sS
   exact h.valid b l sS
 ·by_cases he:b=H.length
  ·subst he
   rw[bR] at sS
   cases sS
   rw[Vo] at pL
   cases pL
   exact⟨rfl,rfl,qK,hc⟩
  ·rw[cO he] at sS
   have bA:=h.Yr b l sS
   rw[Pf bA] at pL
   obtain⟨h1,h2,h3,h4⟩:=h.row b l ds e' p sS pL
   refine⟨h1,h2,h3,fun i hi => ?_⟩
   obtain⟨rv,g1,g2,g3⟩:=h4 i hi
   exact⟨rv,g1,g2.mono (tM hn),g3⟩
end
theorem Vr {α:Type} (p:Nat→α→Prop):∀c,(∀i,i<c→∃x,p i x)→∃xs:List α,xs.length=c∧∀i x,xs[i]? = some x→p i x
 | 0,_=>⟨[],rfl,fun i x hx=>by simp at hx⟩
 |
  c+1,h=>by
  obtain⟨xs,h1,h2⟩:=Vr p c fun i hi=>h i (by omega)
  obtain⟨x,h3⟩:=h c (by omega)
  refine⟨xs++[x],by simp[h1],fun i y hy => ?_⟩
  rcases Nat.lt_or_ge i xs.length with hi | hi
  ·rw[List.getElem?_append_left hi] at hy
   exact h2 i y hy
  ·rw[List.getElem?_append_right hi] at hy
   have hi0:i-xs.length=0:=by
    rcases Nat.eq_zero_or_pos (i-xs.length) with h | h
    ·exact h
    ·rw[List.getElem?_eq_none (by simp;omega)] at hy;cases hy
   rw[hi0] at hy
   cases hy
   have:i=c:=by omega
   subst this
   exact h3
theorem acL {f:Nat} {args gI:List Value} {H H':aE} {v:Value} {m:dE} {W:World} (hI:In m H W) (hr:RL m args gI) (h:qO f args H.length H=some (v,H')) (hg:Po W:=by first | assumption | exact fun x hx=>nomatch hx) :
  Calls Tryz.prog f gI.toArray W fun e W'=>∃m' rv,e = .returned rv∧RV m' v rv∧Below W.heap.size W W':=by
 obtain⟨n,hn⟩:=(uD cfg gD).1 h
 refine(Hg Tryz.checked.mixed akH aiZ n f args H.length H v H' hn m W gI (hI.rel hg) (Nat.le_refl _) (Nat.le_refl _) hr (fun b hb _=>hI.R3 hb)).2.mono ?_
 rintro e W' ⟨m',rv,rfl,h1,_,h3⟩
 refine⟨m',rv,rfl,h1,⟨h3.same.1,h3.same.2.2,h3.same.2.1,h3.size,fun k hk=>h3.cB k hk fun b l hb hm _ => ?_⟩⟩
 rw[hI.R3 hb] at hm
 cases hm
end Go.PM
namespace Go.PM
def Tx (c:jG):Prop:=(0≤c.t∧c.t≤10000)∧(1≤c.w∧c.w≤1000)∧(0≤c.k∧c.k≤9)
instance (c:jG):Decidable (Tx c):=by unfold Tx;infer_instance
def ajP (cs:List jG) (i:Nat) (c:jG):Prop:=Tx c∧∀b,0<i→cs[i-1]? = some b→b.t≤c.t
def mC (cs:List jG):Prop:=(∀i c,cs[i]? = some c→ajP cs i c)∧cs.length≤24
noncomputable instance (cs:List jG):Decidable (mC cs):=Classical.propDecidable _
theorem mC.at {cs:List jG} (h:mC cs) {i:Nat} {c:jG} (hc:cs[i]? = some c):(0≤c.t∧c.t≤10000)∧(1≤c.w∧c.w≤1000)∧(0≤c.k∧c.k≤9):=(h.1 i c hc).1
def w64 (n:Int):Prop := -9223372036854775808≤n∧n≤9223372036854775807
def wl (time:Int):List jG→Int→Int→Int
 | [],l,s=>max (l-(time-s)) 0
 | c::cs,l,s=>if time<c.t then max (l-(time-s)) 0 else wl time cs (max (l-(c.t-s)) 0+c.w) c.t
def auA (cs:List jG) (time:Int):Prop:=mC cs∧(0≤time∧time≤1000000000)
noncomputable instance (cs:List jG) (time:Int):Decidable (auA cs time):=Classical.propDecidable _
def arD (cs:List jG) (ls:List Int):Prop:=mC cs∧ls.length=cs.length∧∀x∈ls,0≤x∧x≤1000000000
noncomputable instance (cs:List jG) (ls:List Int):Decidable (arD cs ls):=Classical.propDecidable _
def aoZ (cs:List jG) (ls:List Int) (time:Int):Prop:=arD cs ls∧(0≤time∧time≤1000000000)
noncomputable instance (cs:List jG) (ls:List Int) (time:Int):Decidable (aoZ cs ls time):=Classical.propDecidable _
def auU (cs:List jG) (ps:List Int):Prop:=mC cs∧ps.length=cs.length∧∀x∈ps,0≤x∧x≤10000
noncomputable instance (cs:List jG) (ps:List Int):Decidable (auU cs ps):=Classical.propDecidable _
end Go.PM
namespace Go.Proofs.YtjmflicajplclaaGreatDoor
open Go.ChangeShapes Go.WideShapes Go.ChangeAt Go.RowKit Go.PM
theorem own:ownKnob Tryz.prog.godebug=none:=by kernel_rfl
theorem laidOut:laidOutB Tryz.prog=true:=by kernel_rfl
theorem ajN {n:Int} (h:(Lit.int .i64 n).wf=true):w64 n:=by
 simp only[Lit.wf,Bool.and_eq_true,decide_eq_true_eq] at h
 exact h
theorem three {α:Type} {l:List α} (h:l.length=3):∃a b c,l=[a,b,c]:=by
 rcases l with _ | ⟨a,_ | ⟨b,_ | ⟨c,_ | ⟨d,l⟩⟩⟩⟩
 ·cases h
 ·cases h
 ·cases h
 ·exact⟨a,b,c,rfl⟩
 ·simp at h
end Go.Proofs.YtjmflicajplclaaGreatDoor
namespace Go.PM
def AN:List Nat:=[]
 ++ [34]
 ++ [36]
 ++ [37]
 ++ [17]
 ++ [20]
 ++ [21]
 ++ [26]
 ++ [28]
 ++ [29]
 ++ [22]
 ++ [46]
 ++ [48]
 ++ [18]
 ++ [16]
 ++ [27]
 ++ [25]
 ++ [41]
 ++ [40]
 ++ [43]
 ++ [42]
 ++ [31]
 ++ [30]
 ++ [39]
 ++ [38]
 ++ [35]
 ++ [33]
 ++ [182]
 ++ [199]
 ++ [200]
 ++ [204]
 ++ [205]
 ++ [162]
 ++ [216]
 ++ [147]
 ++ [181]
 ++ [71]
 ++ [138]
 ++ [61]
 ++ [99]
 ++ [76]
 ++ [133]
 ++ [149]
 ++ [94]
 ++ [95]
 ++ [90]
 ++ [118]
 ++ [134]
 ++ [179]
 ++ [103]
 ++ [119]
 ++ [72]
 ++ [62]
 ++ [78]
 ++ [70]
 ++ [60]
end Go.PM