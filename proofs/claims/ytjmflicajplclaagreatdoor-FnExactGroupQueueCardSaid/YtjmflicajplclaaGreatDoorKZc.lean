/- Texts of a claim, in one: part 3. -/
import Derived.Lib.ItoaNum
import Derived.Lib.Join
import Derived.Lib.BitFns
import Derived.Lib.Repeat
import Derived.Lib.Bytealg
import Derived.Lib.ParseIntB
import Derived.Test.YtjmflicajplclaaGreatDoorChecked
import Derived.Laws.BitsLemmas
import Derived.Shelf.Strings.OnBuilder
import Derived.Shelf.Strings.Repeat
import Derived.Shelf.Small.Bits
import Derived.Shelf.Strconv.Itoa1
import Derived.Shelf.Strconv.Itoa2
import Derived.Shelf.LaysM
import Derived.Shelf.Strings.Search2
import Derived.Shelf.Pu.ParseUintPublic10
import Derived.KernelRfl
import Derived.Test.YtjmflicajplclaaGreatDoorProg
import Derived.Lib.Walk
import Derived.Lib.ItoaMem
import Derived.WalkKit
import Derived.BigCall
import Derived.BigGuard
import Derived.Below
import Derived.Shelf.Strings.Search2
import Derived.Shelf.Pu.ParseUintPublic10
import Derived.Shelf.Strings.OnBuilder
import Derived.Shelf.Strings.Repeat
import Derived.Shelf.Small.Bits
import Derived.ProofKit
import Derived.OpenShut
import Derived.ShutString
import Derived.ChangeOld
import Derived.Carry
import Derived.SizedLaws
import Derived.Test.YtjmflicajplclaaGreatDoorRows
import Derived.Test.YtjmflicajplclaaGreatDoorKZb
set_option linter.unusedSimpArgs false
set_option linter.unusedVariables false
namespace Go.PM
def anZ:Ex→Exit
 | .normal => .normal
 | .exit id => .exit id
 | .ret => .ret
section
variable {P:Program} {E:AN} {n:Nat} {call:gF} {lo L0:Nat}
def Pv (P:Program) (n lo L0:Nat) (c:Code) (run:Env→aE→Option (Ex×Env×aE)):Prop :=
 ∀ρ H x bJ H',run ρ H=some (x,bJ,H')→∀m a w,HE n L0 m ρ H a w→L0≤H.length→(∀b,H.length≤b→b<H'.length→m b=none) →
  ∀Q:Exit→Act→World→Prop,(∀m' a' w',HE n L0 m' bJ H' a' w'→Trans lo m H w m' H' w'→Q (anZ x) a' w')→c.wp P Q a w
theorem Z3 {c:Code} {run:Env→aE→Option (Ex×Env×aE)} (hc:Pv P n lo L0 c run) (he:∀ρ H x bJ H',run ρ H=some (x,bJ,H')→Ext lo H H') (N:Nat):Pv P n lo L0 (.loop c) (yI run N):=by
 intro ρ H x bJ H' hr m a w h hl hf Q hQ
 apply wp_loop_rounds N
 have key:∀N ρ H,yI run N ρ H=some (x,bJ,H')→∀m a w,HE n L0 m ρ H a w→L0≤H.length→(∀b,H.length≤b→b<H'.length→m b=none) →
   (∀m' a' w',HE n L0 m' bJ H' a' w'→Trans lo m H w m' H' w'→Q (anZ x) a' w')→Code.rounds P c Q N a w:=by
  intro N
  induction N with
  | zero=>intro ρ H h;cases h
  |
   succ N ih =>
   intro ρ H hr m a w h hl hf hQ
   rw[rounds_succ]
   rw[yI] at hr
   split at hr
   ·rename_i wO H1 h1
    have e1:=he _ _ _ _ _ h1
    have e2:=Hl he N hr
    refine hc ρ H _ wO H1 h1 m a w h hl (fun b D2 hb2=>hf b D2 (Nat.lt_of_lt_of_le hb2 e2.len)) _ fun m1 a1 w1 hh hT => ?_
    exact ih wO H1 hr m1 a1 w1 hh (Nat.le_trans hl e1.len) (hT.fresh e1.len hf) fun m2 a2 w2 h2 O8=>hQ m2 a2 w2 h2 (Trans.trans hf e1 e2 hT O8)
   ·rename_i fC
    refine hc ρ H _ bJ H' hr m a w h hl hf _ fun m1 a1 w1 hh hT => ?_
    have:=hQ m1 a1 w1 hh hT
    cases x with
    | normal=>exact absurd hr (fC bJ H')
    | exit id=>exact this
    | ret=>exact this
 exact key N ρ H hr m a w h hl hf hQ
theorem oD (CU:P.follows .mixedOrders=true) (nY:wM P L0 call) (qZ:rH call) (dL:L0≤lo) (N:Nat):∀(c:Code) (pc:aD),iE P E n c=some pc→Pv P n lo L0 c (dM call lo N pc)
 |
  .skip,pc,hp=>by
  cases hp
  intro ρ H x bJ H' hr m a w h hl hf Q hQ
  cases hr
  exact wp_skip (hQ m a w h (Trans.refl _ _ _ _))
 |
  .region id ops draw,pc,hp=>by
  rw[iE] at hp
  cases hpr:yD P E n ops draw with
  | none=>rw[hpr] at hp;cases hp
  |
   some tA =>
   rw[hpr] at hp
   cases hp
   intro ρ H x bJ H' hr m a w h hl hf Q hQ
   rw[dM] at hr
   cases hs:gS call lo tA ρ H with
   | none=>rw[hs] at hr;cases hr
   |
    some q =>
    obtain⟨wO,H1⟩:=q
    rw[hs] at hr
    cases hr
    exact TH CU nY qZ hpr hs h dL hl hf hQ
 |
  .seq x y,pc,hp=>by
  rw[iE] at hp
  split at hp
  ·rename_i px py VJ hpy
   cases hp
   intro ρ H e bJ H' hr m a w h hl hf Q hQ
   rw[dM] at hr
   apply wp_seq
   split at hr
   ·rename_i wO H1 h1
    have e1:=jJ qZ px h1
    have e2:=jJ qZ py hr
    refine oD CU nY qZ dL N x px VJ ρ H _ wO H1 h1 m a w h hl (fun b D2 hb2=>hf b D2 (Nat.lt_of_lt_of_le hb2 e2.len)) _ fun m1 a1 w1 hh hT => ?_
    exact oD CU nY qZ dL N y py hpy wO H1 _ bJ H' hr m1 a1 w1 hh (Nat.le_trans hl e1.len) (hT.fresh e1.len hf) Q fun m2 a2 w2 h2 O8=>hQ m2 a2 w2 h2 (Trans.trans hf e1 e2 hT O8)
   ·rename_i fC
    refine oD CU nY qZ dL N x px VJ ρ H _ bJ H' hr m a w h hl hf _ fun m1 a1 w1 hh hT => ?_
    have:=hQ m1 a1 w1 hh hT
    cases e with
    | normal=>exact absurd hr (fC bJ H')
    | exit id=>exact this
    | ret=>exact this
  ·cases hp
 |
  .cond o x y,pc,hp=>by
  rw[iE] at hp
  split at hp
  ·rename_i Dx
   split at hp
   ·rename_i px py VJ hpy
    cases hp
    intro ρ H e bJ H' hr m a w h hl hf Q hQ
    rw[dM] at hr
    split at hr
    ·rename_i t ht
     have Uv:=S8 (a:=a) (m:=m) (ρ:=ρ) Dx fun t _=>h.env t
     rw[ht] at Uv
     generalize hev:a.eval o=ro at Uv
     cases Uv
     refine wp_cond hev ?_
     cases t with
     | true=>exact oD CU nY qZ dL N x px VJ ρ H _ bJ H' hr m a w h hl hf Q hQ
     | false=>exact oD CU nY qZ dL N y py hpy ρ H _ bJ H' hr m a w h hl hf Q hQ
    ·cases hr
   ·cases hp
  ·cases hp
 |
  .block id x,pc,hp=>by
  rw[iE] at hp
  cases VJ:iE P E n x with
  | none=>rw[VJ] at hp;cases hp
  |
   some px =>
   rw[VJ] at hp
   cases hp
   intro ρ H e bJ H' hr m a w h hl hf Q hQ
   rw[dM] at hr
   apply wp_block
   split at hr
   ·rename_i Rs wO H1 h1
    split at hr
    ·rename_i hid
     cases hr
     refine oD CU nY qZ dL N x px VJ ρ H _ bJ H' h1 m a w h hl hf _ fun m1 a1 w1 hh hT => ?_
     have:=hQ m1 a1 w1 hh hT
     show Exit.inBlock id Q (.exit Rs) a1 w1
     simp only[Exit.inBlock,if_pos hid]
     exact this
    ·rename_i hid
     cases hr
     refine oD CU nY qZ dL N x px VJ ρ H _ bJ H' h1 m a w h hl hf _ fun m1 a1 w1 hh hT => ?_
     have:=hQ m1 a1 w1 hh hT
     show Exit.inBlock id Q (.exit Rs) a1 w1
     simp only[Exit.inBlock,if_neg hid]
     exact this
   ·rename_i fC
    refine oD CU nY qZ dL N x px VJ ρ H _ bJ H' hr m a w h hl hf _ fun m1 a1 w1 hh hT => ?_
    have:=hQ m1 a1 w1 hh hT
    cases e with
    | normal=>exact this
    | exit Rs=>exact absurd hr (fC Rs bJ H')
    | ret=>exact this
 |
  .loop x,pc,hp=>by
  rw[iE] at hp
  cases VJ:iE P E n x with
  | none=>rw[VJ] at hp;cases hp
  |
   some px =>
   rw[VJ] at hp
   cases hp
   have hx:=oD CU nY qZ dL N x px VJ
   intro ρ H e bJ H' hr
   rw[dM] at hr
   exact Z3 hx (fun ρ H x bJ H' h=>jJ qZ px h) N ρ H e bJ H' hr
 |
  .exit id,pc,hp=>by
  cases hp
  intro ρ H x bJ H' hr m a w h hl hf Q hQ
  cases hr
  exact wp_exit (hQ m a w h (Trans.refl _ _ _ _))
 |
  .ret,pc,hp=>by
  cases hp
  intro ρ H x bJ H' hr m a w h hl hf Q hQ
  cases hr
  exact wp_ret (hQ m a w h (Trans.refl _ _ _ _))
 | .rangeFunc ..,pc,hp=>by cases hp
 | .scope _,pc,hp=>by cases hp
 | .label _,pc,hp=>by cases hp
 | .goto _,pc,hp=>by cases hp
 | .refuse _,pc,hp=>by cases hp
def zJ (P:Program):ResultVar→Option A1
 | .tmp t=>some (.tmp t)
 | .cell t ty=>(lY P ty).map fun(agg,size,_,_) => .cell t agg size
def Mt (a:Act):ResultVar→Sem Value
 | .tmp t=>pure (a.tmps.getD t undef)
 | .cell x t=>do loadVar t (←asAddr (a.tmps.getD x undef))
theorem axC {m:dP} {ρ:Env} {H:aE} {a:Act} {w:World} (h:HE n L0 m ρ H a w) {r:ResultVar} {pr:A1} (hp:zJ P r=some pr) {v:Value} (hv:Vm ρ H pr=some v) :
  ∃rv,RV m v rv∧(Mt a r).run P w = .ok rv w:=by
 cases r with
 |
  tmp t =>
  cases hp
  cases hv
  exact⟨_,h.env t,rfl⟩
 |
  cell x t =>
  simp only[zJ] at hp
  cases ht:lY P t with
  | none=>rw[ht] at hp;cases hp
  |
   some q =>
   obtain⟨agg,size,z,nb⟩:=q
   rw[ht] at hp
   cases hp
   obtain⟨rv,h1,h2⟩:=Oz ht hv h.rel (h.env x)
   refine⟨rv,h1,?_⟩
   unfold Mt
   have hpv:=h.env x
   simp only[Vm,nP] at hv
   split at hv
   ·rename_i b o hb
    rw[hb] at hpv
    show (do loadVar t (←asAddr (a.tmps.getD x undef)):Sem Value).run P w=_
    generalize a.tmps.getD x undef=rp at h2 hpv ⊢
    cases hpv
    exact h2
   ·cases hv
theorem Y7 {m:dP} {ρ:Env} {H:aE} {a:Act} {w:World} (h:HE n L0 m ρ H a w):∀ {rs:List ResultVar} {prs:List A1} {vs:List Value},rs.mapM (zJ P)=some prs→Bt ρ H prs=some vs →
  ∃Yu,RL m vs Yu∧(rs.mapM (Mt a)).run P w = .ok Yu w
 |
  [],prs,vs,hp,hv=>by
  simp at hp
  subst hp
  cases hv
  exact⟨[],RL.nil m,rfl⟩
 |
  r::rs,prs,vs,hp,hv=>by
  simp only[List.mapM_cons,Option.pure_def,Option.bind_eq_bind] at hp
  cases h1:zJ P r with
  | none=>rw[h1] at hp;cases hp
  |
   some pr =>
   rw[h1] at hp
   cases h2:rs.mapM (zJ P) with
   | none=>rw[h2] at hp;cases hp
   |
    some aA6 =>
    rw[h2] at hp
    cases hp
    simp only[Bt] at hv
    split at hv
    ·rename_i v vs' hv1 hv2
     cases hv
     obtain⟨rv,g1,g2⟩:=axC h h1 hv1
     obtain⟨Yu,g3,g4⟩:=Y7 h h2 hv2
     refine⟨rv::Yu,RL.cons g1 g3,?_⟩
     rw[List.mapM_cons,Sem.run_bind,g2,Result.andThen_ok,Sem.run_bind,g4]
     rfl
    ·cases hv
theorem IL {m:dP} {ρ:Env} {H:aE} {a:Act} {w:World} (h:HE n L0 m ρ H a w) {fn:Func} {prs:List A1} (hp:fn.results.toList.mapM (zJ P)=some prs) {v:Value} (hv:qQ prs ρ H=some v) :
  ∃rv,RV m v rv∧(results fn a.tmps).run P w = .ok rv w:=by
 unfold qQ at hv
 cases pE:Bt ρ H prs with
 | none=>rw[pE] at hv;cases hv
 |
  some vs =>
  obtain⟨Yu,h1,h2⟩:=Y7 h hp pE
  rw[pE] at hv
  have pC:∀rv,(if h:Yu.toArray.size=1 then Yu.toArray[0] else .tuple Yu.toArray)=rv→(results fn a.tmps).run P w = .ok rv w:=by
   intro rv Uv
   have e:results fn a.tmps=(do let vs ←fn.results.mapM (Mt a);pure (if h:vs.size=1 then vs[0] else .tuple vs)):=by
    unfold results
    congr 2
   rw[e,Array.mapM_eq_mapM_toList,Sem.run_bind]
   have:(List.toArray <$> fn.results.toList.mapM (Mt a)).run P w = .ok Yu.toArray w:=by
    rw[map_eq_pure_bind,Sem.run_bind,h2]
    rfl
   rw[this,←Uv]
   rfl
  clear h2 pE
  rcases vs with _ | ⟨x,_ | ⟨y,xs⟩⟩
  ·rcases Yu with _ | ⟨x',ys⟩
   ·cases hv
    exact⟨_,h1.Wf,pC _ rfl⟩
   ·cases h1.1
  ·rcases Yu with _ | ⟨x',_ | ⟨y',ys⟩⟩
   ·cases h1.1
   ·cases hv
    exact⟨x',h1.jT.1,pC x' rfl⟩
   ·cases h1.1
  ·rcases Yu with _ | ⟨x',_ | ⟨y',ys⟩⟩
   ·cases h1.1
   ·cases h1.1
   ·cases hv
    exact⟨_,h1.Wf,pC _ (by simp)⟩
end
end Go.PM
namespace Go.PM
def ZE (P:Program) (E:AN) (L0:Nat):Prop :=
 ∀f p,E.AR f=some p→Mh P f∧∀args H v,p args H=some v→∀m w gO,Rel m L0 H w→RL m args gO →
  Calls P f gO.toArray w fun e w'=>∃rv,e = .returned rv∧RV m v rv∧w.heap.size≤w'.heap.size∧(∀rb,rb<w.heap.size→w'.heap[rb]? = w.heap[rb]?)∧w'.os=w.os∧w'.output=w.output∧w'.tape=w.tape
theorem Rel.more {m:dP} {L0:Nat} {H:aE} {w w':World} (h:Rel m L0 H w) (hk:∀rb,rb<w.heap.size→w'.heap[rb]? = w.heap[rb]?):Rel m L0 H w':=by
 have hv:∀b l,m b=some l→l.rb<w.heap.size:=fun b l hb=>by
  obtain⟨arr,e,fz,h1,_⟩:=h.valid b l hb
  exact(Array.getElem?_eq_some_iff.1 h1).1
 refine⟨fun b l hb=>by rw[hk _ (hv b l hb)];exact h.valid b l hb,fun b l cs e p hm hb => ?_,h.inj,fun x hx=>⟨?_,(h.C6 x hx).2⟩⟩
 ·obtain⟨h1,h2,h3,h4⟩:=h.row b l cs e p hm hb
  refine⟨h1,h2,h3,fun i hi => ?_⟩
  obtain⟨rv,g1,g2⟩:=h4 i hi
  refine⟨rv,?_,g2⟩
  rw[←g1]
  unfold World.cell?
  simp only[hk _ (hv b l hm)]
 ·obtain⟨e,fz,g1⟩:=(h.C6 x hx).1
  exact⟨e,fz,by rw[hk _ (Array.getElem?_eq_some_iff.1 g1).1];exact g1⟩
theorem abK {P:Program} {E:AN} {f:Nat} {pf:aR} (h:Q5 P E f=some pf):∃fn c,P.funcs[f]? = some fn∧fn.body=some c∧(fn.name == "runtime.NumGoroutine")=false∧fn.results.toList.mapM (zJ P)=some pf.res∧iE P E fn.ntmps c=some pf.body∧pf.ntmps=fn.ntmps:=by
 unfold Q5 at h
 cases hf:P.funcs[f]? with
 | none=>rw[hf] at h;cases h
 |
  some fn =>
  rw[hf] at h
  have h':Lz P E fn=some pf:=h
  unfold Lz at h'
  cases hb:fn.body with
  | none=>rw[hb] at h';cases h'
  |
   some c =>
   rw[hb] at h'
   simp only at h'
   split at h'
   ·cases h'
   ·rename_i Zx
    split at h'
    ·cases h'
    ·rename_i res UO
     cases hc:iE P E fn.ntmps c with
     | none=>rw[hc] at h';cases h'
     |
      some body =>
      rw[hc] at h'
      cases h'
      refine⟨fn,c,rfl,hb,by simpa using Zx,?_,hc,rfl⟩
      have e:(fun(r:ResultVar)=>match r with
       | .tmp t=>some (A1.tmp t)
       | .cell t ty=>(lY P ty).map fun(agg,size,_,_) => .cell t agg size)=zJ P:=by
       funext r
       cases r<;>rfl
      rw[←e]
      exact UO
theorem Ic {P:Program} {E:AN} {T:Tab} {L0:Nat} (CU:P.follows .mixedOrders=true) (aaH:ZE P E L0) (hT:∀f pf,T f=some pf→Q5 P E f=some pf):∀n,wM P L0 (mD E T n)
 | 0=>fun f args lo H v H' h=>by cases h
 |
  n+1=>fun f args lo H v H' h m w gO hR dL hlen SW hf=>by
  have qZ:=DI E T n
  rw[mD] at h
  split at h
  ·rename_i p hp
   obtain⟨hco,avJ⟩:=aaH f p hp
   refine⟨hco,?_⟩
   cases hpv:p args H with
   | none=>rw[hpv] at h;cases h
   |
    some u =>
    rw[hpv] at h
    cases h
    refine(avJ args H v hpv m w gO hR SW).mono ?_
    rintro e w' ⟨rv,rfl,h1,h2,h3,h4⟩
    exact⟨m,rv,rfl,h1,hR.more h3,fun _ _ h=>h,fun b l hb hn=>(by rw[hb] at hn;cases hn),h2,fun rb CB _=>h3 rb CB,h4⟩
  ·split at h
   ·cases h
   ·rename_i pf hpf
    obtain⟨fn,c,h1,h2,h3,h4,h5,h6⟩:=abK (hT _ _ hpf)
    split at h
    case isFalse=>cases h
    rename_i xD
    refine⟨⟨fn,h1,h3,by rw[h2];rfl⟩,calls_of_wp h1 h2 ?_⟩
    have B7:gO.toArray.size≤fn.ntmps:=by
     have:=SW.1
     simp;omega
    have hH:HE fn.ntmps L0 m (X5 args) H { tmps:=gO.toArray++Array.replicate (fn.ntmps-gO.toArray.size) undef,defers:=[] } w:=by
     refine⟨by simp at B7 ⊢;omega,rfl,fun t => ?_,hR⟩
     rcases Nat.lt_or_ge t args.length with ht | ht
     ·have h7:=SW.2 t ht
      have ht':t<gO.length:=by rw[←SW.1];exact ht
      have e:(gO.toArray++Array.replicate (fn.ntmps-gO.toArray.size) undef).getD t undef=gO.getD t undef:=by
       rw[Array.getD_eq_getD_getElem?,Array.getElem?_append_left (by simpa using ht')]
       simp
      show RV m (args.getD t undef) _
      rw[e]
      exact h7
     ·have e1:args.getD t undef=undef:=by simp[List.getD_eq_getElem?_getD,List.getElem?_eq_none ht]
      have ht':gO.length≤t:=by rw[←SW.1];exact ht
      have e2:(gO.toArray++Array.replicate (fn.ntmps-gO.toArray.size) undef).getD t undef=undef:=by
       rw[Array.getD_eq_getD_getElem?,Array.getElem?_append_right (by simpa using ht')]
       rw[Array.getElem?_replicate]
       split<;>rfl
      show RV m (args.getD t undef) _
      rw[e1,e2]
      exact RV.undef m
    split at h
    ·rename_i wO H1 pC
     cases hr:qQ pf.res wO H1 with
     | none=>rw[hr] at h;cases h
     |
      some u =>
      rw[hr] at h
      cases h
      refine oD CU (Ic CU aaH hT n) qZ dL n c pf.body h5 _ _ _ _ _ pC m _ w hH hlen hf _ fun m' a' w' hh hTr => ?_
      obtain⟨rv,g1,g2⟩:=IL hh h4 hr
      exact⟨hh.defs,rv,g2,m',rv,rfl,g1,hh.rel,hTr⟩
    ·rename_i wO H1 pC
     cases hr:qQ pf.res wO H1 with
     | none=>rw[hr] at h;cases h
     |
      some u =>
      rw[hr] at h
      cases h
      refine oD CU (Ic CU aaH hT n) qZ dL n c pf.body h5 _ _ _ _ _ pC m _ w hH hlen hf _ fun m' a' w' hh hTr => ?_
      obtain⟨rv,g1,g2⟩:=IL hh h4 hr
      exact⟨hh.defs,rv,g2,m',rv,rfl,g1,hh.rel,hTr⟩
    ·cases h
end Go.PM
namespace Go.PM
def CLe (c c':gF):Prop:=∀f args lo H r,c f args lo H=some r→c' f args lo H=some r
section
variable {c c':gF} {lo:Nat}
theorem Nj (h:CLe c c') {i:PI} {ρ:Env} {H:aE} {r:Value×aE} (hr:yN c lo i ρ H=some r):yN c' lo i ρ H=some r:=by
 unfold yN at hr ⊢
 split at hr
 ·cases hr
 ·exact hr
 ·split at hr
  ·rename_i Qc
   rw[if_pos Qc]
   split at hr
   ·exact hr
   ·exact h _ _ _ _ _ hr
   ·cases hr
  ·cases hr
theorem TO (h:CLe c c') {i:PI} {ρ:Env} {H:aE} {r:Env×aE} (hr:xC c lo i ρ H=some r):xC c' lo i ρ H=some r:=by
 unfold xC at hr ⊢
 split at hr
 ·rename_i v H' hv
  rw[Nj h hv]
  exact hr
 ·cases hr
theorem zL (h:CLe c c'):∀ {is:List PI} {ρ:Env} {H:aE} {r:Env×aE},gS c lo is ρ H=some r→gS c' lo is ρ H=some r
 | [],_,_,_,hr=>hr
 |
  i::is,ρ,H,r,hr=>by
  rw[gS] at hr ⊢
  split at hr
  ·rename_i h1
   rw[TO h h1]
   exact zL h hr
  ·cases hr
theorem xW {b b':Env→aE→Option (Ex×Env×aE)} (h:∀ρ H r,b ρ H=some r→b' ρ H=some r):∀ {n n':Nat} {ρ:Env} {H:aE} {r:Ex×Env×aE},n≤n'→yI b n ρ H=some r→yI b' n' ρ H=some r
 | 0,_,_,_,_,_,hr=>by cases hr
 | n+1,0,_,_,_,hn,_=>by omega
 |
  n+1,n'+1,ρ,H,r,hn,hr=>by
  rw[yI] at hr ⊢
  split at hr
  ·rename_i h1
   rw[h _ _ _ h1]
   exact xW h (by omega) hr
  ·rename_i fC
   rw[h _ _ _ hr]
   split
   ·rename_i bJ H' he
    cases he
    exact absurd hr (fC _ _)
   ·rfl
theorem eY (h:CLe c c') {n n':Nat} (hn:n≤n'):∀(p:aD) {ρ:Env} {H:aE} {r:Ex×Env×aE},dM c lo n p ρ H=some r→dM c' lo n' p ρ H=some r
 | .skip,_,_,_,hr=>hr
 |
  .dG ops,ρ,H,r,hr=>by
  rw[dM] at hr ⊢
  cases hs:gS c lo ops ρ H with
  | none=>rw[hs] at hr;cases hr
  | some q=>rw[hs] at hr;rw[zL h hs];exact hr
 |
  .seq a b,ρ,H,r,hr=>by
  rw[dM] at hr ⊢
  split at hr
  ·rename_i h1
   rw[eY h hn a h1]
   exact eY h hn b hr
  ·rename_i fC
   rw[eY h hn a hr]
   split
   ·rename_i he;cases he;exact absurd hr (fC _ _)
   ·rfl
 |
  .cond x a b,ρ,H,r,hr=>by
  rw[dM] at hr ⊢
  split at hr
  ·split at hr
   ·rename_i ht;rw[if_pos ht];exact eY h hn a hr
   ·rename_i ht;rw[if_neg ht];exact eY h hn b hr
  ·cases hr
 |
  .block id a,ρ,H,r,hr=>by
  rw[dM] at hr ⊢
  split at hr
  ·rename_i h1
   rw[eY h hn a h1]
   exact hr
  ·rename_i fC
   rw[eY h hn a hr]
   split
   ·rename_i he;cases he;exact absurd hr (fC _ _ _)
   ·rfl
 |
  .loop a,ρ,H,r,hr=>by
  rw[dM] at hr ⊢
  exact xW (fun ρ H r hr=>eY h hn a hr) hn hr
 | .exit id,_,_,_,hr=>hr
 | .ret,_,_,_,hr=>hr
theorem BF (E:AN) (T:Tab):∀n,CLe (mD E T n) (mD E T (n+1))
 | 0,_,_,_,_,_,hr=>by cases hr
 |
  n+1,f,args,lo,H,r,hr=>by
  rw[mD] at hr ⊢
  split at hr
  ·exact hr
  ·split at hr
   ·cases hr
   ·split at hr
    ·rename_i pf _ ha
     rw[if_pos ha]
     split at hr
     ·rename_i h1
      rw[eY (BF E T n) (Nat.le_succ n) pf.body h1]
      exact hr
     ·rename_i h1
      rw[eY (BF E T n) (Nat.le_succ n) pf.body h1]
      exact hr
     ·cases hr
    ·cases hr
theorem oM (E:AN) (T:Tab) {n n':Nat} (h:n≤n'):CLe (mD E T n) (mD E T n'):=by
 induction h with
 | refl=>exact fun _ _ _ _ _ h=>h
 | step _ ih=>exact fun f args lo H r hr=>BF E T _ f args lo H r (ih f args lo H r hr)
end
section
variable (E:AN) (T:Tab)
open Classical in
noncomputable def nA {α:Type} (run:Nat→Option α):Option α:=if h:∃r,∃n,run n=some r then some (Classical.choose h) else none
theorem US {α:Type} {run:Nat→Option α} (hm:∀n n' r,n≤n'→run n=some r→run n'=some r) {r:α}:nA run=some r↔∃n,run n=some r:=by
 unfold nA
 constructor
 ·intro h
  split at h
  ·rename_i hx
   cases h
   exact Classical.choose_spec hx
  ·cases h
 ·rintro⟨n,hn⟩
  have hx:∃r,∃n,run n=some r:=⟨r,n,hn⟩
  rw[dif_pos hx]
  obtain⟨n',RF⟩:=Classical.choose_spec hx
  have h1:=hm n (max n n') r (Nat.le_max_left _ _) hn
  have h2:=hm n' (max n n') _ (Nat.le_max_right _ _) RF
  rw[h1] at h2
  injection h2 with h2
  rw[←h2]
noncomputable def call:gF:=fun f args lo H=>nA fun n=>mD E T n f args lo H
noncomputable def code (lo:Nat) (c:aD) (ρ:Env) (H:aE):Option (Ex×Env×aE):=nA fun n=>dM (mD E T n) lo n c ρ H
theorem uQ {f:Nat} {args:List Value} {lo:Nat} {H:aE} {r:Value×aE}:call E T f args lo H=some r↔∃n,mD E T n f args lo H=some r :=
 US fun _ _ r h hr=>oM E T h f args lo H r hr
theorem cO {lo:Nat} {c:aD} {ρ:Env} {H:aE} {r:Ex×Env×aE}:code E T lo c ρ H=some r↔∃n,dM (mD E T n) lo n c ρ H=some r :=
 US fun _ _ _ h hr=>eY (oM E T h) h c hr
theorem Kf {lo:Nat}:∀ {is:List PI} {ρ:Env} {H:aE} {r:Env×aE},gS (call E T) lo is ρ H=some r↔∃n,gS (mD E T n) lo is ρ H=some r:=by
 have le:∀n,CLe (mD E T n) (call E T):=fun n f args lo H r hr=>(uQ E T).2 ⟨n,hr⟩
 have val:∀ {i:PI} {ρ:Env} {H:aE} {r:Value×aE},yN (call E T) lo i ρ H=some r→∃n,yN (mD E T n) lo i ρ H=some r:=by
  intro i ρ H r hr
  unfold yN at hr ⊢
  split at hr
  ·cases hr
  ·exact⟨0,hr⟩
  ·split at hr
   ·rename_i Qc
    split at hr
    ·exact⟨0,by rw[if_pos Qc];exact hr⟩
    ·obtain⟨n,hn⟩:=(uQ E T).1 hr
     exact⟨n,by rw[if_pos Qc];exact hn⟩
    ·cases hr
   ·cases hr
 intro is
 induction is with
 | nil=>exact fun {ρ H r}=>⟨fun h=>⟨0,h⟩,fun⟨_,h⟩=>h⟩
 |
  cons i is ih =>
  intro ρ H r
  constructor
  ·intro h
   rw[gS] at h
   split at h
   ·rename_i wO H1 h1
    obtain⟨v,hv,rfl⟩:=xQ h1
    obtain⟨n1,hn1⟩:=val hv
    obtain⟨n2,hn2⟩:=ih.1 h
    refine⟨max n1 n2,?_⟩
    rw[gS]
    have e:xC (mD E T (max n1 n2)) lo i ρ H=some (put ρ i.dst v,H1):=by
     unfold xC
     rw[Nj (oM E T (Nat.le_max_left n1 n2)) hn1]
    rw[e]
    exact zL (oM E T (Nat.le_max_right n1 n2)) hn2
   ·cases h
  ·rintro⟨n,h⟩
   exact zL (le n) h
theorem Bm {α:Type} {a b:Option α} (h:∀r,a=some r↔b=some r):a=b:=by
 cases a with
 |
  none =>
  cases b with
  | none=>rfl
  | some y=>exact((h y).2 rfl)
 | some x=>exact((h x).1 rfl).symm
variable {lo:Nat} {ρ:Env} {H:aE}
theorem Xv:code E T lo .skip ρ H=some (.normal,ρ,H):=(cO E T).2 ⟨0,rfl⟩
theorem Xk {id:Nat}:code E T lo (.exit id) ρ H=some (.exit id,ρ,H):=(cO E T).2 ⟨0,rfl⟩
theorem Y4:code E T lo .ret ρ H=some (.ret,ρ,H):=(cO E T).2 ⟨0,rfl⟩
theorem acN {ops:List PI}:code E T lo (.dG ops) ρ H=(gS (call E T) lo ops ρ H).map fun(bJ,H')=>(.normal,bJ,H'):=by
 refine Bm fun r => ?_
 rw[cO]
 constructor
 ·rintro⟨n,h⟩
  rw[dM] at h
  cases hs:gS (mD E T n) lo ops ρ H with
  | none=>rw[hs] at h;cases h
  |
   some q =>
   rw[hs] at h
   rw[(Kf E T).2 ⟨n,hs⟩]
   exact h
 ·intro h
  cases hs:gS (call E T) lo ops ρ H with
  | none=>rw[hs] at h;cases h
  |
   some q =>
   rw[hs] at h
   obtain⟨n,hn⟩:=(Kf E T).1 hs
   exact⟨n,by rw[dM,hn];exact h⟩
theorem acH {a b:aD}:code E T lo (.seq a b) ρ H=match code E T lo a ρ H with
  | some (.normal,bJ,H')=>code E T lo b bJ H'
  | r=>r:=by
 refine Bm fun r => ?_
 rw[cO]
 constructor
 ·rintro⟨n,h⟩
  rw[dM] at h
  split at h
  ·rename_i h1
   rw[(cO E T).2 ⟨n,h1⟩]
   exact(cO E T).2 ⟨n,h⟩
  ·rename_i fC
   rw[(cO E T).2 ⟨n,h⟩]
   split
   ·rename_i he;cases he;exact absurd h (fC _ _)
   ·rfl
 ·intro h
  split at h
  ·rename_i h1
   obtain⟨n1,h1⟩:=(cO E T).1 h1
   obtain⟨n2,h2⟩:=(cO E T).1 h
   refine⟨max n1 n2,?_⟩
   rw[dM,eY (oM E T (Nat.le_max_left n1 n2)) (Nat.le_max_left n1 n2) a h1]
   exact eY (oM E T (Nat.le_max_right n1 n2)) (Nat.le_max_right n1 n2) b h2
  ·rename_i fC
   obtain⟨n,h1⟩:=(cO E T).1 h
   refine⟨n,?_⟩
   rw[dM,h1]
   split
   ·rename_i he;cases he;exact absurd h (fC _ _)
   ·rfl
theorem XU {x:Operand} {a b:aD}:code E T lo (.cond x a b) ρ H=match ev ρ x with
  | .bool t=>if t then code E T lo a ρ H else code E T lo b ρ H
  | _=>none:=by
 refine Bm fun r => ?_
 rw[cO]
 constructor
 ·rintro⟨n,h⟩
  rw[dM] at h
  split at h
  ·rename_i t he
   rw[he]
   show (if t=true then code E T lo a ρ H else code E T lo b ρ H)=some r
   split at h
   ·rename_i ht;rw[if_pos ht];exact(cO E T).2 ⟨n,h⟩
   ·rename_i ht;rw[if_neg ht];exact(cO E T).2 ⟨n,h⟩
  ·cases h
 ·intro h
  split at h
  ·rename_i t he
   split at h
   ·rename_i ht
    obtain⟨n,h⟩:=(cO E T).1 h
    refine⟨n,?_⟩
    rw[dM,he]
    show (if t=true then _ else _)=_
    rw[if_pos ht]
    exact h
   ·rename_i ht
    obtain⟨n,h⟩:=(cO E T).1 h
    refine⟨n,?_⟩
    rw[dM,he]
    show (if t=true then _ else _)=_
    rw[if_neg ht]
    exact h
  ·cases h
theorem TP {id:Nat} {a:aD}:code E T lo (.block id a) ρ H=match code E T lo a ρ H with
  | some (.exit Rs,bJ,H')=>if Rs=id then some (.normal,bJ,H') else some (.exit Rs,bJ,H')
  | r=>r:=by
 refine Bm fun r => ?_
 rw[cO]
 constructor
 ·rintro⟨n,h⟩
  rw[dM] at h
  split at h
  ·rename_i h1
   rw[(cO E T).2 ⟨n,h1⟩]
   exact h
  ·rename_i fC
   rw[(cO E T).2 ⟨n,h⟩]
   split
   ·rename_i he;cases he;exact absurd h (fC _ _ _)
   ·rfl
 ·intro h
  split at h
  ·rename_i h1
   obtain⟨n,h1⟩:=(cO E T).1 h1
   exact⟨n,by rw[dM,h1];exact h⟩
  ·rename_i fC
   obtain⟨n,h1⟩:=(cO E T).1 h
   refine⟨n,?_⟩
   rw[dM,h1]
   split
   ·rename_i he;cases he;exact absurd h (fC _ _ _)
   ·rfl
theorem Yc {a:aD}:code E T lo (.loop a) ρ H=match code E T lo a ρ H with
  | some (.normal,bJ,H')=>code E T lo (.loop a) bJ H'
  | r=>r:=by
 refine Bm fun r => ?_
 rw[cO]
 constructor
 ·rintro⟨n,h⟩
  rw[dM] at h
  cases n with
  | zero=>cases h
  |
   succ n =>
   rw[yI] at h
   split at h
   ·rename_i h1
    rw[(cO E T).2 ⟨n+1,h1⟩]
    refine(cO E T).2 ⟨n+1,?_⟩
    rw[dM]
    exact xW (fun _ _ _ h=>h) (Nat.le_succ n) h
   ·rename_i fC
    rw[(cO E T).2 ⟨n+1,h⟩]
    split
    ·rename_i he;cases he;exact absurd h (fC _ _)
    ·rfl
 ·intro h
  split at h
  ·rename_i h1
   obtain⟨n1,h1⟩:=(cO E T).1 h1
   obtain⟨n2,h2⟩:=(cO E T).1 h
   refine⟨max n1 n2+1,?_⟩
   have g1:=eY (oM E T (show n1≤max n1 n2+1 by omega)) (show n1≤max n1 n2+1 by omega) a h1
   rw[dM,yI,g1]
   rw[dM] at h2
   exact xW (fun _ _ _ h=>eY (oM E T (show n2≤max n1 n2+1 by omega)) (show n2≤max n1 n2+1 by omega) a h) (show n2≤max n1 n2 by omega) h2
  ·rename_i fC
   obtain⟨n,h1⟩:=(cO E T).1 h
   refine⟨n+1,?_⟩
   rw[dM,yI,eY (BF E T n) (Nat.le_succ n) a h1]
   split
   ·rename_i he;cases he;exact absurd h (fC _ _)
   ·rfl
noncomputable def akU (lo:Nat) (pf:aR) (args:List Value) (H:aE):Option (Value×aE) :=
 if args.length≤pf.ntmps then
  match code E T lo pf.body (X5 args) H with
  | some (.normal,ρ,H') | some (.ret,ρ,H')=>(qQ pf.res ρ H').map (·,H')
  | _=>none
 else none
theorem Yi {f:Nat} {p:List Value→aE→Option Value} (h:E.AR f=some p) {args:List Value}:call E T f args lo H=(p args H).map (·,H):=by
 refine Bm fun r => ?_
 rw[uQ]
 constructor
 ·rintro⟨n,hr⟩
  cases n with
  | zero=>cases hr
  | succ n=>rw[mD,h] at hr;exact hr
 ·intro hr
  exact⟨1,by rw[mD,h];exact hr⟩
theorem afO {f:Nat} {pf:aR} (hp:E.AR f=none) (h:T f=some pf) {args:List Value}:call E T f args lo H=akU E T lo pf args H:=by
 refine Bm fun r => ?_
 rw[uQ]
 unfold akU
 constructor
 ·rintro⟨n,hr⟩
  cases n with
  | zero=>cases hr
  |
   succ n =>
   rw[mD,hp,h] at hr
   simp only at hr
   split at hr
   ·rename_i ha
    rw[if_pos ha]
    split at hr
    ·rename_i h1
     rw[(cO E T).2 ⟨n,h1⟩]
     exact hr
    ·rename_i h1
     rw[(cO E T).2 ⟨n,h1⟩]
     exact hr
    ·cases hr
   ·cases hr
 ·intro hr
  split at hr
  ·rename_i ha
   split at hr
   ·rename_i h1
    obtain⟨n,h1⟩:=(cO E T).1 h1
    exact⟨n+1,by rw[mD,hp,h];simp only;rw[if_pos ha,h1];exact hr⟩
   ·rename_i h1
    obtain⟨n,h1⟩:=(cO E T).1 h1
    exact⟨n+1,by rw[mD,hp,h];simp only;rw[if_pos ha,h1];exact hr⟩
   ·cases hr
  ·cases hr
end
end Go.PM
namespace Go.PM
theorem DN {H H':aE} {lo gP b o:Nat} {new:List Value} (hl:gP≤lo) (h:H.write lo b o new=some H'):H.write gP b o new=some H':=by
 unfold aE.write at h ⊢
 split at h
 ·split at h
  ·rename_i hc
   rw[if_pos ⟨by omega,hc.2⟩]
   exact h
  ·cases h
 ·cases h
theorem BK {α β:Type} {a b:Option α} {f:α→β} {r:β} (FA:∀x,a=some x→b=some x) (h:a.map f=some r):b.map f=some r:=by
 cases a with
 | none=>cases h
 | some x=>rw[FA x rfl];exact h
theorem Jl {lo gP size bytes add:Nat} {x:Value} {new:List Value} {H:aE} {r:Value×aE} (hl:gP≤lo) (h:eR lo size bytes x add new H=some r):eR gP size bytes x add new H=some r:=by
 unfold eR at h ⊢
 split at h
 case isFalse=>cases h
 rename_i hc
 rw[if_pos hc]
 split at h
 ·exact h
 ·split at h
  ·split at h
   ·rename_i h1
    skip
    rw[if_pos h1]
    split at h
    ·rename_i h2
     rw[if_pos h2]
     split at h
     ·rename_i h3;rw[if_pos h3];exact h
     ·rename_i h3
      rw[if_neg h3]
      exact BK (fun H' hw=>DN hl hw) h
    ·rename_i h2
     rw[if_neg h2]
     split at h
     ·rename_i h3
      rw[if_pos h3]
      split at h
      ·rename_i h4
       rw[if_pos h4]
       split at h
       ·rename_i h5;rw[if_pos (by omega)];exact h
       ·cases h
      ·rename_i h4;rw[if_neg h4];exact h
     ·cases h
   ·cases h
  ·cases h
 ·cases h
theorem VO {lo gP:Nat} {p:nO} {ρ:Env} {H:aE} {o:Out} (hl:gP≤lo) (h:pop lo p ρ H=some o):pop gP p ρ H=some o:=by
 cases p<;>first | exact h | skip
 case store size q v =>
  simp only[pop] at h ⊢
  split at h
  ·split at h
   ·rename_i h1
    skip
    rw[if_pos h1]
    exact BK (fun H' hw=>DN hl hw) h
   ·cases h
  ·cases h
 case app size bytes x y =>
  simp only[pop] at h ⊢
  split at h
  ·split at h
   ·skip
    exact BK (fun H' hw=>Jl hl hw) h
   ·cases h
  ·cases h
 case appz z bytes x n =>
  simp only[pop] at h ⊢
  split at h
  ·split at h
   ·rename_i h1
    skip
    rw[if_pos h1]
    exact BK (fun H' hw=>Jl hl hw) h
   ·cases h
  ·cases h
 case copy size x y =>
  simp only[pop] at h ⊢
  split at h
  ·exact h
  ·split at h
   ·skip
    exact BK (fun H' hw=>DN hl hw) h
   ·cases h
  ·cases h
 case clear z x =>
  simp only[pop] at h ⊢
  split at h
  ·exact h
  ·skip
   split at h
   ·rename_i h1;rw[if_pos h1];exact h
   ·rename_i h1
    rw[if_neg h1]
    exact BK (fun H' hw=>DN hl hw) h
  ·cases h
def acK (c:gF):Prop:=∀f args lo gP H r,gP≤lo→c f args lo H=some r→c f args gP H=some r
section
variable {c:gF} {lo gP:Nat}
theorem Lq (hc:acK c) (hl:gP≤lo):∀ {is:List PI} {ρ:Env} {H:aE} {r:Env×aE},gS c lo is ρ H=some r→gS c gP is ρ H=some r
 | [],_,_,_,h=>h
 |
  i::is,ρ,H,r,h=>by
  rw[gS] at h ⊢
  split at h
  ·rename_i wO H1 h1
   have e:xC c gP i ρ H=some (wO,H1):=by
    unfold xC at h1 ⊢
    split at h1
    ·rename_i v H2 hv
     have:yN c gP i ρ H=some (v,H2):=by
      unfold yN at hv ⊢
      split at hv
      ·cases hv
      ·exact hv
      ·split at hv
       ·rename_i Qc
        rw[if_pos Qc]
        split at hv
        ·rename_i hp;rw[VO hl hp];exact hv
        ·rename_i hp
         rw[VO hl hp]
         show c _ _ (if i.quiet=true then H.length else gP) H=_
         cases hq:i.quiet with
         | true=>rw[hq] at hv;exact hv
         | false=>rw[hq] at hv;exact hc _ _ _ _ _ _ hl hv
        ·cases hv
       ·cases hv
     rw[this]
     exact h1
    ·cases h1
   rw[e]
   exact Lq hc hl h
  ·cases h
theorem WI {b b':Env→aE→Option (Ex×Env×aE)} (h:∀ρ H r,b ρ H=some r→b' ρ H=some r):∀ {n:Nat} {ρ:Env} {H:aE} {r:Ex×Env×aE},yI b n ρ H=some r→yI b' n ρ H=some r :=
 fun hr=>xW h (Nat.le_refl _) hr
theorem nJ (hc:acK c) (hl:gP≤lo) {n:Nat}:∀(p:aD) {ρ:Env} {H:aE} {r:Ex×Env×aE},dM c lo n p ρ H=some r→dM c gP n p ρ H=some r
 | .skip,_,_,_,hr=>hr
 |
  .dG ops,ρ,H,r,hr=>by
  rw[dM] at hr ⊢
  exact BK (fun _ h=>Lq hc hl h) hr
 |
  .seq a b,ρ,H,r,hr=>by
  rw[dM] at hr ⊢
  split at hr
  ·rename_i h1
   rw[nJ hc hl a h1]
   exact nJ hc hl b hr
  ·rename_i fC
   rw[nJ hc hl a hr]
   split
   ·rename_i he;cases he;exact absurd hr (fC _ _)
   ·rfl
 |
  .cond x a b,ρ,H,r,hr=>by
  rw[dM] at hr ⊢
  split at hr
  ·split at hr
   ·rename_i ht;rw[if_pos ht];exact nJ hc hl a hr
   ·rename_i ht;rw[if_neg ht];exact nJ hc hl b hr
  ·cases hr
 |
  .block id a,ρ,H,r,hr=>by
  rw[dM] at hr ⊢
  split at hr
  ·rename_i h1
   rw[nJ hc hl a h1]
   exact hr
  ·rename_i fC
   rw[nJ hc hl a hr]
   split
   ·rename_i he;cases he;exact absurd hr (fC _ _ _)
   ·rfl
 |
  .loop a,ρ,H,r,hr=>by
  rw[dM] at hr ⊢
  exact WI (fun ρ H r hr=>nJ hc hl a hr) hr
 | .exit id,_,_,_,hr=>hr
 | .ret,_,_,_,hr=>hr
end
theorem HA (E:AN) (T:Tab):∀n,acK (mD E T n)
 | 0,_,_,_,_,_,_,_,h=>by cases h
 |
  n+1,f,args,lo,gP,H,r,hl,h=>by
  rw[mD] at h ⊢
  split at h
  ·exact h
  ·split at h
   ·cases h
   ·split at h
    ·rename_i pf _ ha
     rw[if_pos ha]
     split at h
     ·rename_i h1;rw[nJ (HA E T n) hl pf.body h1];exact h
     ·rename_i h1;rw[nJ (HA E T n) hl pf.body h1];exact h
     ·cases h
    ·cases h
section
variable {E:AN} {T:Tab}
theorem aaD {f:Nat} {args:List Value} {lo gP:Nat} {H:aE} {r:Value×aE} (hl:gP≤lo) (h:call E T f args lo H=some r):call E T f args gP H=some r:=by
 obtain⟨n,hn⟩:=(uQ E T).1 h
 exact(uQ E T).2 ⟨n,HA E T n f args lo gP H r hl hn⟩
theorem abB {f:Nat} {args:List Value} {lo:Nat} {H H':aE} {v:Value} (h:call E T f args lo H=some (v,H')):Ext lo H H':=by
 obtain⟨n,hn⟩:=(uQ E T).1 h
 exact DI E T n f args lo H v H' hn
theorem Ext.more {H H':aE} (h:Ext H.length H H'):∃K,H'=H++K:=by
 refine⟨H'.drop H.length,?_⟩
 apply List.ext_getElem?
 intro i
 rcases Nat.lt_or_ge i H.length with hi | hi
 ·rw[List.getElem?_append_left hi]
  exact h.low i hi hi
 ·rw[List.getElem?_append_right hi,List.getElem?_drop,show H.length+(i-H.length)=i by omega]
def Wg (E:AN) (T:Tab) (f:Nat) (args:List Value) (H:aE) (R:Value→aE→Prop):Prop :=
 ∃v K,call E T f args H.length H=some (v,H++K)∧R v (H++K)
theorem Wg.at {f:Nat} {args:List Value} {H:aE} {R:Value→aE→Prop} (h:Wg E T f args H R) {lo:Nat} (hl:lo≤H.length):∃v K,call E T f args lo H=some (v,H++K)∧R v (H++K):=by
 obtain⟨v,K,h1,h2⟩:=h
 exact⟨v,K,aaD hl h1,h2⟩
theorem Wg.mk {f:Nat} {args:List Value} {H H':aE} {v:Value} {R:Value→aE→Prop} (h:call E T f args H.length H=some (v,H')) (hr:R v H'):Wg E T f args H R:=by
 obtain⟨K,rfl⟩:=(abB h).more
 exact⟨v,K,h,hr⟩
end
end Go.PM
namespace Go.PM
def strCells:List Value→Option (List ByteArray)
 | []=>some []
 | .string s::r=>(strCells r).map (s :: ·)
 | _=>none
def uS:List Value→aE→Option Value
 | [.int .u64 n,.int .i64 b],_=>if b=10∧0≤n∧n<18446744073709551616 then some (.string ⟨(Lib.decDigits n.toNat).toArray⟩) else none
 | _,_=>none
def GM:List Value→aE→Option Value
 | [.string s,.int .i64 c],_=>if 0≤c∧c≤9223372036854775807∧s.size*c.toNat≤140737488355328 then some (.string ⟨(Lib.repeatL s.data.toList c.toNat).toArray⟩) else none
 | _,_=>none
def Dg:List Value→aE→Option Value
 | [.int .u32 x],_=>if 0≤x∧x≤4294967295 then some (.int .i64 (32-(Lib.bitLen x.toNat:Int))) else none
 | _,_=>none
def Qw:List Value→aE→Option Value
 | [.slice none 0 0,.string _],_=>some (.string ⟨#[]⟩)
 |
  [.slice (some ⟨b,o,none⟩) n c,.string sep],H =>
  if n=0 then some (.string ⟨#[]⟩) else
  match (H.read b o n).bind strCells with
  | some xs=>if xs.length=n∧n≤c∧n≤140737488355328∧(Lib.join (xs.map (·.data.toList)) sep.data.toList).length≤140737488355328 then some (.string ⟨(Lib.join (xs.map (·.data.toList)) sep.data.toList).toArray⟩) else none
  | none=>none
 | _,_=>none
def Pr:List Value→aE→Option Value
 |
  [.string s,.string p],_=>match p.data.toList with
  | [c]=>some (.int .i64 (Lib.indexByte s.data.toList c))
  | _=>none
 | _,_=>none
def wT:List Value→aE→Option Value
 |
  [.string s,.int .i64 b,.int .i64 z],_=>if b=10∧z=64∧s.size≤9223372036854775806 then
   match Lib.parseUintB 64 s.data.toList with
   | .ok u=>some (.tuple #[.int .u64 (u:Int),.nilIface])
   | _=>none
  else none
 | _,_=>none
end Go.PM
namespace Go.PM
open Go.Proofs
def awP:List Nat:=[]
 ++ [200]
 ++ [204]
 ++ [205]
 ++ [95]
 ++ [90]
 ++ [118]
 ++ [134]
 ++ [179]
def Iy (f:Nat):Option (List Value→aE→Option Value) :=
 if f=214 then some uS else
 if f=215 then some GM else
 if f=217 then some Qw else
 if f=198 then some Dg else
 if f=209 then some Pr else
 if f=192 then some wT else
 (fun _=>none) f
def cfg:AN:={ AR:=Iy,eff:=fun f=>awP.contains f }
noncomputable def fV:Tab:=fun f=>if (Iy f).isSome then none else Q5 Tryz.prog cfg f
theorem amA (f:Nat) (pf:aR) (h:fV f=some pf):Q5 Tryz.prog cfg f=some pf:=by
 unfold fV at h
 split at h
 ·cases h
 ·exact h
theorem Ul {f:Nat} {pf:aR} (h:fV f=some pf):cfg.AR f=none:=by
 unfold fV at h
 split at h
 ·cases h
 ·rename_i h1
  show Iy f=none
  cases hp:Iy f with
  | none=>rfl
  | some p=>rw[hp] at h1;exact absurd rfl h1
end Go.PM
namespace Go.PM
noncomputable abbrev qU:gF:=call cfg fV
def W (lo:Nat) (c:aD) (Q:Ex→Env→aE→Prop) (ρ:Env) (H:aE):Prop:=∃x bJ H',code cfg fV lo c ρ H=some (x,bJ,H')∧Q x bJ H'
def WS (lo:Nat) (is:List PI) (K:Env→aE→Prop) (ρ:Env) (H:aE):Prop:=∃bJ H',gS qU lo is ρ H=some (bJ,H')∧K bJ H'
def axB (lo:Nat) (b:aD) (Q:Ex→Env→aE→Prop):Ex→Env→aE→Prop
 | .normal,ρ,H=>W lo b Q ρ H
 | x,ρ,H=>Q x ρ H
def apU (id:Nat) (Q:Ex→Env→aE→Prop):Ex→Env→aE→Prop
 | .exit Rs,ρ,H=>if Rs=id then Q .normal ρ H else Q (.exit Rs) ρ H
 | x,ρ,H=>Q x ρ H
def axL (res:List A1) (R:Value→aE→Prop):Ex→Env→aE→Prop
 | .exit _,_,_=>False
 | _,ρ,H=>∃v,qQ res ρ H=some v∧R v H
def arS (J:Env→aE→Prop) (Q:Ex→Env→aE→Prop):Ex→Env→aE→Prop
 | .normal,ρ,H=>J ρ H
 | x,ρ,H=>Q x ρ H
section
variable {lo:Nat} {Q:Ex→Env→aE→Prop} {K:Env→aE→Prop} {ρ:Env} {H:aE} {b:aD} {id:Nat} {R:Value→aE→Prop} {res:List A1} {J:Env→aE→Prop}
theorem HU {i:Nat}:apU id Q (.exit i) ρ H=if i=id then Q .normal ρ H else Q (.exit i) ρ H:=rfl
theorem ajO:W lo .skip Q ρ H=Q .normal ρ H:=by
 unfold W
 rw[Xv]
 exact propext ⟨fun⟨_,_,_,h,hq⟩=>(by cases h;exact hq),fun h=>⟨_,_,_,rfl,h⟩⟩
theorem amW {i:Nat}:W lo (.exit i) Q ρ H=Q (.exit i) ρ H:=by
 unfold W
 rw[Xk]
 exact propext ⟨fun⟨_,_,_,h,hq⟩=>(by cases h;exact hq),fun h=>⟨_,_,_,rfl,h⟩⟩
theorem aoS:W lo .ret Q ρ H=Q .ret ρ H:=by
 unfold W
 rw[Y4]
 exact propext ⟨fun⟨_,_,_,h,hq⟩=>(by cases h;exact hq),fun h=>⟨_,_,_,rfl,h⟩⟩
theorem aoY {ops:List PI}:W lo (.dG ops) Q ρ H=WS lo ops (Q .normal) ρ H:=by
 unfold W WS
 rw[acN]
 apply propext
 constructor
 ·rintro⟨x,bJ,H',h,hq⟩
  cases hs:gS (call cfg fV) lo ops ρ H with
  | none=>rw[hs] at h;cases h
  |
   some q =>
   rw[hs] at h
   cases h
   exact⟨_,_,rfl,hq⟩
 ·rintro⟨bJ,H',h,hq⟩
  exact⟨_,_,_,by rw[h];rfl,hq⟩
theorem aqL {a:aD}:W lo (.seq a b) Q ρ H=W lo a (axB lo b Q) ρ H:=by
 unfold W
 rw[acH]
 apply propext
 constructor
 ·rintro⟨x,bJ,H',h,hq⟩
  split at h
  ·rename_i wO H1 h1
   exact⟨_,_,_,h1,x,bJ,H',h,hq⟩
  ·rename_i fC
   refine⟨x,bJ,H',h,?_⟩
   cases x with
   | normal=>exact absurd h (fC _ _)
   | exit i=>exact hq
   | ret=>exact hq
 ·rintro⟨x,bJ,H',h,hq⟩
  rw[h]
  cases x with
  | normal=>exact hq
  | exit i=>exact⟨_,_,_,rfl,hq⟩
  | ret=>exact⟨_,_,_,rfl,hq⟩
theorem afY {a:aD}:W lo (.block id a) Q ρ H=W lo a (apU id Q) ρ H:=by
 unfold W
 rw[TP]
 apply propext
 constructor
 ·rintro⟨x,bJ,H',h,hq⟩
  split at h
  ·rename_i Rs wO H1 h1
   refine⟨_,_,_,h1,?_⟩
   rw[HU]
   split at h
   ·rename_i he;cases h;rw[if_pos he];exact hq
   ·rename_i he;cases h;rw[if_neg he];exact hq
  ·rename_i fC
   refine⟨x,bJ,H',h,?_⟩
   cases x with
   | normal=>exact hq
   | exit i=>exact absurd h (fC _ _ _)
   | ret=>exact hq
 ·rintro⟨x,bJ,H',h,hq⟩
  rw[h]
  cases x with
  | normal=>exact⟨_,_,_,rfl,hq⟩
  |
   exit i =>
   rw[HU] at hq
   show ∃x D5 H'',(if i=id then some (Ex.normal,bJ,H') else some (Ex.exit i,bJ,H'))=some (x,D5,H'')∧Q x D5 H''
   split at hq
   ·rename_i he;rw[if_pos he];exact⟨_,_,_,rfl,hq⟩
   ·rename_i he;rw[if_neg he];exact⟨_,_,_,rfl,hq⟩
  | ret=>exact⟨_,_,_,rfl,hq⟩
theorem amE {x:Operand} {a:aD}:W lo (.cond x a b) Q ρ H=∃t,ev ρ x = .bool t∧((t=true→W lo a Q ρ H)∧(t=false→W lo b Q ρ H)):=by
 unfold W
 rw[XU]
 apply propext
 constructor
 ·rintro⟨y,bJ,H',h,hq⟩
  split at h
  ·rename_i t ht
   cases t with
   | true=>exact⟨true,ht,fun _=>⟨y,bJ,H',h,hq⟩,fun h=>by cases h⟩
   | false=>exact⟨false,ht,fun h=>(by cases h),fun _=>⟨y,bJ,H',h,hq⟩⟩
  ·cases h
 ·rintro⟨t,ht,h1,h2⟩
  rw[ht]
  cases t with
  | true=>exact h1 rfl
  | false=>exact h2 rfl
theorem W.mono {Q':Ex→Env→aE→Prop} {c:aD} (h:W lo c Q ρ H) (hq:∀x ρ H,Q x ρ H→Q' x ρ H):W lo c Q' ρ H:=by
 obtain⟨x,bJ,H',h1,h2⟩:=h
 exact⟨x,bJ,H',h1,hq _ _ _ h2⟩
noncomputable def jZ (lo:Nat) (q:Bool) (op:nO) (ρ:Env) (H:aE):Option (Value×aE) :=
 match pop lo op ρ H with
 | some (.val v H')=>some (v,H')
 | some (.call f args)=>qU f args (if q then H.length else lo) H
 | none=>none
theorem ajU:WS lo [] K ρ H=K ρ H:=by
 unfold WS
 apply propext
 constructor
 ·rintro⟨bJ,H',h,hk⟩;cases h;exact hk
 ·intro h;exact⟨ρ,H,rfl,h⟩
theorem anW {i:PI} {is:List PI}:WS lo (i::is) K ρ H=∃v H',yN qU lo i ρ H=some (v,H')∧WS lo is K (put ρ i.dst v) H':=by
 unfold WS
 apply propext
 constructor
 ·rintro⟨bJ,H',h,hk⟩
  rw[gS] at h
  split at h
  ·rename_i wO H1 h1
   obtain⟨v,hv,rfl⟩:=xQ h1
   exact⟨v,H1,hv,bJ,H',h,hk⟩
  ·cases h
 ·rintro⟨v,H1,hv,bJ,H',h,hk⟩
  refine⟨bJ,H',?_,hk⟩
  rw[gS]
  unfold xC
  rw[hv]
  exact h
variable {q:Bool}
theorem dO {op:nO} (h:tD op=true):jZ lo q op ρ H=(iN op ρ).map (·,H):=by
 unfold jZ
 rw[yJ h]
 cases iN op ρ<;>rfl
theorem aeN {x:Operand}:jZ lo q (.mv x) ρ H=some (ev ρ x,H):=rfl
theorem Xf {c a b:Operand}:jZ lo q (.pick c a b) ρ H=(match ev ρ c with | .bool t=>some ((if t=true then ev ρ a else ev ρ b),H) | _=>none):=by
 rw[dO rfl]
 simp only[iN]
 cases ev ρ c<;>rfl
theorem YU {op:BinOp} {x y:Operand}:jZ lo q (.bin op x y) ρ H=(dH op (ev ρ x) (ev ρ y)).map (·,H):=dO rfl
theorem aeA {op:UnOp} {x:Operand}:jZ lo q (.un op x) ρ H=(pun op (ev ρ x)).map (·,H):=dO rfl
theorem XQ {f:Nat} {args:List Operand}:jZ lo q (.call f args) ρ H=qU f (args.map (ev ρ)) (if q then H.length else lo) H:=rfl
end
theorem Zz {f lo:Nat} {pf:aR} {args:List Value} {H:aE} {R:Value→aE→Prop} (ht:fV f=some pf) (ha:args.length≤pf.ntmps) (h:W lo pf.body (axL pf.res R) (X5 args) H):∃v H',qU f args lo H=some (v,H')∧R v H':=by
 obtain⟨x,bJ,H',h1,h2⟩:=h
 show ∃v H',call cfg fV f args lo H=some (v,H')∧R v H'
 rw[afO cfg fV (Ul ht) ht]
 unfold akU
 rw[if_pos ha,h1]
 cases x with
 | exit i=>exact h2.elim
 |
  normal =>
  obtain⟨v,h3,h4⟩:=h2
  exact⟨v,H',by simp only;rw[h3];rfl,h4⟩
 |
  ret =>
  obtain⟨v,h3,h4⟩:=h2
  exact⟨v,H',by simp only;rw[h3];rfl,h4⟩
end Go.PM
namespace Go.PM
theorem wrap64 {x:Int} (h1 : -9223372036854775808≤x) (h2:x≤9223372036854775807):IntKind.i64.wrap x=x:=by
 rw[IntKind.wrap_i64]
 omega
section
variable {k:IntKind} {a b:Int}
theorem SO:dH .add (.int k a) (.int k b)=some (.int k (k.wrap (a+b))):=by simp[dH]
theorem Sz:dH .sub (.int k a) (.int k b)=some (.int k (k.wrap (a-b))):=by simp[dH]
theorem SK:dH .mul (.int k a) (.int k b)=some (.int k (k.wrap (a*b))):=by simp[dH]
theorem Q0:dH .lss (.int k a) (.int k b)=some (.bool (decide (a<b))):=by simp[dH]
theorem Qz:dH .leq (.int k a) (.int k b)=some (.bool (decide (a≤b))):=by simp[dH]
theorem Qv:dH .gtr (.int k a) (.int k b)=some (.bool (decide (b<a))):=by simp[dH]
theorem R4:dH .geq (.int k a) (.int k b)=some (.bool (decide (b≤a))):=by simp[dH]
theorem QD:dH .eql (.int k a) (.int k b)=some (.bool (decide (a=b))):=by
 simp only[dH,if_true]
 rfl
theorem QX:dH .neq (.int k a) (.int k b)=some (.bool (!decide (a=b))):=by
 simp only[dH,if_true]
 rfl
theorem V5:pun .neg (.int k a)=some (.int k (k.wrap (0-a))):=rfl
theorem UW {t:Bool}:pun .not (.bool t)=some (.bool (!t)):=rfl
end
def alW:Value→Option Value
 | .slice _ n _=>some (.int .i64 n)
 | _=>none
def MY (neg:Bool):Value→Value→Option Value
 | .bool a,.bool b=>some (.bool ((a == b) != neg))
 | _,_=>none
def aaE (neg:Bool):Value→Option Value
 | .slice none _ _=>some (.bool (true != neg))
 | .slice (some _) _ _=>some (.bool (false != neg))
 | _=>none
def adD (neg:Bool) (ks:List CK):Value→Value→Option Value
 | .agg a,.agg b=>(pL ks a.toList b.toList).map fun t => .bool (t != neg)
 | _,_=>none
def T6 (k:IntKind):Value→Option Value
 | .int _ n=>some (.int k (k.wrap n))
 | _=>none
def akG (i:Nat):Value→Option Value
 | .tuple vs=>vs[i]?
 | _=>none
def afG (agg:Bool) (off size:Nat):Value→Option Value
 | .agg cs=>if agg then (if off+size≤cs.size then some (.agg (cs.extract off (off+size))) else none) else cs[off]?
 | _=>none
def aoZ:Value→Option Value
 | .pointer (some a)=>some (.pointer (some a))
 | _=>none
def aaT (off:Nat):Value→Option Value
 | .pointer (some ⟨b,o,none⟩)=>some (.pointer (some ⟨b,o+off,none⟩))
 | _=>none
def OY (size:Nat):Value→Value→Option Value
 | .slice (some ⟨b,o,none⟩) n _,.int _ i=>if 0≤i∧i<n then some (.pointer (some ⟨b,o+i.toNat*size,none⟩)) else none
 | _,_=>none
def QP:Value→Value→Option Value
 | .int k a,.int _ b=>some (.int k (if b<a then b else a))
 | _,_=>none
def Sm:Value→Value→Option Value
 | .int k a,.int _ b=>some (.int k (if b>a then b else a))
 | _,_=>none
section
variable {lo:Nat} {ρ:Env} {H:aE} {q:Bool}
theorem pJ {op:nO} {r:Option (Value×aE)} (h:pop lo op ρ H=r.map fun(v,H') => .val v H'):jZ lo q op ρ H=r:=by
 unfold jZ
 rw[h]
 cases r<;>rfl
theorem Ze {x:Operand}:jZ lo q (.len x) ρ H=(alW (ev ρ x)).map (·,H):=dO rfl
theorem YL {neg:Bool} {x y:Operand}:jZ lo q (.eqb neg x y) ρ H=(MY neg (ev ρ x) (ev ρ y)).map (·,H):=dO rfl
theorem TN {neg:Bool} {x:Operand}:jZ lo q (.isnil neg x) ρ H=(aaE neg (ev ρ x)).map (·,H):=dO rfl
theorem TM {neg:Bool} {ks:List CK} {x y:Operand}:jZ lo q (.eqagg neg ks x y) ρ H=(adD neg ks (ev ρ x) (ev ρ y)).map (·,H):=dO rfl
theorem ZU {k:IntKind} {x:Operand}:jZ lo q (.cvt k x) ρ H=(T6 k (ev ρ x)).map (·,H):=dO rfl
theorem adA {i:Nat} {x:Operand}:jZ lo q (.ext x i) ρ H=(akG i (ev ρ x)).map (·,H):=dO rfl
theorem Zc {agg:Bool} {off size:Nat} {x:Operand}:jZ lo q (.fld agg off size x) ρ H=(afG agg off size (ev ρ x)).map (·,H):=dO rfl
theorem TB {z:List Value} {places:List (Nat×Nat)} {parts:List (Nat×Operand)}:jZ lo q (.build z places parts) ρ H=((vR places z (parts.map fun(i,x)=>(i,ev ρ x))).map fun cs=>Value.agg cs.toArray).map (·,H):=dO rfl
theorem YF {x:Operand}:jZ lo q (.chk x) ρ H=(aoZ (ev ρ x)).map (·,H):=dO rfl
theorem UH {off:Nat} {x:Operand}:jZ lo q (.faddr off x) ρ H=(aaT off (ev ρ x)).map (·,H):=dO rfl
theorem Tf {size:Nat} {x i:Operand}:jZ lo q (.iaddr size x i) ρ H=(OY size (ev ρ x) (ev ρ i)).map (·,H):=dO rfl
theorem WK {f:Nat} {fS:List Operand}:jZ lo q (.mkfn f fS) ρ H=some (.func (.func f) #[] (fS.map (ev ρ)).toArray,H):=dO rfl
theorem acQ {x y:Operand}:jZ lo q (.min x y) ρ H=(QP (ev ρ x) (ev ρ y)).map (·,H):=dO rfl
theorem Zy {x y:Operand}:jZ lo q (.max x y) ρ H=(Sm (ev ρ x) (ev ρ y)).map (·,H):=dO rfl
theorem WY {agg:Bool} {size:Nat} {p:Operand}:jZ lo q (.load agg size p) ρ H=(nP agg size (ev ρ p) H).map (·,H):=by
 unfold jZ
 simp only[pop]
 cases nP agg size (ev ρ p) H<;>rfl
theorem acW {size:Nat} {x:Operand} {l h m:Option Operand}:jZ lo q (.sub size x l h m) ρ H=Ck size (ev ρ x) (l.map (ev ρ)) (h.map (ev ρ)) (m.map (ev ρ)) H:=by
 unfold jZ
 simp only[pop]
 cases Ck size (ev ρ x) (l.map (ev ρ)) (h.map (ev ρ)) (m.map (ev ρ)) H<;>rfl
theorem ZL {z:List Value}:jZ lo q (.new z) ρ H=some (.pointer (some ⟨H.length,0,none⟩),H++[.row z z.length false]):=rfl
theorem acE {x:Operand}:jZ lo q (.box x) ρ H=if (aN (ev ρ x)).all fT then some (.pointer (some ⟨H.length,0,none⟩),H++[.row (aN (ev ρ x)) (aN (ev ρ x)).length false]) else none:=by
 apply pJ
 simp only[pop]
 by_cases h:(aN (ev ρ x)).all fT=true
 ·rw[if_pos h,if_pos h];rfl
 ·rw[if_neg h,if_neg h];rfl
def Wh (z:List Value) (bytes:Nat) (l c:Value) (H:aE):Option (Value×aE) :=
 match l,c with
 | .int .i64 l,.int .i64 c=>if 0≤l∧l≤c∧c*bytes≤281474976710656∧c≤9223372036854775807 then
  some (.slice (some ⟨H.length,0,none⟩) l.toNat c.toNat,H++[.row (cZ c.toNat z) z.length false]) else none
 | _,_=>none
theorem Yb {z:List Value} {bytes:Nat} {l c:Operand}:jZ lo q (.make z bytes l c) ρ H=Wh z bytes (ev ρ l) (ev ρ c) H:=by
 apply pJ
 simp only[pop]
 unfold Wh
 split
 ·rename_i l c h1 h2
  simp only[h1,h2]
  split<;>rfl
 ·rename_i h1
  split
  ·rename_i h2 h3
   exact(h1 _ _ h2 h3).elim
  ·rfl
def agX (z:List Value) (n:Nat) (parts:List (Nat×Value)) (H:aE):Option (Value×aE) :=
 match vR ((List.range n).map fun i=>(i*z.length,z.length)) (cZ n z) parts with
 | some cs=>if cs.all fT then some (.slice (some ⟨H.length,0,none⟩) n n,H++[.row cs z.length false]) else none
 | none=>none
theorem abR {z:List Value} {n:Nat} {parts:List (Nat×Operand)}:jZ lo q (.lit z n parts) ρ H=agX z n (parts.map fun(i,x)=>(i,ev ρ x)) H:=by
 apply pJ
 simp only[pop]
 unfold agX
 split
 ·rename_i cs h1
  simp only[h1]
  split<;>rfl
 ·rename_i h1
  simp only[h1]
  rfl
def E0 (lo size:Nat) (p v:Value) (H:aE):Option (Value×aE) :=
 match p with
 | .pointer (some ⟨b,o,none⟩)=>if (aN v).length=size then (H.write lo b o (aN v)).map fun H'=>(undef,H') else none
 | _=>none
theorem UK {size:Nat} {p v:Operand}:jZ lo q (.store size p v) ρ H=E0 lo size (ev ρ p) (ev ρ v) H:=by
 apply pJ
 simp only[pop]
 unfold E0
 split
 ·rename_i b o h1
  simp only[h1]
  split
  ·cases H.write lo b o (aN (ev ρ v))<;>rfl
  ·rfl
 ·rename_i h1
  split
  ·rename_i h2
   exact(h1 _ _ h2).elim
  ·rfl
def ajN (lo size bytes:Nat) (x y:Value) (H:aE):Option (Value×aE) :=
 match rZ y with
 |
  some n=>match jD H size n y with
  | some new=>eR lo size bytes x n new H
  | none=>none
 | none=>none
theorem aaC {size bytes:Nat} {x y:Operand}:jZ lo q (.app size bytes x y) ρ H=ajN lo size bytes (ev ρ x) (ev ρ y) H:=by
 apply pJ
 simp only[pop]
 unfold ajN
 cases rZ (ev ρ y) with
 | none=>rfl
 |
  some n =>
  cases hs:jD H size n (ev ρ y) with
  | none=>simp only[hs];rfl
  | some new=>simp only[hs]
def Zh (lo:Nat) (z:List Value) (bytes:Nat) (x n:Value) (H:aE):Option (Value×aE) :=
 match n with
 | .int .i64 n=>if 0≤n∧n*bytes≤140737488355328 then eR lo z.length bytes x n.toNat (cZ n.toNat z) H else none
 | _=>none
theorem XC {z:List Value} {bytes:Nat} {x n:Operand}:jZ lo q (.appz z bytes x n) ρ H=Zh lo z bytes (ev ρ x) (ev ρ n) H:=by
 apply pJ
 simp only[pop]
 unfold Zh
 split
 ·rename_i n h1
  simp only[h1]
  split<;>rfl
 ·rename_i h1
  split
  ·rename_i h2
   exact(h1 _ h2).elim
  ·rfl
def copyV (lo size:Nat) (x y:Value) (H:aE):Option (Value×aE) :=
 match x,rZ y with
 | .slice none _ _,some _=>some (.int .i64 0,H)
 |
  .slice (some ⟨b,o,none⟩) d _,some s=>match jD H size (Nat.min s d) y with
  | some new=>(H.write lo b o new).map fun H'=>(.int .i64 (Nat.min s d),H')
  | none=>none
 | _,_=>none
theorem XM {size:Nat} {x y:Operand}:jZ lo q (.copy size x y) ρ H=copyV lo size (ev ρ x) (ev ρ y) H:=by
 apply pJ
 simp only[pop]
 unfold copyV
 split
 ·rename_i h1 h2
  simp only[h1,h2]
  rfl
 ·rename_i b o d _ s h1 h2
  simp only[h1,h2]
  cases hs:jD H size (Nat.min s d) (ev ρ y) with
  | none=>rfl
  |
   some new =>
   simp only
   cases H.write lo b o new<;>rfl
 ·rename_i h1 h2
  split
  ·rename_i h3 h4
   exact(h1 _ _ _ h3 h4).elim
  ·rename_i h3 h4
   exact(h2 _ _ _ _ _ h3 h4).elim
  ·rfl
def Pj (lo:Nat) (z:List Value) (x:Value) (H:aE):Option (Value×aE) :=
 match x with
 | .slice none _ _=>some (undef,H)
 | .slice (some ⟨b,o,none⟩) n _=>if n=0 then some (undef,H) else (H.write lo b o (cZ n z)).map fun H'=>(undef,H')
 | _=>none
theorem TW {z:List Value} {x:Operand}:jZ lo q (.clear z x) ρ H=Pj lo z (ev ρ x) H:=by
 apply pJ
 simp only[pop]
 unfold Pj
 split
 ·rename_i h1
  simp only[h1]
  rfl
 ·rename_i b o n _ h1
  simp only[h1]
  split
  ·rfl
  ·cases H.write lo b o (cZ n z)<;>rfl
 ·rename_i h1 h2
  split
  ·rename_i h3
   exact(h1 _ _ h3).elim
  ·rename_i h3
   exact(h2 _ _ _ _ h3).elim
  ·rfl
noncomputable def YS (lo:Nat) (fv:Value) (args:List Value) (H:aE):Option (Value×aE) :=
 match fv with
 | .func (.func f) first fS=>qU f (first.toList++args++fS.toList) lo H
 | _=>none
theorem Ue {fv:Operand} {args:List Operand}:jZ lo q (.callv fv args) ρ H=YS (if q then H.length else lo) (ev ρ fv) (args.map (ev ρ)) H:=by
 unfold jZ
 simp only[pop]
 unfold YS
 generalize ev ρ fv=v
 cases v with
 | func fn f c=>cases fn<;>rfl
 | _=>rfl
end
end Go.PM
namespace Go.PM
section
variable {lo:Nat} {Q:Ex→Env→aE→Prop} {K:Env→aE→Prop} {ρ:Env} {H:aE} {q:Bool}
def arO (u v:Value):Bool:=match iY u,iY v with
 | some a,some b=>a != b
 | _,_=>true
end
theorem VY {k:IntKind} {a b:Int}:Sm (.int k a) (.int k b)=some (.int k (max a b)):=by
 simp only[Sm]
 congr 2
 split<;>omega
theorem V7 {k:IntKind} {a b:Int}:QP (.int k a) (.int k b)=some (.int k (min a b)):=by
 simp only[QP]
 congr 2
 split<;>omega
end Go.PM
namespace Go.PM
abbrev ptr (b o:Nat):Value := .pointer (some ⟨b,o,none⟩)
abbrev I (n:Int):Value := .int .i64 n
section
variable {H H':aE} {lo b o n size:Nat} {cs r:List Value} {L K:aE} {v:Value}
theorem PD (hb:b<H.length):(H++L)[b]? = H[b]? := List.getElem?_append_left hb
theorem Vh {x:SI}:(H++x::L)[H.length]? = some x:=by simp
theorem acB (hb:b<H.length):(H++L).read b o n=H.read b o n:=E7 (PD hb)
theorem A2 {e:Nat} {p:Bool} (h:H[b]? = some (.row r e p)) (hn:o+n≤r.length):H.read b o n=some ((r.drop o).take n):=by
 unfold aE.read
 rw[h]
 simp only[hn,if_true]
structure CT (H:aE) (b o:Nat) (cs:List Value):Prop where
 lt:b<H.length
 rd:H.read b o cs.length=some cs
theorem CT.app (h:CT H b o cs):CT (H++L) b o cs:=⟨by have:=h.lt;simp;omega,by rw[acB h.lt];exact h.rd⟩
theorem CT.pre (h:CT H b o cs) (hp:H <+: H'):CT H' b o cs:=by
 obtain⟨L,rfl⟩:=hp
 exact h.app
theorem CT.all (h:CT H b o cs) (hs:cs.length=size):nP true size (.pointer (some ⟨b,o,none⟩)) H=some (.agg cs.toArray):=by
 subst hs
 simp only[nP,if_true,h.rd]
 rfl
theorem CT.one {u:Value} (h:CT H b o [u]):nP false size (.pointer (some ⟨b,o,none⟩)) H=some u:=by
 have:=h.rd
 simp only[List.length_cons,List.length_nil] at this
 simp only[nP,this]
 rfl
theorem CT.sub {k:Nat} {u:Value} (h:CT H b o cs) (hk:cs[k]? = some u):CT H b (o+k) [u]:=by
 refine⟨h.lt,?_⟩
 have h1:=h.rd
 unfold aE.read at h1 ⊢
 split at h1
 ·rename_i r e p hb
  split at h1
  ·rename_i hl
   have hk':=(List.getElem?_eq_some_iff.1 hk).1
   simp only[List.length_cons,List.length_nil]
   rw[if_pos (by simp;omega)]
   injection h1 with h1
   rw[←h1] at hk
   rw[List.getElem?_take,if_pos (by omega),List.getElem?_drop] at hk
   have bH:=(List.getElem?_eq_some_iff.1 hk).1
   rw[List.drop_eq_getElem_cons bH]
   simp only[List.take_succ_cons,List.take_zero]
   rw[List.getElem?_eq_getElem bH] at hk
   injection hk with hk
   rw[hk]
  ·cases h1
 ·cases h1
theorem CT.fld {k:Nat} {u:Value} (h:CT H b o cs) (hk:cs[k]? = some u):nP false size (.pointer (some ⟨b,o+k,none⟩)) H=some u:=(h.sub hk).one
theorem RT {a:Nat} {c:Nat} {i:Int} {k:IntKind} (h0:0≤i) (h1:i<n):OY size (.slice (some ⟨b,a,none⟩) n c) (.int k i)=some (.pointer (some ⟨b,a+i.toNat*size,none⟩)):=by
 simp only[OY]
 rw[if_pos ⟨h0,h1⟩]
structure Arr {α:Type} (enc:α→List Value) (kK:Nat) (H:aE) (a:Option Addr) (n:Nat) (xs:List α):Prop where
 len:n=xs.length
 el:∀(i:Nat) x,xs[i]? = some x→∃b o,a=some ⟨b,o,none⟩∧CT H b (o+i*kK) (enc x)
theorem Arr.pre {α:Type} {enc:α→List Value} {kK:Nat} {a:Option Addr} {xs:List α} (h:Arr enc kK H a n xs) (hp:H <+: H'):Arr enc kK H' a n xs :=
 ⟨h.len,fun i x hx=>by obtain⟨b,o,h1,h2⟩:=h.el i x hx;exact⟨b,o,h1,h2.pre hp⟩⟩
end
structure jV where
 t:Int
 w:Int
 k:Int
 deriving DecidableEq
def cc (c:jV):List Value:=[I c.t,I c.w,I c.k]
def ci (n:Int):List Value:=[I n]
end Go.PM
namespace Go.PM
structure Jb {α:Type} (enc:α→List Value) (kK:Nat):Prop where
 len:∀x,(enc x).length=kK
 sc:∀x,(enc x).all fT=true
 pos:1≤kK
section
variable {α:Type} {enc:α→List Value} {kK:Nat} {H H':aE} {lo b:Nat} {xs ys:List α} {p:Bool}
theorem Lw (e:Jb enc kK):(xs.flatMap enc).length=xs.length*kK:=by
 induction xs with
 | nil=>simp
 | cons x xs ih=>simp only[List.flatMap_cons,List.length_append,e.len,ih,List.length_cons,Nat.succ_mul];omega
theorem Hy (e:Jb enc kK) (i:Nat):(xs.flatMap enc).drop (i*kK)=(xs.drop i).flatMap enc:=by
 induction i generalizing xs with
 | zero=>simp
 |
  succ i ih =>
  cases xs with
  | nil=>simp
  |
   cons x xs =>
   rw[List.flatMap_cons,List.drop_succ_cons,←ih,show (i+1)*kK=(enc x).length+i*kK by rw[e.len,Nat.succ_mul];omega,List.drop_append]
   simp
theorem Ow (e:Jb enc kK) (i:Nat):(xs.flatMap enc).take (i*kK)=(xs.take i).flatMap enc:=by
 induction i generalizing xs with
 | zero=>simp
 |
  succ i ih =>
  cases xs with
  | nil=>simp
  |
   cons x xs =>
   rw[List.flatMap_cons,List.take_succ_cons,List.flatMap_cons,←ih,show (i+1)*kK=(enc x).length+i*kK by rw[e.len,Nat.succ_mul];omega,List.take_append]
   simp
   exact List.take_of_length_le (by omega)
theorem Sw (e:Jb enc kK) {i:Nat} (x:α) (hi:i<xs.length):iS (xs.flatMap enc) (i*kK) (enc x)=(xs.set i x).flatMap enc:=by
 unfold iS
 rw[Ow e,e.len,show i*kK+kK=(i+1)*kK by rw[Nat.succ_mul],Hy e,List.set_eq_take_append_cons_drop,if_pos hi]
 simp
def Row (enc:α→List Value) (kK:Nat) (H:aE) (b:Nat) (p:Bool) (xs:List α):Prop:=H[b]? = some (.row (xs.flatMap enc) kK p)
theorem Row.lt (h:Row enc kK H b p xs):b<H.length:=(List.getElem?_eq_some_iff.1 h).1
theorem Row.pre (h:Row enc kK H b p xs) (hp:H <+: H'):Row enc kK H' b p xs:=by
 obtain⟨L,rfl⟩:=hp
 unfold Row
 rw[PD h.lt]
 exact h
theorem Row.elem (h:Row enc kK H b p xs) (e:Jb enc kK) {i:Nat} {x:α} (hx:xs[i]? = some x):CT H b (i*kK) (enc x):=by
 refine⟨h.lt,?_⟩
 have hi:=(List.getElem?_eq_some_iff.1 hx).1
 have hm:(i+1)*kK≤xs.length*kK:=Nat.mul_le_mul_right _ hi
 rw[Nat.succ_mul] at hm
 rw[A2 h (by rw[e.len,Lw e];omega),Hy e,e.len]
 have:=Ow (xs:=xs.drop i) e 1
 rw[Nat.one_mul] at this
 rw[this,List.drop_eq_getElem_cons hi]
 rw[List.getElem?_eq_getElem hi] at hx
 injection hx with hx
 simp[hx]
theorem Row.arr (h:Row enc kK H b p xs) (e:Jb enc kK) {n:Nat} (hn:n≤xs.length):Arr enc kK H (some ⟨b,0,none⟩) n (xs.take n):=by
 refine⟨by simp;omega,fun i x hx=>⟨b,0,rfl,?_⟩⟩
 rw[Nat.zero_add]
 refine h.elem e ?_
 rw[List.getElem?_take] at hx
 split at hx
 ·exact hx
 ·cases hx
theorem Row.store (h:Row enc kK H b p xs) (e:Jb enc kK) {i:Nat} {x:α} {u:Value} (hu:aN u=enc x) (hi:i<xs.length) (hl:lo≤b):E0 lo kK (.pointer (some ⟨b,i*kK,none⟩)) u H=some (undef,H.set b (.row ((xs.set i x).flatMap enc) kK p)):=by
 simp only[E0,aE.write,hu,e.len,if_true]
 have h':H[b]? = some (.row (xs.flatMap enc) kK p):=h
 have hm:(i+1)*kK≤xs.length*kK:=Nat.mul_le_mul_right _ hi
 rw[Nat.succ_mul] at hm
 simp only[h']
 rw[if_pos ⟨hl,by rw[Lw e];omega,e.sc x⟩,Sw e x hi]
 rfl
theorem Row.set (h:Row enc kK H b p xs) (ys:List α):Row enc kK (H.set b (.row (ys.flatMap enc) kK p)) b p ys:=by
 unfold Row
 rw[List.getElem?_set_self h.lt]
theorem RH (e:Jb enc kK) {n:Nat} {x:α}:cZ n (enc x)=(List.replicate n x).flatMap enc:=by
 have lC:=e.pos
 have hlen:=e.len x
 apply List.ext_getElem?
 intro i
 unfold cZ
 rw[List.getElem?_map,hlen]
 rcases Nat.lt_or_ge i (n*kK) with hi | hi
 ·rw[List.getElem?_range hi]
  have hq:i / kK<n:=Nat.div_lt_of_lt_mul (by rw[Nat.mul_comm];exact hi)
  have h1:((List.replicate n x).flatMap enc)[i]? = (((List.replicate n x).flatMap enc).drop (i / kK*kK))[i % kK]? := by
   rw[List.getElem?_drop]
   congr 1
   rw[Nat.mul_comm]
   exact(Nat.div_add_mod i kK).symm
  have hr:i % kK<(enc x).length:=by rw[hlen];exact Nat.mod_lt _ (by omega)
  rw[h1,Hy e,List.drop_replicate,show n-i / kK=(n-i / kK-1)+1 by omega,List.replicate_succ,List.flatMap_cons,List.getElem?_append_left hr]
  simp[List.getD_eq_getElem?_getD,List.getElem?_eq_getElem hr]
 ·rw[List.getElem?_eq_none (by simpa using hi),List.getElem?_eq_none (by rw[Lw e];simpa using hi)]
  rfl
theorem Row.top {K:aE}:Row enc kK (H ++ .row (xs.flatMap enc) kK p::K) H.length p xs:=Vh
end
end Go.PM
namespace Go.PM
section
variable {H L:aE} {lo k o size:Nat} {agg:Bool} {u:Value}
end
end Go.PM
namespace Go.Proofs
open Go.Shelf
def KE:Go.Shelf.Ren:=⟨fun | 156=>217 | 165=>232 | 166=>233 | 169=>235 | 240=>245 | 241=>246 | 276=>253 | 277=>254 | n=>n,fun | 31=>33 | 9=>9 | 3=>3 | 4=>4 | 0=>0 | 20=>20 | 72=>262 | 76=>264 | 70=>260 | 37=>187 | 75=>220 | 127=>276 | 164=>285 | 5=>5 | 80=>227 | n=>n,fun | n=>n⟩
theorem Uo:Go.Proofs.Lays.n156 Tryz.prog KE:={
 mixed:=by kernel_rfl
 f156:=Tryz.func217.trans (congrArg some (by kernel_rfl))
 f165:=Tryz.func232.trans (congrArg some (by kernel_rfl))
 f166:=Tryz.func233.trans (congrArg some (by kernel_rfl))
 f169:=Tryz.func235.trans (congrArg some (by kernel_rfl))
 f240:=Tryz.func245.trans (congrArg some (by kernel_rfl))
 f241:=Tryz.func246.trans (congrArg some (by kernel_rfl))
 f276:=Tryz.func253.trans (congrArg some (by kernel_rfl))
 f277:=Tryz.func254.trans (congrArg some (by kernel_rfl))
 t0:=Tryz.underlying0
 a0:=Tryz.isAgg0
 z0:=Tryz.sizeOf0
 v0:=Tryz.zeroValue0
 t3:=Tryz.underlying3
 a3:=Tryz.isAgg3
 z3:=Tryz.sizeOf3
 v3:=Tryz.zeroValue3
 t4:=Tryz.underlying4
 a4:=Tryz.isAgg4
 z4:=Tryz.sizeOf4
 v4:=Tryz.zeroValue4
 t9:=Tryz.underlying9
 a9:=Tryz.isAgg9
 z9:=Tryz.sizeOf9
 v9:=Tryz.zeroValue9
 t20:=Tryz.underlying20
 a20:=Tryz.isAgg20
 z20:=Tryz.sizeOf20
 v20:=Tryz.zeroValue20
 t31:=Tryz.underlying33
 a31:=Tryz.isAgg33
 z31:=Tryz.sizeOf33
 v31:=Tryz.zeroValue33
 t37:=Tryz.underlying187
 a37:=Tryz.isAgg187
 z37:=Tryz.sizeOf187
 v37:=Tryz.zeroValue187
 t70:=Tryz.underlying260
 a70:=Tryz.isAgg260
 z70:=Tryz.sizeOf260
 v70:=Tryz.zeroValue260
 t72:=Tryz.underlying262
 a72:=Tryz.isAgg262
 z72:=Tryz.sizeOf262
 v72:=Tryz.zeroValue262
 t75:=Tryz.underlying220
 a75:=Tryz.isAgg220
 z75:=Tryz.sizeOf220
 v75:=Tryz.zeroValue220
 t76:=Tryz.underlying264
 a76:=Tryz.isAgg264
 z76:=Tryz.sizeOf264
 v76:=Tryz.zeroValue264
 t127:=Tryz.underlying276
 a127:=Tryz.isAgg276
 z127:=Tryz.sizeOf276
 v127:=Tryz.zeroValue276
 t164:=Tryz.underlying285
 a164:=Tryz.isAgg285
 z164:=Tryz.sizeOf285
 v164:=Tryz.zeroValue285 }
theorem O2:Builder.Extra Tryz.prog KE:={
 sizeBuilder:=by kernel_rfl
 liesBuilder:=by kernel_rfl
 t5:=Tryz.underlying5
 a5:=Tryz.isAgg5
 z5:=Tryz.sizeOf5
 v5:=Tryz.zeroValue5
 infoByte:=by kernel_rfl
 cellsByte:=by kernel_rfl
 sizeByte:=by kernel_rfl
 neB5:=by decide }
def TF:Go.Shelf.Ren:=⟨fun | 133=>198 | 128=>218 | n=>n,fun | 51=>206 | 3=>3 | 4=>4 | 46=>207 | 5=>5 | 9=>9 | n=>n,fun | n=>n⟩
theorem alI:Go.Proofs.Lays.n133 Tryz.prog TF:={
 mixed:=by kernel_rfl
 f128:=Tryz.func218.trans (congrArg some (by kernel_rfl))
 f133:=Tryz.func198.trans (congrArg some (by kernel_rfl))
 t3:=Tryz.underlying3
 a3:=Tryz.isAgg3
 z3:=Tryz.sizeOf3
 v3:=Tryz.zeroValue3
 t4:=Tryz.underlying4
 a4:=Tryz.isAgg4
 z4:=Tryz.sizeOf4
 v4:=Tryz.zeroValue4
 t5:=Tryz.underlying5
 a5:=Tryz.isAgg5
 z5:=Tryz.sizeOf5
 v5:=Tryz.zeroValue5
 t9:=Tryz.underlying9
 a9:=Tryz.isAgg9
 z9:=Tryz.sizeOf9
 v9:=Tryz.zeroValue9
 t46:=Tryz.underlying207
 a46:=Tryz.isAgg207
 z46:=Tryz.sizeOf207
 v46:=Tryz.zeroValue207
 t51:=Tryz.underlying206
 a51:=Tryz.isAgg206
 z51:=Tryz.sizeOf206
 v51:=Tryz.zeroValue206 }
def Ud:Go.Shelf.Ren:=⟨fun | 283=>241 | n=>n,fun | 3=>3 | 9=>9 | 4=>4 | n=>n,fun | n=>n⟩
theorem ajE:Go.Proofs.Lays.n283 Tryz.prog Ud:={
 mixed:=by kernel_rfl
 f283:=Tryz.func241.trans (congrArg some (by kernel_rfl))
 t3:=Tryz.underlying3
 a3:=Tryz.isAgg3
 z3:=Tryz.sizeOf3
 v3:=Tryz.zeroValue3
 t4:=Tryz.underlying4
 a4:=Tryz.isAgg4
 z4:=Tryz.sizeOf4
 v4:=Tryz.zeroValue4
 t9:=Tryz.underlying9
 a9:=Tryz.isAgg9
 z9:=Tryz.sizeOf9
 v9:=Tryz.zeroValue9 }
def T5:Go.Shelf.Ren:=⟨fun | 284=>242 | 129=>249 | 317=>248 | 318=>250 | n=>n,fun | 53=>171 | 3=>3 | 212=>281 | 0=>0 | 4=>4 | 46=>207 | 5=>5 | 9=>9 | n=>n,fun | 17=>3 | n=>n⟩
theorem alF:Go.Proofs.LaysM.n284 Tryz.prog T5:={
 mixed:=by kernel_rfl
 f129:=Tryz.func249.trans (congrArg some (by kernel_rfl))
 f284:=Tryz.func242.trans (congrArg some (by kernel_rfl))
 f317:=Tryz.func248.trans (congrArg some (by kernel_rfl))
 f318:=Tryz.func250.trans (congrArg some (by kernel_rfl))
 t0:=Tryz.underlying0
 a0:=Tryz.isAgg0
 z0:=Tryz.sizeOf0
 v0:=Tryz.zeroValue0
 t3:=Tryz.underlying3
 a3:=Tryz.isAgg3
 z3:=Tryz.sizeOf3
 v3:=Tryz.zeroValue3
 t4:=Tryz.underlying4
 a4:=Tryz.isAgg4
 z4:=Tryz.sizeOf4
 v4:=Tryz.zeroValue4
 t5:=Tryz.underlying5
 a5:=Tryz.isAgg5
 z5:=Tryz.sizeOf5
 v5:=Tryz.zeroValue5
 t9:=Tryz.underlying9
 a9:=Tryz.isAgg9
 z9:=Tryz.sizeOf9
 v9:=Tryz.zeroValue9
 t46:=Tryz.underlying207
 a46:=Tryz.isAgg207
 z46:=Tryz.sizeOf207
 v46:=Tryz.zeroValue207
 t53:=Tryz.underlying171
 a53:=Tryz.isAgg171
 z53:=Tryz.sizeOf171
 v53:=Tryz.zeroValue171
 t212:=Tryz.underlying281
 a212:=Tryz.isAgg281
 z212:=Tryz.sizeOf281
 v212:=Tryz.zeroValue281
 g17:=by kernel_rfl
 i0:=by kernel_rfl
 i3:=by kernel_rfl
 i4:=by kernel_rfl
 i5:=by kernel_rfl
 i9:=by kernel_rfl
 i46:=by kernel_rfl
 i53:=by kernel_rfl
 i212:=by kernel_rfl
 m17:=by kernel_rfl }
def Tt:Go.Shelf.Ren:=⟨fun | 285=>243 | n=>n,fun | 37=>187 | 53=>171 | 3=>3 | 4=>4 | 51=>206 | 9=>9 | 5=>5 | 0=>0 | n=>n,fun | n=>n⟩
theorem aiZ:Go.Proofs.Lays.n285 Tryz.prog Tt:={
 mixed:=by kernel_rfl
 f285:=Tryz.func243.trans (congrArg some (by kernel_rfl))
 t0:=Tryz.underlying0
 a0:=Tryz.isAgg0
 z0:=Tryz.sizeOf0
 v0:=Tryz.zeroValue0
 t3:=Tryz.underlying3
 a3:=Tryz.isAgg3
 z3:=Tryz.sizeOf3
 v3:=Tryz.zeroValue3
 t4:=Tryz.underlying4
 a4:=Tryz.isAgg4
 z4:=Tryz.sizeOf4
 v4:=Tryz.zeroValue4
 t5:=Tryz.underlying5
 a5:=Tryz.isAgg5
 z5:=Tryz.sizeOf5
 v5:=Tryz.zeroValue5
 t9:=Tryz.underlying9
 a9:=Tryz.isAgg9
 z9:=Tryz.sizeOf9
 v9:=Tryz.zeroValue9
 t37:=Tryz.underlying187
 a37:=Tryz.isAgg187
 z37:=Tryz.sizeOf187
 v37:=Tryz.zeroValue187
 t51:=Tryz.underlying206
 a51:=Tryz.isAgg206
 z51:=Tryz.sizeOf206
 v51:=Tryz.zeroValue206
 t53:=Tryz.underlying171
 a53:=Tryz.isAgg171
 z53:=Tryz.sizeOf171
 v53:=Tryz.zeroValue171 }
def R2:Go.Shelf.Ren:=⟨fun | 14=>192 | 16=>211 | 17=>212 | 19=>224 | 20=>225 | 21=>226 | 22=>227 | 23=>228 | 24=>229 | 25=>238 | 27=>240 | 26=>239 | 28=>247 | 29=>255 | 30=>241 | 31=>242 | 32=>243 | 33=>244 | 35=>249 | 34=>248 | 36=>250 | 37=>251 | 38=>252 | 39=>256 | 40=>257 | n=>n,fun | 9=>9 | 3=>3 | 22=>171 | 24=>220 | 25=>221 | 4=>4 | 34=>255 | 5=>5 | 36=>207 | 37=>187 | 0=>0 | 39=>257 | 21=>21 | 44=>269 | 47=>276 | 50=>279 | 48=>277 | 2=>2 | 52=>271 | 55=>274 | 59=>281 | 60=>206 | 20=>20 | 61=>282 | 65=>289 | 66=>290 | 67=>227 | n=>n,fun | 0=>1 | 1=>2 | 2=>3 | 3=>4 | 4=>5 | n=>n⟩
theorem afC:Go.Proofs.LaysPu.n14 Tryz.prog R2:={
 mixed:=by kernel_rfl
 f14:=Tryz.func192.trans (congrArg some (by kernel_rfl))
 f16:=Tryz.func211.trans (congrArg some (by kernel_rfl))
 f17:=Tryz.func212.trans (congrArg some (by kernel_rfl))
 f19:=Tryz.func224.trans (congrArg some (by kernel_rfl))
 f20:=Tryz.func225.trans (congrArg some (by kernel_rfl))
 f21:=Tryz.func226.trans (congrArg some (by kernel_rfl))
 f22:=Tryz.func227.trans (congrArg some (by kernel_rfl))
 f23:=Tryz.func228.trans (congrArg some (by kernel_rfl))
 f24:=Tryz.func229.trans (congrArg some (by kernel_rfl))
 f25:=Tryz.func238.trans (congrArg some (by kernel_rfl))
 f26:=Tryz.func239.trans (congrArg some (by kernel_rfl))
 f27:=Tryz.func240.trans (congrArg some (by kernel_rfl))
 f28:=Tryz.func247.trans (congrArg some (by kernel_rfl))
 f29:=Tryz.func255.trans (congrArg some (by kernel_rfl))
 f30:=Tryz.func241.trans (congrArg some (by kernel_rfl))
 f31:=Tryz.func242.trans (congrArg some (by kernel_rfl))
 f32:=Tryz.func243.trans (congrArg some (by kernel_rfl))
 f33:=Tryz.func244.trans (congrArg some (by kernel_rfl))
 f34:=Tryz.func248.trans (congrArg some (by kernel_rfl))
 f35:=Tryz.func249.trans (congrArg some (by kernel_rfl))
 f36:=Tryz.func250.trans (congrArg some (by kernel_rfl))
 f37:=Tryz.func251.trans (congrArg some (by kernel_rfl))
 f38:=Tryz.func252.trans (congrArg some (by kernel_rfl))
 f39:=Tryz.func256.trans (congrArg some (by kernel_rfl))
 f40:=Tryz.func257.trans (congrArg some (by kernel_rfl))
 t0:=Tryz.underlying0
 a0:=Tryz.isAgg0
 z0:=Tryz.sizeOf0
 v0:=Tryz.zeroValue0
 i0:=by kernel_rfl
 t2:=Tryz.underlying2
 a2:=Tryz.isAgg2
 z2:=Tryz.sizeOf2
 v2:=Tryz.zeroValue2
 i2:=by kernel_rfl
 t3:=Tryz.underlying3
 a3:=Tryz.isAgg3
 z3:=Tryz.sizeOf3
 v3:=Tryz.zeroValue3
 i3:=by kernel_rfl
 t4:=Tryz.underlying4
 a4:=Tryz.isAgg4
 z4:=Tryz.sizeOf4
 v4:=Tryz.zeroValue4
 i4:=by kernel_rfl
 t5:=Tryz.underlying5
 a5:=Tryz.isAgg5
 z5:=Tryz.sizeOf5
 v5:=Tryz.zeroValue5
 i5:=by kernel_rfl
 t9:=Tryz.underlying9
 a9:=Tryz.isAgg9
 z9:=Tryz.sizeOf9
 v9:=Tryz.zeroValue9
 i9:=by kernel_rfl
 t20:=Tryz.underlying20
 a20:=Tryz.isAgg20
 z20:=Tryz.sizeOf20
 v20:=Tryz.zeroValue20
 i20:=by kernel_rfl
 t21:=Tryz.underlying21
 a21:=Tryz.isAgg21
 z21:=Tryz.sizeOf21
 v21:=Tryz.zeroValue21
 i21:=by kernel_rfl
 t22:=Tryz.underlying171
 a22:=Tryz.isAgg171
 z22:=Tryz.sizeOf171
 v22:=Tryz.zeroValue171
 i22:=by kernel_rfl
 t24:=Tryz.underlying220
 a24:=Tryz.isAgg220
 z24:=Tryz.sizeOf220
 v24:=Tryz.zeroValue220
 i24:=by kernel_rfl
 t25:=Tryz.underlying221
 a25:=Tryz.isAgg221
 z25:=Tryz.sizeOf221
 v25:=Tryz.zeroValue221
 i25:=by kernel_rfl
 t34:=Tryz.underlying255
 a34:=Tryz.isAgg255
 z34:=Tryz.sizeOf255
 v34:=Tryz.zeroValue255
 i34:=by kernel_rfl
 c34:=by kernel_rfl
 t36:=Tryz.underlying207
 a36:=Tryz.isAgg207
 z36:=Tryz.sizeOf207
 v36:=Tryz.zeroValue207
 i36:=by kernel_rfl
 t37:=Tryz.underlying187
 a37:=Tryz.isAgg187
 z37:=Tryz.sizeOf187
 v37:=Tryz.zeroValue187
 i37:=by kernel_rfl
 t39:=Tryz.underlying257
 a39:=Tryz.isAgg257
 z39:=Tryz.sizeOf257
 v39:=Tryz.zeroValue257
 i39:=by kernel_rfl
 t44:=Tryz.underlying269
 a44:=Tryz.isAgg269
 z44:=Tryz.sizeOf269
 v44:=Tryz.zeroValue269
 i44:=by kernel_rfl
 t47:=Tryz.underlying276
 a47:=Tryz.isAgg276
 z47:=Tryz.sizeOf276
 v47:=Tryz.zeroValue276
 i47:=by kernel_rfl
 t48:=Tryz.underlying277
 a48:=Tryz.isAgg277
 z48:=Tryz.sizeOf277
 v48:=Tryz.zeroValue277
 i48:=by kernel_rfl
 t50:=Tryz.underlying279
 a50:=Tryz.isAgg279
 z50:=Tryz.sizeOf279
 v50:=Tryz.zeroValue279
 i50:=by kernel_rfl
 t52:=Tryz.underlying271
 a52:=Tryz.isAgg271
 z52:=Tryz.sizeOf271
 v52:=Tryz.zeroValue271
 i52:=by kernel_rfl
 t55:=Tryz.underlying274
 a55:=Tryz.isAgg274
 z55:=Tryz.sizeOf274
 v55:=Tryz.zeroValue274
 i55:=by kernel_rfl
 t59:=Tryz.underlying281
 a59:=Tryz.isAgg281
 z59:=Tryz.sizeOf281
 v59:=Tryz.zeroValue281
 i59:=by kernel_rfl
 t60:=Tryz.underlying206
 a60:=Tryz.isAgg206
 z60:=Tryz.sizeOf206
 v60:=Tryz.zeroValue206
 i60:=by kernel_rfl
 t61:=Tryz.underlying282
 a61:=Tryz.isAgg282
 z61:=Tryz.sizeOf282
 t65:=Tryz.underlying289
 a65:=Tryz.isAgg289
 z65:=Tryz.sizeOf289
 v65:=Tryz.zeroValue289
 i65:=by kernel_rfl
 t66:=Tryz.underlying290
 a66:=Tryz.isAgg290
 z66:=Tryz.sizeOf290
 v66:=Tryz.zeroValue290
 i66:=by kernel_rfl
 t67:=Tryz.underlying227
 a67:=Tryz.isAgg227
 z67:=Tryz.sizeOf227
 v67:=Tryz.zeroValue227
 i67:=by kernel_rfl
 g0:=by kernel_rfl
 m0:=by kernel_rfl
 g1:=by kernel_rfl
 m1:=by kernel_rfl
 g2:=by kernel_rfl
 m2:=by kernel_rfl
 g3:=by kernel_rfl
 m3:=by kernel_rfl
 g4:=by kernel_rfl
 m4:=by kernel_rfl }
def Uu:Go.Shelf.Ren:=⟨fun | 219=>209 | 217=>220 | 225=>221 | 224=>222 | 267=>223 | 266=>236 | 314=>237 | n=>n,fun | 9=>9 | 3=>3 | 4=>4 | 5=>5 | 46=>207 | 146=>240 | 51=>206 | n=>n,fun | 1=>0 | n=>n⟩
theorem alL:Go.Proofs.Lays.n219 Tryz.prog Uu:={
 mixed:=by kernel_rfl
 f217:=Tryz.func220.trans (congrArg some (by kernel_rfl))
 f219:=Tryz.func209.trans (congrArg some (by kernel_rfl))
 f224:=Tryz.func222.trans (congrArg some (by kernel_rfl))
 f225:=Tryz.func221.trans (congrArg some (by kernel_rfl))
 f266:=Tryz.func236.trans (congrArg some (by kernel_rfl))
 f267:=Tryz.func223.trans (congrArg some (by kernel_rfl))
 f314:=Tryz.func237.trans (congrArg some (by kernel_rfl))
 t3:=Tryz.underlying3
 a3:=Tryz.isAgg3
 z3:=Tryz.sizeOf3
 v3:=Tryz.zeroValue3
 t4:=Tryz.underlying4
 a4:=Tryz.isAgg4
 z4:=Tryz.sizeOf4
 v4:=Tryz.zeroValue4
 t5:=Tryz.underlying5
 a5:=Tryz.isAgg5
 z5:=Tryz.sizeOf5
 v5:=Tryz.zeroValue5
 t9:=Tryz.underlying9
 a9:=Tryz.isAgg9
 z9:=Tryz.sizeOf9
 v9:=Tryz.zeroValue9
 t46:=Tryz.underlying207
 a46:=Tryz.isAgg207
 z46:=Tryz.sizeOf207
 v46:=Tryz.zeroValue207
 t51:=Tryz.underlying206
 a51:=Tryz.isAgg206
 z51:=Tryz.sizeOf206
 v51:=Tryz.zeroValue206
 t146:=Tryz.underlying240
 a146:=Tryz.isAgg240
 z146:=Tryz.sizeOf240
 v146:=Tryz.zeroValue240
 g1:=by kernel_rfl }
def LJ:Go.Shelf.Ren:=⟨fun | 105=>215 | 212=>187 | 99=>231 | 165=>232 | 166=>233 | 170=>234 | 169=>235 | 263=>206 | 264=>207 | 206=>210 | 240=>245 | 241=>246 | 276=>253 | 277=>254 | n=>n,fun | 9=>9 | 3=>3 | 4=>4 | 20=>20 | 0=>0 | 46=>207 | 109=>215 | 5=>5 | 72=>262 | 76=>264 | 51=>206 | 146=>240 | 53=>171 | 148=>242 | 70=>260 | 37=>187 | 75=>220 | 127=>276 | 164=>285 | 80=>227 | n=>n,fun | n=>n⟩
theorem akM:Go.Proofs.Lays.n105 Tryz.prog LJ:={
 mixed:=by kernel_rfl
 f99:=Tryz.func231.trans (congrArg some (by kernel_rfl))
 f105:=Tryz.func215.trans (congrArg some (by kernel_rfl))
 f165:=Tryz.func232.trans (congrArg some (by kernel_rfl))
 f166:=Tryz.func233.trans (congrArg some (by kernel_rfl))
 f169:=Tryz.func235.trans (congrArg some (by kernel_rfl))
 f170:=Tryz.func234.trans (congrArg some (by kernel_rfl))
 f206:=Tryz.func210.trans (congrArg some (by kernel_rfl))
 f212:=Tryz.func187.trans (congrArg some (by kernel_rfl))
 f240:=Tryz.func245.trans (congrArg some (by kernel_rfl))
 f241:=Tryz.func246.trans (congrArg some (by kernel_rfl))
 f263:=Tryz.func206.trans (congrArg some (by kernel_rfl))
 f264:=Tryz.func207.trans (congrArg some (by kernel_rfl))
 f276:=Tryz.func253.trans (congrArg some (by kernel_rfl))
 f277:=Tryz.func254.trans (congrArg some (by kernel_rfl))
 t0:=Tryz.underlying0
 a0:=Tryz.isAgg0
 z0:=Tryz.sizeOf0
 v0:=Tryz.zeroValue0
 t3:=Tryz.underlying3
 a3:=Tryz.isAgg3
 z3:=Tryz.sizeOf3
 v3:=Tryz.zeroValue3
 t4:=Tryz.underlying4
 a4:=Tryz.isAgg4
 z4:=Tryz.sizeOf4
 v4:=Tryz.zeroValue4
 t5:=Tryz.underlying5
 a5:=Tryz.isAgg5
 z5:=Tryz.sizeOf5
 v5:=Tryz.zeroValue5
 t9:=Tryz.underlying9
 a9:=Tryz.isAgg9
 z9:=Tryz.sizeOf9
 v9:=Tryz.zeroValue9
 t20:=Tryz.underlying20
 a20:=Tryz.isAgg20
 z20:=Tryz.sizeOf20
 v20:=Tryz.zeroValue20
 t37:=Tryz.underlying187
 a37:=Tryz.isAgg187
 z37:=Tryz.sizeOf187
 v37:=Tryz.zeroValue187
 t46:=Tryz.underlying207
 a46:=Tryz.isAgg207
 z46:=Tryz.sizeOf207
 v46:=Tryz.zeroValue207
 t51:=Tryz.underlying206
 a51:=Tryz.isAgg206
 z51:=Tryz.sizeOf206
 v51:=Tryz.zeroValue206
 t53:=Tryz.underlying171
 a53:=Tryz.isAgg171
 z53:=Tryz.sizeOf171
 v53:=Tryz.zeroValue171
 t70:=Tryz.underlying260
 a70:=Tryz.isAgg260
 z70:=Tryz.sizeOf260
 v70:=Tryz.zeroValue260
 t72:=Tryz.underlying262
 a72:=Tryz.isAgg262
 z72:=Tryz.sizeOf262
 v72:=Tryz.zeroValue262
 t75:=Tryz.underlying220
 a75:=Tryz.isAgg220
 z75:=Tryz.sizeOf220
 v75:=Tryz.zeroValue220
 t76:=Tryz.underlying264
 a76:=Tryz.isAgg264
 z76:=Tryz.sizeOf264
 v76:=Tryz.zeroValue264
 t109:=Tryz.underlying215
 a109:=Tryz.isAgg215
 z109:=Tryz.sizeOf215
 v109:=Tryz.zeroValue215
 t127:=Tryz.underlying276
 a127:=Tryz.isAgg276
 z127:=Tryz.sizeOf276
 v127:=Tryz.zeroValue276
 t146:=Tryz.underlying240
 a146:=Tryz.isAgg240
 z146:=Tryz.sizeOf240
 v146:=Tryz.zeroValue240
 t148:=Tryz.underlying242
 a148:=Tryz.isAgg242
 z148:=Tryz.sizeOf242
 v148:=Tryz.zeroValue242
 t164:=Tryz.underlying285
 a164:=Tryz.isAgg285
 z164:=Tryz.sizeOf285
 v164:=Tryz.zeroValue285 }
theorem agF:Builder.Extra Tryz.prog LJ:={
 sizeBuilder:=by kernel_rfl
 liesBuilder:=by kernel_rfl
 t5:=Tryz.underlying5
 a5:=Tryz.isAgg5
 z5:=Tryz.sizeOf5
 v5:=Tryz.zeroValue5
 infoByte:=by kernel_rfl
 cellsByte:=by kernel_rfl
 sizeByte:=by kernel_rfl
 neB5:=by decide }
end Go.Proofs
namespace Go.Proofs
open Go.Shelf Go.RowKit Go.Sort Go.Lib
abbrev Tr:UInt8→Value:=fun b=>Value.int .u8 (b.toNat:Int)
theorem Xp (w:World) (T:TypeId) (nd:Nat) (hs:nd≤24):Holds Tr (w.alloc (.cells Lib.zeros24 T)) w.heap.size 0 (Array.replicate nd (0:UInt8)):=fun j hj=>by
 have hj':j<nd:=by simpa using hj
 refine⟨?_,World.frozen?_alloc_new _ _ _ _⟩
 rw[World.cell?_alloc_new,Lib.zeros24_at _ (by omega),getElem!_pos _ j hj]
 simp
theorem DC (w:World) (o:Obj) (dk:Array UInt8) (k:Nat):Below w.heap.size w ((putRow Tr (w.alloc o) w.heap.size 0 dk).drewN k):=by
 rw[alloc_eq_grow]
 obtain⟨os',_,e⟩:=putRow_grow_new Tr w #[o] w.heap.size 0 dk (Nat.le_refl _)
 rw[e]
 refine⟨rfl,rfl,rfl,by show w.heap.size≤(w.heap++os').size;simp,fun i hi => ?_⟩
 show (w.heap++os')[i]? = _
 rw[Array.getElem?_append_left hi]
set_option maxHeartbeats 6400000 in
set_option maxRecDepth 100000 in
theorem ajL (u:Nat) (acR:u<18446744073709551616) (w:World) (akR:Lib.TabIs Tryz.prog w "internal/strconv.uint64pow10" .u64 Lib.pow10Tab) :
  Calls Tryz.prog 230 #[.int .u64 u,.int .i64 10] w fun e w'=>e = .returned (.string ⟨(Lib.decDigits u).toArray⟩)∧Below w.heap.size w w':=by
 by_cases hs:u<100
 ·go_enter Tryz.func230,Tryz.ntmps230
  go_wp2_with (go_at_call 241;refine(Any.internal_strconv_small ajE u hs _).mono ?_;rintro e w' ⟨rfl,rfl⟩)
  go_ret
  exact⟨rfl,Below.refl _ _⟩
 ·have hu1:1≤u:=by omega
  have ayV:Lib.nDigits u≤20:=by have:=Lib.numDigits_eq u hu1 acR;split at this<;>omega
  have hH0:=Xp w 271 (Lib.nDigits u) (by omega)
  have aqH:=Any.internal_strconv_formatBase10 aiZ w.heap.size 0 24 u (Array.replicate (Lib.nDigits u) 0) (w.alloc (.cells Lib.zeros24 271)) hH0 (by rw[Array.size_replicate];exact Lib.lt_pow_nDigits u) acR (by rw[Array.size_replicate];omega)
  rw[Array.size_replicate] at aqH
  have HH0:=Lib.hid hH0
  have hal:Tryz.prog.arrayLen 271=24:=by simp[Program.arrayLen,Tryz.underlying271]
  have PJ:∀W,(Instr.sliceAt 271 (.pointer (some ⟨w.heap.size,0,none⟩)) none (some (.int .i64 (Lib.nDigits u:Int))) none).run Tryz.prog W = .ok (.slice (some ⟨w.heap.size,0,none⟩) (Lib.nDigits u) 24) W:=fun W=>by
   rw[run_sliceAt_array_h W 271 ⟨w.heap.size,0,none⟩ (by simp[Program.arrayLen,Program.elem,Tryz.underlying271]) .i64 (Lib.nDigits u:Int) (by omega) (by rw[hal];omega)]
   go_simp
  clear hH0 hal
  go_enter Tryz.func230,Tryz.ntmps230
  go_wp2_with (first
   | (go_at_call 242;refine(Any.internal_strconv_numDigits alF u hu1 acR _ (Lib.tabIs_alloc akR _)).mono ?_;rintro e w' ⟨rfl,rfl⟩))
  go_at_call 243
  refine aqH.mono ?_
  rintro e w' ⟨rfl,k,v',dk,rfl,hF⟩
  have hcv:(convert 187 9 (.slice (some ⟨w.heap.size,0,none⟩) (Lib.nDigits u) 24)).run Tryz.prog ((putRow Tr (w.alloc (.cells Lib.zeros24 271)) w.heap.size 0 dk).drewN k) = .ok (.string ⟨(Lib.decDigits u).toArray⟩) ((putRow Tr (w.alloc (.cells Lib.zeros24 271)) w.heap.size 0 dk).drewN k):=by
   have h:=run_convert_bytes_back (P:=Tryz.prog) ((putRow Tr (w.alloc (.cells Lib.zeros24 271)) w.heap.size 0 dk).drewN k) 187 9 5 ⟨w.heap.size,0,none⟩ 24 (Lib.decDigits u) Tryz.underlying187 Tryz.underlying5 Tryz.underlying9 (fun j hj=>by
    rw[Lib.row_is_numeral hF j hj,Lib.add_plain,World.cell?_drewN]
    exact cell?_putRow Tr _ w.heap.size 0 _ dk HH0.out (by rw[hF.size,Array.size_replicate]) j (by rw[hF.size];rw[Lib.decDigits_length] at hj;exact hj))
   rw[Lib.decDigits_length] at h
   exact h
  go_wp2
  go_ret
  exact⟨rfl,DC w _ dk k⟩
theorem acL (u:Nat) (acR:u<18446744073709551616) (w:World) (akR:Lib.TabIs Tryz.prog w "internal/strconv.uint64pow10" .u64 Lib.pow10Tab) :
  Calls Tryz.prog 214 #[.int .u64 u,.int .i64 10] w fun e w'=>e = .returned (.string ⟨(Lib.decDigits u).toArray⟩)∧Below w.heap.size w w':=by
 go_enter Tryz.func214,Tryz.ntmps214
 go_wp2_with (go_at_call 230;refine(ajL u acR _ akR).mono ?_;rintro e w' ⟨rfl,hb⟩)
 go_ret
 exact⟨rfl,hb⟩
end Go.Proofs
namespace Go.PM
open Go.Proofs Go.RowKit
theorem Below.AR {w w':World} (h:Below w.heap.size w w'):w.heap.size≤w'.heap.size∧(∀rb,rb<w.heap.size→w'.heap[rb]? = w.heap[rb]?)∧w'.os=w.os∧w'.output=w.output∧w'.tape=w.tape :=
 ⟨h.size,h.block,h.os,h.output,h.tape⟩
theorem A5 {w:World}:w.heap.size≤w.heap.size∧(∀rb,rb<w.heap.size→w.heap[rb]? = w.heap[rb]?)∧w.os=w.os∧w.output=w.output∧w.tape=w.tape :=
 ⟨Nat.le_refl _,fun _ _=>rfl,rfl,rfl,rfl⟩
def DS (f:Nat) (p:List Value→aE→Option Value):Prop :=
 Mh Tryz.prog f∧∀L0 args H v,p args H=some v→∀m w gO,Rel m L0 H w→RL m args gO →
  Calls Tryz.prog f gO.toArray w fun e w'=>∃rv,e = .returned rv∧RV m v rv∧w.heap.size≤w'.heap.size∧(∀rb,rb<w.heap.size→w'.heap[rb]? = w.heap[rb]?)∧w'.os=w.os∧w'.output=w.output∧w'.tape=w.tape
theorem RL.one {m:dP} {x:Value} {ys:List Value} (h:RL m [x] ys):∃y,ys=[y]∧RV m x y:=by
 match ys,h with
 | [y],h=>exact⟨y,rfl,h.jT.1⟩
 | [],h=>exact absurd h.1 (by simp)
 | _::_::_,h=>exact absurd h.1 (by simp)
theorem RL.two {m:dP} {x x':Value} {ys:List Value} (h:RL m [x,x'] ys):∃y y',ys=[y,y']∧RV m x y∧RV m x' y':=by
 match ys,h with
 | [y,y'],h=>exact⟨y,y',rfl,h.jT.1,h.jT.2.jT.1⟩
 | [],h=>exact absurd h.1 (by simp)
 | [_],h=>exact absurd h.1 (by simp)
 | _::_::_::_,h=>exact absurd h.1 (by simp)
theorem RL.three {m:dP} {x x' x'':Value} {ys:List Value} (h:RL m [x,x',x''] ys):∃y y' y'',ys=[y,y',y'']∧RV m x y∧RV m x' y'∧RV m x'' y'':=by
 match ys,h with
 | [y,y',y''],h=>exact⟨y,y',y'',rfl,h.jT.1,h.jT.2.jT.1,h.jT.2.jT.2.jT.1⟩
 | [],h=>exact absurd h.1 (by simp)
 | [_],h=>exact absurd h.1 (by simp)
 | [_,_],h=>exact absurd h.1 (by simp)
 | _::_::_::_::_,h=>exact absurd h.1 (by simp)
theorem Ei {m:dP}:∀ {cs rs:List Value} {xs:List ByteArray},strCells cs=some xs→RL m cs rs→rs=xs.map .string
 |
  [],rs,xs,h,hr=>by
  cases h
  match rs,hr with
  | [],_=>rfl
  | _::_,hr=>exact absurd hr.1 (by simp)
 |
  c::cs,rs,xs,h,hr=>by
  match rs,hr with
  | [],hr=>exact absurd hr.1 (by simp)
  |
   r::rs,hr =>
   obtain⟨h1,h2⟩:=hr.jT
   cases c with
   |
    string s =>
    rw[strCells] at h
    cases hc:strCells cs with
    | none=>rw[hc] at h;cases h
    |
     some ys =>
     rw[hc] at h
     cases h
     cases h1
     rw[Ei hc h2]
     rfl
   | _=>cases h
theorem IT:DS 198 Dg:=by
 refine⟨⟨_,Tryz.func198,by kernel_rfl,by kernel_rfl⟩,fun L0 args H v hp m w gO hR hr => ?_⟩
 unfold Dg at hp
 split at hp
 case h_2=>cases hp
 rename_i x
 split at hp
 case isFalse=>cases hp
 rename_i hx
 cases hp
 obtain⟨y,rfl,h1⟩:=hr.one
 cases h1
 refine(Any.bits_LeadingZeros32 alI x w hx.1 hx.2).mono ?_
 rintro e w' ⟨rfl,rfl⟩
 exact⟨_,rfl,.int _ _,A5⟩
theorem KW:DS 215 GM:=by
 refine⟨⟨_,Tryz.func215,by kernel_rfl,by kernel_rfl⟩,fun L0 args H v hp m w gO hR hr => ?_⟩
 unfold GM at hp
 split at hp
 case h_2=>cases hp
 rename_i s c
 split at hp
 case isFalse=>cases hp
 rename_i hx
 cases hp
 obtain⟨y,y',rfl,h1,h2⟩:=hr.two
 cases h1
 cases h2
 obtain⟨k,rfl⟩:∃k:Nat,c=k:=⟨c.toNat,by omega⟩
 refine(Any.strings_Repeat akM agF s k w (by omega) hx.2.2).mono ?_
 rintro e w' ⟨rfl,hb⟩
 exact⟨_,rfl,.str _,Below.AR hb⟩
theorem SB:DS 217 Qw:=by
 refine⟨⟨_,Tryz.func217,by kernel_rfl,by kernel_rfl⟩,fun L0 args H v hp m w gO hR hr => ?_⟩
 unfold Qw at hp
 split at hp
 case h_3=>cases hp
 ·cases hp
  obtain⟨y,y',rfl,h1,h2⟩:=hr.two
  cases h1
  cases h2
  refine(Any.strings_Join_none Uo O2 none 0 _ w).mono ?_
  rintro e w' ⟨rfl,rfl⟩
  exact⟨_,rfl,.str _,A5⟩
 ·rename_i b o n c sep
  obtain⟨y,y',rfl,h1,h2⟩:=hr.two
  cases h2
  cases h1 with
  |
   slice _ _ _ _ l ra rc h hn hc hx ha =>
   split at hp
   ·rename_i YN
    subst YN
    cases hp
    refine(Any.strings_Join_none Uo O2 (some ra) rc _ w).mono ?_
    rintro e w' ⟨rfl,rfl⟩
    exact⟨_,rfl,.str _,A5⟩
   ·rename_i YN
    split at hp
    case h_2=>cases hp
    rename_i xs PA
    split at hp
    case isFalse=>cases hp
    rename_i Q2
    cases hp
    obtain⟨cs,U0,W6⟩:=Option.bind_eq_some_iff.1 PA
    obtain⟨rs,r1,r2,_,r4⟩:=xE hR h U0
    have Nk:=Ei W6 r1
    subst Nk
    rcases ha with ha | ⟨rfl,ha⟩
    ·omega
    obtain⟨arr,e0,fz0,v1,_⟩:=hR.valid b l h
    have B7:l.rb<w.heap.size:=(Array.getElem?_eq_some_iff.1 v1).1
    obtain⟨c1,c2,c3,c4⟩:=Q2
    subst c1
    refine(Any.strings_Join Uo O2 l.rb (l.base+o) rc xs sep w (fun j x hj => ?_) B7 c3 (by omega) c4).mono ?_
    ·have:=r4 j (.string x) (by simp[hj])
     rw[Addr.add_lit] at this
     exact this
    ·rintro e w' ⟨rfl,hb⟩
     exact⟨_,rfl,.str _,Below.AR hb⟩
theorem S7 {m:dP} {L0:Nat} {H:aE} {w:World} (hR:Rel m L0 H w):Lib.TabIs Tryz.prog w "internal/strconv.uint64pow10" .u64 Lib.pow10Tab:=by
 obtain⟨e,fz,h⟩:=(hR.C6 (3,(Lib.pow10Tab.map fun z=>Value.int .u64 z).toArray) (by simp[aeC])).1
 have hg:Tryz.prog.globalNamed "internal/strconv.uint64pow10"=some 3:=by kernel_rfl
 unfold Lib.TabIs World.var?
 rw[hg]
 simp only[Option.bind_some,h]
theorem RE:DS 214 uS:=by
 refine⟨⟨_,Tryz.func214,by kernel_rfl,by kernel_rfl⟩,fun L0 args H v hp m w gO hR hr => ?_⟩
 unfold uS at hp
 split at hp
 case h_2=>cases hp
 rename_i n b
 split at hp
 case isFalse=>cases hp
 rename_i hx
 cases hp
 obtain⟨y,y',rfl,h1,h2⟩:=hr.two
 cases h1
 cases h2
 obtain⟨rfl,h0,h1⟩:=hx
 obtain⟨u,rfl⟩:∃u:Nat,n=u:=⟨n.toNat,by omega⟩
 refine(acL u (by omega) w (S7 hR)).mono ?_
 rintro e w' ⟨rfl,hb⟩
 exact⟨_,rfl,.str _,Below.AR hb⟩
theorem Ov:DS 209 Pr:=by
 refine⟨⟨_,Tryz.func209,by kernel_rfl,by kernel_rfl⟩,fun L0 args H v hp m w gO hR hr => ?_⟩
 unfold Pr at hp
 split at hp
 case h_2=>cases hp
 rename_i s p
 split at hp
 case h_2=>cases hp
 rename_i c hc
 cases hp
 obtain⟨y,y',rfl,h1,h2⟩:=hr.two
 cases h1
 cases h2
 have hp:p=⟨#[c]⟩:=by
  obtain⟨a⟩:=p
  obtain⟨l⟩:=a
  have:l=[c]:=hc
  rw[this]
 subst hp
 refine(Any.stringslite_Index_one alL s c w).mono ?_
 rintro e w' ⟨rfl,rfl⟩
 exact⟨_,rfl,.int _ _,A5⟩
theorem Oj:DS 192 wT:=by
 refine⟨⟨_,Tryz.func192,by kernel_rfl,by kernel_rfl⟩,fun L0 args H v hp m w gO hR hr => ?_⟩
 unfold wT at hp
 split at hp
 case h_2=>cases hp
 rename_i s b z
 split at hp
 case isFalse=>cases hp
 rename_i hx
 obtain⟨rfl,rfl,hs⟩:=hx
 split at hp
 case h_2=>cases hp
 rename_i u hu
 cases hp
 obtain⟨y,y',y'',rfl,h1,h2,h3⟩:=hr.three
 cases h1
 cases h2
 cases h3
 refine(Any.strconv_ParseUint_10_at64_ok afC s hs u hu w).mono ?_
 have hv:∀m,RV m (.tuple #[.int .u64 (u:Int),.nilIface]) (.tuple #[.int .u64 (u:Int),.nilIface]):=fun m => .tuple _ _ rfl fun i hi=>by
  match i,hi with
  | 0,_=>exact .int _ _
  | 1,_=>exact .nilIface
  | n+2,hi=>exact absurd hi (by simp)
 rintro e w' ⟨rfl,rfl | rfl⟩
 ·exact⟨_,rfl,hv m,A5⟩
 ·exact⟨_,rfl,hv m,Below.AR (Lib.bytesWorld_below _ _ _)⟩
theorem akD {L0:Nat}:ZE Tryz.prog cfg L0:=by
 intro f p hp
 have Cs:Iy f=some p:=hp
 unfold Iy at Cs
 split at Cs
 ·rename_i h;subst h;cases Cs;exact⟨RE.1,RE.2 L0⟩
 split at Cs
 ·rename_i h;subst h;cases Cs;exact⟨KW.1,KW.2 L0⟩
 split at Cs
 ·rename_i h;subst h;cases Cs;exact⟨SB.1,SB.2 L0⟩
 split at Cs
 ·rename_i h;subst h;cases Cs;exact⟨IT.1,IT.2 L0⟩
 split at Cs
 ·rename_i h;subst h;cases Cs;exact⟨Ov.1,Ov.2 L0⟩
 split at Cs
 ·rename_i h;subst h;cases Cs;exact⟨Oj.1,Oj.2 L0⟩
 cases Cs
end Go.PM
namespace Go.PM
open Go.ChangeShapes Go.WideShapes Go.ChangeAt Go.RowKit
open Go.Proofs
structure In (m:dP) (H:aE) (W:World):Prop where
 Yw:∀b l,m b=some l→b<H.length
 valid:∀b l,m b=some l→∃arr e fz,W.heap[l.rb]? = some (.cells arr e fz)∧arr.size=l.PB
 row:∀b l cs e p,m b=some l→H[b]? = some (.row cs e p)→l.kK=e∧l.Sv=p∧l.base+cs.length≤l.PB ∧
  ∀i,i<cs.length→∃rv,W.cell? ⟨l.rb,l.base+i,none⟩=some rv∧RV m (cs.getD i Go.undef) rv∧PM.fT (cs.getD i Go.undef)=true
section
variable {m:dP} {H:aE} {W:World}
theorem In.empty:In (fun _=>none) [] W:=⟨fun _ _ h=>(by cases h),fun _ _ h=>(by cases h),fun _ _ _ _ _ h=>(by cases h)⟩
theorem In.rel (h:In m H W) (hg:PE W):Rel m H.length H W :=
 ⟨fun b l hb=>by
  obtain⟨arr,e,fz,h1,h2⟩:=h.valid b l hb
  exact⟨arr,e,fz,h1,h2,fun hl=>by have:=h.Yw b l hb;omega⟩,h.row,fun b1 b2 l1 l2 hl h1 _ _ _ _=>by have:=h.Yw b1 l1 h1;omega,fun x hx=>⟨hg x hx,fun b l hb hm _=>by have:=h.Yw b l hm;omega⟩⟩
theorem In.aaV (h:In m H W) {b:Nat} (hb:H.length≤b):m b=none:=by
 cases hm:m b with
 | none=>rfl
 | some l=>have:=h.Yw b l hm;omega
theorem In.add (h:In m H W) {rb base kK:Nat} {arr:Array Value} {e:TypeId} {fz:Nat×Nat} {cs:List Value} (hb:W.heap[rb]? = some (.cells arr e fz)) (sZ:base+cs.length≤arr.size)
  (hc:∀i,i<cs.length→∃rv,W.cell? ⟨rb,base+i,none⟩=some rv∧RV (tT m H.length ⟨rb,base,kK,arr.size,false⟩) (cs.getD i Go.undef) rv∧PM.fT (cs.getD i Go.undef)=true) :
  In (tT m H.length ⟨rb,base,kK,arr.size,false⟩) (H++[.row cs kK false]) W:=by
 have hn:=h.aaV (Nat.le_refl H.length)
 refine⟨fun b l uE => ?_,fun b l uE => ?_,fun b l ds e' p uE kD => ?_⟩
 ·by_cases he:b=H.length
  ·subst he;simp
  ·rw[cV he] at uE
   have:=h.Yw b l uE
   simp;omega
 ·by_cases he:b=H.length
  ·subst he
   rw[cD] at uE
   cases uE
   exact⟨arr,e,fz,hb,rfl⟩
  ·rw[cV he] at uE
   exact h.valid b l uE
 ·by_cases he:b=H.length
  ·subst he
   rw[cD] at uE
   cases uE
   rw[Vh] at kD
   cases kD
   exact⟨rfl,rfl,sZ,hc⟩
  ·rw[cV he] at uE
   have bH:=h.Yw b l uE
   rw[PD bH] at kD
   obtain⟨h1,h2,h3,h4⟩:=h.row b l ds e' p uE kD
   refine⟨h1,h2,h3,fun i hi => ?_⟩
   obtain⟨rv,g1,g2,g3⟩:=h4 i hi
   exact⟨rv,g1,g2.mono (Bg hn),g3⟩
end
theorem YY {f:Nat} {args gO:List Value} {H H':aE} {v:Value} {m:dP} {W:World} (hI:In m H W) (hr:RL m args gO) (h:qU f args H.length H=some (v,H')) (hg:PE W:=by first | assumption | exact fun x hx=>nomatch hx) :
  Calls Tryz.prog f gO.toArray W fun e W'=>∃m' rv,e = .returned rv∧RV m' v rv∧Below W.heap.size W W':=by
 obtain⟨n,hn⟩:=(uQ cfg fV).1 h
 refine(Ic Tryz.checked.mixed akD amA n f args H.length H v H' hn m W gO (hI.rel hg) (Nat.le_refl _) (Nat.le_refl _) hr (fun b hb _=>hI.aaV hb)).2.mono ?_
 rintro e W' ⟨m',rv,rfl,h1,_,h3⟩
 refine⟨m',rv,rfl,h1,⟨h3.same.1,h3.same.2.2,h3.same.2.1,h3.size,fun k hk=>h3.cK k hk fun b l hb hm _ => ?_⟩⟩
 rw[hI.aaV hb] at hm
 cases hm
end Go.PM
namespace Go.PM
def TE (c:jV):Prop:=(0≤c.t∧c.t≤10000)∧(1≤c.w∧c.w≤1000)∧(0≤c.k∧c.k≤9)
instance (c:jV):Decidable (TE c):=by unfold TE;infer_instance
def ajR (cs:List jV) (i:Nat) (c:jV):Prop:=TE c∧∀b,0<i→cs[i-1]? = some b→b.t≤c.t
def mK (cs:List jV):Prop:=(∀i c,cs[i]? = some c→ajR cs i c)∧cs.length≤24
noncomputable instance (cs:List jV):Decidable (mK cs):=Classical.propDecidable _
theorem mK.at {cs:List jV} (h:mK cs) {i:Nat} {c:jV} (hc:cs[i]? = some c):(0≤c.t∧c.t≤10000)∧(1≤c.w∧c.w≤1000)∧(0≤c.k∧c.k≤9):=(h.1 i c hc).1
def w64 (n:Int):Prop := -9223372036854775808≤n∧n≤9223372036854775807
def wl (time:Int):List jV→Int→Int→Int
 | [],l,s=>max (l-(time-s)) 0
 | c::cs,l,s=>if time<c.t then max (l-(time-s)) 0 else wl time cs (max (l-(c.t-s)) 0+c.w) c.t
def atO (cs:List jV) (time:Int):Prop:=mK cs∧(0≤time∧time≤1000000000)
noncomputable instance (cs:List jV) (time:Int):Decidable (atO cs time):=Classical.propDecidable _
def apE (cs:List jV) (ls:List Int):Prop:=mK cs∧ls.length=cs.length∧∀x∈ls,0≤x∧x≤1000000000
noncomputable instance (cs:List jV) (ls:List Int):Decidable (apE cs ls):=Classical.propDecidable _
def arN (cs:List jV) (ls:List Int) (time:Int):Prop:=apE cs ls∧(0≤time∧time≤1000000000)
noncomputable instance (cs:List jV) (ls:List Int) (time:Int):Decidable (arN cs ls time):=Classical.propDecidable _
def axF (cs:List jV) (ps:List Int):Prop:=mK cs∧ps.length=cs.length∧∀x∈ps,0≤x∧x≤10000
noncomputable instance (cs:List jV) (ps:List Int):Decidable (axF cs ps):=Classical.propDecidable _
end Go.PM
namespace Go.Proofs.YtjmflicajplclaaGreatDoor
open Go.ChangeShapes Go.WideShapes Go.ChangeAt Go.RowKit Go.PM
theorem own:ownKnob Tryz.prog.godebug=none:=by kernel_rfl
theorem YZ {n:Int} (h:(Lit.int .i64 n).wf=true):w64 n:=by
 simp only[Lit.wf,Bool.and_eq_true,decide_eq_true_eq] at h
 exact h
theorem three {α:Type} {l:List α} (h:l.length=3):∃a b c,l=[a,b,c]:=by
 rcases l with _ | ⟨a,_ | ⟨b,_ | ⟨c,_ | ⟨d,l⟩⟩⟩⟩
 ·cases h
 ·cases h
 ·cases h
 ·exact⟨a,b,c,rfl⟩
 ·simp at h
end Go.Proofs.YtjmflicajplclaaGreatDoor
namespace Go.PM
def Ci:List Nat:=[]
 ++ [34]
 ++ [36]
 ++ [37]
 ++ [17]
 ++ [20]
 ++ [21]
 ++ [26]
 ++ [28]
 ++ [29]
 ++ [22]
 ++ [46]
 ++ [48]
 ++ [18]
 ++ [16]
 ++ [27]
 ++ [25]
 ++ [41]
 ++ [40]
 ++ [43]
 ++ [42]
 ++ [31]
 ++ [30]
 ++ [39]
 ++ [38]
 ++ [35]
 ++ [33]
 ++ [182]
 ++ [199]
 ++ [200]
 ++ [204]
 ++ [205]
 ++ [162]
 ++ [216]
 ++ [147]
 ++ [181]
 ++ [71]
 ++ [138]
 ++ [61]
 ++ [99]
 ++ [76]
 ++ [133]
 ++ [149]
 ++ [94]
 ++ [95]
 ++ [90]
 ++ [118]
 ++ [134]
 ++ [179]
 ++ [103]
 ++ [119]
 ++ [72]
 ++ [62]
 ++ [78]
 ++ [70]
 ++ [60]
end Go.PM
namespace Go.PM
inductive TK where
 | op
 | cl (e:Nat)
 | nil
 deriving DecidableEq
inductive VV where
 | any
 | sc (v:Value)
 | agg (cs:List VV)
 | eX (vs:List VV)
 | tree (es:List VV) (k:TK)
 | cU (x:VV) (off:Nat)
 | ref (b g o n c:Nat)
 | ptr (b g j off:Nat)
 | vB (f:Nat) (fS:List VV)
 deriving Inhabited
inductive cG where
 | dead
 | row (g:Nat) (es:List VV) (e:Nat) (w:Bool)
 deriving Inhabited
abbrev aA:=List cG
abbrev dS:=Nat→VV
def pU:VV := .eX []
def kC:Value→Bool
 | .bool _ | .int _ _ | .string _ | .pointer none | .nilFunc | .nilIface=>true
 | _=>false
def jK:Value→VV
 | .slice none 0 0 => .tree [] .nil
 | v=>if kC v then .sc v else .any
def inj:Value→VV
 | .agg cs => .agg (cs.toList.map jK)
 | .tuple vs=>if vs.isEmpty then .eX [] else .any
 | v=>jK v
def eH (ρ:dS):Operand→VV
 | .tmp t=>ρ t
 | .const v=>inj v
 | .global _ => .any
 | .func f => .vB f []
def JD (ρ:dS):Option Nat→VV→dS
 | none,_=>ρ
 | some d,v=>fun k=>if k=d then v else ρ k
def aB:VV→List VV
 | .agg cs=>cs
 | v=>[v]
def elemOf:List VV→VV
 | [x]=>x
 | cs => .agg cs
def bP:VV→Bool
 | .any | .agg _ | .eX _=>false
 | _=>true
def uni:List VV→Bool
 | []=>true
 | x::xs=>xs.all fun y=>(aB y).length == (aB x).length
mutual
def aP:VV→Bool
 | .any=>false
 | .sc v=>kC v
 | .agg cs=>aM cs
 | .eX vs=>aM vs
 | .tree es k=>decide (k = .op)&&aM es&&uni es
 | .cU x _=>aP x
 | .ref .. => false
 | .ptr .. => false
 | .vB _ fS=>aM fS
def aM:List VV→Bool
 | []=>true
 | x::xs=>aP x&&aM xs
end
def Cz:VV→Bool
 | .agg [_]=>false
 | _=>true
mutual
def iD:VV→Bool
 | .any=>false
 | .sc v=>kC v
 | .agg cs=>pY cs
 | .eX vs=>pY vs
 | .tree es k=>decide (k = .op)&&pY es&&uni es&&es.all Cz
 | .cU _ _=>false
 | .ref .. => false
 | .ptr .. => false
 | .vB _ _=>false
def pY:List VV→Bool
 | []=>true
 | x::xs=>iD x&&pY xs
end
mutual
def KU:VV→Bool
 | .sc v=>kC v
 | .agg cs=>QU cs
 | .eX vs=>QU vs
 | _=>false
def QU:List VV→Bool
 | []=>true
 | x::xs=>KU x&&QU xs
end
mutual
def below (k:Nat):VV→Bool
 | .any=>true
 | .sc _=>true
 | .agg cs=>lO k cs
 | .eX vs=>lO k vs
 | .tree es _=>lO k es
 | .cU x _=>below k x
 | .ref b _ _ _ _=>decide (b<k)
 | .ptr b _ _ _=>decide (b<k)
 | .vB _ fS=>lO k fS
def lO (k:Nat):List VV→Bool
 | []=>true
 | x::xs=>below k x&&lO k xs
end
def IF (k:Nat) (v:VV):VV:=if below k v then v else .any
def aH (H:aA) (b g:Nat):Option (List VV×Nat×Bool) :=
 match H[b]? with
 | some (.row g' es e w)=>if g'=g then some (es,e,w) else none
 | _=>none
def qG:List CK→List VV→List VV→Option Bool
 | [],[],[]=>some true
 |
  k::ks,.sc x::xs,.sc y::ys=>match tF k x y with
  | some true=>qG ks xs ys
  | some false=>some false
  | none=>none
 | _,_,_=>none
def cY (cs:List VV) (o:Nat) (new:List VV):List VV:=cs.take o++new++cs.drop (o+new.length)
def isAny:VV→Bool
 | .any=>true
 | _=>false
def wV (places:List (Nat×Nat)) (cells:List VV):List (Nat×VV)→Option (List VV)
 | []=>some cells
 |
  (i,v)::rest =>
  match places[i]? with
  | none=>none
  |
   some (off,size) =>
   if (aB v).length=size∧off+size≤cells.length∧isAny v=false then
    wV places (cells.take off++aB v++cells.drop (off+size)) rest
   else none
def vZ (e:Nat) (es:List VV):List (Nat×VV)→Option (List VV)
 | []=>some es
 | (i,v)::rest=>if i<es.length∧(aB v).length=e∧(aB v).all bP then vZ e (es.set i v) rest else none
def EV:Option VV→Option (Option Value)
 | none=>some none
 | some (.sc v)=>some (some v)
 | some _=>none
def dC (agg:Bool) (size:Nat) (x:VV) (o:Nat):Option VV :=
 if agg then (if o+size≤(aB x).length then some (.agg (((aB x).drop o).take size)) else none) else (aB x)[o]?
structure Fl where
 bf:Bool
 lr:Bool
def cE (agg:Bool) (size:Nat) (p:VV) (H:aA):Option VV :=
 match p with
 | .cU x o=>dC agg size x o
 |
  .ptr b g j o=>match aH H b g with
  |
   some (es,_,_)=>match es[j]? with
   | some x=>dC agg size x o
   | none=>none
  | none=>none
 | _=>none
def bK (size:Nat) (x i:VV) (H:aA):Option VV :=
 match x,i with
 |
  .tree es _,.sc (.int _ i)=>if 0≤i then match es[i.toNat]? with
  | some x=>if (aB x).length=size then some (.cU x 0) else none
  | none=>none
  else none
 |
  .ref b g o n _,.sc (.int _ i)=>match aH H b g with
  | some (_,e,_)=>if e=size∧0≤i∧i<n then some (.ptr b g (o+i.toNat) 0) else none
  | none=>none
 | _,_=>none
def Fu (size:Nat) (x:VV) (l h m:Option VV) (H:aA):Option VV :=
 match EV l,EV h,EV m with
 |
  some lv,some hv,some mv =>
  match x with
  |
   .tree (y::ys) _ =>
   if (aB y).length=size then
    match eT mv (some (ys.length+1)) (ys.length+1) with
    | none=>none
    |
     some m=>match eT hv (if mv.isSome then none else some (ys.length+1)) m with
     | none=>none
     |
      some h=>match eT lv (some 0) h with
      | none=>none
      | some l=>if mv.isSome∧m=l then some (.tree [] (.cl size)) else some (.tree (((y::ys).drop l).take (h-l)) .op)
   else none
  |
   .ref b g o n c =>
   match aH H b g with
   |
    some (_,e,_) =>
    if e=size then
     match eT mv (some c) c with
     | none=>none
     |
      some m=>match eT hv (if mv.isSome then none else some n) m with
      | none=>none
      |
       some h=>match eT lv (some 0) h with
       | none=>none
       | some l=>if mv.isSome∧m=l then some (.tree [] (.cl size)) else some (.ref b g (o+l) (h-l) (m-l))
    else none
   | none=>none
  | _=>none
 | _,_,_=>none
def Iv:List VV→Option (List UInt8)
 | []=>some []
 | .sc (.int .u8 n)::r=>(Iv r).map (UInt8.ofNat n.toNat :: ·)
 | _=>none
def cT (size:Nat) (y:VV) (H:aA):Option (List VV) :=
 match y with
 | .tree es _=>if es.all fun x=>(aB x).length == size&&(aB x).all bP then some es else none
 |
  .ref b g o n _=>match aH H b g with
  | some (es,e,_)=>if e=size∧o+n≤es.length∧(((es.drop o).take n).all fun x=>(aB x).all bP) then some ((es.drop o).take n) else none
  | none=>none
 | .sc (.string s)=>if size=1 then some (s.data.toList.map fun b => .sc (.int .u8 b.toNat)) else none
 | _=>none
def eJ (lo size bytes:Nat) (x:VV) (new:List VV) (H:aA):Option (VV×aA) :=
 if 1≤bytes∧1≤size then
  match x with
  | .tree [] .nil=>if new.length=0 then some (x,H) else if new.length*bytes≤140737488355328 then some (.ref H.length 0 0 new.length new.length,H++[.row 0 new size true]) else none
  | .tree es (.cl e)=>if e=size then (if new.length=0 then some (x,H) else if (es.length+new.length)*bytes≤140737488355328 then some (.ref H.length 0 0 (es.length+new.length) (es.length+new.length),H++[.row 0 (es++new) size true]) else none) else none
  |
   .ref b g o n c=>match aH H b g with
   |
    some (es,e,true) =>
    if e=size∧lo≤b∧o+n≤es.length then
     if n+new.length≤c then
      if new.length=0 then some (x,H)
      else if o+n+new.length≤es.length then some (.ref b g o (n+new.length) c,H.set b (.row g (cY es (o+n) new) e true))
      else none
     else if (n+new.length)*bytes≤140737488355328 then some (.ref b (g+1) 0 (n+new.length) (n+new.length),H.set b (.row (g+1) ((es.drop o).take n++new) e true))
     else none
    else none
   | _=>none
  | _=>none
 else none
def bQ (lo size:Nat) (p v:VV) (H:aA):Option aA :=
 match p with
 |
  .ptr b g j o=>match aH H b g with
  |
   some (es,e,true)=>match es[j]? with
   |
    some x =>
    if (aB v).length=size∧lo≤b∧(aB v).all bP then
     if o=0∧size=e then some (H.set b (.row g (es.set j v) e true))
     else if 2≤e∧o+size≤e then some (H.set b (.row g (es.set j (.agg (cY (aB x) o (aB v)))) e true))
     else none
    else none
   | none=>none
  | _=>none
 | _=>none
def An (zero:List Value) (bytes:Nat) (l c:VV) (H:aA):Option (VV×aA) :=
 match l,c with
 | .sc (.int .i64 l),.sc (.int .i64 c)=>if 0≤l∧l≤c∧c*bytes≤281474976710656∧c≤9223372036854775807 then
  some (.ref H.length 0 0 l.toNat c.toNat,H++[.row 0 (List.replicate c.toNat (elemOf (zero.map jK))) zero.length true]) else none
 | _,_=>none
def jQ (lr:Bool) (zero:List Value) (n:Nat) (parts:List (Nat×VV)) (H:aA):Option (VV×aA) :=
 match vZ zero.length (List.replicate n (elemOf (zero.map jK))) parts with
 | some es=>if (zero.map jK).all bP then (if n=0∨lr=true then some (.ref H.length 0 0 n n,H++[.row 0 es zero.length true]) else some (.tree es (.cl zero.length),H)) else none
 | none=>none
def ID (lo size:Nat) (x y:VV) (H:aA):Option (VV×aA) :=
 match x,cT size y H with
 | .tree [] .nil,some _=>some (.sc (.int .i64 0),H)
 |
  .ref b g o d _,some new=>match aH H b g with
  | some (es,e,true)=>if e=size∧lo≤b∧o+(new.take d).length≤es.length then some (.sc (.int .i64 (new.take d).length),H.set b (.row g (cY es o (new.take d)) e true)) else none
  | _=>none
 | _,_=>none
def Pb (lo:Nat) (zero:List Value) (x:VV) (H:aA):Option aA :=
 match x with
 |
  .ref b g o n _=>match aH H b g with
  | some (es,e,true)=>if n=0 then some H else if e=zero.length∧lo≤b∧o+n≤es.length∧(zero.map jK).all bP then some (H.set b (.row g (cY es o (List.replicate n (elemOf (zero.map jK)))) e true)) else none
  | _=>none
 | _=>none
def Fx (neg:Bool) (x:VV) (H:aA):Option VV :=
 match x with
 | .tree [] .nil=>some (.sc (.bool (true != neg)))
 | .tree [] (.cl _)=>some (.sc (.bool (false != neg)))
 | .tree (_::_) _=>some (.sc (.bool (false != neg)))
 | .ref b g _ _ _=>(aH H b g).map fun _ => .sc (.bool (false != neg))
 | _=>none
def oK (x:VV) (H:aA):Option VV :=
 match x with
 | .tree es _=>some (.sc (.int .i64 es.length))
 | .ref b g _ n _=>(aH H b g).map fun _ => .sc (.int .i64 n)
 | _=>none
def HH (off:Nat) (x:VV) (H:aA):Option VV :=
 match x with
 | .cU x o=>some (.cU x (o+off))
 | .ptr b g j o=>(aH H b g).map fun _ => .ptr b g j (o+off)
 | _=>none
def WR (x:VV) (H:aA):Option VV :=
 match x with
 | .cU x o=>some (.cU x o)
 | .ptr b g j o=>(aH H b g).map fun _ => .ptr b g j o
 | _=>none
def uL (x:VV) (l h:Option VV):Option VV :=
 match x,EV l,EV h with
 |
  .sc (.string s),some lv,some hv=>match yT lv hv s.size with
  | some (l,h)=>some (.sc (.string (s.extract l h)))
  | none=>none
 | _,_,_=>none
def agW (agg:Bool) (off size:Nat) (x:VV):Option VV :=
 match x with
 | .agg cs=>if agg then (if off+size≤cs.length then some (.agg ((cs.drop off).take size)) else none) else cs[off]?
 | _=>none
def Mv (f:Value→Option Value) (x:VV):Option VV :=
 match x with
 | .sc a=>(f a).map .sc
 | _=>none
def HW (f:Value→Value→Option Value) (x y:VV):Option VV :=
 match x,y with
 | .sc a,.sc b=>(f a b).map .sc
 | _,_=>none
def Qr (c a b:VV):Option VV :=
 match c with
 | .sc (.bool t)=>some (if t then a else b)
 | _=>none
def Zm (i:Nat) (x:VV):Option VV :=
 match x with
 | .eX vs=>vs[i]?
 | _=>none
def Tx (neg:Bool) (ks:List CK) (x y:VV):Option VV :=
 match x,y with
 | .agg a,.agg b=>(qG ks a b).map fun t => .sc (.bool (t != neg))
 | _,_=>none
def Xx:Value→Option Value
 | .string s=>some (.string s)
 | _=>none
def zN:Value→Option Value
 | .string s=>some (.int .i64 s.size)
 | _=>none
def FQ:Value→Value→Option Value
 | .string s,.int _ i=>if 0≤i∧i<s.size then some (.int .u8 ((s.data.toList.getD i.toNat 0).toNat:Int)) else none
 | _,_=>none
def vop (fl:Fl) (lo:Nat) (o:nO) (ρ:dS) (H:aA):Option (VV×aA) :=
 match o with
 | .mv x=>some (eH ρ x,H)
 | .pick c a b=>(Qr (eH ρ c) (eH ρ a) (eH ρ b)).map (·,H)
 | .bin op x y=>(HW (dH op) (eH ρ x) (eH ρ y)).map (·,H)
 | .eqb neg x y=>(HW (MY neg) (eH ρ x) (eH ρ y)).map (·,H)
 | .isnil neg x=>(Fx neg (eH ρ x) H).map (·,H)
 | .eqagg neg ks x y=>(Tx neg ks (eH ρ x) (eH ρ y)).map (·,H)
 | .un op x=>(Mv (pun op) (eH ρ x)).map (·,H)
 | .cvt k x=>(Mv (T6 k) (eH ρ x)).map (·,H)
 | .cvs x=>(Mv Xx (eH ρ x)).map (·,H)
 | .ext x i=>(Zm i (eH ρ x)).map (·,H)
 | .fld agg off size x=>(agW agg off size (eH ρ x)).map (·,H)
 | .build zero places parts=>(wV places (zero.map jK) (parts.map fun(i,x)=>(i,eH ρ x))).map fun cs=>(.agg cs,H)
 | .chk x=>(WR (eH ρ x) H).map (·,H)
 | .faddr off x=>(HH off (eH ρ x) H).map (·,H)
 | .iaddr size x i=>(bK size (eH ρ x) (eH ρ i) H).map (·,H)
 | .sidx x i=>(HW FQ (eH ρ x) (eH ρ i)).map (·,H)
 | .ssub x l h=>(uL (eH ρ x) (l.map (eH ρ)) (h.map (eH ρ))).map (·,H)
 | .mkfn f fS=>some (.vB f (fS.map (eH ρ)),H)
 | .len x=>(oK (eH ρ x) H).map (·,H)
 | .slen x=>(Mv zN (eH ρ x)).map (·,H)
 | .min x y=>(HW QP (eH ρ x) (eH ρ y)).map (·,H)
 | .max x y=>(HW Sm (eH ρ x) (eH ρ y)).map (·,H)
 | .load agg size p=>(cE agg size (eH ρ p) H).map (·,H)
 | .sub size x l h m=>(Fu size (eH ρ x) (l.map (eH ρ)) (h.map (eH ρ)) (m.map (eH ρ)) H).map (·,H)
 |
  .b2s x=>match eH ρ x with
  | .sc _=>none
  |
   y=>match cT 1 y H with
   | some es=>(Iv es).map fun bs=>(.sc (.string ⟨bs.toArray⟩),H)
   | none=>none
 | .new zero=>if (zero.map jK).all bP then some (.ptr H.length 0 0 0,H++[.row 0 [elemOf (zero.map jK)] zero.length true]) else none
 | .box x=>if (aB (eH ρ x)).all bP then (if fl.bf then some (.cU (eH ρ x) 0,H) else some (.ptr H.length 0 0 0,H++[.row 0 [eH ρ x] (aB (eH ρ x)).length true])) else none
 | .make zero bytes l c=>if (zero.map jK).all bP then An zero bytes (eH ρ l) (eH ρ c) H else none
 | .lit zero n parts=>jQ fl.lr zero n (parts.map fun(i,x)=>(i,eH ρ x)) H
 | .store size p v=>(bQ lo size (eH ρ p) (eH ρ v) H).map fun H'=>(pU,H')
 |
  .app size bytes x y=>match cT size (eH ρ y) H with
  | some new=>eJ lo size bytes (eH ρ x) new H
  | none=>none
 |
  .appz zero bytes x n=>match eH ρ n with
  | .sc (.int .i64 n)=>if 0≤n∧n*bytes≤140737488355328∧(zero.map jK).all bP then eJ lo zero.length bytes (eH ρ x) (List.replicate n.toNat (elemOf (zero.map jK))) H else none
  | _=>none
 | .copy size x y=>ID lo size (eH ρ x) (eH ρ y) H
 | .clear zero x=>(Pb lo zero (eH ρ x) H).map fun H'=>(pU,H')
 | _=>none
inductive VBx where
 | no
 | row (i:Nat) (w:Bool)
 | Bh (i:Nat)
 | tree
 | bad
def AM (H:aA):VV→VBx
 | .tree [] .nil => .no
 | .tree _ _ => .tree
 | .cU _ _ => .tree
 |
  .ref b g _ _ _=>match aH H b g with
  | some (_,_,w) => .row b w
  | none => .Bh b
 |
  .ptr b g _ _=>match aH H b g with
  | some (_,_,w) => .row b w
  | none => .Bh b
 | .any => .bad
 | _ => .no
def AQ (H:aA) (x y:VV):Bool :=
 match AM H x,AM H y with
 | .bad,_=>false
 | _,.bad=>false
 | .no,_=>true
 | _,.no=>true
 | .row i _,.row j _=>i != j
 | .row i _,.Bh j=>i != j
 | .Bh i,.row j _=>i != j
 | .Bh _,.Bh _=>false
 | .Bh _,.tree=>false
 | .tree,.Bh _=>false
 | .row _ w,.tree=>w
 | .tree,.row _ w=>w
 | .tree,.tree=>false
def tX (ρ:dS) (H:aA) (c:Operand×Operand):Bool:=AQ H (eH ρ c.1) (eH ρ c.2)
def Bq (g:Option (Nat×Bool)) (ρ:dS):Option Bool :=
 match g with
 | none=>some true
 |
  some (t,want)=>match ρ t with
  | .sc (.bool b)=>some (b == want)
  | .eX _=>some false
  | _=>none
def fz:Nat→aA→VV→Option VV
 | 0,_,_=>none
 |
  d+1,H,v =>
  if aP v then some v else
  match v with
  | .agg cs=>(cs.mapM (fz d H)).map .agg
  | .eX vs=>(vs.mapM (fz d H)).map .eX
  | .tree es _=>(es.mapM (fz d H)).map (.tree · .op)
  | .cU x o=>(fz d H x).map (.cU · o)
  |
   .ref b g o n c=>match aH H b g with
   | some (es,_,_)=>if o+n≤es.length∧n≤c then (((es.drop o).take n).mapM (fz d H)).map (.tree · .op) else none
   | none=>none
  |
   .ptr b g j o=>match aH H b g with
   |
    some (es,_,_)=>match es[j]? with
    | some x=>(fz d H x).map (.cU · o)
    | none=>none
   | none=>none
  | .vB f fS=>(fS.mapM (fz d H)).map (.vB f ·)
  | _=>none
def gZ:Nat→aA→VV→List Nat
 | 0,_,_=>[]
 |
  d+1,H,v =>
  if aP v then [] else
  match v with
  | .agg cs=>cs.flatMap (gZ d H)
  | .eX vs=>vs.flatMap (gZ d H)
  | .tree es _=>es.flatMap (gZ d H)
  | .cU x _=>gZ d H x
  |
   .ref b g o n _=>match aH H b g with
   | some (es,_,_)=>b::((es.drop o).take n).flatMap (gZ d H)
   | none=>[]
  |
   .ptr b g j _=>match aH H b g with
   |
    some (es,_,_)=>match es[j]? with
    | some x=>b::gZ d H x
    | none=>[]
   | none=>[]
  | .vB _ fS=>fS.flatMap (gZ d H)
  | _=>[]
def BJ (H:aA) (b:Nat):aA :=
 match H[b]? with
 | some (.row g es e _)=>H.set b (.row g es e false)
 | _=>H
def dB (H:aA) (ids:List Nat):aA:=ids.foldl BJ H
def depth:Nat:=8
end Go.PM