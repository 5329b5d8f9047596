/- Texts of a claim, in one: part 3. -/
import Derived.Lib.ItoaNum
import Derived.Lib.Join
import Derived.Lib.BitFns
import Derived.Lib.Repeat
import Derived.Lib.Bytealg
import Derived.Lib.ParseIntB
import Derived.Test.YtodamlihdkalfaaGreatDoorChecked
import Derived.Laws.BitsLemmas
import Derived.Shelf.Strings.OnBuilder
import Derived.Shelf.Strings.Repeat
import Derived.Shelf.Small.Bits
import Derived.Shelf.Strconv.Itoa1
import Derived.Shelf.Strconv.Itoa2
import Derived.Shelf.LaysM
import Derived.Shelf.Strings.Search2
import Derived.Shelf.Pu.ParseUintPublic10
import Derived.KernelRfl
import Derived.Test.YtodamlihdkalfaaGreatDoorProg
import Derived.Lib.Walk
import Derived.Lib.ItoaMem
import Derived.WalkKit
import Derived.BigCall
import Derived.BigGuard
import Derived.Below
import Derived.Shelf.Strings.Search2
import Derived.Shelf.Pu.ParseUintPublic10
import Derived.Shelf.Strings.OnBuilder
import Derived.Shelf.Strings.Repeat
import Derived.Shelf.Small.Bits
import Derived.ProofKit
import Derived.OpenShut
import Derived.ShutString
import Derived.ChangeOld
import Derived.Carry
import Derived.SizedLaws
import Derived.Test.YtodamlihdkalfaaGreatDoorRows
import Derived.Test.YtodamlihdkalfaaGreatDoorKVb
set_option linter.unusedSimpArgs false
set_option linter.unusedVariables false
namespace Go.PM
def akJ:Ex→Exit
 | .normal => .normal
 | .exit id => .exit id
 | .ret => .ret
section
variable {P:Program} {E:xV} {n:Nat} {call:fN} {lo L0:Nat}
def LJ (P:Program) (n lo L0:Nat) (c:Code) (run:Env→aD→Option (Ex×Env×aD)):Prop :=
 ∀ρ H x aU H',run ρ H=some (x,aU,H')→∀m a w,FQ n L0 m ρ H a w→L0≤H.length→(∀b,H.length≤b→b<H'.length→m b=none) →
  ∀Q:Exit→Act→World→Prop,(∀m' a' w',FQ n L0 m' aU H' a' w'→Trans lo m H w m' H' w'→Q (akJ x) a' w')→c.wp P Q a w
theorem Vr {c:Code} {run:Env→aD→Option (Ex×Env×aD)} (hc:LJ P n lo L0 c run) (he:∀ρ H x aU H',run ρ H=some (x,aU,H')→Ext lo H H') (N:Nat):LJ P n lo L0 (.loop c) (tT run N):=by
 intro ρ H x aU H' hr m a w h hl hf Q hQ
 apply wp_loop_rounds N
 have key:∀N ρ H,tT run N ρ H=some (x,aU,H')→∀m a w,FQ n L0 m ρ H a w→L0≤H.length→(∀b,H.length≤b→b<H'.length→m b=none) →
   (∀m' a' w',FQ n L0 m' aU H' a' w'→Trans lo m H w m' H' w'→Q (akJ x) a' w')→Code.rounds P c Q N a w:=by
  intro N
  induction N with
  | zero=>intro ρ H h;cases h
  |
   succ N ih =>
   intro ρ H hr m a w h hl hf hQ
   rw[rounds_succ]
   rw[tT] at hr
   split at hr
   ·rename_i tM H1 h1
    have e1:=he _ _ _ _ _ h1
    have e2:=Fg he N hr
    refine hc ρ H _ tM H1 h1 m a w h hl (fun b CI hb2=>hf b CI (Nat.lt_of_lt_of_le hb2 e2.len)) _ fun m1 a1 w1 hh hT => ?_
    exact ih tM H1 hr m1 a1 w1 hh (Nat.le_trans hl e1.len) (hT.fresh e1.len hf) fun m2 a2 w2 h2 hT2=>hQ m2 a2 w2 h2 (Trans.trans hf e1 e2 hT hT2)
   ·rename_i eT
    refine hc ρ H _ aU H' hr m a w h hl hf _ fun m1 a1 w1 hh hT => ?_
    have:=hQ m1 a1 w1 hh hT
    cases x with
    | normal=>exact absurd hr (eT aU H')
    | exit id=>exact this
    | ret=>exact this
 exact key N ρ H hr m a w h hl hf hQ
theorem mD (Br:P.follows .mixedOrders=true) (lR:tP P L0 call) (oI:oV call) (eJ:L0≤lo) (N:Nat):∀(c:Code) (pc:aE),gJ P E n c=some pc→LJ P n lo L0 c (dE call lo N pc)
 |
  .skip,pc,hp=>by
  cases hp
  intro ρ H x aU H' hr m a w h hl hf Q hQ
  cases hr
  exact wp_skip (hQ m a w h (Trans.refl _ _ _ _))
 |
  .region id ops draw,pc,hp=>by
  rw[gJ] at hp
  cases hpr:uH P E n ops draw with
  | none=>rw[hpr] at hp;cases hp
  |
   some qJ =>
   rw[hpr] at hp
   cases hp
   intro ρ H x aU H' hr m a w h hl hf Q hQ
   rw[dE] at hr
   cases hs:gA call lo qJ ρ H with
   | none=>rw[hs] at hr;cases hr
   |
    some q =>
    obtain⟨tM,H1⟩:=q
    rw[hs] at hr
    cases hr
    exact Rc Br lR oI hpr hs h eJ hl hf hQ
 |
  .seq x y,pc,hp=>by
  rw[gJ] at hp
  split at hp
  ·rename_i px py SF hpy
   cases hp
   intro ρ H e aU H' hr m a w h hl hf Q hQ
   rw[dE] at hr
   apply wp_seq
   split at hr
   ·rename_i tM H1 h1
    have e1:=iH oI px h1
    have e2:=iH oI py hr
    refine mD Br lR oI eJ N x px SF ρ H _ tM H1 h1 m a w h hl (fun b CI hb2=>hf b CI (Nat.lt_of_lt_of_le hb2 e2.len)) _ fun m1 a1 w1 hh hT => ?_
    exact mD Br lR oI eJ N y py hpy tM H1 _ aU H' hr m1 a1 w1 hh (Nat.le_trans hl e1.len) (hT.fresh e1.len hf) Q fun m2 a2 w2 h2 hT2=>hQ m2 a2 w2 h2 (Trans.trans hf e1 e2 hT hT2)
   ·rename_i eT
    refine mD Br lR oI eJ N x px SF ρ H _ aU H' hr m a w h hl hf _ fun m1 a1 w1 hh hT => ?_
    have:=hQ m1 a1 w1 hh hT
    cases e with
    | normal=>exact absurd hr (eT aU H')
    | exit id=>exact this
    | ret=>exact this
  ·cases hp
 |
  .cond o x y,pc,hp=>by
  rw[gJ] at hp
  split at hp
  ·rename_i Am
   split at hp
   ·rename_i px py SF hpy
    cases hp
    intro ρ H e aU H' hr m a w h hl hf Q hQ
    rw[dE] at hr
    split at hr
    ·rename_i t ht
     have Rr:=RE (a:=a) (m:=m) (ρ:=ρ) Am fun t _=>h.env t
     rw[ht] at Rr
     generalize hev:a.eval o=ro at Rr
     cases Rr
     refine wp_cond hev ?_
     cases t with
     | true=>exact mD Br lR oI eJ N x px SF ρ H _ aU H' hr m a w h hl hf Q hQ
     | false=>exact mD Br lR oI eJ N y py hpy ρ H _ aU H' hr m a w h hl hf Q hQ
    ·cases hr
   ·cases hp
  ·cases hp
 |
  .block id x,pc,hp=>by
  rw[gJ] at hp
  cases SF:gJ P E n x with
  | none=>rw[SF] at hp;cases hp
  |
   some px =>
   rw[SF] at hp
   cases hp
   intro ρ H e aU H' hr m a w h hl hf Q hQ
   rw[dE] at hr
   apply wp_block
   split at hr
   ·rename_i PC tM H1 h1
    split at hr
    ·rename_i hid
     cases hr
     refine mD Br lR oI eJ N x px SF ρ H _ aU H' h1 m a w h hl hf _ fun m1 a1 w1 hh hT => ?_
     have:=hQ m1 a1 w1 hh hT
     show Exit.inBlock id Q (.exit PC) a1 w1
     simp only[Exit.inBlock,if_pos hid]
     exact this
    ·rename_i hid
     cases hr
     refine mD Br lR oI eJ N x px SF ρ H _ aU H' h1 m a w h hl hf _ fun m1 a1 w1 hh hT => ?_
     have:=hQ m1 a1 w1 hh hT
     show Exit.inBlock id Q (.exit PC) a1 w1
     simp only[Exit.inBlock,if_neg hid]
     exact this
   ·rename_i eT
    refine mD Br lR oI eJ N x px SF ρ H _ aU H' hr m a w h hl hf _ fun m1 a1 w1 hh hT => ?_
    have:=hQ m1 a1 w1 hh hT
    cases e with
    | normal=>exact this
    | exit PC=>exact absurd hr (eT PC aU H')
    | ret=>exact this
 |
  .loop x,pc,hp=>by
  rw[gJ] at hp
  cases SF:gJ P E n x with
  | none=>rw[SF] at hp;cases hp
  |
   some px =>
   rw[SF] at hp
   cases hp
   have hx:=mD Br lR oI eJ N x px SF
   intro ρ H e aU H' hr
   rw[dE] at hr
   exact Vr hx (fun ρ H x aU H' h=>iH oI px h) N ρ H e aU H' hr
 |
  .exit id,pc,hp=>by
  cases hp
  intro ρ H x aU H' hr m a w h hl hf Q hQ
  cases hr
  exact wp_exit (hQ m a w h (Trans.refl _ _ _ _))
 |
  .ret,pc,hp=>by
  cases hp
  intro ρ H x aU H' hr m a w h hl hf Q hQ
  cases hr
  exact wp_ret (hQ m a w h (Trans.refl _ _ _ _))
 | .rangeFunc ..,pc,hp=>by cases hp
 | .scope _,pc,hp=>by cases hp
 | .label _,pc,hp=>by cases hp
 | .goto _,pc,hp=>by cases hp
 | .refuse _,pc,hp=>by cases hp
def wH (P:Program):ResultVar→Option yE
 | .tmp t=>some (.tmp t)
 | .cell t ty=>(kK P ty).map fun(agg,size,_,_) => .cell t agg size
def Ib (a:Act):ResultVar→Sem Value
 | .tmp t=>pure (a.tmps.getD t undef)
 | .cell x t=>do loadVar t (←asAddr (a.tmps.getD x undef))
theorem apS {m:dH} {ρ:Env} {H:aD} {a:Act} {w:World} (h:FQ n L0 m ρ H a w) {r:ResultVar} {pr:yE} (hp:wH P r=some pr) {v:Value} (hv:SO ρ H pr=some v) :
  ∃rv,RV m v rv∧(Ib a r).run P w = .ok rv w:=by
 cases r with
 |
  tmp t =>
  cases hp
  cases hv
  exact⟨_,h.env t,rfl⟩
 |
  cell x t =>
  simp only[wH] at hp
  cases ht:kK P t with
  | none=>rw[ht] at hp;cases hp
  |
   some q =>
   obtain⟨agg,size,z,nb⟩:=q
   rw[ht] at hp
   cases hp
   obtain⟨rv,h1,h2⟩:=Ly ht hv h.rel (h.env x)
   refine⟨rv,h1,?_⟩
   unfold Ib
   have hpv:=h.env x
   simp only[SO,lU] at hv
   split at hv
   ·rename_i b o hb
    rw[hb] at hpv
    show (do loadVar t (←asAddr (a.tmps.getD x undef)):Sem Value).run P w=_
    generalize a.tmps.getD x undef=rp at h2 hpv ⊢
    cases hpv
    exact h2
   ·cases hv
theorem W6 {m:dH} {ρ:Env} {H:aD} {a:Act} {w:World} (h:FQ n L0 m ρ H a w):∀ {rs:List ResultVar} {Z9:List yE} {vs:List Value},rs.mapM (wH P)=some Z9→zX ρ H Z9=some vs →
  ∃Vb,RL m vs Vb∧(rs.mapM (Ib a)).run P w = .ok Vb w
 |
  [],Z9,vs,hp,hv=>by
  simp at hp
  subst hp
  cases hv
  exact⟨[],RL.nil m,rfl⟩
 |
  r::rs,Z9,vs,hp,hv=>by
  simp only[List.mapM_cons,Option.pure_def,Option.bind_eq_bind] at hp
  cases h1:wH P r with
  | none=>rw[h1] at hp;cases hp
  |
   some pr =>
   rw[h1] at hp
   cases h2:rs.mapM (wH P) with
   | none=>rw[h2] at hp;cases hp
   |
    some avL =>
    rw[h2] at hp
    cases hp
    simp only[zX] at hv
    split at hv
    ·rename_i v vs' hv1 hv2
     cases hv
     obtain⟨rv,g1,g2⟩:=apS h h1 hv1
     obtain⟨Vb,g3,g4⟩:=W6 h h2 hv2
     refine⟨rv::Vb,RL.cons g1 g3,?_⟩
     rw[List.mapM_cons,Sem.run_bind,g2,Result.andThen_ok,Sem.run_bind,g4]
     rfl
    ·cases hv
theorem GM {m:dH} {ρ:Env} {H:aD} {a:Act} {w:World} (h:FQ n L0 m ρ H a w) {fn:Func} {Z9:List yE} (hp:fn.results.toList.mapM (wH P)=some Z9) {v:Value} (hv:oC Z9 ρ H=some v) :
  ∃rv,RV m v rv∧(results fn a.tmps).run P w = .ok rv w:=by
 unfold oC at hv
 cases mT:zX ρ H Z9 with
 | none=>rw[mT] at hv;cases hv
 |
  some vs =>
  obtain⟨Vb,h1,h2⟩:=W6 h hp mT
  rw[mT] at hv
  have nC:∀rv,(if h:Vb.toArray.size=1 then Vb.toArray[0] else .tuple Vb.toArray)=rv→(results fn a.tmps).run P w = .ok rv w:=by
   intro rv Rr
   have e:results fn a.tmps=(do let vs ←fn.results.mapM (Ib a);pure (if h:vs.size=1 then vs[0] else .tuple vs)):=by
    unfold results
    congr 2
   rw[e,Array.mapM_eq_mapM_toList,Sem.run_bind]
   have:(List.toArray <$> fn.results.toList.mapM (Ib a)).run P w = .ok Vb.toArray w:=by
    rw[map_eq_pure_bind,Sem.run_bind,h2]
    rfl
   rw[this,←Rr]
   rfl
  clear h2 mT
  rcases vs with _ | ⟨x,_ | ⟨y,xs⟩⟩
  ·rcases Vb with _ | ⟨x',ys⟩
   ·cases hv
    exact⟨_,h1.SZ,nC _ rfl⟩
   ·cases h1.1
  ·rcases Vb with _ | ⟨x',_ | ⟨y',ys⟩⟩
   ·cases h1.1
   ·cases hv
    exact⟨x',h1.iM.1,nC x' rfl⟩
   ·cases h1.1
  ·rcases Vb with _ | ⟨x',_ | ⟨y',ys⟩⟩
   ·cases h1.1
   ·cases h1.1
   ·cases hv
    exact⟨_,h1.SZ,nC _ (by simp)⟩
end
end Go.PM
namespace Go.PM
def Yk (P:Program) (E:xV) (L0:Nat):Prop :=
 ∀f p,E.xX f=some p→Iw P f∧∀args H v,p args H=some v→∀m w fV,Rel m L0 H w→RL m args fV →
  Calls P f fV.toArray w fun e w'=>∃rv,e = .returned rv∧RV m v rv∧w.heap.size≤w'.heap.size∧(∀rb,rb<w.heap.size→w'.heap[rb]? = w.heap[rb]?)∧w'.os=w.os∧w'.output=w.output∧w'.tape=w.tape
theorem Rel.more {m:dH} {L0:Nat} {H:aD} {w w':World} (h:Rel m L0 H w) (hk:∀rb,rb<w.heap.size→w'.heap[rb]? = w.heap[rb]?):Rel m L0 H w':=by
 have hv:∀b l,m b=some l→l.rb<w.heap.size:=fun b l hb=>by
  obtain⟨arr,e,fz,h1,_⟩:=h.valid b l hb
  exact(Array.getElem?_eq_some_iff.1 h1).1
 refine⟨fun b l hb=>by rw[hk _ (hv b l hb)];exact h.valid b l hb,fun b l cs e p hm hb => ?_,h.inj,fun x hx=>⟨?_,(h.A5 x hx).2⟩⟩
 ·obtain⟨h1,h2,h3,h4⟩:=h.row b l cs e p hm hb
  refine⟨h1,h2,h3,fun i hi => ?_⟩
  obtain⟨rv,g1,g2⟩:=h4 i hi
  refine⟨rv,?_,g2⟩
  rw[←g1]
  unfold World.cell?
  simp only[hk _ (hv b l hm)]
 ·obtain⟨e,fz,g1⟩:=(h.A5 x hx).1
  exact⟨e,fz,by rw[hk _ (Array.getElem?_eq_some_iff.1 g1).1];exact g1⟩
theorem W5 {P:Program} {E:xV} {f:Nat} {pf:aS} (h:NC P E f=some pf):∃fn c,P.funcs[f]? = some fn∧fn.body=some c∧(fn.name == "runtime.NumGoroutine")=false∧fn.results.toList.mapM (wH P)=some pf.res∧gJ P E fn.ntmps c=some pf.body∧pf.ntmps=fn.ntmps:=by
 unfold NC at h
 cases hf:P.funcs[f]? with
 | none=>rw[hf] at h;cases h
 |
  some fn =>
  rw[hf] at h
  have h':HT P E fn=some pf:=h
  unfold HT at h'
  cases hb:fn.body with
  | none=>rw[hb] at h';cases h'
  |
   some c =>
   rw[hb] at h'
   simp only at h'
   split at h'
   ·cases h'
   ·rename_i Wq
    split at h'
    ·cases h'
    ·rename_i res XY
     cases hc:gJ P E fn.ntmps c with
     | none=>rw[hc] at h';cases h'
     |
      some body =>
      rw[hc] at h'
      cases h'
      refine⟨fn,c,rfl,hb,by simpa using Wq,?_,hc,rfl⟩
      have e:(fun(r:ResultVar)=>match r with
       | .tmp t=>some (yE.tmp t)
       | .cell t ty=>(kK P ty).map fun(agg,size,_,_) => .cell t agg size)=wH P:=by
       funext r
       cases r<;>rfl
      rw[←e]
      exact XY
theorem FU {P:Program} {E:xV} {T:Xs} {L0:Nat} (Br:P.follows .mixedOrders=true) (Yp:Yk P E L0) (hT:∀f pf,T f=some pf→NC P E f=some pf):∀n,tP P L0 (kI E T n)
 | 0=>fun f args lo H v H' h=>by cases h
 |
  n+1=>fun f args lo H v H' h m w fV hR eJ hlen PT hf=>by
  have oI:=Cd E T n
  rw[kI] at h
  split at h
  ·rename_i p hp
   obtain⟨hco,amD⟩:=Yp f p hp
   refine⟨hco,?_⟩
   cases hpv:p args H with
   | none=>rw[hpv] at h;cases h
   |
    some u =>
    rw[hpv] at h
    cases h
    refine(amD args H v hpv m w fV hR PT).mono ?_
    rintro e w' ⟨rv,rfl,h1,h2,h3,h4⟩
    exact⟨m,rv,rfl,h1,hR.more h3,fun _ _ h=>h,fun b l hb hn=>(by rw[hb] at hn;cases hn),h2,fun rb Bz _=>h3 rb Bz,h4⟩
  ·split at h
   ·cases h
   ·rename_i pf hpf
    obtain⟨fn,c,h1,h2,h3,h4,h5,h6⟩:=W5 (hT _ _ hpf)
    split at h
    case isFalse=>cases h
    rename_i uQ
    refine⟨⟨fn,h1,h3,by rw[h2];rfl⟩,calls_of_wp h1 h2 ?_⟩
    have A0:fV.toArray.size≤fn.ntmps:=by
     have:=PT.1
     simp;omega
    have hH:FQ fn.ntmps L0 m (TF args) H { tmps:=fV.toArray++Array.replicate (fn.ntmps-fV.toArray.size) undef,defers:=[] } w:=by
     refine⟨by simp at A0 ⊢;omega,rfl,fun t => ?_,hR⟩
     rcases Nat.lt_or_ge t args.length with ht | ht
     ·have h7:=PT.2 t ht
      have Zx:t<fV.length:=by rw[←PT.1];exact ht
      have e:(fV.toArray++Array.replicate (fn.ntmps-fV.toArray.size) undef).getD t undef=fV.getD t undef:=by
       rw[Array.getD_eq_getD_getElem?,Array.getElem?_append_left (by simpa using Zx)]
       simp
      show RV m (args.getD t undef) _
      rw[e]
      exact h7
     ·have e1:args.getD t undef=undef:=by simp[List.getD_eq_getElem?_getD,List.getElem?_eq_none ht]
      have Zx:fV.length≤t:=by rw[←PT.1];exact ht
      have e2:(fV.toArray++Array.replicate (fn.ntmps-fV.toArray.size) undef).getD t undef=undef:=by
       rw[Array.getD_eq_getD_getElem?,Array.getElem?_append_right (by simpa using Zx)]
       rw[Array.getElem?_replicate]
       split<;>rfl
      show RV m (args.getD t undef) _
      rw[e1,e2]
      exact RV.undef m
    split at h
    ·rename_i tM H1 nC
     cases hr:oC pf.res tM H1 with
     | none=>rw[hr] at h;cases h
     |
      some u =>
      rw[hr] at h
      cases h
      refine mD Br (FU Br Yp hT n) oI eJ n c pf.body h5 _ _ _ _ _ nC m _ w hH hlen hf _ fun m' a' w' hh hTr => ?_
      obtain⟨rv,g1,g2⟩:=GM hh h4 hr
      exact⟨hh.defs,rv,g2,m',rv,rfl,g1,hh.rel,hTr⟩
    ·rename_i tM H1 nC
     cases hr:oC pf.res tM H1 with
     | none=>rw[hr] at h;cases h
     |
      some u =>
      rw[hr] at h
      cases h
      refine mD Br (FU Br Yp hT n) oI eJ n c pf.body h5 _ _ _ _ _ nC m _ w hH hlen hf _ fun m' a' w' hh hTr => ?_
      obtain⟨rv,g1,g2⟩:=GM hh h4 hr
      exact⟨hh.defs,rv,g2,m',rv,rfl,g1,hh.rel,hTr⟩
    ·cases h
end Go.PM
namespace Go.PM
def CLe (c c':fN):Prop:=∀f args lo H r,c f args lo H=some r→c' f args lo H=some r
section
variable {c c':fN} {lo:Nat}
theorem Kq (h:CLe c c') {i:PI} {ρ:Env} {H:aD} {r:Value×aD} (hr:wC c lo i ρ H=some r):wC c' lo i ρ H=some r:=by
 unfold wC at hr ⊢
 split at hr
 ·cases hr
 ·exact hr
 ·split at hr
  ·rename_i M0
   rw[if_pos M0]
   split at hr
   ·exact hr
   ·exact h _ _ _ _ _ hr
   ·cases hr
  ·cases hr
theorem Rp (h:CLe c c') {i:PI} {ρ:Env} {H:aD} {r:Env×aD} (hr:vF c lo i ρ H=some r):vF c' lo i ρ H=some r:=by
 unfold vF at hr ⊢
 split at hr
 ·rename_i v H' hv
  rw[Kq h hv]
  exact hr
 ·cases hr
theorem wU (h:CLe c c'):∀ {is:List PI} {ρ:Env} {H:aD} {r:Env×aD},gA c lo is ρ H=some r→gA c' lo is ρ H=some r
 | [],_,_,_,hr=>hr
 |
  i::is,ρ,H,r,hr=>by
  rw[gA] at hr ⊢
  split at hr
  ·rename_i h1
   rw[Rp h h1]
   exact wU h hr
  ·cases hr
theorem vP {b b':Env→aD→Option (Ex×Env×aD)} (h:∀ρ H r,b ρ H=some r→b' ρ H=some r):∀ {n n':Nat} {ρ:Env} {H:aD} {r:Ex×Env×aD},n≤n'→tT b n ρ H=some r→tT b' n' ρ H=some r
 | 0,_,_,_,_,_,hr=>by cases hr
 | n+1,0,_,_,_,hn,_=>by omega
 |
  n+1,n'+1,ρ,H,r,hn,hr=>by
  rw[tT] at hr ⊢
  split at hr
  ·rename_i h1
   rw[h _ _ _ h1]
   exact vP h (by omega) hr
  ·rename_i eT
   rw[h _ _ _ hr]
   split
   ·rename_i aU H' he
    cases he
    exact absurd hr (eT _ _)
   ·rfl
theorem eE (h:CLe c c') {n n':Nat} (hn:n≤n'):∀(p:aE) {ρ:Env} {H:aD} {r:Ex×Env×aD},dE c lo n p ρ H=some r→dE c' lo n' p ρ H=some r
 | .skip,_,_,_,hr=>hr
 |
  .eO ops,ρ,H,r,hr=>by
  rw[dE] at hr ⊢
  cases hs:gA c lo ops ρ H with
  | none=>rw[hs] at hr;cases hr
  | some q=>rw[hs] at hr;rw[wU h hs];exact hr
 |
  .seq a b,ρ,H,r,hr=>by
  rw[dE] at hr ⊢
  split at hr
  ·rename_i h1
   rw[eE h hn a h1]
   exact eE h hn b hr
  ·rename_i eT
   rw[eE h hn a hr]
   split
   ·rename_i he;cases he;exact absurd hr (eT _ _)
   ·rfl
 |
  .cond x a b,ρ,H,r,hr=>by
  rw[dE] at hr ⊢
  split at hr
  ·split at hr
   ·rename_i ht;rw[if_pos ht];exact eE h hn a hr
   ·rename_i ht;rw[if_neg ht];exact eE h hn b hr
  ·cases hr
 |
  .block id a,ρ,H,r,hr=>by
  rw[dE] at hr ⊢
  split at hr
  ·rename_i h1
   rw[eE h hn a h1]
   exact hr
  ·rename_i eT
   rw[eE h hn a hr]
   split
   ·rename_i he;cases he;exact absurd hr (eT _ _ _)
   ·rfl
 |
  .loop a,ρ,H,r,hr=>by
  rw[dE] at hr ⊢
  exact vP (fun ρ H r hr=>eE h hn a hr) hn hr
 | .exit id,_,_,_,hr=>hr
 | .ret,_,_,_,hr=>hr
theorem zL (E:xV) (T:Xs):∀n,CLe (kI E T n) (kI E T (n+1))
 | 0,_,_,_,_,_,hr=>by cases hr
 |
  n+1,f,args,lo,H,r,hr=>by
  rw[kI] at hr ⊢
  split at hr
  ·exact hr
  ·split at hr
   ·cases hr
   ·split at hr
    ·rename_i pf _ ha
     rw[if_pos ha]
     split at hr
     ·rename_i h1
      rw[eE (zL E T n) (Nat.le_succ n) pf.body h1]
      exact hr
     ·rename_i h1
      rw[eE (zL E T n) (Nat.le_succ n) pf.body h1]
      exact hr
     ·cases hr
    ·cases hr
theorem mC (E:xV) (T:Xs) {n n':Nat} (h:n≤n'):CLe (kI E T n) (kI E T n'):=by
 induction h with
 | refl=>exact fun _ _ _ _ _ h=>h
 | step _ ih=>exact fun f args lo H r hr=>zL E T _ f args lo H r (ih f args lo H r hr)
end
section
variable (E:xV) (T:Xs)
open Classical in
noncomputable def lim {α:Type} (run:Nat→Option α):Option α:=if h:∃r,∃n,run n=some r then some (Classical.choose h) else none
theorem RN {α:Type} {run:Nat→Option α} (hm:∀n n' r,n≤n'→run n=some r→run n'=some r) {r:α}:lim run=some r↔∃n,run n=some r:=by
 unfold lim
 constructor
 ·intro h
  split at h
  ·rename_i hx
   cases h
   exact Classical.choose_spec hx
  ·cases h
 ·rintro⟨n,hn⟩
  have hx:∃r,∃n,run n=some r:=⟨r,n,hn⟩
  rw[dif_pos hx]
  obtain⟨n',hn'⟩:=Classical.choose_spec hx
  have h1:=hm n (max n n') r (Nat.le_max_left _ _) hn
  have h2:=hm n' (max n n') _ (Nat.le_max_right _ _) hn'
  rw[h1] at h2
  injection h2 with h2
  rw[←h2]
noncomputable def call:fN:=fun f args lo H=>lim fun n=>kI E T n f args lo H
noncomputable def code (lo:Nat) (c:aE) (ρ:Env) (H:aD):Option (Ex×Env×aD):=lim fun n=>dE (kI E T n) lo n c ρ H
theorem rN {f:Nat} {args:List Value} {lo:Nat} {H:aD} {r:Value×aD}:call E T f args lo H=some r↔∃n,kI E T n f args lo H=some r :=
 RN fun _ _ r h hr=>mC E T h f args lo H r hr
theorem cA {lo:Nat} {c:aE} {ρ:Env} {H:aD} {r:Ex×Env×aD}:code E T lo c ρ H=some r↔∃n,dE (kI E T n) lo n c ρ H=some r :=
 RN fun _ _ _ h hr=>eE (mC E T h) h c hr
theorem Ir {lo:Nat}:∀ {is:List PI} {ρ:Env} {H:aD} {r:Env×aD},gA (call E T) lo is ρ H=some r↔∃n,gA (kI E T n) lo is ρ H=some r:=by
 have le:∀n,CLe (kI E T n) (call E T):=fun n f args lo H r hr=>(rN E T).2 ⟨n,hr⟩
 have val:∀ {i:PI} {ρ:Env} {H:aD} {r:Value×aD},wC (call E T) lo i ρ H=some r→∃n,wC (kI E T n) lo i ρ H=some r:=by
  intro i ρ H r hr
  unfold wC at hr ⊢
  split at hr
  ·cases hr
  ·exact⟨0,hr⟩
  ·split at hr
   ·rename_i M0
    split at hr
    ·exact⟨0,by rw[if_pos M0];exact hr⟩
    ·obtain⟨n,hn⟩:=(rN E T).1 hr
     exact⟨n,by rw[if_pos M0];exact hn⟩
    ·cases hr
   ·cases hr
 intro is
 induction is with
 | nil=>exact fun {ρ H r}=>⟨fun h=>⟨0,h⟩,fun⟨_,h⟩=>h⟩
 |
  cons i is ih =>
  intro ρ H r
  constructor
  ·intro h
   rw[gA] at h
   split at h
   ·rename_i tM H1 h1
    obtain⟨v,hv,rfl⟩:=vO h1
    obtain⟨n1,hn1⟩:=val hv
    obtain⟨n2,hn2⟩:=ih.1 h
    refine⟨max n1 n2,?_⟩
    rw[gA]
    have e:vF (kI E T (max n1 n2)) lo i ρ H=some (put ρ i.dst v,H1):=by
     unfold vF
     rw[Kq (mC E T (Nat.le_max_left n1 n2)) hn1]
    rw[e]
    exact wU (mC E T (Nat.le_max_right n1 n2)) hn2
   ·cases h
  ·rintro⟨n,h⟩
   exact wU (le n) h
theorem Aj {α:Type} {a b:Option α} (h:∀r,a=some r↔b=some r):a=b:=by
 cases a with
 |
  none =>
  cases b with
  | none=>rfl
  | some y=>exact((h y).2 rfl)
 | some x=>exact((h x).1 rfl).symm
variable {lo:Nat} {ρ:Env} {H:aD}
theorem Uy:code E T lo .skip ρ H=some (.normal,ρ,H):=(cA E T).2 ⟨0,rfl⟩
theorem Uw {id:Nat}:code E T lo (.exit id) ρ H=some (.exit id,ρ,H):=(cA E T).2 ⟨0,rfl⟩
theorem Xi:code E T lo .ret ρ H=some (.ret,ρ,H):=(cA E T).2 ⟨0,rfl⟩
theorem VU {ops:List PI}:code E T lo (.eO ops) ρ H=(gA (call E T) lo ops ρ H).map fun(aU,H')=>(.normal,aU,H'):=by
 refine Aj fun r => ?_
 rw[cA]
 constructor
 ·rintro⟨n,h⟩
  rw[dE] at h
  cases hs:gA (kI E T n) lo ops ρ H with
  | none=>rw[hs] at h;cases h
  |
   some q =>
   rw[hs] at h
   rw[(Ir E T).2 ⟨n,hs⟩]
   exact h
 ·intro h
  cases hs:gA (call E T) lo ops ρ H with
  | none=>rw[hs] at h;cases h
  |
   some q =>
   rw[hs] at h
   obtain⟨n,hn⟩:=(Ir E T).1 hs
   exact⟨n,by rw[dE,hn];exact h⟩
theorem XG {a b:aE}:code E T lo (.seq a b) ρ H=match code E T lo a ρ H with
  | some (.normal,aU,H')=>code E T lo b aU H'
  | r=>r:=by
 refine Aj fun r => ?_
 rw[cA]
 constructor
 ·rintro⟨n,h⟩
  rw[dE] at h
  split at h
  ·rename_i h1
   rw[(cA E T).2 ⟨n,h1⟩]
   exact(cA E T).2 ⟨n,h⟩
  ·rename_i eT
   rw[(cA E T).2 ⟨n,h⟩]
   split
   ·rename_i he;cases he;exact absurd h (eT _ _)
   ·rfl
 ·intro h
  split at h
  ·rename_i h1
   obtain⟨n1,h1⟩:=(cA E T).1 h1
   obtain⟨n2,h2⟩:=(cA E T).1 h
   refine⟨max n1 n2,?_⟩
   rw[dE,eE (mC E T (Nat.le_max_left n1 n2)) (Nat.le_max_left n1 n2) a h1]
   exact eE (mC E T (Nat.le_max_right n1 n2)) (Nat.le_max_right n1 n2) b h2
  ·rename_i eT
   obtain⟨n,h1⟩:=(cA E T).1 h
   refine⟨n,?_⟩
   rw[dE,h1]
   split
   ·rename_i he;cases he;exact absurd h (eT _ _)
   ·rfl
theorem Us {x:Operand} {a b:aE}:code E T lo (.cond x a b) ρ H=match ev ρ x with
  | .bool t=>if t then code E T lo a ρ H else code E T lo b ρ H
  | _=>none:=by
 refine Aj fun r => ?_
 rw[cA]
 constructor
 ·rintro⟨n,h⟩
  rw[dE] at h
  split at h
  ·rename_i t he
   rw[he]
   show (if t=true then code E T lo a ρ H else code E T lo b ρ H)=some r
   split at h
   ·rename_i ht;rw[if_pos ht];exact(cA E T).2 ⟨n,h⟩
   ·rename_i ht;rw[if_neg ht];exact(cA E T).2 ⟨n,h⟩
  ·cases h
 ·intro h
  split at h
  ·rename_i t he
   split at h
   ·rename_i ht
    obtain⟨n,h⟩:=(cA E T).1 h
    refine⟨n,?_⟩
    rw[dE,he]
    show (if t=true then _ else _)=_
    rw[if_pos ht]
    exact h
   ·rename_i ht
    obtain⟨n,h⟩:=(cA E T).1 h
    refine⟨n,?_⟩
    rw[dE,he]
    show (if t=true then _ else _)=_
    rw[if_neg ht]
    exact h
  ·cases h
theorem PX {id:Nat} {a:aE}:code E T lo (.block id a) ρ H=match code E T lo a ρ H with
  | some (.exit PC,aU,H')=>if PC=id then some (.normal,aU,H') else some (.exit PC,aU,H')
  | r=>r:=by
 refine Aj fun r => ?_
 rw[cA]
 constructor
 ·rintro⟨n,h⟩
  rw[dE] at h
  split at h
  ·rename_i h1
   rw[(cA E T).2 ⟨n,h1⟩]
   exact h
  ·rename_i eT
   rw[(cA E T).2 ⟨n,h⟩]
   split
   ·rename_i he;cases he;exact absurd h (eT _ _ _)
   ·rfl
 ·intro h
  split at h
  ·rename_i h1
   obtain⟨n,h1⟩:=(cA E T).1 h1
   exact⟨n,by rw[dE,h1];exact h⟩
  ·rename_i eT
   obtain⟨n,h1⟩:=(cA E T).1 h
   refine⟨n,?_⟩
   rw[dE,h1]
   split
   ·rename_i he;cases he;exact absurd h (eT _ _ _)
   ·rfl
theorem UP {a:aE}:code E T lo (.loop a) ρ H=match code E T lo a ρ H with
  | some (.normal,aU,H')=>code E T lo (.loop a) aU H'
  | r=>r:=by
 refine Aj fun r => ?_
 rw[cA]
 constructor
 ·rintro⟨n,h⟩
  rw[dE] at h
  cases n with
  | zero=>cases h
  |
   succ n =>
   rw[tT] at h
   split at h
   ·rename_i h1
    rw[(cA E T).2 ⟨n+1,h1⟩]
    refine(cA E T).2 ⟨n+1,?_⟩
    rw[dE]
    exact vP (fun _ _ _ h=>h) (Nat.le_succ n) h
   ·rename_i eT
    rw[(cA E T).2 ⟨n+1,h⟩]
    split
    ·rename_i he;cases he;exact absurd h (eT _ _)
    ·rfl
 ·intro h
  split at h
  ·rename_i h1
   obtain⟨n1,h1⟩:=(cA E T).1 h1
   obtain⟨n2,h2⟩:=(cA E T).1 h
   refine⟨max n1 n2+1,?_⟩
   have g1:=eE (mC E T (show n1≤max n1 n2+1 by omega)) (show n1≤max n1 n2+1 by omega) a h1
   rw[dE,tT,g1]
   rw[dE] at h2
   exact vP (fun _ _ _ h=>eE (mC E T (show n2≤max n1 n2+1 by omega)) (show n2≤max n1 n2+1 by omega) a h) (show n2≤max n1 n2 by omega) h2
  ·rename_i eT
   obtain⟨n,h1⟩:=(cA E T).1 h
   refine⟨n+1,?_⟩
   rw[dE,tT,eE (zL E T n) (Nat.le_succ n) a h1]
   split
   ·rename_i he;cases he;exact absurd h (eT _ _)
   ·rfl
noncomputable def acQ (lo:Nat) (pf:aS) (args:List Value) (H:aD):Option (Value×aD) :=
 if args.length≤pf.ntmps then
  match code E T lo pf.body (TF args) H with
  | some (.normal,ρ,H') | some (.ret,ρ,H')=>(oC pf.res ρ H').map (·,H')
  | _=>none
 else none
theorem TS {f:Nat} {p:List Value→aD→Option Value} (h:E.xX f=some p) {args:List Value}:call E T f args lo H=(p args H).map (·,H):=by
 refine Aj fun r => ?_
 rw[rN]
 constructor
 ·rintro⟨n,hr⟩
  cases n with
  | zero=>cases hr
  | succ n=>rw[kI,h] at hr;exact hr
 ·intro hr
  exact⟨1,by rw[kI,h];exact hr⟩
theorem ZO {f:Nat} {pf:aS} (hp:E.xX f=none) (h:T f=some pf) {args:List Value}:call E T f args lo H=acQ E T lo pf args H:=by
 refine Aj fun r => ?_
 rw[rN]
 unfold acQ
 constructor
 ·rintro⟨n,hr⟩
  cases n with
  | zero=>cases hr
  |
   succ n =>
   rw[kI,hp,h] at hr
   simp only at hr
   split at hr
   ·rename_i ha
    rw[if_pos ha]
    split at hr
    ·rename_i h1
     rw[(cA E T).2 ⟨n,h1⟩]
     exact hr
    ·rename_i h1
     rw[(cA E T).2 ⟨n,h1⟩]
     exact hr
    ·cases hr
   ·cases hr
 ·intro hr
  split at hr
  ·rename_i ha
   split at hr
   ·rename_i h1
    obtain⟨n,h1⟩:=(cA E T).1 h1
    exact⟨n+1,by rw[kI,hp,h];simp only;rw[if_pos ha,h1];exact hr⟩
   ·rename_i h1
    obtain⟨n,h1⟩:=(cA E T).1 h1
    exact⟨n+1,by rw[kI,hp,h];simp only;rw[if_pos ha,h1];exact hr⟩
   ·cases hr
  ·cases hr
end
end Go.PM
namespace Go.PM
theorem Cb {H H':aD} {lo iZ b o:Nat} {new:List Value} (hl:iZ≤lo) (h:H.write lo b o new=some H'):H.write iZ b o new=some H':=by
 unfold aD.write at h ⊢
 split at h
 ·split at h
  ·rename_i hc
   rw[if_pos ⟨by omega,hc.2⟩]
   exact h
  ·cases h
 ·cases h
theorem An {α β:Type} {a b:Option α} {f:α→β} {r:β} (HN:∀x,a=some x→b=some x) (h:a.map f=some r):b.map f=some r:=by
 cases a with
 | none=>cases h
 | some x=>rw[HN x rfl];exact h
theorem GR {lo iZ size bytes add:Nat} {x:Value} {new:List Value} {H:aD} {r:Value×aD} (hl:iZ≤lo) (h:dV lo size bytes x add new H=some r):dV iZ size bytes x add new H=some r:=by
 unfold dV at h ⊢
 split at h
 case isFalse=>cases h
 rename_i hc
 rw[if_pos hc]
 split at h
 ·exact h
 ·split at h
  ·split at h
   ·rename_i h1
    skip
    rw[if_pos h1]
    split at h
    ·rename_i h2
     rw[if_pos h2]
     split at h
     ·rename_i h3;rw[if_pos h3];exact h
     ·rename_i h3
      rw[if_neg h3]
      exact An (fun H' hw=>Cb hl hw) h
    ·rename_i h2
     rw[if_neg h2]
     split at h
     ·rename_i h3
      rw[if_pos h3]
      split at h
      ·rename_i h4
       rw[if_pos h4]
       split at h
       ·rename_i h5;rw[if_pos (by omega)];exact h
       ·cases h
      ·rename_i h4;rw[if_neg h4];exact h
     ·cases h
   ·cases h
  ·cases h
 ·cases h
theorem RX {lo iZ:Nat} {p:lL} {ρ:Env} {H:aD} {o:Out} (hl:iZ≤lo) (h:pop lo p ρ H=some o):pop iZ p ρ H=some o:=by
 cases p<;>first | exact h | skip
 case store size q v =>
  simp only[pop] at h ⊢
  split at h
  ·split at h
   ·rename_i h1
    skip
    rw[if_pos h1]
    exact An (fun H' hw=>Cb hl hw) h
   ·cases h
  ·cases h
 case app size bytes x y =>
  simp only[pop] at h ⊢
  split at h
  ·split at h
   ·skip
    exact An (fun H' hw=>GR hl hw) h
   ·cases h
  ·cases h
 case appz z bytes x n =>
  simp only[pop] at h ⊢
  split at h
  ·split at h
   ·rename_i h1
    skip
    rw[if_pos h1]
    exact An (fun H' hw=>GR hl hw) h
   ·cases h
  ·cases h
 case copy size x y =>
  simp only[pop] at h ⊢
  split at h
  ·exact h
  ·split at h
   ·skip
    exact An (fun H' hw=>Cb hl hw) h
   ·cases h
  ·cases h
 case clear z x =>
  simp only[pop] at h ⊢
  split at h
  ·exact h
  ·skip
   split at h
   ·rename_i h1;rw[if_pos h1];exact h
   ·rename_i h1
    rw[if_neg h1]
    exact An (fun H' hw=>Cb hl hw) h
  ·cases h
def Xt (c:fN):Prop:=∀f args lo iZ H r,iZ≤lo→c f args lo H=some r→c f args iZ H=some r
section
variable {c:fN} {lo iZ:Nat}
theorem I5 (hc:Xt c) (hl:iZ≤lo):∀ {is:List PI} {ρ:Env} {H:aD} {r:Env×aD},gA c lo is ρ H=some r→gA c iZ is ρ H=some r
 | [],_,_,_,h=>h
 |
  i::is,ρ,H,r,h=>by
  rw[gA] at h ⊢
  split at h
  ·rename_i tM H1 h1
   have e:vF c iZ i ρ H=some (tM,H1):=by
    unfold vF at h1 ⊢
    split at h1
    ·rename_i v H2 hv
     have:wC c iZ i ρ H=some (v,H2):=by
      unfold wC at hv ⊢
      split at hv
      ·cases hv
      ·exact hv
      ·split at hv
       ·rename_i M0
        rw[if_pos M0]
        split at hv
        ·rename_i hp;rw[RX hl hp];exact hv
        ·rename_i hp
         rw[RX hl hp]
         show c _ _ (if i.quiet=true then H.length else iZ) H=_
         cases hq:i.quiet with
         | true=>rw[hq] at hv;exact hv
         | false=>rw[hq] at hv;exact hc _ _ _ _ _ _ hl hv
        ·cases hv
       ·cases hv
     rw[this]
     exact h1
    ·cases h1
   rw[e]
   exact I5 hc hl h
  ·cases h
theorem TQ {b b':Env→aD→Option (Ex×Env×aD)} (h:∀ρ H r,b ρ H=some r→b' ρ H=some r):∀ {n:Nat} {ρ:Env} {H:aD} {r:Ex×Env×aD},tT b n ρ H=some r→tT b' n ρ H=some r :=
 fun hr=>vP h (Nat.le_refl _) hr
theorem lJ (hc:Xt c) (hl:iZ≤lo) {n:Nat}:∀(p:aE) {ρ:Env} {H:aD} {r:Ex×Env×aD},dE c lo n p ρ H=some r→dE c iZ n p ρ H=some r
 | .skip,_,_,_,hr=>hr
 |
  .eO ops,ρ,H,r,hr=>by
  rw[dE] at hr ⊢
  exact An (fun _ h=>I5 hc hl h) hr
 |
  .seq a b,ρ,H,r,hr=>by
  rw[dE] at hr ⊢
  split at hr
  ·rename_i h1
   rw[lJ hc hl a h1]
   exact lJ hc hl b hr
  ·rename_i eT
   rw[lJ hc hl a hr]
   split
   ·rename_i he;cases he;exact absurd hr (eT _ _)
   ·rfl
 |
  .cond x a b,ρ,H,r,hr=>by
  rw[dE] at hr ⊢
  split at hr
  ·split at hr
   ·rename_i ht;rw[if_pos ht];exact lJ hc hl a hr
   ·rename_i ht;rw[if_neg ht];exact lJ hc hl b hr
  ·cases hr
 |
  .block id a,ρ,H,r,hr=>by
  rw[dE] at hr ⊢
  split at hr
  ·rename_i h1
   rw[lJ hc hl a h1]
   exact hr
  ·rename_i eT
   rw[lJ hc hl a hr]
   split
   ·rename_i he;cases he;exact absurd hr (eT _ _ _)
   ·rfl
 |
  .loop a,ρ,H,r,hr=>by
  rw[dE] at hr ⊢
  exact TQ (fun ρ H r hr=>lJ hc hl a hr) hr
 | .exit id,_,_,_,hr=>hr
 | .ret,_,_,_,hr=>hr
end
theorem FI (E:xV) (T:Xs):∀n,Xt (kI E T n)
 | 0,_,_,_,_,_,_,_,h=>by cases h
 |
  n+1,f,args,lo,iZ,H,r,hl,h=>by
  rw[kI] at h ⊢
  split at h
  ·exact h
  ·split at h
   ·cases h
   ·split at h
    ·rename_i pf _ ha
     rw[if_pos ha]
     split at h
     ·rename_i h1;rw[lJ (FI E T n) hl pf.body h1];exact h
     ·rename_i h1;rw[lJ (FI E T n) hl pf.body h1];exact h
     ·cases h
    ·cases h
section
variable {E:xV} {T:Xs}
theorem Xw {f:Nat} {args:List Value} {lo iZ:Nat} {H:aD} {r:Value×aD} (hl:iZ≤lo) (h:call E T f args lo H=some r):call E T f args iZ H=some r:=by
 obtain⟨n,hn⟩:=(rN E T).1 h
 exact(rN E T).2 ⟨n,FI E T n f args lo iZ H r hl hn⟩
theorem XA {f:Nat} {args:List Value} {lo:Nat} {H H':aD} {v:Value} (h:call E T f args lo H=some (v,H')):Ext lo H H':=by
 obtain⟨n,hn⟩:=(rN E T).1 h
 exact Cd E T n f args lo H v H' hn
theorem Ext.more {H H':aD} (h:Ext H.length H H'):∃K,H'=H++K:=by
 refine⟨H'.drop H.length,?_⟩
 apply List.ext_getElem?
 intro i
 rcases Nat.lt_or_ge i H.length with hi | hi
 ·rw[List.getElem?_append_left hi]
  exact h.low i hi hi
 ·rw[List.getElem?_append_right hi,List.getElem?_drop,show H.length+(i-H.length)=i by omega]
def Tk (E:xV) (T:Xs) (f:Nat) (args:List Value) (H:aD) (R:Value→aD→Prop):Prop :=
 ∃v K,call E T f args H.length H=some (v,H++K)∧R v (H++K)
theorem Tk.at {f:Nat} {args:List Value} {H:aD} {R:Value→aD→Prop} (h:Tk E T f args H R) {lo:Nat} (hl:lo≤H.length):∃v K,call E T f args lo H=some (v,H++K)∧R v (H++K):=by
 obtain⟨v,K,h1,h2⟩:=h
 exact⟨v,K,Xw hl h1,h2⟩
theorem Tk.mk {f:Nat} {args:List Value} {H H':aD} {v:Value} {R:Value→aD→Prop} (h:call E T f args H.length H=some (v,H')) (hr:R v H'):Tk E T f args H R:=by
 obtain⟨K,rfl⟩:=(XA h).more
 exact⟨v,K,h,hr⟩
end
end Go.PM
namespace Go.PM
def strCells:List Value→Option (List ByteArray)
 | []=>some []
 | .string s::r=>(strCells r).map (s :: ·)
 | _=>none
def rV:List Value→aD→Option Value
 | [.int .u64 n,.int .i64 b],_=>if b=10∧0≤n∧n<18446744073709551616 then some (.string ⟨(Lib.decDigits n.toNat).toArray⟩) else none
 | _,_=>none
def DY:List Value→aD→Option Value
 | [.string s,.int .i64 c],_=>if 0≤c∧c≤9223372036854775807∧s.size*c.toNat≤140737488355328 then some (.string ⟨(Lib.repeatL s.data.toList c.toNat).toArray⟩) else none
 | _,_=>none
def BI:List Value→aD→Option Value
 | [.int .u32 x],_=>if 0≤x∧x≤4294967295 then some (.int .i64 (32-(Lib.bitLen x.toNat:Int))) else none
 | _,_=>none
def Nn:List Value→aD→Option Value
 | [.slice none 0 0,.string _],_=>some (.string ⟨#[]⟩)
 |
  [.slice (some ⟨b,o,none⟩) n c,.string sep],H =>
  if n=0 then some (.string ⟨#[]⟩) else
  match (H.read b o n).bind strCells with
  | some xs=>if xs.length=n∧n≤c∧n≤140737488355328∧(Lib.join (xs.map (·.data.toList)) sep.data.toList).length≤140737488355328 then some (.string ⟨(Lib.join (xs.map (·.data.toList)) sep.data.toList).toArray⟩) else none
  | none=>none
 | _,_=>none
def Mt:List Value→aD→Option Value
 |
  [.string s,.string p],_=>match p.data.toList with
  | [c]=>some (.int .i64 (Lib.indexByte s.data.toList c))
  | _=>none
 | _,_=>none
def vL:List Value→aD→Option Value
 |
  [.string s,.int .i64 b,.int .i64 z],_=>if b=10∧z=64∧s.size≤9223372036854775806 then
   match Lib.parseUintB 64 s.data.toList with
   | .ok u=>some (.tuple #[.int .u64 (u:Int),.nilIface])
   | _=>none
  else none
 | _,_=>none
end Go.PM
namespace Go.PM
open Go.Proofs
def aoZ:List Nat:=[]
 ++ [56]
 ++ [221]
 ++ [239]
 ++ [240]
def GK (f:Nat):Option (List Value→aD→Option Value) :=
 if f=184 then some rV else
 if f=103 then some DY else
 if f=186 then some Nn else
 if f=219 then some BI else
 if f=241 then some Mt else
 if f=217 then some vL else
 (fun _=>none) f
def cfg:xV:={ xX:=GK,eff:=fun f=>aoZ.contains f }
noncomputable def iB:Xs:=fun f=>if (GK f).isSome then none else NC Tryz.prog cfg f
theorem adW (f:Nat) (pf:aS) (h:iB f=some pf):NC Tryz.prog cfg f=some pf:=by
 unfold iB at h
 split at h
 ·cases h
 ·exact h
theorem RC {f:Nat} {pf:aS} (h:iB f=some pf):cfg.xX f=none:=by
 unfold iB at h
 split at h
 ·cases h
 ·rename_i h1
  show GK f=none
  cases hp:GK f with
  | none=>rfl
  | some p=>rw[hp] at h1;exact absurd rfl h1
end Go.PM
namespace Go.PM
noncomputable abbrev oL:fN:=call cfg iB
def W (lo:Nat) (c:aE) (Q:Ex→Env→aD→Prop) (ρ:Env) (H:aD):Prop:=∃x aU H',code cfg iB lo c ρ H=some (x,aU,H')∧Q x aU H'
def WS (lo:Nat) (is:List PI) (K:Env→aD→Prop) (ρ:Env) (H:aD):Prop:=∃aU H',gA oL lo is ρ H=some (aU,H')∧K aU H'
def amS (lo:Nat) (b:aE) (Q:Ex→Env→aD→Prop):Ex→Env→aD→Prop
 | .normal,ρ,H=>W lo b Q ρ H
 | x,ρ,H=>Q x ρ H
def ahD (id:Nat) (Q:Ex→Env→aD→Prop):Ex→Env→aD→Prop
 | .exit PC,ρ,H=>if PC=id then Q .normal ρ H else Q (.exit PC) ρ H
 | x,ρ,H=>Q x ρ H
def apQ (res:List yE) (R:Value→aD→Prop):Ex→Env→aD→Prop
 | .exit _,_,_=>False
 | _,ρ,H=>∃v,oC res ρ H=some v∧R v H
def ahU (J:Env→aD→Prop) (Q:Ex→Env→aD→Prop):Ex→Env→aD→Prop
 | .normal,ρ,H=>J ρ H
 | x,ρ,H=>Q x ρ H
section
variable {lo:Nat} {Q:Ex→Env→aD→Prop} {K:Env→aD→Prop} {ρ:Env} {H:aD} {b:aE} {id:Nat} {R:Value→aD→Prop} {res:List yE} {J:Env→aD→Prop}
theorem F5 {i:Nat}:ahD id Q (.exit i) ρ H=if i=id then Q .normal ρ H else Q (.exit i) ρ H:=rfl
theorem adO:W lo .skip Q ρ H=Q .normal ρ H:=by
 unfold W
 rw[Uy]
 exact propext ⟨fun⟨_,_,_,h,hq⟩=>(by cases h;exact hq),fun h=>⟨_,_,_,rfl,h⟩⟩
theorem aeQ {i:Nat}:W lo (.exit i) Q ρ H=Q (.exit i) ρ H:=by
 unfold W
 rw[Uw]
 exact propext ⟨fun⟨_,_,_,h,hq⟩=>(by cases h;exact hq),fun h=>⟨_,_,_,rfl,h⟩⟩
theorem akQ:W lo .ret Q ρ H=Q .ret ρ H:=by
 unfold W
 rw[Xi]
 exact propext ⟨fun⟨_,_,_,h,hq⟩=>(by cases h;exact hq),fun h=>⟨_,_,_,rfl,h⟩⟩
theorem aiY {ops:List PI}:W lo (.eO ops) Q ρ H=WS lo ops (Q .normal) ρ H:=by
 unfold W WS
 rw[VU]
 apply propext
 constructor
 ·rintro⟨x,aU,H',h,hq⟩
  cases hs:gA (call cfg iB) lo ops ρ H with
  | none=>rw[hs] at h;cases h
  |
   some q =>
   rw[hs] at h
   cases h
   exact⟨_,_,rfl,hq⟩
 ·rintro⟨aU,H',h,hq⟩
  exact⟨_,_,_,by rw[h];rfl,hq⟩
theorem ajB {a:aE}:W lo (.seq a b) Q ρ H=W lo a (amS lo b Q) ρ H:=by
 unfold W
 rw[XG]
 apply propext
 constructor
 ·rintro⟨x,aU,H',h,hq⟩
  split at h
  ·rename_i tM H1 h1
   exact⟨_,_,_,h1,x,aU,H',h,hq⟩
  ·rename_i eT
   refine⟨x,aU,H',h,?_⟩
   cases x with
   | normal=>exact absurd h (eT _ _)
   | exit i=>exact hq
   | ret=>exact hq
 ·rintro⟨x,aU,H',h,hq⟩
  rw[h]
  cases x with
  | normal=>exact hq
  | exit i=>exact⟨_,_,_,rfl,hq⟩
  | ret=>exact⟨_,_,_,rfl,hq⟩
theorem ZD {a:aE}:W lo (.block id a) Q ρ H=W lo a (ahD id Q) ρ H:=by
 unfold W
 rw[PX]
 apply propext
 constructor
 ·rintro⟨x,aU,H',h,hq⟩
  split at h
  ·rename_i PC tM H1 h1
   refine⟨_,_,_,h1,?_⟩
   rw[F5]
   split at h
   ·rename_i he;cases h;rw[if_pos he];exact hq
   ·rename_i he;cases h;rw[if_neg he];exact hq
  ·rename_i eT
   refine⟨x,aU,H',h,?_⟩
   cases x with
   | normal=>exact hq
   | exit i=>exact absurd h (eT _ _ _)
   | ret=>exact hq
 ·rintro⟨x,aU,H',h,hq⟩
  rw[h]
  cases x with
  | normal=>exact⟨_,_,_,rfl,hq⟩
  |
   exit i =>
   rw[F5] at hq
   show ∃x Cv YT,(if i=id then some (Ex.normal,aU,H') else some (Ex.exit i,aU,H'))=some (x,Cv,YT)∧Q x Cv YT
   split at hq
   ·rename_i he;rw[if_pos he];exact⟨_,_,_,rfl,hq⟩
   ·rename_i he;rw[if_neg he];exact⟨_,_,_,rfl,hq⟩
  | ret=>exact⟨_,_,_,rfl,hq⟩
theorem acW {x:Operand} {a:aE}:W lo (.cond x a b) Q ρ H=∃t,ev ρ x = .bool t∧((t=true→W lo a Q ρ H)∧(t=false→W lo b Q ρ H)):=by
 unfold W
 rw[Us]
 apply propext
 constructor
 ·rintro⟨y,aU,H',h,hq⟩
  split at h
  ·rename_i t ht
   cases t with
   | true=>exact⟨true,ht,fun _=>⟨y,aU,H',h,hq⟩,fun h=>by cases h⟩
   | false=>exact⟨false,ht,fun h=>(by cases h),fun _=>⟨y,aU,H',h,hq⟩⟩
  ·cases h
 ·rintro⟨t,ht,h1,h2⟩
  rw[ht]
  cases t with
  | true=>exact h1 rfl
  | false=>exact h2 rfl
theorem W.mono {Q':Ex→Env→aD→Prop} {c:aE} (h:W lo c Q ρ H) (hq:∀x ρ H,Q x ρ H→Q' x ρ H):W lo c Q' ρ H:=by
 obtain⟨x,aU,H',h1,h2⟩:=h
 exact⟨x,aU,H',h1,hq _ _ _ h2⟩
noncomputable def iT (lo:Nat) (q:Bool) (op:lL) (ρ:Env) (H:aD):Option (Value×aD) :=
 match pop lo op ρ H with
 | some (.val v H')=>some (v,H')
 | some (.call f args)=>oL f args (if q then H.length else lo) H
 | none=>none
theorem abU:WS lo [] K ρ H=K ρ H:=by
 unfold WS
 apply propext
 constructor
 ·rintro⟨aU,H',h,hk⟩;cases h;exact hk
 ·intro h;exact⟨ρ,H,rfl,h⟩
theorem akE {i:PI} {is:List PI}:WS lo (i::is) K ρ H=∃v H',wC oL lo i ρ H=some (v,H')∧WS lo is K (put ρ i.dst v) H':=by
 unfold WS
 apply propext
 constructor
 ·rintro⟨aU,H',h,hk⟩
  rw[gA] at h
  split at h
  ·rename_i tM H1 h1
   obtain⟨v,hv,rfl⟩:=vO h1
   exact⟨v,H1,hv,aU,H',h,hk⟩
  ·cases h
 ·rintro⟨v,H1,hv,aU,H',h,hk⟩
  refine⟨aU,H',?_,hk⟩
  rw[gA]
  unfold vF
  rw[hv]
  exact h
variable {q:Bool}
theorem dG {op:lL} (h:rG op=true):iT lo q op ρ H=(gR op ρ).map (·,H):=by
 unfold iT
 rw[uS h]
 cases gR op ρ<;>rfl
theorem ZR {x:Operand}:iT lo q (.mv x) ρ H=some (ev ρ x,H):=rfl
theorem TV {c a b:Operand}:iT lo q (.pick c a b) ρ H=(match ev ρ c with | .bool t=>some ((if t=true then ev ρ a else ev ρ b),H) | _=>none):=by
 rw[dG rfl]
 simp only[gR]
 cases ev ρ c<;>rfl
theorem XI {op:BinOp} {x y:Operand}:iT lo q (.bin op x y) ρ H=(dB op (ev ρ x) (ev ρ y)).map (·,H):=dG rfl
theorem Zi {op:UnOp} {x:Operand}:iT lo q (.un op x) ρ H=(VD op (ev ρ x)).map (·,H):=dG rfl
theorem T5 {f:Nat} {args:List Operand}:iT lo q (.call f args) ρ H=oL f (args.map (ev ρ)) (if q then H.length else lo) H:=rfl
end
theorem We {f lo:Nat} {pf:aS} {args:List Value} {H:aD} {R:Value→aD→Prop} (ht:iB f=some pf) (ha:args.length≤pf.ntmps) (h:W lo pf.body (apQ pf.res R) (TF args) H):∃v H',oL f args lo H=some (v,H')∧R v H':=by
 obtain⟨x,aU,H',h1,h2⟩:=h
 show ∃v H',call cfg iB f args lo H=some (v,H')∧R v H'
 rw[ZO cfg iB (RC ht) ht]
 unfold acQ
 rw[if_pos ha,h1]
 cases x with
 | exit i=>exact h2.elim
 |
  normal =>
  obtain⟨v,h3,h4⟩:=h2
  exact⟨v,H',by simp only;rw[h3];rfl,h4⟩
 |
  ret =>
  obtain⟨v,h3,h4⟩:=h2
  exact⟨v,H',by simp only;rw[h3];rfl,h4⟩
end Go.PM
namespace Go.PM
theorem wrap64 {x:Int} (h1 : -9223372036854775808≤x) (h2:x≤9223372036854775807):IntKind.i64.wrap x=x:=by
 rw[IntKind.wrap_i64]
 omega
section
variable {k:IntKind} {a b:Int}
theorem OF:dB .add (.int k a) (.int k b)=some (.int k (k.wrap (a+b))):=by simp[dB]
theorem Nu:dB .sub (.int k a) (.int k b)=some (.int k (k.wrap (a-b))):=by simp[dB]
theorem Pr:dB .mul (.int k a) (.int k b)=some (.int k (k.wrap (a*b))):=by simp[dB]
theorem Oc:dB .lss (.int k a) (.int k b)=some (.bool (decide (a<b))):=by simp[dB]
theorem Oq:dB .leq (.int k a) (.int k b)=some (.bool (decide (a≤b))):=by simp[dB]
theorem Of:dB .gtr (.int k a) (.int k b)=some (.bool (decide (b<a))):=by simp[dB]
theorem PJ:dB .geq (.int k a) (.int k b)=some (.bool (decide (b≤a))):=by simp[dB]
theorem NY:dB .eql (.int k a) (.int k b)=some (.bool (decide (a=b))):=by
 simp only[dB,if_true]
 rfl
theorem Nk:dB .neq (.int k a) (.int k b)=some (.bool (!decide (a=b))):=by
 simp only[dB,if_true]
 rfl
theorem SB:VD .neg (.int k a)=some (.int k (k.wrap (0-a))):=rfl
theorem Tl {t:Bool}:VD .not (.bool t)=some (.bool (!t)):=rfl
end
def acC:Value→Option Value
 | .slice _ n _=>some (.int .i64 n)
 | _=>none
def PB (neg:Bool):Value→Value→Option Value
 | .bool a,.bool b=>some (.bool ((a == b) != neg))
 | _,_=>none
def Yf (neg:Bool):Value→Option Value
 | .slice none _ _=>some (.bool (true != neg))
 | .slice (some _) _ _=>some (.bool (false != neg))
 | _=>none
def Vz (neg:Bool) (ks:List CK):Value→Value→Option Value
 | .agg a,.agg b=>(nA ks a.toList b.toList).map fun t => .bool (t != neg)
 | _,_=>none
def Qi (k:IntKind):Value→Option Value
 | .int _ n=>some (.int k (k.wrap n))
 | _=>none
def aeO (i:Nat):Value→Option Value
 | .tuple vs=>vs[i]?
 | _=>none
def YP (agg:Bool) (off size:Nat):Value→Option Value
 | .agg cs=>if agg then (if off+size≤cs.size then some (.agg (cs.extract off (off+size))) else none) else cs[off]?
 | _=>none
def akO:Value→Option Value
 | .pointer (some a)=>some (.pointer (some a))
 | _=>none
def Ye (off:Nat):Value→Option Value
 | .pointer (some ⟨b,o,none⟩)=>some (.pointer (some ⟨b,o+off,none⟩))
 | _=>none
def Mn (size:Nat):Value→Value→Option Value
 | .slice (some ⟨b,o,none⟩) n _,.int _ i=>if 0≤i∧i<n then some (.pointer (some ⟨b,o+i.toNat*size,none⟩)) else none
 | _,_=>none
def O7:Value→Value→Option Value
 | .int k a,.int _ b=>some (.int k (if b<a then b else a))
 | _,_=>none
def Nh:Value→Value→Option Value
 | .int k a,.int _ b=>some (.int k (if b>a then b else a))
 | _,_=>none
section
variable {lo:Nat} {ρ:Env} {H:aD} {q:Bool}
theorem mY {op:lL} {r:Option (Value×aD)} (h:pop lo op ρ H=r.map fun(v,H') => .val v H'):iT lo q op ρ H=r:=by
 unfold iT
 rw[h]
 cases r<;>rfl
theorem XQ {x:Operand}:iT lo q (.len x) ρ H=(acC (ev ρ x)).map (·,H):=dG rfl
theorem XO {neg:Bool} {x y:Operand}:iT lo q (.eqb neg x y) ρ H=(PB neg (ev ρ x) (ev ρ y)).map (·,H):=dG rfl
theorem PZ {neg:Bool} {x:Operand}:iT lo q (.isnil neg x) ρ H=(Yf neg (ev ρ x)).map (·,H):=dG rfl
theorem Rw {neg:Bool} {ks:List CK} {x y:Operand}:iT lo q (.eqagg neg ks x y) ρ H=(Vz neg ks (ev ρ x) (ev ρ y)).map (·,H):=dG rfl
theorem W0 {k:IntKind} {x:Operand}:iT lo q (.cvt k x) ρ H=(Qi k (ev ρ x)).map (·,H):=dG rfl
theorem W7 {i:Nat} {x:Operand}:iT lo q (.ext x i) ρ H=(aeO i (ev ρ x)).map (·,H):=dG rfl
theorem WD {agg:Bool} {off size:Nat} {x:Operand}:iT lo q (.fld agg off size x) ρ H=(YP agg off size (ev ρ x)).map (·,H):=dG rfl
theorem Rn {z:List Value} {places:List (Nat×Nat)} {parts:List (Nat×Operand)}:iT lo q (.build z places parts) ρ H=((sU places z (parts.map fun(i,x)=>(i,ev ρ x))).map fun cs=>Value.agg cs.toArray).map (·,H):=dG rfl
theorem XB {x:Operand}:iT lo q (.chk x) ρ H=(akO (ev ρ x)).map (·,H):=dG rfl
theorem Qf {off:Nat} {x:Operand}:iT lo q (.faddr off x) ρ H=(Ye off (ev ρ x)).map (·,H):=dG rfl
theorem Rt {size:Nat} {x i:Operand}:iT lo q (.iaddr size x i) ρ H=(Mn size (ev ρ x) (ev ρ i)).map (·,H):=dG rfl
theorem Uf {f:Nat} {fC:List Operand}:iT lo q (.mkfn f fC) ρ H=some (.func (.func f) #[] (fC.map (ev ρ)).toArray,H):=dG rfl
theorem VM {x y:Operand}:iT lo q (.min x y) ρ H=(O7 (ev ρ x) (ev ρ y)).map (·,H):=dG rfl
theorem VO {x y:Operand}:iT lo q (.max x y) ρ H=(Nh (ev ρ x) (ev ρ y)).map (·,H):=dG rfl
theorem UN {agg:Bool} {size:Nat} {p:Operand}:iT lo q (.load agg size p) ρ H=(lU agg size (ev ρ p) H).map (·,H):=by
 unfold iT
 simp only[pop]
 cases lU agg size (ev ρ p) H<;>rfl
theorem WG {size:Nat} {x:Operand} {l h m:Option Operand}:iT lo q (.sub size x l h m) ρ H=AU size (ev ρ x) (l.map (ev ρ)) (h.map (ev ρ)) (m.map (ev ρ)) H:=by
 unfold iT
 simp only[pop]
 cases AU size (ev ρ x) (l.map (ev ρ)) (h.map (ev ρ)) (m.map (ev ρ)) H<;>rfl
theorem WZ {z:List Value}:iT lo q (.new z) ρ H=some (.pointer (some ⟨H.length,0,none⟩),H++[.row z z.length false]):=rfl
theorem Vw {x:Operand}:iT lo q (.box x) ρ H=if (aJ (ev ρ x)).all fD then some (.pointer (some ⟨H.length,0,none⟩),H++[.row (aJ (ev ρ x)) (aJ (ev ρ x)).length false]) else none:=by
 apply mY
 simp only[pop]
 by_cases h:(aJ (ev ρ x)).all fD=true
 ·rw[if_pos h,if_pos h];rfl
 ·rw[if_neg h,if_neg h];rfl
def Sa (z:List Value) (bytes:Nat) (l c:Value) (H:aD):Option (Value×aD) :=
 match l,c with
 | .int .i64 l,.int .i64 c=>if 0≤l∧l≤c∧c*bytes≤281474976710656∧c≤9223372036854775807 then
  some (.slice (some ⟨H.length,0,none⟩) l.toNat c.toNat,H++[.row (cQ c.toNat z) z.length false]) else none
 | _,_=>none
theorem Tq {z:List Value} {bytes:Nat} {l c:Operand}:iT lo q (.make z bytes l c) ρ H=Sa z bytes (ev ρ l) (ev ρ c) H:=by
 apply mY
 simp only[pop]
 unfold Sa
 split
 ·rename_i l c h1 h2
  simp only[h1,h2]
  split<;>rfl
 ·rename_i h1
  split
  ·rename_i h2 h3
   exact(h1 _ _ h2 h3).elim
  ·rfl
def Z0 (z:List Value) (n:Nat) (parts:List (Nat×Value)) (H:aD):Option (Value×aD) :=
 match sU ((List.range n).map fun i=>(i*z.length,z.length)) (cQ n z) parts with
 | some cs=>if cs.all fD then some (.slice (some ⟨H.length,0,none⟩) n n,H++[.row cs z.length false]) else none
 | none=>none
theorem WJ {z:List Value} {n:Nat} {parts:List (Nat×Operand)}:iT lo q (.lit z n parts) ρ H=Z0 z n (parts.map fun(i,x)=>(i,ev ρ x)) H:=by
 apply mY
 simp only[pop]
 unfold Z0
 split
 ·rename_i cs h1
  simp only[h1]
  split<;>rfl
 ·rename_i h1
  simp only[h1]
  rfl
def Dz (lo size:Nat) (p v:Value) (H:aD):Option (Value×aD) :=
 match p with
 | .pointer (some ⟨b,o,none⟩)=>if (aJ v).length=size then (H.write lo b o (aJ v)).map fun H'=>(undef,H') else none
 | _=>none
theorem QN {size:Nat} {p v:Operand}:iT lo q (.store size p v) ρ H=Dz lo size (ev ρ p) (ev ρ v) H:=by
 apply mY
 simp only[pop]
 unfold Dz
 split
 ·rename_i b o h1
  simp only[h1]
  split
  ·cases H.write lo b o (aJ (ev ρ v))<;>rfl
  ·rfl
 ·rename_i h1
  split
  ·rename_i h2
   exact(h1 _ _ h2).elim
  ·rfl
def aeY (lo size bytes:Nat) (x y:Value) (H:aD):Option (Value×aD) :=
 match qD y with
 |
  some n=>match iA H size n y with
  | some new=>dV lo size bytes x n new H
  | none=>none
 | none=>none
theorem XU {size bytes:Nat} {x y:Operand}:iT lo q (.app size bytes x y) ρ H=aeY lo size bytes (ev ρ x) (ev ρ y) H:=by
 apply mY
 simp only[pop]
 unfold aeY
 cases qD (ev ρ y) with
 | none=>rfl
 |
  some n =>
  cases hs:iA H size n (ev ρ y) with
  | none=>simp only[hs];rfl
  | some new=>simp only[hs]
def XZ (lo:Nat) (z:List Value) (bytes:Nat) (x n:Value) (H:aD):Option (Value×aD) :=
 match n with
 | .int .i64 n=>if 0≤n∧n*bytes≤140737488355328 then dV lo z.length bytes x n.toNat (cQ n.toNat z) H else none
 | _=>none
theorem U4 {z:List Value} {bytes:Nat} {x n:Operand}:iT lo q (.appz z bytes x n) ρ H=XZ lo z bytes (ev ρ x) (ev ρ n) H:=by
 apply mY
 simp only[pop]
 unfold XZ
 split
 ·rename_i n h1
  simp only[h1]
  split<;>rfl
 ·rename_i h1
  split
  ·rename_i h2
   exact(h1 _ h2).elim
  ·rfl
def copyV (lo size:Nat) (x y:Value) (H:aD):Option (Value×aD) :=
 match x,qD y with
 | .slice none _ _,some _=>some (.int .i64 0,H)
 |
  .slice (some ⟨b,o,none⟩) d _,some s=>match iA H size (Nat.min s d) y with
  | some new=>(H.write lo b o new).map fun H'=>(.int .i64 (Nat.min s d),H')
  | none=>none
 | _,_=>none
theorem UL {size:Nat} {x y:Operand}:iT lo q (.copy size x y) ρ H=copyV lo size (ev ρ x) (ev ρ y) H:=by
 apply mY
 simp only[pop]
 unfold copyV
 split
 ·rename_i h1 h2
  simp only[h1,h2]
  rfl
 ·rename_i b o d _ s h1 h2
  simp only[h1,h2]
  cases hs:iA H size (Nat.min s d) (ev ρ y) with
  | none=>rfl
  |
   some new =>
   simp only
   cases H.write lo b o new<;>rfl
 ·rename_i h1 h2
  split
  ·rename_i h3 h4
   exact(h1 _ _ _ h3 h4).elim
  ·rename_i h3 h4
   exact(h2 _ _ _ _ _ h3 h4).elim
  ·rfl
def Mf (lo:Nat) (z:List Value) (x:Value) (H:aD):Option (Value×aD) :=
 match x with
 | .slice none _ _=>some (undef,H)
 | .slice (some ⟨b,o,none⟩) n _=>if n=0 then some (undef,H) else (H.write lo b o (cQ n z)).map fun H'=>(undef,H')
 | _=>none
theorem QF {z:List Value} {x:Operand}:iT lo q (.clear z x) ρ H=Mf lo z (ev ρ x) H:=by
 apply mY
 simp only[pop]
 unfold Mf
 split
 ·rename_i h1
  simp only[h1]
  rfl
 ·rename_i b o n _ h1
  simp only[h1]
  split
  ·rfl
  ·cases H.write lo b o (cQ n z)<;>rfl
 ·rename_i h1 h2
  split
  ·rename_i h3
   exact(h1 _ _ h3).elim
  ·rename_i h3
   exact(h2 _ _ _ _ h3).elim
  ·rfl
noncomputable def Vl (lo:Nat) (fv:Value) (args:List Value) (H:aD):Option (Value×aD) :=
 match fv with
 | .func (.func f) first fC=>oL f (first.toList++args++fC.toList) lo H
 | _=>none
theorem QX {fv:Operand} {args:List Operand}:iT lo q (.callv fv args) ρ H=Vl (if q then H.length else lo) (ev ρ fv) (args.map (ev ρ)) H:=by
 unfold iT
 simp only[pop]
 unfold Vl
 generalize ev ρ fv=v
 cases v with
 | func fn f c=>cases fn<;>rfl
 | _=>rfl
end
end Go.PM
namespace Go.PM
section
variable {lo:Nat} {Q:Ex→Env→aD→Prop} {K:Env→aD→Prop} {ρ:Env} {H:aD} {q:Bool}
def akA (u v:Value):Bool:=match gW u,gW v with
 | some a,some b=>a != b
 | _,_=>true
end
theorem Sk {k:IntKind} {a b:Int}:Nh (.int k a) (.int k b)=some (.int k (max a b)):=by
 simp only[Nh]
 congr 2
 split<;>omega
theorem Th {k:IntKind} {a b:Int}:O7 (.int k a) (.int k b)=some (.int k (min a b)):=by
 simp only[O7]
 congr 2
 split<;>omega
end Go.PM
namespace Go.PM
abbrev ptr (b o:Nat):Value := .pointer (some ⟨b,o,none⟩)
abbrev I (n:Int):Value := .int .i64 n
section
variable {H H':aD} {lo b o n size:Nat} {cs r:List Value} {L K:aD} {v:Value}
theorem LB (hb:b<H.length):(H++L)[b]? = H[b]? := List.getElem?_append_left hb
theorem Te {x:Oy}:(H++x::L)[H.length]? = some x:=by simp
theorem Xb (hb:b<H.length):(H++L).read b o n=H.read b o n:=Dx (LB hb)
theorem yI {e:Nat} {p:Bool} (h:H[b]? = some (.row r e p)) (hn:o+n≤r.length):H.read b o n=some ((r.drop o).take n):=by
 unfold aD.read
 rw[h]
 simp only[hn,if_true]
structure Bh (H:aD) (b o:Nat) (cs:List Value):Prop where
 lt:b<H.length
 rd:H.read b o cs.length=some cs
theorem Bh.app (h:Bh H b o cs):Bh (H++L) b o cs:=⟨by have:=h.lt;simp;omega,by rw[Xb h.lt];exact h.rd⟩
theorem Bh.pre (h:Bh H b o cs) (hp:H <+: H'):Bh H' b o cs:=by
 obtain⟨L,rfl⟩:=hp
 exact h.app
theorem Bh.all (h:Bh H b o cs) (hs:cs.length=size):lU true size (.pointer (some ⟨b,o,none⟩)) H=some (.agg cs.toArray):=by
 subst hs
 simp only[lU,if_true,h.rd]
 rfl
theorem Bh.one {u:Value} (h:Bh H b o [u]):lU false size (.pointer (some ⟨b,o,none⟩)) H=some u:=by
 have:=h.rd
 simp only[List.length_cons,List.length_nil] at this
 simp only[lU,this]
 rfl
theorem Bh.sub {k:Nat} {u:Value} (h:Bh H b o cs) (hk:cs[k]? = some u):Bh H b (o+k) [u]:=by
 refine⟨h.lt,?_⟩
 have h1:=h.rd
 unfold aD.read at h1 ⊢
 split at h1
 ·rename_i r e p hb
  split at h1
  ·rename_i hl
   have Ve:=(List.getElem?_eq_some_iff.1 hk).1
   simp only[List.length_cons,List.length_nil]
   rw[if_pos (by simp;omega)]
   injection h1 with h1
   rw[←h1] at hk
   rw[List.getElem?_take,if_pos (by omega),List.getElem?_drop] at hk
   have aV:=(List.getElem?_eq_some_iff.1 hk).1
   rw[List.drop_eq_getElem_cons aV]
   simp only[List.take_succ_cons,List.take_zero]
   rw[List.getElem?_eq_getElem aV] at hk
   injection hk with hk
   rw[hk]
  ·cases h1
 ·cases h1
theorem Bh.fld {k:Nat} {u:Value} (h:Bh H b o cs) (hk:cs[k]? = some u):lU false size (.pointer (some ⟨b,o+k,none⟩)) H=some u:=(h.sub hk).one
theorem OA {a:Nat} {c:Nat} {i:Int} {k:IntKind} (h0:0≤i) (h1:i<n):Mn size (.slice (some ⟨b,a,none⟩) n c) (.int k i)=some (.pointer (some ⟨b,a+i.toNat*size,none⟩)):=by
 simp only[Mn]
 rw[if_pos ⟨h0,h1⟩]
structure Arr {α:Type} (enc:α→List Value) (jA:Nat) (H:aD) (a:Option Addr) (n:Nat) (xs:List α):Prop where
 len:n=xs.length
 el:∀(i:Nat) x,xs[i]? = some x→∃b o,a=some ⟨b,o,none⟩∧Bh H b (o+i*jA) (enc x)
theorem Arr.pre {α:Type} {enc:α→List Value} {jA:Nat} {a:Option Addr} {xs:List α} (h:Arr enc jA H a n xs) (hp:H <+: H'):Arr enc jA H' a n xs :=
 ⟨h.len,fun i x hx=>by obtain⟨b,o,h1,h2⟩:=h.el i x hx;exact⟨b,o,h1,h2.pre hp⟩⟩
end
structure iK where
 t:Int
 w:Int
 k:Int
 deriving DecidableEq
def cc (c:iK):List Value:=[I c.t,I c.w,I c.k]
def ci (n:Int):List Value:=[I n]
end Go.PM
namespace Go.PM
structure G2 {α:Type} (enc:α→List Value) (jA:Nat):Prop where
 len:∀x,(enc x).length=jA
 sc:∀x,(enc x).all fD=true
 pos:1≤jA
section
variable {α:Type} {enc:α→List Value} {jA:Nat} {H H':aD} {lo b:Nat} {xs ys:List α} {p:Bool}
theorem HY (e:G2 enc jA):(xs.flatMap enc).length=xs.length*jA:=by
 induction xs with
 | nil=>simp
 | cons x xs ih=>simp only[List.flatMap_cons,List.length_append,e.len,ih,List.length_cons,Nat.succ_mul];omega
theorem FK (e:G2 enc jA) (i:Nat):(xs.flatMap enc).drop (i*jA)=(xs.drop i).flatMap enc:=by
 induction i generalizing xs with
 | zero=>simp
 |
  succ i ih =>
  cases xs with
  | nil=>simp
  |
   cons x xs =>
   rw[List.flatMap_cons,List.drop_succ_cons,←ih,show (i+1)*jA=(enc x).length+i*jA by rw[e.len,Nat.succ_mul];omega,List.drop_append]
   simp
theorem K0 (e:G2 enc jA) (i:Nat):(xs.flatMap enc).take (i*jA)=(xs.take i).flatMap enc:=by
 induction i generalizing xs with
 | zero=>simp
 |
  succ i ih =>
  cases xs with
  | nil=>simp
  |
   cons x xs =>
   rw[List.flatMap_cons,List.take_succ_cons,List.flatMap_cons,←ih,show (i+1)*jA=(enc x).length+i*jA by rw[e.len,Nat.succ_mul];omega,List.take_append]
   simp
   exact List.take_of_length_le (by omega)
theorem OZ (e:G2 enc jA) {i:Nat} (x:α) (hi:i<xs.length):gS (xs.flatMap enc) (i*jA) (enc x)=(xs.set i x).flatMap enc:=by
 unfold gS
 rw[K0 e,e.len,show i*jA+jA=(i+1)*jA by rw[Nat.succ_mul],FK e,List.set_eq_take_append_cons_drop,if_pos hi]
 simp
def Row (enc:α→List Value) (jA:Nat) (H:aD) (b:Nat) (p:Bool) (xs:List α):Prop:=H[b]? = some (.row (xs.flatMap enc) jA p)
theorem Row.lt (h:Row enc jA H b p xs):b<H.length:=(List.getElem?_eq_some_iff.1 h).1
theorem Row.pre (h:Row enc jA H b p xs) (hp:H <+: H'):Row enc jA H' b p xs:=by
 obtain⟨L,rfl⟩:=hp
 unfold Row
 rw[LB h.lt]
 exact h
theorem Row.elem (h:Row enc jA H b p xs) (e:G2 enc jA) {i:Nat} {x:α} (hx:xs[i]? = some x):Bh H b (i*jA) (enc x):=by
 refine⟨h.lt,?_⟩
 have hi:=(List.getElem?_eq_some_iff.1 hx).1
 have hm:(i+1)*jA≤xs.length*jA:=Nat.mul_le_mul_right _ hi
 rw[Nat.succ_mul] at hm
 rw[yI h (by rw[e.len,HY e];omega),FK e,e.len]
 have:=K0 (xs:=xs.drop i) e 1
 rw[Nat.one_mul] at this
 rw[this,List.drop_eq_getElem_cons hi]
 rw[List.getElem?_eq_getElem hi] at hx
 injection hx with hx
 simp[hx]
theorem Row.arr (h:Row enc jA H b p xs) (e:G2 enc jA) {n:Nat} (hn:n≤xs.length):Arr enc jA H (some ⟨b,0,none⟩) n (xs.take n):=by
 refine⟨by simp;omega,fun i x hx=>⟨b,0,rfl,?_⟩⟩
 rw[Nat.zero_add]
 refine h.elem e ?_
 rw[List.getElem?_take] at hx
 split at hx
 ·exact hx
 ·cases hx
theorem Row.store (h:Row enc jA H b p xs) (e:G2 enc jA) {i:Nat} {x:α} {u:Value} (hu:aJ u=enc x) (hi:i<xs.length) (hl:lo≤b):Dz lo jA (.pointer (some ⟨b,i*jA,none⟩)) u H=some (undef,H.set b (.row ((xs.set i x).flatMap enc) jA p)):=by
 simp only[Dz,aD.write,hu,e.len,if_true]
 have h':H[b]? = some (.row (xs.flatMap enc) jA p):=h
 have hm:(i+1)*jA≤xs.length*jA:=Nat.mul_le_mul_right _ hi
 rw[Nat.succ_mul] at hm
 simp only[h']
 rw[if_pos ⟨hl,by rw[HY e];omega,e.sc x⟩,OZ e x hi]
 rfl
theorem Row.set (h:Row enc jA H b p xs) (ys:List α):Row enc jA (H.set b (.row (ys.flatMap enc) jA p)) b p ys:=by
 unfold Row
 rw[List.getElem?_set_self h.lt]
theorem N2 (e:G2 enc jA) {n:Nat} {x:α}:cQ n (enc x)=(List.replicate n x).flatMap enc:=by
 have iU:=e.pos
 have hlen:=e.len x
 apply List.ext_getElem?
 intro i
 unfold cQ
 rw[List.getElem?_map,hlen]
 rcases Nat.lt_or_ge i (n*jA) with hi | hi
 ·rw[List.getElem?_range hi]
  have hq:i / jA<n:=Nat.div_lt_of_lt_mul (by rw[Nat.mul_comm];exact hi)
  have h1:((List.replicate n x).flatMap enc)[i]? = (((List.replicate n x).flatMap enc).drop (i / jA*jA))[i % jA]? := by
   rw[List.getElem?_drop]
   congr 1
   rw[Nat.mul_comm]
   exact(Nat.div_add_mod i jA).symm
  have hr:i % jA<(enc x).length:=by rw[hlen];exact Nat.mod_lt _ (by omega)
  rw[h1,FK e,List.drop_replicate,show n-i / jA=(n-i / jA-1)+1 by omega,List.replicate_succ,List.flatMap_cons,List.getElem?_append_left hr]
  simp[List.getD_eq_getElem?_getD,List.getElem?_eq_getElem hr]
 ·rw[List.getElem?_eq_none (by simpa using hi),List.getElem?_eq_none (by rw[HY e];simpa using hi)]
  rfl
theorem Row.top {K:aD}:Row enc jA (H ++ .row (xs.flatMap enc) jA p::K) H.length p xs:=Te
end
end Go.PM
namespace Go.PM
section
variable {H L:aD} {lo k o size:Nat} {agg:Bool} {u:Value}
end
end Go.PM
namespace Go.Proofs
open Go.Shelf
def IX:Go.Shelf.Ren:=⟨fun | 156=>186 | 165=>189 | 166=>190 | 169=>192 | 240=>230 | 241=>231 | 276=>249 | 277=>250 | n=>n,fun | 31=>22 | 9=>9 | 3=>3 | 4=>4 | 0=>0 | 20=>20 | 72=>230 | 76=>234 | 70=>228 | 37=>36 | 75=>233 | 127=>266 | 164=>281 | 5=>5 | 80=>129 | n=>n,fun | n=>n⟩
theorem P3:Go.Proofs.Lays.n156 Tryz.prog IX:={
 mixed:=by kernel_rfl
 f156:=Tryz.func186.trans (congrArg some (by kernel_rfl))
 f165:=Tryz.func189.trans (congrArg some (by kernel_rfl))
 f166:=Tryz.func190.trans (congrArg some (by kernel_rfl))
 f169:=Tryz.func192.trans (congrArg some (by kernel_rfl))
 f240:=Tryz.func230.trans (congrArg some (by kernel_rfl))
 f241:=Tryz.func231.trans (congrArg some (by kernel_rfl))
 f276:=Tryz.func249.trans (congrArg some (by kernel_rfl))
 f277:=Tryz.func250.trans (congrArg some (by kernel_rfl))
 t0:=Tryz.underlying0
 a0:=Tryz.isAgg0
 z0:=Tryz.sizeOf0
 v0:=Tryz.zeroValue0
 t3:=Tryz.underlying3
 a3:=Tryz.isAgg3
 z3:=Tryz.sizeOf3
 v3:=Tryz.zeroValue3
 t4:=Tryz.underlying4
 a4:=Tryz.isAgg4
 z4:=Tryz.sizeOf4
 v4:=Tryz.zeroValue4
 t9:=Tryz.underlying9
 a9:=Tryz.isAgg9
 z9:=Tryz.sizeOf9
 v9:=Tryz.zeroValue9
 t20:=Tryz.underlying20
 a20:=Tryz.isAgg20
 z20:=Tryz.sizeOf20
 v20:=Tryz.zeroValue20
 t31:=Tryz.underlying22
 a31:=Tryz.isAgg22
 z31:=Tryz.sizeOf22
 v31:=Tryz.zeroValue22
 t37:=Tryz.underlying36
 a37:=Tryz.isAgg36
 z37:=Tryz.sizeOf36
 v37:=Tryz.zeroValue36
 t70:=Tryz.underlying228
 a70:=Tryz.isAgg228
 z70:=Tryz.sizeOf228
 v70:=Tryz.zeroValue228
 t72:=Tryz.underlying230
 a72:=Tryz.isAgg230
 z72:=Tryz.sizeOf230
 v72:=Tryz.zeroValue230
 t75:=Tryz.underlying233
 a75:=Tryz.isAgg233
 z75:=Tryz.sizeOf233
 v75:=Tryz.zeroValue233
 t76:=Tryz.underlying234
 a76:=Tryz.isAgg234
 z76:=Tryz.sizeOf234
 v76:=Tryz.zeroValue234
 t127:=Tryz.underlying266
 a127:=Tryz.isAgg266
 z127:=Tryz.sizeOf266
 v127:=Tryz.zeroValue266
 t164:=Tryz.underlying281
 a164:=Tryz.isAgg281
 z164:=Tryz.sizeOf281
 v164:=Tryz.zeroValue281 }
theorem MH:Builder.Extra Tryz.prog IX:={
 sizeBuilder:=by kernel_rfl
 liesBuilder:=by kernel_rfl
 t5:=Tryz.underlying5
 a5:=Tryz.isAgg5
 z5:=Tryz.sizeOf5
 v5:=Tryz.zeroValue5
 infoByte:=by kernel_rfl
 cellsByte:=by kernel_rfl
 sizeByte:=by kernel_rfl
 neB5:=by decide }
def QQ:Go.Shelf.Ren:=⟨fun | 133=>219 | 128=>244 | n=>n,fun | 51=>218 | 3=>3 | 4=>4 | 46=>219 | 5=>5 | 9=>9 | n=>n,fun | n=>n⟩
theorem abM:Go.Proofs.Lays.n133 Tryz.prog QQ:={
 mixed:=by kernel_rfl
 f128:=Tryz.func244.trans (congrArg some (by kernel_rfl))
 f133:=Tryz.func219.trans (congrArg some (by kernel_rfl))
 t3:=Tryz.underlying3
 a3:=Tryz.isAgg3
 z3:=Tryz.sizeOf3
 v3:=Tryz.zeroValue3
 t4:=Tryz.underlying4
 a4:=Tryz.isAgg4
 z4:=Tryz.sizeOf4
 v4:=Tryz.zeroValue4
 t5:=Tryz.underlying5
 a5:=Tryz.isAgg5
 z5:=Tryz.sizeOf5
 v5:=Tryz.zeroValue5
 t9:=Tryz.underlying9
 a9:=Tryz.isAgg9
 z9:=Tryz.sizeOf9
 v9:=Tryz.zeroValue9
 t46:=Tryz.underlying219
 a46:=Tryz.isAgg219
 z46:=Tryz.sizeOf219
 v46:=Tryz.zeroValue219
 t51:=Tryz.underlying218
 a51:=Tryz.isAgg218
 z51:=Tryz.sizeOf218
 v51:=Tryz.zeroValue218 }
def Ql:Go.Shelf.Ren:=⟨fun | 283=>245 | n=>n,fun | 3=>3 | 9=>9 | 4=>4 | n=>n,fun | n=>n⟩
theorem afA:Go.Proofs.Lays.n283 Tryz.prog Ql:={
 mixed:=by kernel_rfl
 f283:=Tryz.func245.trans (congrArg some (by kernel_rfl))
 t3:=Tryz.underlying3
 a3:=Tryz.isAgg3
 z3:=Tryz.sizeOf3
 v3:=Tryz.zeroValue3
 t4:=Tryz.underlying4
 a4:=Tryz.isAgg4
 z4:=Tryz.sizeOf4
 v4:=Tryz.zeroValue4
 t9:=Tryz.underlying9
 a9:=Tryz.isAgg9
 z9:=Tryz.sizeOf9
 v9:=Tryz.zeroValue9 }
def Q0:Go.Shelf.Ren:=⟨fun | 284=>246 | 129=>262 | 317=>261 | 318=>263 | n=>n,fun | 53=>128 | 3=>3 | 212=>291 | 0=>0 | 4=>4 | 46=>219 | 5=>5 | 9=>9 | n=>n,fun | 17=>1 | n=>n⟩
theorem afG:Go.Proofs.LaysM.n284 Tryz.prog Q0:={
 mixed:=by kernel_rfl
 f129:=Tryz.func262.trans (congrArg some (by kernel_rfl))
 f284:=Tryz.func246.trans (congrArg some (by kernel_rfl))
 f317:=Tryz.func261.trans (congrArg some (by kernel_rfl))
 f318:=Tryz.func263.trans (congrArg some (by kernel_rfl))
 t0:=Tryz.underlying0
 a0:=Tryz.isAgg0
 z0:=Tryz.sizeOf0
 v0:=Tryz.zeroValue0
 t3:=Tryz.underlying3
 a3:=Tryz.isAgg3
 z3:=Tryz.sizeOf3
 v3:=Tryz.zeroValue3
 t4:=Tryz.underlying4
 a4:=Tryz.isAgg4
 z4:=Tryz.sizeOf4
 v4:=Tryz.zeroValue4
 t5:=Tryz.underlying5
 a5:=Tryz.isAgg5
 z5:=Tryz.sizeOf5
 v5:=Tryz.zeroValue5
 t9:=Tryz.underlying9
 a9:=Tryz.isAgg9
 z9:=Tryz.sizeOf9
 v9:=Tryz.zeroValue9
 t46:=Tryz.underlying219
 a46:=Tryz.isAgg219
 z46:=Tryz.sizeOf219
 v46:=Tryz.zeroValue219
 t53:=Tryz.underlying128
 a53:=Tryz.isAgg128
 z53:=Tryz.sizeOf128
 v53:=Tryz.zeroValue128
 t212:=Tryz.underlying291
 a212:=Tryz.isAgg291
 z212:=Tryz.sizeOf291
 v212:=Tryz.zeroValue291
 g17:=by kernel_rfl
 i0:=by kernel_rfl
 i3:=by kernel_rfl
 i4:=by kernel_rfl
 i5:=by kernel_rfl
 i9:=by kernel_rfl
 i46:=by kernel_rfl
 i53:=by kernel_rfl
 i212:=by kernel_rfl
 m17:=by kernel_rfl }
def Qx:Go.Shelf.Ren:=⟨fun | 285=>247 | n=>n,fun | 37=>36 | 53=>128 | 3=>3 | 4=>4 | 51=>218 | 9=>9 | 5=>5 | 0=>0 | n=>n,fun | n=>n⟩
theorem aeU:Go.Proofs.Lays.n285 Tryz.prog Qx:={
 mixed:=by kernel_rfl
 f285:=Tryz.func247.trans (congrArg some (by kernel_rfl))
 t0:=Tryz.underlying0
 a0:=Tryz.isAgg0
 z0:=Tryz.sizeOf0
 v0:=Tryz.zeroValue0
 t3:=Tryz.underlying3
 a3:=Tryz.isAgg3
 z3:=Tryz.sizeOf3
 v3:=Tryz.zeroValue3
 t4:=Tryz.underlying4
 a4:=Tryz.isAgg4
 z4:=Tryz.sizeOf4
 v4:=Tryz.zeroValue4
 t5:=Tryz.underlying5
 a5:=Tryz.isAgg5
 z5:=Tryz.sizeOf5
 v5:=Tryz.zeroValue5
 t9:=Tryz.underlying9
 a9:=Tryz.isAgg9
 z9:=Tryz.sizeOf9
 v9:=Tryz.zeroValue9
 t37:=Tryz.underlying36
 a37:=Tryz.isAgg36
 z37:=Tryz.sizeOf36
 v37:=Tryz.zeroValue36
 t51:=Tryz.underlying218
 a51:=Tryz.isAgg218
 z51:=Tryz.sizeOf218
 v51:=Tryz.zeroValue218
 t53:=Tryz.underlying128
 a53:=Tryz.isAgg128
 z53:=Tryz.sizeOf128
 v53:=Tryz.zeroValue128 }
def NS:Go.Shelf.Ren:=⟨fun | 14=>217 | 16=>242 | 17=>243 | 19=>255 | 20=>256 | 21=>257 | 22=>258 | 23=>259 | 24=>260 | 25=>268 | 27=>270 | 26=>269 | 28=>273 | 29=>274 | 30=>245 | 31=>246 | 32=>247 | 33=>248 | 35=>262 | 34=>261 | 36=>263 | 37=>264 | 38=>265 | 39=>271 | 40=>272 | n=>n,fun | 9=>9 | 3=>3 | 22=>128 | 24=>233 | 25=>252 | 4=>4 | 34=>285 | 5=>5 | 36=>219 | 37=>36 | 0=>0 | 39=>287 | 21=>21 | 44=>298 | 47=>266 | 50=>302 | 48=>300 | 2=>2 | 52=>276 | 55=>279 | 59=>291 | 60=>218 | 20=>20 | 61=>292 | 65=>303 | 66=>304 | 67=>129 | n=>n,fun | 0=>2 | 1=>3 | 2=>1 | 3=>4 | 4=>5 | n=>n⟩
theorem ZB:Go.Proofs.LaysPu.n14 Tryz.prog NS:={
 mixed:=by kernel_rfl
 f14:=Tryz.func217.trans (congrArg some (by kernel_rfl))
 f16:=Tryz.func242.trans (congrArg some (by kernel_rfl))
 f17:=Tryz.func243.trans (congrArg some (by kernel_rfl))
 f19:=Tryz.func255.trans (congrArg some (by kernel_rfl))
 f20:=Tryz.func256.trans (congrArg some (by kernel_rfl))
 f21:=Tryz.func257.trans (congrArg some (by kernel_rfl))
 f22:=Tryz.func258.trans (congrArg some (by kernel_rfl))
 f23:=Tryz.func259.trans (congrArg some (by kernel_rfl))
 f24:=Tryz.func260.trans (congrArg some (by kernel_rfl))
 f25:=Tryz.func268.trans (congrArg some (by kernel_rfl))
 f26:=Tryz.func269.trans (congrArg some (by kernel_rfl))
 f27:=Tryz.func270.trans (congrArg some (by kernel_rfl))
 f28:=Tryz.func273.trans (congrArg some (by kernel_rfl))
 f29:=Tryz.func274.trans (congrArg some (by kernel_rfl))
 f30:=Tryz.func245.trans (congrArg some (by kernel_rfl))
 f31:=Tryz.func246.trans (congrArg some (by kernel_rfl))
 f32:=Tryz.func247.trans (congrArg some (by kernel_rfl))
 f33:=Tryz.func248.trans (congrArg some (by kernel_rfl))
 f34:=Tryz.func261.trans (congrArg some (by kernel_rfl))
 f35:=Tryz.func262.trans (congrArg some (by kernel_rfl))
 f36:=Tryz.func263.trans (congrArg some (by kernel_rfl))
 f37:=Tryz.func264.trans (congrArg some (by kernel_rfl))
 f38:=Tryz.func265.trans (congrArg some (by kernel_rfl))
 f39:=Tryz.func271.trans (congrArg some (by kernel_rfl))
 f40:=Tryz.func272.trans (congrArg some (by kernel_rfl))
 t0:=Tryz.underlying0
 a0:=Tryz.isAgg0
 z0:=Tryz.sizeOf0
 v0:=Tryz.zeroValue0
 i0:=by kernel_rfl
 t2:=Tryz.underlying2
 a2:=Tryz.isAgg2
 z2:=Tryz.sizeOf2
 v2:=Tryz.zeroValue2
 i2:=by kernel_rfl
 t3:=Tryz.underlying3
 a3:=Tryz.isAgg3
 z3:=Tryz.sizeOf3
 v3:=Tryz.zeroValue3
 i3:=by kernel_rfl
 t4:=Tryz.underlying4
 a4:=Tryz.isAgg4
 z4:=Tryz.sizeOf4
 v4:=Tryz.zeroValue4
 i4:=by kernel_rfl
 t5:=Tryz.underlying5
 a5:=Tryz.isAgg5
 z5:=Tryz.sizeOf5
 v5:=Tryz.zeroValue5
 i5:=by kernel_rfl
 t9:=Tryz.underlying9
 a9:=Tryz.isAgg9
 z9:=Tryz.sizeOf9
 v9:=Tryz.zeroValue9
 i9:=by kernel_rfl
 t20:=Tryz.underlying20
 a20:=Tryz.isAgg20
 z20:=Tryz.sizeOf20
 v20:=Tryz.zeroValue20
 i20:=by kernel_rfl
 t21:=Tryz.underlying21
 a21:=Tryz.isAgg21
 z21:=Tryz.sizeOf21
 v21:=Tryz.zeroValue21
 i21:=by kernel_rfl
 t22:=Tryz.underlying128
 a22:=Tryz.isAgg128
 z22:=Tryz.sizeOf128
 v22:=Tryz.zeroValue128
 i22:=by kernel_rfl
 t24:=Tryz.underlying233
 a24:=Tryz.isAgg233
 z24:=Tryz.sizeOf233
 v24:=Tryz.zeroValue233
 i24:=by kernel_rfl
 t25:=Tryz.underlying252
 a25:=Tryz.isAgg252
 z25:=Tryz.sizeOf252
 v25:=Tryz.zeroValue252
 i25:=by kernel_rfl
 t34:=Tryz.underlying285
 a34:=Tryz.isAgg285
 z34:=Tryz.sizeOf285
 v34:=Tryz.zeroValue285
 i34:=by kernel_rfl
 c34:=by kernel_rfl
 t36:=Tryz.underlying219
 a36:=Tryz.isAgg219
 z36:=Tryz.sizeOf219
 v36:=Tryz.zeroValue219
 i36:=by kernel_rfl
 t37:=Tryz.underlying36
 a37:=Tryz.isAgg36
 z37:=Tryz.sizeOf36
 v37:=Tryz.zeroValue36
 i37:=by kernel_rfl
 t39:=Tryz.underlying287
 a39:=Tryz.isAgg287
 z39:=Tryz.sizeOf287
 v39:=Tryz.zeroValue287
 i39:=by kernel_rfl
 t44:=Tryz.underlying298
 a44:=Tryz.isAgg298
 z44:=Tryz.sizeOf298
 v44:=Tryz.zeroValue298
 i44:=by kernel_rfl
 t47:=Tryz.underlying266
 a47:=Tryz.isAgg266
 z47:=Tryz.sizeOf266
 v47:=Tryz.zeroValue266
 i47:=by kernel_rfl
 t48:=Tryz.underlying300
 a48:=Tryz.isAgg300
 z48:=Tryz.sizeOf300
 v48:=Tryz.zeroValue300
 i48:=by kernel_rfl
 t50:=Tryz.underlying302
 a50:=Tryz.isAgg302
 z50:=Tryz.sizeOf302
 v50:=Tryz.zeroValue302
 i50:=by kernel_rfl
 t52:=Tryz.underlying276
 a52:=Tryz.isAgg276
 z52:=Tryz.sizeOf276
 v52:=Tryz.zeroValue276
 i52:=by kernel_rfl
 t55:=Tryz.underlying279
 a55:=Tryz.isAgg279
 z55:=Tryz.sizeOf279
 v55:=Tryz.zeroValue279
 i55:=by kernel_rfl
 t59:=Tryz.underlying291
 a59:=Tryz.isAgg291
 z59:=Tryz.sizeOf291
 v59:=Tryz.zeroValue291
 i59:=by kernel_rfl
 t60:=Tryz.underlying218
 a60:=Tryz.isAgg218
 z60:=Tryz.sizeOf218
 v60:=Tryz.zeroValue218
 i60:=by kernel_rfl
 t61:=Tryz.underlying292
 a61:=Tryz.isAgg292
 z61:=Tryz.sizeOf292
 t65:=Tryz.underlying303
 a65:=Tryz.isAgg303
 z65:=Tryz.sizeOf303
 v65:=Tryz.zeroValue303
 i65:=by kernel_rfl
 t66:=Tryz.underlying304
 a66:=Tryz.isAgg304
 z66:=Tryz.sizeOf304
 v66:=Tryz.zeroValue304
 i66:=by kernel_rfl
 t67:=Tryz.underlying129
 a67:=Tryz.isAgg129
 z67:=Tryz.sizeOf129
 v67:=Tryz.zeroValue129
 i67:=by kernel_rfl
 g0:=by kernel_rfl
 m0:=by kernel_rfl
 g1:=by kernel_rfl
 m1:=by kernel_rfl
 g2:=by kernel_rfl
 m2:=by kernel_rfl
 g3:=by kernel_rfl
 m3:=by kernel_rfl
 g4:=by kernel_rfl
 m4:=by kernel_rfl }
def Ru:Go.Shelf.Ren:=⟨fun | 219=>241 | 217=>251 | 225=>252 | 224=>253 | 267=>254 | 266=>266 | 314=>267 | n=>n,fun | 9=>9 | 3=>3 | 4=>4 | 5=>5 | 46=>219 | 146=>262 | 51=>218 | n=>n,fun | 1=>0 | n=>n⟩
theorem aeB:Go.Proofs.Lays.n219 Tryz.prog Ru:={
 mixed:=by kernel_rfl
 f217:=Tryz.func251.trans (congrArg some (by kernel_rfl))
 f219:=Tryz.func241.trans (congrArg some (by kernel_rfl))
 f224:=Tryz.func253.trans (congrArg some (by kernel_rfl))
 f225:=Tryz.func252.trans (congrArg some (by kernel_rfl))
 f266:=Tryz.func266.trans (congrArg some (by kernel_rfl))
 f267:=Tryz.func254.trans (congrArg some (by kernel_rfl))
 f314:=Tryz.func267.trans (congrArg some (by kernel_rfl))
 t3:=Tryz.underlying3
 a3:=Tryz.isAgg3
 z3:=Tryz.sizeOf3
 v3:=Tryz.zeroValue3
 t4:=Tryz.underlying4
 a4:=Tryz.isAgg4
 z4:=Tryz.sizeOf4
 v4:=Tryz.zeroValue4
 t5:=Tryz.underlying5
 a5:=Tryz.isAgg5
 z5:=Tryz.sizeOf5
 v5:=Tryz.zeroValue5
 t9:=Tryz.underlying9
 a9:=Tryz.isAgg9
 z9:=Tryz.sizeOf9
 v9:=Tryz.zeroValue9
 t46:=Tryz.underlying219
 a46:=Tryz.isAgg219
 z46:=Tryz.sizeOf219
 v46:=Tryz.zeroValue219
 t51:=Tryz.underlying218
 a51:=Tryz.isAgg218
 z51:=Tryz.sizeOf218
 v51:=Tryz.zeroValue218
 t146:=Tryz.underlying262
 a146:=Tryz.isAgg262
 z146:=Tryz.sizeOf262
 v146:=Tryz.zeroValue262
 g1:=by kernel_rfl }
def IQ:Go.Shelf.Ren:=⟨fun | 105=>103 | 212=>187 | 99=>188 | 165=>189 | 166=>190 | 170=>191 | 169=>192 | 263=>227 | 264=>228 | 206=>229 | 240=>230 | 241=>231 | 276=>249 | 277=>250 | n=>n,fun | 9=>9 | 3=>3 | 4=>4 | 20=>20 | 0=>0 | 46=>219 | 109=>226 | 5=>5 | 72=>230 | 76=>234 | 51=>218 | 146=>262 | 53=>128 | 148=>264 | 70=>228 | 37=>36 | 75=>233 | 127=>266 | 164=>281 | 80=>129 | n=>n,fun | n=>n⟩
theorem adZ:Go.Proofs.Lays.n105 Tryz.prog IQ:={
 mixed:=by kernel_rfl
 f99:=Tryz.func188.trans (congrArg some (by kernel_rfl))
 f105:=Tryz.func103.trans (congrArg some (by kernel_rfl))
 f165:=Tryz.func189.trans (congrArg some (by kernel_rfl))
 f166:=Tryz.func190.trans (congrArg some (by kernel_rfl))
 f169:=Tryz.func192.trans (congrArg some (by kernel_rfl))
 f170:=Tryz.func191.trans (congrArg some (by kernel_rfl))
 f206:=Tryz.func229.trans (congrArg some (by kernel_rfl))
 f212:=Tryz.func187.trans (congrArg some (by kernel_rfl))
 f240:=Tryz.func230.trans (congrArg some (by kernel_rfl))
 f241:=Tryz.func231.trans (congrArg some (by kernel_rfl))
 f263:=Tryz.func227.trans (congrArg some (by kernel_rfl))
 f264:=Tryz.func228.trans (congrArg some (by kernel_rfl))
 f276:=Tryz.func249.trans (congrArg some (by kernel_rfl))
 f277:=Tryz.func250.trans (congrArg some (by kernel_rfl))
 t0:=Tryz.underlying0
 a0:=Tryz.isAgg0
 z0:=Tryz.sizeOf0
 v0:=Tryz.zeroValue0
 t3:=Tryz.underlying3
 a3:=Tryz.isAgg3
 z3:=Tryz.sizeOf3
 v3:=Tryz.zeroValue3
 t4:=Tryz.underlying4
 a4:=Tryz.isAgg4
 z4:=Tryz.sizeOf4
 v4:=Tryz.zeroValue4
 t5:=Tryz.underlying5
 a5:=Tryz.isAgg5
 z5:=Tryz.sizeOf5
 v5:=Tryz.zeroValue5
 t9:=Tryz.underlying9
 a9:=Tryz.isAgg9
 z9:=Tryz.sizeOf9
 v9:=Tryz.zeroValue9
 t20:=Tryz.underlying20
 a20:=Tryz.isAgg20
 z20:=Tryz.sizeOf20
 v20:=Tryz.zeroValue20
 t37:=Tryz.underlying36
 a37:=Tryz.isAgg36
 z37:=Tryz.sizeOf36
 v37:=Tryz.zeroValue36
 t46:=Tryz.underlying219
 a46:=Tryz.isAgg219
 z46:=Tryz.sizeOf219
 v46:=Tryz.zeroValue219
 t51:=Tryz.underlying218
 a51:=Tryz.isAgg218
 z51:=Tryz.sizeOf218
 v51:=Tryz.zeroValue218
 t53:=Tryz.underlying128
 a53:=Tryz.isAgg128
 z53:=Tryz.sizeOf128
 v53:=Tryz.zeroValue128
 t70:=Tryz.underlying228
 a70:=Tryz.isAgg228
 z70:=Tryz.sizeOf228
 v70:=Tryz.zeroValue228
 t72:=Tryz.underlying230
 a72:=Tryz.isAgg230
 z72:=Tryz.sizeOf230
 v72:=Tryz.zeroValue230
 t75:=Tryz.underlying233
 a75:=Tryz.isAgg233
 z75:=Tryz.sizeOf233
 v75:=Tryz.zeroValue233
 t76:=Tryz.underlying234
 a76:=Tryz.isAgg234
 z76:=Tryz.sizeOf234
 v76:=Tryz.zeroValue234
 t109:=Tryz.underlying226
 a109:=Tryz.isAgg226
 z109:=Tryz.sizeOf226
 v109:=Tryz.zeroValue226
 t127:=Tryz.underlying266
 a127:=Tryz.isAgg266
 z127:=Tryz.sizeOf266
 v127:=Tryz.zeroValue266
 t146:=Tryz.underlying262
 a146:=Tryz.isAgg262
 z146:=Tryz.sizeOf262
 v146:=Tryz.zeroValue262
 t148:=Tryz.underlying264
 a148:=Tryz.isAgg264
 z148:=Tryz.sizeOf264
 v148:=Tryz.zeroValue264
 t164:=Tryz.underlying281
 a164:=Tryz.isAgg281
 z164:=Tryz.sizeOf281
 v164:=Tryz.zeroValue281 }
theorem ZJ:Builder.Extra Tryz.prog IQ:={
 sizeBuilder:=by kernel_rfl
 liesBuilder:=by kernel_rfl
 t5:=Tryz.underlying5
 a5:=Tryz.isAgg5
 z5:=Tryz.sizeOf5
 v5:=Tryz.zeroValue5
 infoByte:=by kernel_rfl
 cellsByte:=by kernel_rfl
 sizeByte:=by kernel_rfl
 neB5:=by decide }
end Go.Proofs
namespace Go.Proofs
open Go.Shelf Go.RowKit Go.Sort Go.Lib
abbrev Ri:UInt8→Value:=fun b=>Value.int .u8 (b.toNat:Int)
theorem Ty (w:World) (T:TypeId) (nd:Nat) (hs:nd≤24):Holds Ri (w.alloc (.cells Lib.zeros24 T)) w.heap.size 0 (Array.replicate nd (0:UInt8)):=fun j hj=>by
 have hj':j<nd:=by simpa using hj
 refine⟨?_,World.frozen?_alloc_new _ _ _ _⟩
 rw[World.cell?_alloc_new,Lib.zeros24_at _ (by omega),getElem!_pos _ j hj]
 simp
theorem zB (w:World) (o:Obj) (dk:Array UInt8) (k:Nat):Below w.heap.size w ((putRow Ri (w.alloc o) w.heap.size 0 dk).drewN k):=by
 rw[alloc_eq_grow]
 obtain⟨os',_,e⟩:=putRow_grow_new Ri w #[o] w.heap.size 0 dk (Nat.le_refl _)
 rw[e]
 refine⟨rfl,rfl,rfl,by show w.heap.size≤(w.heap++os').size;simp,fun i hi => ?_⟩
 show (w.heap++os')[i]? = _
 rw[Array.getElem?_append_left hi]
set_option maxHeartbeats 6400000 in
set_option maxRecDepth 100000 in
theorem acO (u:Nat) (XW:u<18446744073709551616) (w:World) (adS:Lib.TabIs Tryz.prog w "internal/strconv.uint64pow10" .u64 Lib.pow10Tab) :
  Calls Tryz.prog 226 #[.int .u64 u,.int .i64 10] w fun e w'=>e = .returned (.string ⟨(Lib.decDigits u).toArray⟩)∧Below w.heap.size w w':=by
 by_cases hs:u<100
 ·go_enter Tryz.func226,Tryz.ntmps226
  go_wp2_with (go_at_call 245;refine(Any.internal_strconv_small afA u hs _).mono ?_;rintro e w' ⟨rfl,rfl⟩)
  go_ret
  exact⟨rfl,Below.refl _ _⟩
 ·have YG:1≤u:=by omega
  have asG:Lib.nDigits u≤20:=by have:=Lib.numDigits_eq u YG XW;split at this<;>omega
  have PU:=Ty w 276 (Lib.nDigits u) (by omega)
  have ahG:=Any.internal_strconv_formatBase10 aeU w.heap.size 0 24 u (Array.replicate (Lib.nDigits u) 0) (w.alloc (.cells Lib.zeros24 276)) PU (by rw[Array.size_replicate];exact Lib.lt_pow_nDigits u) XW (by rw[Array.size_replicate];omega)
  rw[Array.size_replicate] at ahG
  have HH0:=Lib.hid PU
  have hal:Tryz.prog.arrayLen 276=24:=by simp[Program.arrayLen,Tryz.underlying276]
  have Qd:∀W,(Instr.sliceAt 276 (.pointer (some ⟨w.heap.size,0,none⟩)) none (some (.int .i64 (Lib.nDigits u:Int))) none).run Tryz.prog W = .ok (.slice (some ⟨w.heap.size,0,none⟩) (Lib.nDigits u) 24) W:=fun W=>by
   rw[run_sliceAt_array_h W 276 ⟨w.heap.size,0,none⟩ (by simp[Program.arrayLen,Program.elem,Tryz.underlying276]) .i64 (Lib.nDigits u:Int) (by omega) (by rw[hal];omega)]
   go_simp
  clear PU hal
  go_enter Tryz.func226,Tryz.ntmps226
  go_wp2_with (first
   | (go_at_call 246;refine(Any.internal_strconv_numDigits afG u YG XW _ (Lib.tabIs_alloc adS _)).mono ?_;rintro e w' ⟨rfl,rfl⟩))
  go_at_call 247
  refine ahG.mono ?_
  rintro e w' ⟨rfl,k,v',dk,rfl,hF⟩
  have hcv:(convert 36 9 (.slice (some ⟨w.heap.size,0,none⟩) (Lib.nDigits u) 24)).run Tryz.prog ((putRow Ri (w.alloc (.cells Lib.zeros24 276)) w.heap.size 0 dk).drewN k) = .ok (.string ⟨(Lib.decDigits u).toArray⟩) ((putRow Ri (w.alloc (.cells Lib.zeros24 276)) w.heap.size 0 dk).drewN k):=by
   have h:=run_convert_bytes_back (P:=Tryz.prog) ((putRow Ri (w.alloc (.cells Lib.zeros24 276)) w.heap.size 0 dk).drewN k) 36 9 5 ⟨w.heap.size,0,none⟩ 24 (Lib.decDigits u) Tryz.underlying36 Tryz.underlying5 Tryz.underlying9 (fun j hj=>by
    rw[Lib.row_is_numeral hF j hj,Lib.add_plain,World.cell?_drewN]
    exact cell?_putRow Ri _ w.heap.size 0 _ dk HH0.out (by rw[hF.size,Array.size_replicate]) j (by rw[hF.size];rw[Lib.decDigits_length] at hj;exact hj))
   rw[Lib.decDigits_length] at h
   exact h
  go_wp2
  go_ret
  exact⟨rfl,zB w _ dk k⟩
theorem Wx (u:Nat) (XW:u<18446744073709551616) (w:World) (adS:Lib.TabIs Tryz.prog w "internal/strconv.uint64pow10" .u64 Lib.pow10Tab) :
  Calls Tryz.prog 184 #[.int .u64 u,.int .i64 10] w fun e w'=>e = .returned (.string ⟨(Lib.decDigits u).toArray⟩)∧Below w.heap.size w w':=by
 go_enter Tryz.func184,Tryz.ntmps184
 go_wp2_with (go_at_call 226;refine(acO u XW _ adS).mono ?_;rintro e w' ⟨rfl,hb⟩)
 go_ret
 exact⟨rfl,hb⟩
end Go.Proofs
namespace Go.PM
open Go.Proofs Go.RowKit
theorem Below.xX {w w':World} (h:Below w.heap.size w w'):w.heap.size≤w'.heap.size∧(∀rb,rb<w.heap.size→w'.heap[rb]? = w.heap[rb]?)∧w'.os=w.os∧w'.output=w.output∧w'.tape=w.tape :=
 ⟨h.size,h.block,h.os,h.output,h.tape⟩
theorem yX {w:World}:w.heap.size≤w.heap.size∧(∀rb,rb<w.heap.size→w.heap[rb]? = w.heap[rb]?)∧w.os=w.os∧w.output=w.output∧w.tape=w.tape :=
 ⟨Nat.le_refl _,fun _ _=>rfl,rfl,rfl,rfl⟩
def Ck (f:Nat) (p:List Value→aD→Option Value):Prop :=
 Iw Tryz.prog f∧∀L0 args H v,p args H=some v→∀m w fV,Rel m L0 H w→RL m args fV →
  Calls Tryz.prog f fV.toArray w fun e w'=>∃rv,e = .returned rv∧RV m v rv∧w.heap.size≤w'.heap.size∧(∀rb,rb<w.heap.size→w'.heap[rb]? = w.heap[rb]?)∧w'.os=w.os∧w'.output=w.output∧w'.tape=w.tape
theorem RL.one {m:dH} {x:Value} {ys:List Value} (h:RL m [x] ys):∃y,ys=[y]∧RV m x y:=by
 match ys,h with
 | [y],h=>exact⟨y,rfl,h.iM.1⟩
 | [],h=>exact absurd h.1 (by simp)
 | _::_::_,h=>exact absurd h.1 (by simp)
theorem RL.two {m:dH} {x x':Value} {ys:List Value} (h:RL m [x,x'] ys):∃y y',ys=[y,y']∧RV m x y∧RV m x' y':=by
 match ys,h with
 | [y,y'],h=>exact⟨y,y',rfl,h.iM.1,h.iM.2.iM.1⟩
 | [],h=>exact absurd h.1 (by simp)
 | [_],h=>exact absurd h.1 (by simp)
 | _::_::_::_,h=>exact absurd h.1 (by simp)
theorem RL.three {m:dH} {x x' x'':Value} {ys:List Value} (h:RL m [x,x',x''] ys):∃y y' y'',ys=[y,y',y'']∧RV m x y∧RV m x' y'∧RV m x'' y'':=by
 match ys,h with
 | [y,y',y''],h=>exact⟨y,y',y'',rfl,h.iM.1,h.iM.2.iM.1,h.iM.2.iM.2.iM.1⟩
 | [],h=>exact absurd h.1 (by simp)
 | [_],h=>exact absurd h.1 (by simp)
 | [_,_],h=>exact absurd h.1 (by simp)
 | _::_::_::_::_,h=>exact absurd h.1 (by simp)
theorem CZ {m:dH}:∀ {cs rs:List Value} {xs:List ByteArray},strCells cs=some xs→RL m cs rs→rs=xs.map .string
 |
  [],rs,xs,h,hr=>by
  cases h
  match rs,hr with
  | [],_=>rfl
  | _::_,hr=>exact absurd hr.1 (by simp)
 |
  c::cs,rs,xs,h,hr=>by
  match rs,hr with
  | [],hr=>exact absurd hr.1 (by simp)
  |
   r::rs,hr =>
   obtain⟨h1,h2⟩:=hr.iM
   cases c with
   |
    string s =>
    rw[strCells] at h
    cases hc:strCells cs with
    | none=>rw[hc] at h;cases h
    |
     some ys =>
     rw[hc] at h
     cases h
     cases h1
     rw[CZ hc h2]
     rfl
   | _=>cases h
theorem Gw:Ck 219 BI:=by
 refine⟨⟨_,Tryz.func219,by kernel_rfl,by kernel_rfl⟩,fun L0 args H v hp m w fV hR hr => ?_⟩
 unfold BI at hp
 split at hp
 case h_2=>cases hp
 rename_i x
 split at hp
 case isFalse=>cases hp
 rename_i hx
 cases hp
 obtain⟨y,rfl,h1⟩:=hr.one
 cases h1
 refine(Any.bits_LeadingZeros32 abM x w hx.1 hx.2).mono ?_
 rintro e w' ⟨rfl,rfl⟩
 exact⟨_,rfl,.int _ _,yX⟩
theorem IY:Ck 103 DY:=by
 refine⟨⟨_,Tryz.func103,by kernel_rfl,by kernel_rfl⟩,fun L0 args H v hp m w fV hR hr => ?_⟩
 unfold DY at hp
 split at hp
 case h_2=>cases hp
 rename_i s c
 split at hp
 case isFalse=>cases hp
 rename_i hx
 cases hp
 obtain⟨y,y',rfl,h1,h2⟩:=hr.two
 cases h1
 cases h2
 obtain⟨k,rfl⟩:∃k:Nat,c=k:=⟨c.toNat,by omega⟩
 refine(Any.strings_Repeat adZ ZJ s k w (by omega) hx.2.2).mono ?_
 rintro e w' ⟨rfl,hb⟩
 exact⟨_,rfl,.str _,Below.xX hb⟩
theorem OM:Ck 186 Nn:=by
 refine⟨⟨_,Tryz.func186,by kernel_rfl,by kernel_rfl⟩,fun L0 args H v hp m w fV hR hr => ?_⟩
 unfold Nn at hp
 split at hp
 case h_3=>cases hp
 ·cases hp
  obtain⟨y,y',rfl,h1,h2⟩:=hr.two
  cases h1
  cases h2
  refine(Any.strings_Join_none P3 MH none 0 _ w).mono ?_
  rintro e w' ⟨rfl,rfl⟩
  exact⟨_,rfl,.str _,yX⟩
 ·rename_i b o n c sep
  obtain⟨y,y',rfl,h1,h2⟩:=hr.two
  cases h2
  cases h1 with
  |
   slice _ _ _ _ l ra rc h hn hc hx ha =>
   split at hp
   ·rename_i X0
    subst X0
    cases hp
    refine(Any.strings_Join_none P3 MH (some ra) rc _ w).mono ?_
    rintro e w' ⟨rfl,rfl⟩
    exact⟨_,rfl,.str _,yX⟩
   ·rename_i X0
    split at hp
    case h_2=>cases hp
    rename_i xs P7
    split at hp
    case isFalse=>cases hp
    rename_i Nf
    cases hp
    obtain⟨cs,PN,TB⟩:=Option.bind_eq_some_iff.1 P7
    obtain⟨rs,r1,r2,_,r4⟩:=tW hR h PN
    have Ha:=CZ TB r1
    subst Ha
    rcases ha with ha | ⟨rfl,ha⟩
    ·omega
    obtain⟨arr,e0,fz0,v1,_⟩:=hR.valid b l h
    have A0:l.rb<w.heap.size:=(Array.getElem?_eq_some_iff.1 v1).1
    obtain⟨c1,c2,c3,c4⟩:=Nf
    subst c1
    refine(Any.strings_Join P3 MH l.rb (l.base+o) rc xs sep w (fun j x hj => ?_) A0 c3 (by omega) c4).mono ?_
    ·have:=r4 j (.string x) (by simp[hj])
     rw[Addr.add_lit] at this
     exact this
    ·rintro e w' ⟨rfl,hb⟩
     exact⟨_,rfl,.str _,Below.xX hb⟩
theorem Q1 {m:dH} {L0:Nat} {H:aD} {w:World} (hR:Rel m L0 H w):Lib.TabIs Tryz.prog w "internal/strconv.uint64pow10" .u64 Lib.pow10Tab:=by
 obtain⟨e,fz,h⟩:=(hR.A5 (1,(Lib.pow10Tab.map fun z=>Value.int .u64 z).toArray) (by simp[YL])).1
 have hg:Tryz.prog.globalNamed "internal/strconv.uint64pow10"=some 1:=by kernel_rfl
 unfold Lib.TabIs World.var?
 rw[hg]
 simp only[Option.bind_some,h]
theorem Oo:Ck 184 rV:=by
 refine⟨⟨_,Tryz.func184,by kernel_rfl,by kernel_rfl⟩,fun L0 args H v hp m w fV hR hr => ?_⟩
 unfold rV at hp
 split at hp
 case h_2=>cases hp
 rename_i n b
 split at hp
 case isFalse=>cases hp
 rename_i hx
 cases hp
 obtain⟨y,y',rfl,h1,h2⟩:=hr.two
 cases h1
 cases h2
 obtain⟨rfl,h0,h1⟩:=hx
 obtain⟨u,rfl⟩:∃u:Nat,n=u:=⟨n.toNat,by omega⟩
 refine(Wx u (by omega) w (Q1 hR)).mono ?_
 rintro e w' ⟨rfl,hb⟩
 exact⟨_,rfl,.str _,Below.xX hb⟩
theorem Ku:Ck 241 Mt:=by
 refine⟨⟨_,Tryz.func241,by kernel_rfl,by kernel_rfl⟩,fun L0 args H v hp m w fV hR hr => ?_⟩
 unfold Mt at hp
 split at hp
 case h_2=>cases hp
 rename_i s p
 split at hp
 case h_2=>cases hp
 rename_i c hc
 cases hp
 obtain⟨y,y',rfl,h1,h2⟩:=hr.two
 cases h1
 cases h2
 have hp:p=⟨#[c]⟩:=by
  obtain⟨a⟩:=p
  obtain⟨l⟩:=a
  have:l=[c]:=hc
  rw[this]
 subst hp
 refine(Any.stringslite_Index_one aeB s c w).mono ?_
 rintro e w' ⟨rfl,rfl⟩
 exact⟨_,rfl,.int _ _,yX⟩
theorem KM:Ck 217 vL:=by
 refine⟨⟨_,Tryz.func217,by kernel_rfl,by kernel_rfl⟩,fun L0 args H v hp m w fV hR hr => ?_⟩
 unfold vL at hp
 split at hp
 case h_2=>cases hp
 rename_i s b z
 split at hp
 case isFalse=>cases hp
 rename_i hx
 obtain⟨rfl,rfl,hs⟩:=hx
 split at hp
 case h_2=>cases hp
 rename_i u hu
 cases hp
 obtain⟨y,y',y'',rfl,h1,h2,h3⟩:=hr.three
 cases h1
 cases h2
 cases h3
 refine(Any.strconv_ParseUint_10_at64_ok ZB s hs u hu w).mono ?_
 have hv:∀m,RV m (.tuple #[.int .u64 (u:Int),.nilIface]) (.tuple #[.int .u64 (u:Int),.nilIface]):=fun m => .tuple _ _ rfl fun i hi=>by
  match i,hi with
  | 0,_=>exact .int _ _
  | 1,_=>exact .nilIface
  | n+2,hi=>exact absurd hi (by simp)
 rintro e w' ⟨rfl,rfl | rfl⟩
 ·exact⟨_,rfl,hv m,yX⟩
 ·exact⟨_,rfl,hv m,Below.xX (Lib.bytesWorld_below _ _ _)⟩
theorem acY {L0:Nat}:Yk Tryz.prog cfg L0:=by
 intro f p hp
 have BF:GK f=some p:=hp
 unfold GK at BF
 split at BF
 ·rename_i h;subst h;cases BF;exact⟨Oo.1,Oo.2 L0⟩
 split at BF
 ·rename_i h;subst h;cases BF;exact⟨IY.1,IY.2 L0⟩
 split at BF
 ·rename_i h;subst h;cases BF;exact⟨OM.1,OM.2 L0⟩
 split at BF
 ·rename_i h;subst h;cases BF;exact⟨Gw.1,Gw.2 L0⟩
 split at BF
 ·rename_i h;subst h;cases BF;exact⟨Ku.1,Ku.2 L0⟩
 split at BF
 ·rename_i h;subst h;cases BF;exact⟨KM.1,KM.2 L0⟩
 cases BF
end Go.PM
namespace Go.PM
open Go.ChangeShapes Go.WideShapes Go.ChangeAt Go.RowKit
open Go.Proofs
structure In (m:dH) (H:aD) (W:World):Prop where
 U7:∀b l,m b=some l→b<H.length
 valid:∀b l,m b=some l→∃arr e fz,W.heap[l.rb]? = some (.cells arr e fz)∧arr.size=l.MD
 row:∀b l cs e p,m b=some l→H[b]? = some (.row cs e p)→l.jA=e∧l.NL=p∧l.base+cs.length≤l.MD ∧
  ∀i,i<cs.length→∃rv,W.cell? ⟨l.rb,l.base+i,none⟩=some rv∧RV m (cs.getD i Go.undef) rv∧PM.fD (cs.getD i Go.undef)=true
section
variable {m:dH} {H:aD} {W:World}
theorem In.empty:In (fun _=>none) [] W:=⟨fun _ _ h=>(by cases h),fun _ _ h=>(by cases h),fun _ _ _ _ _ h=>(by cases h)⟩
theorem In.rel (h:In m H W) (hg:LR W):Rel m H.length H W :=
 ⟨fun b l hb=>by
  obtain⟨arr,e,fz,h1,h2⟩:=h.valid b l hb
  exact⟨arr,e,fz,h1,h2,fun hl=>by have:=h.U7 b l hb;omega⟩,h.row,fun b1 b2 l1 l2 hl h1 _ _ _ _=>by have:=h.U7 b1 l1 h1;omega,fun x hx=>⟨hg x hx,fun b l hb hm _=>by have:=h.U7 b l hm;omega⟩⟩
theorem In.Vu (h:In m H W) {b:Nat} (hb:H.length≤b):m b=none:=by
 cases hm:m b with
 | none=>rfl
 | some l=>have:=h.U7 b l hm;omega
theorem In.add (h:In m H W) {rb base jA:Nat} {arr:Array Value} {e:TypeId} {fz:Nat×Nat} {cs:List Value} (hb:W.heap[rb]? = some (.cells arr e fz)) (qK:base+cs.length≤arr.size)
  (hc:∀i,i<cs.length→∃rv,W.cell? ⟨rb,base+i,none⟩=some rv∧RV (rA m H.length ⟨rb,base,jA,arr.size,false⟩) (cs.getD i Go.undef) rv∧PM.fD (cs.getD i Go.undef)=true) :
  In (rA m H.length ⟨rb,base,jA,arr.size,false⟩) (H++[.row cs jA false]) W:=by
 have hn:=h.Vu (Nat.le_refl H.length)
 refine⟨fun b l vZ => ?_,fun b l vZ => ?_,fun b l ds e' p vZ lX => ?_⟩
 ·by_cases he:b=H.length
  ·subst he;simp
  ·rw[cK he] at vZ
   have:=h.U7 b l vZ
   simp;omega
 ·by_cases he:b=H.length
  ·subst he
   rw[bP] at vZ
   cases vZ
   exact⟨arr,e,fz,hb,rfl⟩
  ·rw[cK he] at vZ
   exact h.valid b l vZ
 ·by_cases he:b=H.length
  ·subst he
   rw[bP] at vZ
   cases vZ
   rw[Te] at lX
   cases lX
   exact⟨rfl,rfl,qK,hc⟩
  ·rw[cK he] at vZ
   have aV:=h.U7 b l vZ
   rw[LB aV] at lX
   obtain⟨h1,h2,h3,h4⟩:=h.row b l ds e' p vZ lX
   refine⟨h1,h2,h3,fun i hi => ?_⟩
   obtain⟨rv,g1,g2,g3⟩:=h4 i hi
   exact⟨rv,g1,g2.mono (Ab hn),g3⟩
end
theorem Wl {f:Nat} {args fV:List Value} {H H':aD} {v:Value} {m:dH} {W:World} (hI:In m H W) (hr:RL m args fV) (h:oL f args H.length H=some (v,H')) (hg:LR W:=by first | assumption | exact fun x hx=>nomatch hx) :
  Calls Tryz.prog f fV.toArray W fun e W'=>∃m' rv,e = .returned rv∧RV m' v rv∧Below W.heap.size W W':=by
 obtain⟨n,hn⟩:=(rN cfg iB).1 h
 refine(FU Tryz.checked.mixed acY adW n f args H.length H v H' hn m W fV (hI.rel hg) (Nat.le_refl _) (Nat.le_refl _) hr (fun b hb _=>hI.Vu hb)).2.mono ?_
 rintro e W' ⟨m',rv,rfl,h1,_,h3⟩
 refine⟨m',rv,rfl,h1,⟨h3.same.1,h3.same.2.2,h3.same.2.1,h3.size,fun k hk=>h3.bM k hk fun b l hb hm _ => ?_⟩⟩
 rw[hI.Vu hb] at hm
 cases hm
end Go.PM
namespace Go.PM
def QO (c:iK):Prop:=(0≤c.t∧c.t≤10000)∧(1≤c.w∧c.w≤1000)∧(0≤c.k∧c.k≤9)
instance (c:iK):Decidable (QO c):=by unfold QO;infer_instance
def aeR (cs:List iK) (i:Nat) (c:iK):Prop:=QO c∧∀b,0<i→cs[i-1]? = some b→b.t≤c.t
def kV (cs:List iK):Prop:=(∀i c,cs[i]? = some c→aeR cs i c)∧cs.length≤24
noncomputable instance (cs:List iK):Decidable (kV cs):=Classical.propDecidable _
theorem kV.at {cs:List iK} (h:kV cs) {i:Nat} {c:iK} (hc:cs[i]? = some c):(0≤c.t∧c.t≤10000)∧(1≤c.w∧c.w≤1000)∧(0≤c.k∧c.k≤9):=(h.1 i c hc).1
def wl (time:Int):List iK→Int→Int→Int
 | [],l,s=>max (l-(time-s)) 0
 | c::cs,l,s=>if time<c.t then max (l-(time-s)) 0 else wl time cs (max (l-(c.t-s)) 0+c.w) c.t
def anD (cs:List iK) (time:Int):Prop:=kV cs∧(0≤time∧time≤1000000000)
noncomputable instance (cs:List iK) (time:Int):Decidable (anD cs time):=Classical.propDecidable _
def akL (cs:List iK) (ls:List Int):Prop:=kV cs∧ls.length=cs.length∧∀x∈ls,0≤x∧x≤1000000000
noncomputable instance (cs:List iK) (ls:List Int):Decidable (akL cs ls):=Classical.propDecidable _
def ahS (cs:List iK) (ls:List Int) (time:Int):Prop:=akL cs ls∧(0≤time∧time≤1000000000)
noncomputable instance (cs:List iK) (ls:List Int) (time:Int):Decidable (ahS cs ls time):=Classical.propDecidable _
def amF (cs:List iK) (ps:List Int):Prop:=kV cs∧ps.length=cs.length∧∀x∈ps,0≤x∧x≤10000
noncomputable instance (cs:List iK) (ps:List Int):Decidable (amF cs ps):=Classical.propDecidable _
end Go.PM
namespace Go.Proofs.YtodamlihdkalfaaGreatDoor
open Go.ChangeShapes Go.WideShapes Go.ChangeAt Go.RowKit Go.PM
theorem own:ownKnob Tryz.prog.godebug=none:=by kernel_rfl
theorem three {α:Type} {l:List α} (h:l.length=3):∃a b c,l=[a,b,c]:=by
 rcases l with _ | ⟨a,_ | ⟨b,_ | ⟨c,_ | ⟨d,l⟩⟩⟩⟩
 ·cases h
 ·cases h
 ·cases h
 ·exact⟨a,b,c,rfl⟩
 ·simp at h
end Go.Proofs.YtodamlihdkalfaaGreatDoor
namespace Go.PM
def BJ:List Nat:=[]
 ++ [52]
 ++ [55]
 ++ [56]
 ++ [43]
 ++ [45]
 ++ [50]
 ++ [67]
 ++ [70]
 ++ [71]
 ++ [76]
 ++ [78]
 ++ [79]
 ++ [60]
 ++ [62]
 ++ [72]
 ++ [17]
 ++ [19]
 ++ [23]
 ++ [53]
 ++ [51]
 ++ [21]
 ++ [20]
 ++ [49]
 ++ [48]
 ++ [64]
 ++ [63]
 ++ [68]
 ++ [66]
 ++ [77]
 ++ [75]
 ++ [182]
 ++ [220]
 ++ [221]
 ++ [239]
 ++ [240]
 ++ [202]
 ++ [185]
 ++ [84]
 ++ [87]
 ++ [165]
 ++ [85]
 ++ [85]
 ++ [86]
 ++ [26]
 ++ [111]
 ++ [200]
 ++ [132]
 ++ [149]
 ++ [204]
 ++ [143]
 ++ [129]
 ++ [125]
 ++ [128]
 ++ [123]
 ++ [127]
 ++ [122]
 ++ [207]
 ++ [150]
 ++ [144]
 ++ [131]
 ++ [148]
 ++ [142]
end Go.PM
namespace Go.PM
inductive TK where
 | op
 | cl (e:Nat)
 | nil
 deriving DecidableEq
inductive VV where
 | any
 | sc (v:Value)
 | agg (cs:List VV)
 | dQ (vs:List VV)
 | tree (es:List VV) (k:TK)
 | cY (x:VV) (off:Nat)
 | ref (b g o n c:Nat)
 | ptr (b g j off:Nat)
 | sC (f:Nat) (fC:List VV)
 deriving Inhabited
inductive bU where
 | dead
 | row (g:Nat) (es:List VV) (e:Nat) (w:Bool)
 deriving Inhabited
abbrev aA:=List bU
abbrev dJ:=Nat→VV
def nN:VV := .dQ []
def jR:Value→Bool
 | .bool _ | .int _ _ | .string _ | .pointer none | .nilFunc | .nilIface=>true
 | _=>false
def iJ:Value→VV
 | .slice none 0 0 => .tree [] .nil
 | v=>if jR v then .sc v else .any
def inj:Value→VV
 | .agg cs => .agg (cs.toList.map iJ)
 | .tuple vs=>if vs.isEmpty then .dQ [] else .any
 | v=>iJ v
def dU (ρ:dJ):Operand→VV
 | .tmp t=>ρ t
 | .const v=>inj v
 | .global _ => .any
 | .func f => .sC f []
def He (ρ:dJ):Option Nat→VV→dJ
 | none,_=>ρ
 | some d,v=>fun k=>if k=d then v else ρ k
def aB:VV→List VV
 | .agg cs=>cs
 | v=>[v]
def elemOf:List VV→VV
 | [x]=>x
 | cs => .agg cs
def bA:VV→Bool
 | .any | .agg _ | .dQ _=>false
 | _=>true
def uni:List VV→Bool
 | []=>true
 | x::xs=>xs.all fun y=>(aB y).length == (aB x).length
mutual
def aN:VV→Bool
 | .any=>false
 | .sc v=>jR v
 | .agg cs=>aP cs
 | .dQ vs=>aP vs
 | .tree es k=>decide (k = .op)&&aP es&&uni es
 | .cY x _=>aN x
 | .ref .. => false
 | .ptr .. => false
 | .sC _ fC=>aP fC
def aP:List VV→Bool
 | []=>true
 | x::xs=>aN x&&aP xs
end
def xG:VV→Bool
 | .agg [_]=>false
 | _=>true
mutual
def fY:VV→Bool
 | .any=>false
 | .sc v=>jR v
 | .agg cs=>oJ cs
 | .dQ vs=>oJ vs
 | .tree es k=>decide (k = .op)&&oJ es&&uni es&&es.all xG
 | .cY _ _=>false
 | .ref .. => false
 | .ptr .. => false
 | .sC _ _=>false
def oJ:List VV→Bool
 | []=>true
 | x::xs=>fY x&&oJ xs
end
mutual
def Ia:VV→Bool
 | .sc v=>jR v
 | .agg cs=>NI cs
 | .dQ vs=>NI vs
 | _=>false
def NI:List VV→Bool
 | []=>true
 | x::xs=>Ia x&&NI xs
end
mutual
def below (k:Nat):VV→Bool
 | .any=>true
 | .sc _=>true
 | .agg cs=>jY k cs
 | .dQ vs=>jY k vs
 | .tree es _=>jY k es
 | .cY x _=>below k x
 | .ref b _ _ _ _=>decide (b<k)
 | .ptr b _ _ _=>decide (b<k)
 | .sC _ fC=>jY k fC
def jY (k:Nat):List VV→Bool
 | []=>true
 | x::xs=>below k x&&jY k xs
end
def Gl (k:Nat) (v:VV):VV:=if below k v then v else .any
def aF (H:aA) (b g:Nat):Option (List VV×Nat×Bool) :=
 match H[b]? with
 | some (.row g' es e w)=>if g'=g then some (es,e,w) else none
 | _=>none
def nU:List CK→List VV→List VV→Option Bool
 | [],[],[]=>some true
 |
  k::ks,.sc x::xs,.sc y::ys=>match rC k x y with
  | some true=>nU ks xs ys
  | some false=>some false
  | none=>none
 | _,_,_=>none
def cN (cs:List VV) (o:Nat) (new:List VV):List VV:=cs.take o++new++cs.drop (o+new.length)
def isAny:VV→Bool
 | .any=>true
 | _=>false
def tZ (places:List (Nat×Nat)) (cells:List VV):List (Nat×VV)→Option (List VV)
 | []=>some cells
 |
  (i,v)::rest =>
  match places[i]? with
  | none=>none
  |
   some (off,size) =>
   if (aB v).length=size∧off+size≤cells.length∧isAny v=false then
    tZ places (cells.take off++aB v++cells.drop (off+size)) rest
   else none
def sZ (e:Nat) (es:List VV):List (Nat×VV)→Option (List VV)
 | []=>some es
 | (i,v)::rest=>if i<es.length∧(aB v).length=e∧(aB v).all bA then sZ e (es.set i v) rest else none
def DH:Option VV→Option (Option Value)
 | none=>some none
 | some (.sc v)=>some (some v)
 | some _=>none
def dN (agg:Bool) (size:Nat) (x:VV) (o:Nat):Option VV :=
 if agg then (if o+size≤(aB x).length then some (.agg (((aB x).drop o).take size)) else none) else (aB x)[o]?
structure Fl where
 bf:Bool
 lr:Bool
def cO (agg:Bool) (size:Nat) (p:VV) (H:aA):Option VV :=
 match p with
 | .cY x o=>dN agg size x o
 |
  .ptr b g j o=>match aF H b g with
  |
   some (es,_,_)=>match es[j]? with
   | some x=>dN agg size x o
   | none=>none
  | none=>none
 | _=>none
def bI (size:Nat) (x i:VV) (H:aA):Option VV :=
 match x,i with
 |
  .tree es _,.sc (.int _ i)=>if 0≤i then match es[i.toNat]? with
  | some x=>if (aB x).length=size then some (.cY x 0) else none
  | none=>none
  else none
 |
  .ref b g o n _,.sc (.int _ i)=>match aF H b g with
  | some (_,e,_)=>if e=size∧0≤i∧i<n then some (.ptr b g (o+i.toNat) 0) else none
  | none=>none
 | _,_=>none
def Dg (size:Nat) (x:VV) (l h m:Option VV) (H:aA):Option VV :=
 match DH l,DH h,DH m with
 |
  some lv,some hv,some mv =>
  match x with
  |
   .tree (y::ys) _ =>
   if (aB y).length=size then
    match eA mv (some (ys.length+1)) (ys.length+1) with
    | none=>none
    |
     some m=>match eA hv (if mv.isSome then none else some (ys.length+1)) m with
     | none=>none
     |
      some h=>match eA lv (some 0) h with
      | none=>none
      | some l=>if mv.isSome∧m=l then some (.tree [] (.cl size)) else some (.tree (((y::ys).drop l).take (h-l)) .op)
   else none
  |
   .ref b g o n c =>
   match aF H b g with
   |
    some (_,e,_) =>
    if e=size then
     match eA mv (some c) c with
     | none=>none
     |
      some m=>match eA hv (if mv.isSome then none else some n) m with
      | none=>none
      |
       some h=>match eA lv (some 0) h with
       | none=>none
       | some l=>if mv.isSome∧m=l then some (.tree [] (.cl size)) else some (.ref b g (o+l) (h-l) (m-l))
    else none
   | none=>none
  | _=>none
 | _,_,_=>none
def F6:List VV→Option (List UInt8)
 | []=>some []
 | .sc (.int .u8 n)::r=>(F6 r).map (UInt8.ofNat n.toNat :: ·)
 | _=>none
def cM (size:Nat) (y:VV) (H:aA):Option (List VV) :=
 match y with
 | .tree es _=>if es.all fun x=>(aB x).length == size&&(aB x).all bA then some es else none
 |
  .ref b g o n _=>match aF H b g with
  | some (es,e,_)=>if e=size∧o+n≤es.length∧(((es.drop o).take n).all fun x=>(aB x).all bA) then some ((es.drop o).take n) else none
  | none=>none
 | .sc (.string s)=>if size=1 then some (s.data.toList.map fun b => .sc (.int .u8 b.toNat)) else none
 | _=>none
def eH (lo size bytes:Nat) (x:VV) (new:List VV) (H:aA):Option (VV×aA) :=
 if 1≤bytes∧1≤size then
  match x with
  | .tree [] .nil=>if new.length=0 then some (x,H) else if new.length*bytes≤140737488355328 then some (.ref H.length 0 0 new.length new.length,H++[.row 0 new size true]) else none
  | .tree es (.cl e)=>if e=size then (if new.length=0 then some (x,H) else if (es.length+new.length)*bytes≤140737488355328 then some (.ref H.length 0 0 (es.length+new.length) (es.length+new.length),H++[.row 0 (es++new) size true]) else none) else none
  |
   .ref b g o n c=>match aF H b g with
   |
    some (es,e,true) =>
    if e=size∧lo≤b∧o+n≤es.length then
     if n+new.length≤c then
      if new.length=0 then some (x,H)
      else if o+n+new.length≤es.length then some (.ref b g o (n+new.length) c,H.set b (.row g (cN es (o+n) new) e true))
      else none
     else if (n+new.length)*bytes≤140737488355328 then some (.ref b (g+1) 0 (n+new.length) (n+new.length),H.set b (.row (g+1) ((es.drop o).take n++new) e true))
     else none
    else none
   | _=>none
  | _=>none
 else none
def bY (lo size:Nat) (p v:VV) (H:aA):Option aA :=
 match p with
 |
  .ptr b g j o=>match aF H b g with
  |
   some (es,e,true)=>match es[j]? with
   |
    some x =>
    if (aB v).length=size∧lo≤b∧(aB v).all bA then
     if o=0∧size=e then some (H.set b (.row g (es.set j v) e true))
     else if 2≤e∧o+size≤e then some (H.set b (.row g (es.set j (.agg (cN (aB x) o (aB v)))) e true))
     else none
    else none
   | none=>none
  | _=>none
 | _=>none
def yG (zero:List Value) (bytes:Nat) (l c:VV) (H:aA):Option (VV×aA) :=
 match l,c with
 | .sc (.int .i64 l),.sc (.int .i64 c)=>if 0≤l∧l≤c∧c*bytes≤281474976710656∧c≤9223372036854775807 then
  some (.ref H.length 0 0 l.toNat c.toNat,H++[.row 0 (List.replicate c.toNat (elemOf (zero.map iJ))) zero.length true]) else none
 | _,_=>none
def jM (lr:Bool) (zero:List Value) (n:Nat) (parts:List (Nat×VV)) (H:aA):Option (VV×aA) :=
 match sZ zero.length (List.replicate n (elemOf (zero.map iJ))) parts with
 | some es=>if (zero.map iJ).all bA then (if n=0∨lr=true then some (.ref H.length 0 0 n n,H++[.row 0 es zero.length true]) else some (.tree es (.cl zero.length),H)) else none
 | none=>none
def Ge (lo size:Nat) (x y:VV) (H:aA):Option (VV×aA) :=
 match x,cM size y H with
 | .tree [] .nil,some _=>some (.sc (.int .i64 0),H)
 |
  .ref b g o d _,some new=>match aF H b g with
  | some (es,e,true)=>if e=size∧lo≤b∧o+(new.take d).length≤es.length then some (.sc (.int .i64 (new.take d).length),H.set b (.row g (cN es o (new.take d)) e true)) else none
  | _=>none
 | _,_=>none
def My (lo:Nat) (zero:List Value) (x:VV) (H:aA):Option aA :=
 match x with
 |
  .ref b g o n _=>match aF H b g with
  | some (es,e,true)=>if n=0 then some H else if e=zero.length∧lo≤b∧o+n≤es.length∧(zero.map iJ).all bA then some (H.set b (.row g (cN es o (List.replicate n (elemOf (zero.map iJ)))) e true)) else none
  | _=>none
 | _=>none
def Dj (neg:Bool) (x:VV) (H:aA):Option VV :=
 match x with
 | .tree [] .nil=>some (.sc (.bool (true != neg)))
 | .tree [] (.cl _)=>some (.sc (.bool (false != neg)))
 | .tree (_::_) _=>some (.sc (.bool (false != neg)))
 | .ref b g _ _ _=>(aF H b g).map fun _ => .sc (.bool (false != neg))
 | _=>none
def nP (x:VV) (H:aA):Option VV :=
 match x with
 | .tree es _=>some (.sc (.int .i64 es.length))
 | .ref b g _ n _=>(aF H b g).map fun _ => .sc (.int .i64 n)
 | _=>none
def Fq (off:Nat) (x:VV) (H:aA):Option VV :=
 match x with
 | .cY x o=>some (.cY x (o+off))
 | .ptr b g j o=>(aF H b g).map fun _ => .ptr b g j (o+off)
 | _=>none
def T6 (x:VV) (H:aA):Option VV :=
 match x with
 | .cY x o=>some (.cY x o)
 | .ptr b g j o=>(aF H b g).map fun _ => .ptr b g j o
 | _=>none
def rO (x:VV) (l h:Option VV):Option VV :=
 match x,DH l,DH h with
 |
  .sc (.string s),some lv,some hv=>match wJ lv hv s.size with
  | some (l,h)=>some (.sc (.string (s.extract l h)))
  | none=>none
 | _,_,_=>none
def Za (agg:Bool) (off size:Nat) (x:VV):Option VV :=
 match x with
 | .agg cs=>if agg then (if off+size≤cs.length then some (.agg ((cs.drop off).take size)) else none) else cs[off]?
 | _=>none
def Iv (f:Value→Option Value) (x:VV):Option VV :=
 match x with
 | .sc a=>(f a).map .sc
 | _=>none
def FH (f:Value→Value→Option Value) (x y:VV):Option VV :=
 match x,y with
 | .sc a,.sc b=>(f a b).map .sc
 | _,_=>none
def Oz (c a b:VV):Option VV :=
 match c with
 | .sc (.bool t)=>some (if t then a else b)
 | _=>none
def Xo (i:Nat) (x:VV):Option VV :=
 match x with
 | .dQ vs=>vs[i]?
 | _=>none
def QL (neg:Bool) (ks:List CK) (x y:VV):Option VV :=
 match x,y with
 | .agg a,.agg b=>(nU ks a b).map fun t => .sc (.bool (t != neg))
 | _,_=>none
def TN:Value→Option Value
 | .string s=>some (.string s)
 | _=>none
def wK:Value→Option Value
 | .string s=>some (.int .i64 s.size)
 | _=>none
def E6:Value→Value→Option Value
 | .string s,.int _ i=>if 0≤i∧i<s.size then some (.int .u8 ((s.data.toList.getD i.toNat 0).toNat:Int)) else none
 | _,_=>none
def vop (fl:Fl) (lo:Nat) (o:lL) (ρ:dJ) (H:aA):Option (VV×aA) :=
 match o with
 | .mv x=>some (dU ρ x,H)
 | .pick c a b=>(Oz (dU ρ c) (dU ρ a) (dU ρ b)).map (·,H)
 | .bin op x y=>(FH (dB op) (dU ρ x) (dU ρ y)).map (·,H)
 | .eqb neg x y=>(FH (PB neg) (dU ρ x) (dU ρ y)).map (·,H)
 | .isnil neg x=>(Dj neg (dU ρ x) H).map (·,H)
 | .eqagg neg ks x y=>(QL neg ks (dU ρ x) (dU ρ y)).map (·,H)
 | .un op x=>(Iv (VD op) (dU ρ x)).map (·,H)
 | .cvt k x=>(Iv (Qi k) (dU ρ x)).map (·,H)
 | .cvs x=>(Iv TN (dU ρ x)).map (·,H)
 | .ext x i=>(Xo i (dU ρ x)).map (·,H)
 | .fld agg off size x=>(Za agg off size (dU ρ x)).map (·,H)
 | .build zero places parts=>(tZ places (zero.map iJ) (parts.map fun(i,x)=>(i,dU ρ x))).map fun cs=>(.agg cs,H)
 | .chk x=>(T6 (dU ρ x) H).map (·,H)
 | .faddr off x=>(Fq off (dU ρ x) H).map (·,H)
 | .iaddr size x i=>(bI size (dU ρ x) (dU ρ i) H).map (·,H)
 | .sidx x i=>(FH E6 (dU ρ x) (dU ρ i)).map (·,H)
 | .ssub x l h=>(rO (dU ρ x) (l.map (dU ρ)) (h.map (dU ρ))).map (·,H)
 | .mkfn f fC=>some (.sC f (fC.map (dU ρ)),H)
 | .len x=>(nP (dU ρ x) H).map (·,H)
 | .slen x=>(Iv wK (dU ρ x)).map (·,H)
 | .min x y=>(FH O7 (dU ρ x) (dU ρ y)).map (·,H)
 | .max x y=>(FH Nh (dU ρ x) (dU ρ y)).map (·,H)
 | .load agg size p=>(cO agg size (dU ρ p) H).map (·,H)
 | .sub size x l h m=>(Dg size (dU ρ x) (l.map (dU ρ)) (h.map (dU ρ)) (m.map (dU ρ)) H).map (·,H)
 |
  .b2s x=>match dU ρ x with
  | .sc _=>none
  |
   y=>match cM 1 y H with
   | some es=>(F6 es).map fun bs=>(.sc (.string ⟨bs.toArray⟩),H)
   | none=>none
 | .new zero=>if (zero.map iJ).all bA then some (.ptr H.length 0 0 0,H++[.row 0 [elemOf (zero.map iJ)] zero.length true]) else none
 | .box x=>if (aB (dU ρ x)).all bA then (if fl.bf then some (.cY (dU ρ x) 0,H) else some (.ptr H.length 0 0 0,H++[.row 0 [dU ρ x] (aB (dU ρ x)).length true])) else none
 | .make zero bytes l c=>if (zero.map iJ).all bA then yG zero bytes (dU ρ l) (dU ρ c) H else none
 | .lit zero n parts=>jM fl.lr zero n (parts.map fun(i,x)=>(i,dU ρ x)) H
 | .store size p v=>(bY lo size (dU ρ p) (dU ρ v) H).map fun H'=>(nN,H')
 |
  .app size bytes x y=>match cM size (dU ρ y) H with
  | some new=>eH lo size bytes (dU ρ x) new H
  | none=>none
 |
  .appz zero bytes x n=>match dU ρ n with
  | .sc (.int .i64 n)=>if 0≤n∧n*bytes≤140737488355328∧(zero.map iJ).all bA then eH lo zero.length bytes (dU ρ x) (List.replicate n.toNat (elemOf (zero.map iJ))) H else none
  | _=>none
 | .copy size x y=>Ge lo size (dU ρ x) (dU ρ y) H
 | .clear zero x=>(My lo zero (dU ρ x) H).map fun H'=>(nN,H')
 | _=>none
inductive VBx where
 | no
 | row (i:Nat) (w:Bool)
 | zM (i:Nat)
 | tree
 | bad
def Al (H:aA):VV→VBx
 | .tree [] .nil => .no
 | .tree _ _ => .tree
 | .cY _ _ => .tree
 |
  .ref b g _ _ _=>match aF H b g with
  | some (_,_,w) => .row b w
  | none => .zM b
 |
  .ptr b g _ _=>match aF H b g with
  | some (_,_,w) => .row b w
  | none => .zM b
 | .any => .bad
 | _ => .no
def yJ (H:aA) (x y:VV):Bool :=
 match Al H x,Al H y with
 | .bad,_=>false
 | _,.bad=>false
 | .no,_=>true
 | _,.no=>true
 | .row i _,.row j _=>i != j
 | .row i _,.zM j=>i != j
 | .zM i,.row j _=>i != j
 | .zM _,.zM _=>false
 | .zM _,.tree=>false
 | .tree,.zM _=>false
 | .row _ w,.tree=>w
 | .tree,.row _ w=>w
 | .tree,.tree=>false
def sF (ρ:dJ) (H:aA) (c:Operand×Operand):Bool:=yJ H (dU ρ c.1) (dU ρ c.2)
def zV (g:Option (Nat×Bool)) (ρ:dJ):Option Bool :=
 match g with
 | none=>some true
 |
  some (t,want)=>match ρ t with
  | .sc (.bool b)=>some (b == want)
  | .dQ _=>some false
  | _=>none
def fz:Nat→aA→VV→Option VV
 | 0,_,_=>none
 |
  d+1,H,v =>
  if aN v then some v else
  match v with
  | .agg cs=>(cs.mapM (fz d H)).map .agg
  | .dQ vs=>(vs.mapM (fz d H)).map .dQ
  | .tree es _=>(es.mapM (fz d H)).map (.tree · .op)
  | .cY x o=>(fz d H x).map (.cY · o)
  |
   .ref b g o n c=>match aF H b g with
   | some (es,_,_)=>if o+n≤es.length∧n≤c then (((es.drop o).take n).mapM (fz d H)).map (.tree · .op) else none
   | none=>none
  |
   .ptr b g j o=>match aF H b g with
   |
    some (es,_,_)=>match es[j]? with
    | some x=>(fz d H x).map (.cY · o)
    | none=>none
   | none=>none
  | .sC f fC=>(fC.mapM (fz d H)).map (.sC f ·)
  | _=>none
def gV:Nat→aA→VV→List Nat
 | 0,_,_=>[]
 |
  d+1,H,v =>
  if aN v then [] else
  match v with
  | .agg cs=>cs.flatMap (gV d H)
  | .dQ vs=>vs.flatMap (gV d H)
  | .tree es _=>es.flatMap (gV d H)
  | .cY x _=>gV d H x
  |
   .ref b g o n _=>match aF H b g with
   | some (es,_,_)=>b::((es.drop o).take n).flatMap (gV d H)
   | none=>[]
  |
   .ptr b g j _=>match aF H b g with
   |
    some (es,_,_)=>match es[j]? with
    | some x=>b::gV d H x
    | none=>[]
   | none=>[]
  | .sC _ fC=>fC.flatMap (gV d H)
  | _=>[]
def Ac (H:aA) (b:Nat):aA :=
 match H[b]? with
 | some (.row g es e _)=>H.set b (.row g es e false)
 | _=>H
def cR (H:aA) (ids:List Nat):aA:=ids.foldl Ac H
def depth:Nat:=8
end Go.PM