/- Texts of a claim, in one: part 3. -/
import Derived.Lib.ItoaNum
import Derived.Lib.Join
import Derived.Lib.BitFns
import Derived.Lib.Repeat
import Derived.Lib.Bytealg
import Derived.Lib.ParseIntB
import Derived.Test.YtjmflicajplclaaGreatDoorChecked
import Derived.Laws.BitsLemmas
import Derived.Shelf.Strings.OnBuilder
import Derived.Shelf.Strings.Repeat
import Derived.Shelf.Small.Bits
import Derived.Shelf.Strconv.Itoa1
import Derived.Shelf.Strconv.Itoa2
import Derived.Shelf.LaysM
import Derived.Shelf.Strings.Search2
import Derived.Shelf.Pu.ParseUintPublic10
import Derived.KernelRfl
import Derived.Test.YtjmflicajplclaaGreatDoorProg
import Derived.Lib.Walk
import Derived.Lib.ItoaMem
import Derived.WalkKit
import Derived.BigCall
import Derived.BigGuard
import Derived.Below
import Derived.Shelf.Strings.Search2
import Derived.Shelf.Pu.ParseUintPublic10
import Derived.Shelf.Strings.OnBuilder
import Derived.Shelf.Strings.Repeat
import Derived.Shelf.Small.Bits
import Derived.ProofKit
import Derived.OpenShut
import Derived.ShutString
import Derived.ChangeOld
import Derived.Carry
import Derived.SizedLaws
import Derived.Test.YtjmflicajplclaaGreatDoorRows
import Derived.Test.YtjmflicajplclaaGreatDoorKBb
set_option linter.unusedSimpArgs false
set_option linter.unusedVariables false
namespace Go.PM
def awP:Ex→Exit
 | .normal => .normal
 | .exit id => .exit id
 | .ret => .ret
section
variable {P:Program} {E:BL} {n:Nat} {call:gQ} {lo L0:Nat}
def Se (P:Program) (n lo L0:Nat) (c:Code) (run:Env→aF→Option (Ex×Env×aF)):Prop :=
 ∀ρ H x bI H',run ρ H=some (x,bI,H')→∀m a w,JK n L0 m ρ H a w→L0≤H.length→(∀b,H.length≤b→b<H'.length→m b=none) →
  ∀Q:Exit→Act→World→Prop,(∀m' a' w',JK n L0 m' bI H' a' w'→Trans lo m H w m' H' w'→Q (awP x) a' w')→c.wp P Q a w
theorem afG {c:Code} {run:Env→aF→Option (Ex×Env×aF)} (hc:Se P n lo L0 c run) (he:∀ρ H x bI H',run ρ H=some (x,bI,H')→Ext lo H H') (N:Nat):Se P n lo L0 (.loop c) (Ad run N):=by
 intro ρ H x bI H' hr m a w h hl hf Q hQ
 apply wp_loop_rounds N
 have key:∀N ρ H,Ad run N ρ H=some (x,bI,H')→∀m a w,JK n L0 m ρ H a w→L0≤H.length→(∀b,H.length≤b→b<H'.length→m b=none) →
   (∀m' a' w',JK n L0 m' bI H' a' w'→Trans lo m H w m' H' w'→Q (awP x) a' w')→Code.rounds P c Q N a w:=by
  intro N
  induction N with
  | zero=>intro ρ H h;cases h
  |
   succ N ih =>
   intro ρ H hr m a w h hl hf hQ
   rw[rounds_succ]
   rw[Ad] at hr
   split at hr
   ·rename_i yY H1 h1
    have e1:=he _ _ _ _ _ h1
    have e2:=Ko he N hr
    refine hc ρ H _ yY H1 h1 m a w h hl (fun b C2 hb2=>hf b C2 (Nat.lt_of_lt_of_le hb2 e2.len)) _ fun m1 a1 w1 hh hT => ?_
    exact ih yY H1 hr m1 a1 w1 hh (Nat.le_trans hl e1.len) (hT.fresh e1.len hf) fun m2 a2 w2 h2 hT2=>hQ m2 a2 w2 h2 (Trans.trans hf e1 e2 hT hT2)
   ·rename_i fT
    refine hc ρ H _ bI H' hr m a w h hl hf _ fun m1 a1 w1 hh hT => ?_
    have:=hQ m1 a1 w1 hh hT
    cases x with
    | normal=>exact absurd hr (fT bI H')
    | exit id=>exact this
    | ret=>exact this
 exact key N ρ H hr m a w h hl hf hQ
theorem pT (ES:P.follows .mixedOrders=true) (pI:yV P L0 call) (sQ:tD call) (dV:L0≤lo) (N:Nat):∀(c:Code) (pc:aD),jA P E n c=some pc→Se P n lo L0 c (dW call lo N pc)
 |
  .skip,pc,hp=>by
  cases hp
  intro ρ H x bI H' hr m a w h hl hf Q hQ
  cases hr
  exact wp_skip (hQ m a w h (Trans.refl _ _ _ _))
 |
  .region id ops draw,pc,hp=>by
  rw[jA] at hp
  cases hpr:Ag P E n ops draw with
  | none=>rw[hpr] at hp;cases hp
  |
   some uZ =>
   rw[hpr] at hp
   cases hp
   intro ρ H x bI H' hr m a w h hl hf Q hQ
   rw[dW] at hr
   cases hs:iQ call lo uZ ρ H with
   | none=>rw[hs] at hr;cases hr
   |
    some q =>
    obtain⟨yY,H1⟩:=q
    rw[hs] at hr
    cases hr
    exact XA ES pI sQ hpr hs h dV hl hf hQ
 |
  .seq x y,pc,hp=>by
  rw[jA] at hp
  split at hp
  ·rename_i px py Yx hpy
   cases hp
   intro ρ H e bI H' hr m a w h hl hf Q hQ
   rw[dW] at hr
   apply wp_seq
   split at hr
   ·rename_i yY H1 h1
    have e1:=kO sQ px h1
    have e2:=kO sQ py hr
    refine pT ES pI sQ dV N x px Yx ρ H _ yY H1 h1 m a w h hl (fun b C2 hb2=>hf b C2 (Nat.lt_of_lt_of_le hb2 e2.len)) _ fun m1 a1 w1 hh hT => ?_
    exact pT ES pI sQ dV N y py hpy yY H1 _ bI H' hr m1 a1 w1 hh (Nat.le_trans hl e1.len) (hT.fresh e1.len hf) Q fun m2 a2 w2 h2 hT2=>hQ m2 a2 w2 h2 (Trans.trans hf e1 e2 hT hT2)
   ·rename_i fT
    refine pT ES pI sQ dV N x px Yx ρ H _ bI H' hr m a w h hl hf _ fun m1 a1 w1 hh hT => ?_
    have:=hQ m1 a1 w1 hh hT
    cases e with
    | normal=>exact absurd hr (fT bI H')
    | exit id=>exact this
    | ret=>exact this
  ·cases hp
 |
  .cond o x y,pc,hp=>by
  rw[jA] at hp
  split at hp
  ·rename_i Fs
   split at hp
   ·rename_i px py Yx hpy
    cases hp
    intro ρ H e bI H' hr m a w h hl hf Q hQ
    rw[dW] at hr
    split at hr
    ·rename_i t ht
     have Wt:=W9 (a:=a) (m:=m) (ρ:=ρ) Fs fun t _=>h.env t
     rw[ht] at Wt
     generalize hev:a.eval o=ro at Wt
     cases Wt
     refine wp_cond hev ?_
     cases t with
     | true=>exact pT ES pI sQ dV N x px Yx ρ H _ bI H' hr m a w h hl hf Q hQ
     | false=>exact pT ES pI sQ dV N y py hpy ρ H _ bI H' hr m a w h hl hf Q hQ
    ·cases hr
   ·cases hp
  ·cases hp
 |
  .block id x,pc,hp=>by
  rw[jA] at hp
  cases Yx:jA P E n x with
  | none=>rw[Yx] at hp;cases hp
  |
   some px =>
   rw[Yx] at hp
   cases hp
   intro ρ H e bI H' hr m a w h hl hf Q hQ
   rw[dW] at hr
   apply wp_block
   split at hr
   ·rename_i Uu yY H1 h1
    split at hr
    ·rename_i hid
     cases hr
     refine pT ES pI sQ dV N x px Yx ρ H _ bI H' h1 m a w h hl hf _ fun m1 a1 w1 hh hT => ?_
     have:=hQ m1 a1 w1 hh hT
     show Exit.inBlock id Q (.exit Uu) a1 w1
     simp only[Exit.inBlock,if_pos hid]
     exact this
    ·rename_i hid
     cases hr
     refine pT ES pI sQ dV N x px Yx ρ H _ bI H' h1 m a w h hl hf _ fun m1 a1 w1 hh hT => ?_
     have:=hQ m1 a1 w1 hh hT
     show Exit.inBlock id Q (.exit Uu) a1 w1
     simp only[Exit.inBlock,if_neg hid]
     exact this
   ·rename_i fT
    refine pT ES pI sQ dV N x px Yx ρ H _ bI H' hr m a w h hl hf _ fun m1 a1 w1 hh hT => ?_
    have:=hQ m1 a1 w1 hh hT
    cases e with
    | normal=>exact this
    | exit Uu=>exact absurd hr (fT Uu bI H')
    | ret=>exact this
 |
  .loop x,pc,hp=>by
  rw[jA] at hp
  cases Yx:jA P E n x with
  | none=>rw[Yx] at hp;cases hp
  |
   some px =>
   rw[Yx] at hp
   cases hp
   have hx:=pT ES pI sQ dV N x px Yx
   intro ρ H e bI H' hr
   rw[dW] at hr
   exact afG hx (fun ρ H x bI H' h=>kO sQ px h) N ρ H e bI H' hr
 |
  .exit id,pc,hp=>by
  cases hp
  intro ρ H x bI H' hr m a w h hl hf Q hQ
  cases hr
  exact wp_exit (hQ m a w h (Trans.refl _ _ _ _))
 |
  .ret,pc,hp=>by
  cases hp
  intro ρ H x bI H' hr m a w h hl hf Q hQ
  cases hr
  exact wp_ret (hQ m a w h (Trans.refl _ _ _ _))
 | .rangeFunc ..,pc,hp=>by cases hp
 | .scope _,pc,hp=>by cases hp
 | .label _,pc,hp=>by cases hp
 | .goto _,pc,hp=>by cases hp
 | .refuse _,pc,hp=>by cases hp
def A2 (P:Program):ResultVar→Option BI
 | .tmp t=>some (.tmp t)
 | .cell t ty=>(nF P ty).map fun(agg,size,_,_) => .cell t agg size
def Oq (a:Act):ResultVar→Sem Value
 | .tmp t=>pure (a.tmps.getD t undef)
 | .cell x t=>do loadVar t (←asAddr (a.tmps.getD x undef))
theorem aBh {m:dR} {ρ:Env} {H:aF} {a:Act} {w:World} (h:JK n L0 m ρ H a w) {r:ResultVar} {pr:BI} (hp:A2 P r=some pr) {v:Value} (hv:Yl ρ H pr=some v) :
  ∃rv,RV m v rv∧(Oq a r).run P w = .ok rv w:=by
 cases r with
 |
  tmp t =>
  cases hp
  cases hv
  exact⟨_,h.env t,rfl⟩
 |
  cell x t =>
  simp only[A2] at hp
  cases ht:nF P t with
  | none=>rw[ht] at hp;cases hp
  |
   some q =>
   obtain⟨agg,size,z,nb⟩:=q
   rw[ht] at hp
   cases hp
   obtain⟨rv,h1,h2⟩:=QX ht hv h.rel (h.env x)
   refine⟨rv,h1,?_⟩
   unfold Oq
   have hpv:=h.env x
   simp only[Yl,oX] at hv
   split at hv
   ·rename_i b o hb
    rw[hb] at hpv
    show (do loadVar t (←asAddr (a.tmps.getD x undef)):Sem Value).run P w=_
    generalize a.tmps.getD x undef=rp at h2 hpv ⊢
    cases hpv
    exact h2
   ·cases hv
theorem ahE {m:dR} {ρ:Env} {H:aF} {a:Act} {w:World} (h:JK n L0 m ρ H a w):∀ {rs:List ResultVar} {prs:List BI} {vs:List Value},rs.mapM (A2 P)=some prs→Dd ρ H prs=some vs →
  ∃rvs,RL m vs rvs∧(rs.mapM (Oq a)).run P w = .ok rvs w
 |
  [],prs,vs,hp,hv=>by
  simp at hp
  subst hp
  cases hv
  exact⟨[],RL.nil m,rfl⟩
 |
  r::rs,prs,vs,hp,hv=>by
  simp only[List.mapM_cons,Option.pure_def,Option.bind_eq_bind] at hp
  cases h1:A2 P r with
  | none=>rw[h1] at hp;cases hp
  |
   some pr =>
   rw[h1] at hp
   cases h2:rs.mapM (A2 P) with
   | none=>rw[h2] at hp;cases hp
   |
    some aEV =>
    rw[h2] at hp
    cases hp
    simp only[Dd] at hv
    split at hv
    ·rename_i v vs' hv1 hv2
     cases hv
     obtain⟨rv,g1,g2⟩:=aBh h h1 hv1
     obtain⟨rvs,g3,g4⟩:=ahE h h2 hv2
     refine⟨rv::rvs,RL.cons g1 g3,?_⟩
     rw[List.mapM_cons,Sem.run_bind,g2,Result.andThen_ok,Sem.run_bind,g4]
     rfl
    ·cases hv
theorem K5 {m:dR} {ρ:Env} {H:aF} {a:Act} {w:World} (h:JK n L0 m ρ H a w) {fn:Func} {prs:List BI} (hp:fn.results.toList.mapM (A2 P)=some prs) {v:Value} (hv:rS prs ρ H=some v) :
  ∃rv,RV m v rv∧(results fn a.tmps).run P w = .ok rv w:=by
 unfold rS at hv
 cases kB:Dd ρ H prs with
 | none=>rw[kB] at hv;cases hv
 |
  some vs =>
  obtain⟨rvs,h1,h2⟩:=ahE h hp kB
  rw[kB] at hv
  have qG:∀rv,(if h:rvs.toArray.size=1 then rvs.toArray[0] else .tuple rvs.toArray)=rv→(results fn a.tmps).run P w = .ok rv w:=by
   intro rv Wt
   have e:results fn a.tmps=(do let vs ←fn.results.mapM (Oq a);pure (if h:vs.size=1 then vs[0] else .tuple vs)):=by
    unfold results
    congr 2
   rw[e,Array.mapM_eq_mapM_toList,Sem.run_bind]
   have:(List.toArray <$> fn.results.toList.mapM (Oq a)).run P w = .ok rvs.toArray w:=by
    rw[map_eq_pure_bind,Sem.run_bind,h2]
    rfl
   rw[this,←Wt]
   rfl
  clear h2 kB
  rcases vs with _ | ⟨x,_ | ⟨y,xs⟩⟩
  ·rcases rvs with _ | ⟨x',ys⟩
   ·cases hv
    exact⟨_,h1.Yb,qG _ rfl⟩
   ·cases h1.1
  ·rcases rvs with _ | ⟨x',_ | ⟨y',ys⟩⟩
   ·cases h1.1
   ·cases hv
    exact⟨x',h1.kR.1,qG x' rfl⟩
   ·cases h1.1
  ·rcases rvs with _ | ⟨x',_ | ⟨y',ys⟩⟩
   ·cases h1.1
   ·cases h1.1
   ·cases hv
    exact⟨_,h1.Yb,qG _ (by simp)⟩
end
end Go.PM
namespace Go.PM
def afE (P:Program) (E:BL) (L0:Nat):Prop :=
 ∀f p,E.BV f=some p→N0 P f∧∀args H v,p args H=some v→∀m w iG,Rel m L0 H w→RL m args iG →
  Calls P f iG.toArray w fun e w'=>∃rv,e = .returned rv∧RV m v rv∧w.heap.size≤w'.heap.size∧(∀rb,rb<w.heap.size→w'.heap[rb]? = w.heap[rb]?)∧w'.os=w.os∧w'.output=w.output∧w'.tape=w.tape
theorem Rel.more {m:dR} {L0:Nat} {H:aF} {w w':World} (h:Rel m L0 H w) (hk:∀rb,rb<w.heap.size→w'.heap[rb]? = w.heap[rb]?):Rel m L0 H w':=by
 have hv:∀b l,m b=some l→l.rb<w.heap.size:=fun b l hb=>by
  obtain⟨arr,e,fz,h1,_⟩:=h.valid b l hb
  exact(Array.getElem?_eq_some_iff.1 h1).1
 refine⟨fun b l hb=>by rw[hk _ (hv b l hb)];exact h.valid b l hb,fun b l cs e p hm hb => ?_,h.inj,fun x hx=>⟨?_,(h.Ev x hx).2⟩⟩
 ·obtain⟨h1,h2,h3,h4⟩:=h.row b l cs e p hm hb
  refine⟨h1,h2,h3,fun i hi => ?_⟩
  obtain⟨rv,g1,g2⟩:=h4 i hi
  refine⟨rv,?_,g2⟩
  rw[←g1]
  unfold World.cell?
  simp only[hk _ (hv b l hm)]
 ·obtain⟨e,fz,g1⟩:=(h.Ev x hx).1
  exact⟨e,fz,by rw[hk _ (Array.getElem?_eq_some_iff.1 g1).1];exact g1⟩
theorem agE {P:Program} {E:BL} {f:Nat} {pf:aR} (h:TX P E f=some pf):∃fn c,P.funcs[f]? = some fn∧fn.body=some c∧(fn.name == "runtime.NumGoroutine")=false∧fn.results.toList.mapM (A2 P)=some pf.res∧jA P E fn.ntmps c=some pf.body∧pf.ntmps=fn.ntmps:=by
 unfold TX at h
 cases hf:P.funcs[f]? with
 | none=>rw[hf] at h;cases h
 |
  some fn =>
  rw[hf] at h
  have h':N7 P E fn=some pf:=h
  unfold N7 at h'
  cases hb:fn.body with
  | none=>rw[hb] at h';cases h'
  |
   some c =>
   rw[hb] at h'
   simp only at h'
   split at h'
   ·cases h'
   ·rename_i afH
    split at h'
    ·cases h'
    ·rename_i res XH
     cases hc:jA P E fn.ntmps c with
     | none=>rw[hc] at h';cases h'
     |
      some body =>
      rw[hc] at h'
      cases h'
      refine⟨fn,c,rfl,hb,by simpa using afH,?_,hc,rfl⟩
      have e:(fun(r:ResultVar)=>match r with
       | .tmp t=>some (BI.tmp t)
       | .cell t ty=>(nF P ty).map fun(agg,size,_,_) => .cell t agg size)=A2 P:=by
       funext r
       cases r<;>rfl
      rw[←e]
      exact XH
theorem Ju {P:Program} {E:BL} {T:Tab} {L0:Nat} (ES:P.follows .mixedOrders=true) (adE:afE P E L0) (hT:∀f pf,T f=some pf→TX P E f=some pf):∀n,yV P L0 (nI E T n)
 | 0=>fun f args lo H v H' h=>by cases h
 |
  n+1=>fun f args lo H v H' h m w iG hR dV hlen VG hf=>by
  have sQ:=Fp E T n
  rw[nI] at h
  split at h
  ·rename_i p hp
   obtain⟨hco,aCg⟩:=adE f p hp
   refine⟨hco,?_⟩
   cases hpv:p args H with
   | none=>rw[hpv] at h;cases h
   |
    some u =>
    rw[hpv] at h
    cases h
    refine(aCg args H v hpv m w iG hR VG).mono ?_
    rintro e w' ⟨rv,rfl,h1,h2,h3,h4⟩
    exact⟨m,rv,rfl,h1,hR.more h3,fun _ _ h=>h,fun b l hb hn=>(by rw[hb] at hn;cases hn),h2,fun rb Ed _=>h3 rb Ed,h4⟩
  ·split at h
   ·cases h
   ·rename_i pf hpf
    obtain⟨fn,c,h1,h2,h3,h4,h5,h6⟩:=agE (hT _ _ hpf)
    split at h
    case isFalse=>cases h
    rename_i AF
    refine⟨⟨fn,h1,h3,by rw[h2];rfl⟩,calls_of_wp h1 h2 ?_⟩
    have Co:iG.toArray.size≤fn.ntmps:=by
     have:=VG.1
     simp;omega
    have hH:JK fn.ntmps L0 m (aaD args) H { tmps:=iG.toArray++Array.replicate (fn.ntmps-iG.toArray.size) undef,defers:=[] } w:=by
     refine⟨by simp at Co ⊢;omega,rfl,fun t => ?_,hR⟩
     rcases Nat.lt_or_ge t args.length with ht | ht
     ·have h7:=VG.2 t ht
      have ht':t<iG.length:=by rw[←VG.1];exact ht
      have e:(iG.toArray++Array.replicate (fn.ntmps-iG.toArray.size) undef).getD t undef=iG.getD t undef:=by
       rw[Array.getD_eq_getD_getElem?,Array.getElem?_append_left (by simpa using ht')]
       simp
      show RV m (args.getD t undef) _
      rw[e]
      exact h7
     ·have e1:args.getD t undef=undef:=by simp[List.getD_eq_getElem?_getD,List.getElem?_eq_none ht]
      have ht':iG.length≤t:=by rw[←VG.1];exact ht
      have e2:(iG.toArray++Array.replicate (fn.ntmps-iG.toArray.size) undef).getD t undef=undef:=by
       rw[Array.getD_eq_getD_getElem?,Array.getElem?_append_right (by simpa using ht')]
       rw[Array.getElem?_replicate]
       split<;>rfl
      show RV m (args.getD t undef) _
      rw[e1,e2]
      exact RV.undef m
    split at h
    ·rename_i yY H1 qG
     cases hr:rS pf.res yY H1 with
     | none=>rw[hr] at h;cases h
     |
      some u =>
      rw[hr] at h
      cases h
      refine pT ES (Ju ES adE hT n) sQ dV n c pf.body h5 _ _ _ _ _ qG m _ w hH hlen hf _ fun m' a' w' hh hTr => ?_
      obtain⟨rv,g1,g2⟩:=K5 hh h4 hr
      exact⟨hh.defs,rv,g2,m',rv,rfl,g1,hh.rel,hTr⟩
    ·rename_i yY H1 qG
     cases hr:rS pf.res yY H1 with
     | none=>rw[hr] at h;cases h
     |
      some u =>
      rw[hr] at h
      cases h
      refine pT ES (Ju ES adE hT n) sQ dV n c pf.body h5 _ _ _ _ _ qG m _ w hH hlen hf _ fun m' a' w' hh hTr => ?_
      obtain⟨rv,g1,g2⟩:=K5 hh h4 hr
      exact⟨hh.defs,rv,g2,m',rv,rfl,g1,hh.rel,hTr⟩
    ·cases h
end Go.PM
namespace Go.PM
def CLe (c c':gQ):Prop:=∀f args lo H r,c f args lo H=some r→c' f args lo H=some r
section
variable {c c':gQ} {lo:Nat}
theorem QD (h:CLe c c') {i:PI} {ρ:Env} {H:aF} {r:Value×aF} (hr:AM c lo i ρ H=some r):AM c' lo i ρ H=some r:=by
 unfold AM at hr ⊢
 split at hr
 ·cases hr
 ·exact hr
 ·split at hr
  ·rename_i SU
   rw[if_pos SU]
   split at hr
   ·exact hr
   ·exact h _ _ _ _ _ hr
   ·cases hr
  ·cases hr
theorem W0 (h:CLe c c') {i:PI} {ρ:Env} {H:aF} {r:Env×aF} (hr:Ah c lo i ρ H=some r):Ah c' lo i ρ H=some r:=by
 unfold Ah at hr ⊢
 split at hr
 ·rename_i v H' hv
  rw[QD h hv]
  exact hr
 ·cases hr
theorem AW (h:CLe c c'):∀ {is:List PI} {ρ:Env} {H:aF} {r:Env×aF},iQ c lo is ρ H=some r→iQ c' lo is ρ H=some r
 | [],_,_,_,hr=>hr
 |
  i::is,ρ,H,r,hr=>by
  rw[iQ] at hr ⊢
  split at hr
  ·rename_i h1
   rw[W0 h h1]
   exact AW h hr
  ·cases hr
theorem zX {b b':Env→aF→Option (Ex×Env×aF)} (h:∀ρ H r,b ρ H=some r→b' ρ H=some r):∀ {n n':Nat} {ρ:Env} {H:aF} {r:Ex×Env×aF},n≤n'→Ad b n ρ H=some r→Ad b' n' ρ H=some r
 | 0,_,_,_,_,_,hr=>by cases hr
 | n+1,0,_,_,_,hn,_=>by omega
 |
  n+1,n'+1,ρ,H,r,hn,hr=>by
  rw[Ad] at hr ⊢
  split at hr
  ·rename_i h1
   rw[h _ _ _ h1]
   exact zX h (by omega) hr
  ·rename_i fT
   rw[h _ _ _ hr]
   split
   ·rename_i bI H' he
    cases he
    exact absurd hr (fT _ _)
   ·rfl
theorem fP (h:CLe c c') {n n':Nat} (hn:n≤n'):∀(p:aD) {ρ:Env} {H:aF} {r:Ex×Env×aF},dW c lo n p ρ H=some r→dW c' lo n' p ρ H=some r
 | .skip,_,_,_,hr=>hr
 |
  .dE ops,ρ,H,r,hr=>by
  rw[dW] at hr ⊢
  cases hs:iQ c lo ops ρ H with
  | none=>rw[hs] at hr;cases hr
  | some q=>rw[hs] at hr;rw[AW h hs];exact hr
 |
  .seq a b,ρ,H,r,hr=>by
  rw[dW] at hr ⊢
  split at hr
  ·rename_i h1
   rw[fP h hn a h1]
   exact fP h hn b hr
  ·rename_i fT
   rw[fP h hn a hr]
   split
   ·rename_i he;cases he;exact absurd hr (fT _ _)
   ·rfl
 |
  .cond x a b,ρ,H,r,hr=>by
  rw[dW] at hr ⊢
  split at hr
  ·split at hr
   ·rename_i ht;rw[if_pos ht];exact fP h hn a hr
   ·rename_i ht;rw[if_neg ht];exact fP h hn b hr
  ·cases hr
 |
  .block id a,ρ,H,r,hr=>by
  rw[dW] at hr ⊢
  split at hr
  ·rename_i h1
   rw[fP h hn a h1]
   exact hr
  ·rename_i fT
   rw[fP h hn a hr]
   split
   ·rename_i he;cases he;exact absurd hr (fT _ _ _)
   ·rfl
 |
  .loop a,ρ,H,r,hr=>by
  rw[dW] at hr ⊢
  exact zX (fun ρ H r hr=>fP h hn a hr) hn hr
 | .exit id,_,_,_,hr=>hr
 | .ret,_,_,_,hr=>hr
theorem Cs (E:BL) (T:Tab):∀n,CLe (nI E T n) (nI E T (n+1))
 | 0,_,_,_,_,_,hr=>by cases hr
 |
  n+1,f,args,lo,H,r,hr=>by
  rw[nI] at hr ⊢
  split at hr
  ·exact hr
  ·split at hr
   ·cases hr
   ·split at hr
    ·rename_i pf _ ha
     rw[if_pos ha]
     split at hr
     ·rename_i h1
      rw[fP (Cs E T n) (Nat.le_succ n) pf.body h1]
      exact hr
     ·rename_i h1
      rw[fP (Cs E T n) (Nat.le_succ n) pf.body h1]
      exact hr
     ·cases hr
    ·cases hr
theorem pX (E:BL) (T:Tab) {n n':Nat} (h:n≤n'):CLe (nI E T n) (nI E T n'):=by
 induction h with
 | refl=>exact fun _ _ _ _ _ h=>h
 | step _ ih=>exact fun f args lo H r hr=>Cs E T _ f args lo H r (ih f args lo H r hr)
end
section
variable (E:BL) (T:Tab)
open Classical in
noncomputable def iY {α:Type} (run:Nat→Option α):Option α:=if h:∃r,∃n,run n=some r then some (Classical.choose h) else none
theorem YT {α:Type} {run:Nat→Option α} (hm:∀n n' r,n≤n'→run n=some r→run n'=some r) {r:α}:iY run=some r↔∃n,run n=some r:=by
 unfold iY
 constructor
 ·intro h
  split at h
  ·rename_i hx
   cases h
   exact Classical.choose_spec hx
  ·cases h
 ·rintro⟨n,hn⟩
  have hx:∃r,∃n,run n=some r:=⟨r,n,hn⟩
  rw[dif_pos hx]
  obtain⟨n',UP⟩:=Classical.choose_spec hx
  have h1:=hm n (max n n') r (Nat.le_max_left _ _) hn
  have h2:=hm n' (max n n') _ (Nat.le_max_right _ _) UP
  rw[h1] at h2
  injection h2 with h2
  rw[←h2]
noncomputable def call:gQ:=fun f args lo H=>iY fun n=>nI E T n f args lo H
noncomputable def code (lo:Nat) (c:aD) (ρ:Env) (H:aF):Option (Ex×Env×aF):=iY fun n=>dW (nI E T n) lo n c ρ H
theorem wU {f:Nat} {args:List Value} {lo:Nat} {H:aF} {r:Value×aF}:call E T f args lo H=some r↔∃n,nI E T n f args lo H=some r :=
 YT fun _ _ r h hr=>pX E T h f args lo H r hr
theorem cU {lo:Nat} {c:aD} {ρ:Env} {H:aF} {r:Ex×Env×aF}:code E T lo c ρ H=some r↔∃n,dW (nI E T n) lo n c ρ H=some r :=
 YT fun _ _ _ h hr=>fP (pX E T h) h c hr
theorem NM {lo:Nat}:∀ {is:List PI} {ρ:Env} {H:aF} {r:Env×aF},iQ (call E T) lo is ρ H=some r↔∃n,iQ (nI E T n) lo is ρ H=some r:=by
 have le:∀n,CLe (nI E T n) (call E T):=fun n f args lo H r hr=>(wU E T).2 ⟨n,hr⟩
 have val:∀ {i:PI} {ρ:Env} {H:aF} {r:Value×aF},AM (call E T) lo i ρ H=some r→∃n,AM (nI E T n) lo i ρ H=some r:=by
  intro i ρ H r hr
  unfold AM at hr ⊢
  split at hr
  ·cases hr
  ·exact⟨0,hr⟩
  ·split at hr
   ·rename_i SU
    split at hr
    ·exact⟨0,by rw[if_pos SU];exact hr⟩
    ·obtain⟨n,hn⟩:=(wU E T).1 hr
     exact⟨n,by rw[if_pos SU];exact hn⟩
    ·cases hr
   ·cases hr
 intro is
 induction is with
 | nil=>exact fun {ρ H r}=>⟨fun h=>⟨0,h⟩,fun⟨_,h⟩=>h⟩
 |
  cons i is ih =>
  intro ρ H r
  constructor
  ·intro h
   rw[iQ] at h
   split at h
   ·rename_i yY H1 h1
    obtain⟨v,hv,rfl⟩:=Ae h1
    obtain⟨n1,hn1⟩:=val hv
    obtain⟨n2,hn2⟩:=ih.1 h
    refine⟨max n1 n2,?_⟩
    rw[iQ]
    have e:Ah (nI E T (max n1 n2)) lo i ρ H=some (put ρ i.dst v,H1):=by
     unfold Ah
     rw[QD (pX E T (Nat.le_max_left n1 n2)) hn1]
    rw[e]
    exact AW (pX E T (Nat.le_max_right n1 n2)) hn2
   ·cases h
  ·rintro⟨n,h⟩
   exact AW (le n) h
theorem CS {α:Type} {a b:Option α} (h:∀r,a=some r↔b=some r):a=b:=by
 cases a with
 |
  none =>
  cases b with
  | none=>rfl
  | some y=>exact((h y).2 rfl)
 | some x=>exact((h x).1 rfl).symm
variable {lo:Nat} {ρ:Env} {H:aF}
theorem Zm:code E T lo .skip ρ H=some (.normal,ρ,H):=(cU E T).2 ⟨0,rfl⟩
theorem aaZ {id:Nat}:code E T lo (.exit id) ρ H=some (.exit id,ρ,H):=(cU E T).2 ⟨0,rfl⟩
theorem ajG:code E T lo .ret ρ H=some (.ret,ρ,H):=(cU E T).2 ⟨0,rfl⟩
theorem aeG {ops:List PI}:code E T lo (.dE ops) ρ H=(iQ (call E T) lo ops ρ H).map fun(bI,H')=>(.normal,bI,H'):=by
 refine CS fun r => ?_
 rw[cU]
 constructor
 ·rintro⟨n,h⟩
  rw[dW] at h
  cases hs:iQ (nI E T n) lo ops ρ H with
  | none=>rw[hs] at h;cases h
  |
   some q =>
   rw[hs] at h
   rw[(NM E T).2 ⟨n,hs⟩]
   exact h
 ·intro h
  cases hs:iQ (call E T) lo ops ρ H with
  | none=>rw[hs] at h;cases h
  |
   some q =>
   rw[hs] at h
   obtain⟨n,hn⟩:=(NM E T).1 hs
   exact⟨n,by rw[dW,hn];exact h⟩
theorem ahX {a b:aD}:code E T lo (.seq a b) ρ H=match code E T lo a ρ H with
  | some (.normal,bI,H')=>code E T lo b bI H'
  | r=>r:=by
 refine CS fun r => ?_
 rw[cU]
 constructor
 ·rintro⟨n,h⟩
  rw[dW] at h
  split at h
  ·rename_i h1
   rw[(cU E T).2 ⟨n,h1⟩]
   exact(cU E T).2 ⟨n,h⟩
  ·rename_i fT
   rw[(cU E T).2 ⟨n,h⟩]
   split
   ·rename_i he;cases he;exact absurd h (fT _ _)
   ·rfl
 ·intro h
  split at h
  ·rename_i h1
   obtain⟨n1,h1⟩:=(cU E T).1 h1
   obtain⟨n2,h2⟩:=(cU E T).1 h
   refine⟨max n1 n2,?_⟩
   rw[dW,fP (pX E T (Nat.le_max_left n1 n2)) (Nat.le_max_left n1 n2) a h1]
   exact fP (pX E T (Nat.le_max_right n1 n2)) (Nat.le_max_right n1 n2) b h2
  ·rename_i fT
   obtain⟨n,h1⟩:=(cU E T).1 h
   refine⟨n,?_⟩
   rw[dW,h1]
   split
   ·rename_i he;cases he;exact absurd h (fT _ _)
   ·rfl
theorem abR {x:Operand} {a b:aD}:code E T lo (.cond x a b) ρ H=match ev ρ x with
  | .bool t=>if t then code E T lo a ρ H else code E T lo b ρ H
  | _=>none:=by
 refine CS fun r => ?_
 rw[cU]
 constructor
 ·rintro⟨n,h⟩
  rw[dW] at h
  split at h
  ·rename_i t he
   rw[he]
   show (if t=true then code E T lo a ρ H else code E T lo b ρ H)=some r
   split at h
   ·rename_i ht;rw[if_pos ht];exact(cU E T).2 ⟨n,h⟩
   ·rename_i ht;rw[if_neg ht];exact(cU E T).2 ⟨n,h⟩
  ·cases h
 ·intro h
  split at h
  ·rename_i t he
   split at h
   ·rename_i ht
    obtain⟨n,h⟩:=(cU E T).1 h
    refine⟨n,?_⟩
    rw[dW,he]
    show (if t=true then _ else _)=_
    rw[if_pos ht]
    exact h
   ·rename_i ht
    obtain⟨n,h⟩:=(cU E T).1 h
    refine⟨n,?_⟩
    rw[dW,he]
    show (if t=true then _ else _)=_
    rw[if_neg ht]
    exact h
  ·cases h
theorem WU {id:Nat} {a:aD}:code E T lo (.block id a) ρ H=match code E T lo a ρ H with
  | some (.exit Uu,bI,H')=>if Uu=id then some (.normal,bI,H') else some (.exit Uu,bI,H')
  | r=>r:=by
 refine CS fun r => ?_
 rw[cU]
 constructor
 ·rintro⟨n,h⟩
  rw[dW] at h
  split at h
  ·rename_i h1
   rw[(cU E T).2 ⟨n,h1⟩]
   exact h
  ·rename_i fT
   rw[(cU E T).2 ⟨n,h⟩]
   split
   ·rename_i he;cases he;exact absurd h (fT _ _ _)
   ·rfl
 ·intro h
  split at h
  ·rename_i h1
   obtain⟨n,h1⟩:=(cU E T).1 h1
   exact⟨n,by rw[dW,h1];exact h⟩
  ·rename_i fT
   obtain⟨n,h1⟩:=(cU E T).1 h
   refine⟨n,?_⟩
   rw[dW,h1]
   split
   ·rename_i he;cases he;exact absurd h (fT _ _ _)
   ·rfl
theorem aaJ {a:aD}:code E T lo (.loop a) ρ H=match code E T lo a ρ H with
  | some (.normal,bI,H')=>code E T lo (.loop a) bI H'
  | r=>r:=by
 refine CS fun r => ?_
 rw[cU]
 constructor
 ·rintro⟨n,h⟩
  rw[dW] at h
  cases n with
  | zero=>cases h
  |
   succ n =>
   rw[Ad] at h
   split at h
   ·rename_i h1
    rw[(cU E T).2 ⟨n+1,h1⟩]
    refine(cU E T).2 ⟨n+1,?_⟩
    rw[dW]
    exact zX (fun _ _ _ h=>h) (Nat.le_succ n) h
   ·rename_i fT
    rw[(cU E T).2 ⟨n+1,h⟩]
    split
    ·rename_i he;cases he;exact absurd h (fT _ _)
    ·rfl
 ·intro h
  split at h
  ·rename_i h1
   obtain⟨n1,h1⟩:=(cU E T).1 h1
   obtain⟨n2,h2⟩:=(cU E T).1 h
   refine⟨max n1 n2+1,?_⟩
   have g1:=fP (pX E T (show n1≤max n1 n2+1 by omega)) (show n1≤max n1 n2+1 by omega) a h1
   rw[dW,Ad,g1]
   rw[dW] at h2
   exact zX (fun _ _ _ h=>fP (pX E T (show n2≤max n1 n2+1 by omega)) (show n2≤max n1 n2+1 by omega) a h) (show n2≤max n1 n2 by omega) h2
  ·rename_i fT
   obtain⟨n,h1⟩:=(cU E T).1 h
   refine⟨n+1,?_⟩
   rw[dW,Ad,fP (Cs E T n) (Nat.le_succ n) a h1]
   split
   ·rename_i he;cases he;exact absurd h (fT _ _)
   ·rfl
noncomputable def aqT (lo:Nat) (pf:aR) (args:List Value) (H:aF):Option (Value×aF) :=
 if args.length≤pf.ntmps then
  match code E T lo pf.body (aaD args) H with
  | some (.normal,ρ,H') | some (.ret,ρ,H')=>(rS pf.res ρ H').map (·,H')
  | _=>none
 else none
theorem ZA {f:Nat} {p:List Value→aF→Option Value} (h:E.BV f=some p) {args:List Value}:call E T f args lo H=(p args H).map (·,H):=by
 refine CS fun r => ?_
 rw[wU]
 constructor
 ·rintro⟨n,hr⟩
  cases n with
  | zero=>cases hr
  | succ n=>rw[nI,h] at hr;exact hr
 ·intro hr
  exact⟨1,by rw[nI,h];exact hr⟩
theorem amI {f:Nat} {pf:aR} (hp:E.BV f=none) (h:T f=some pf) {args:List Value}:call E T f args lo H=aqT E T lo pf args H:=by
 refine CS fun r => ?_
 rw[wU]
 unfold aqT
 constructor
 ·rintro⟨n,hr⟩
  cases n with
  | zero=>cases hr
  |
   succ n =>
   rw[nI,hp,h] at hr
   simp only at hr
   split at hr
   ·rename_i ha
    rw[if_pos ha]
    split at hr
    ·rename_i h1
     rw[(cU E T).2 ⟨n,h1⟩]
     exact hr
    ·rename_i h1
     rw[(cU E T).2 ⟨n,h1⟩]
     exact hr
    ·cases hr
   ·cases hr
 ·intro hr
  split at hr
  ·rename_i ha
   split at hr
   ·rename_i h1
    obtain⟨n,h1⟩:=(cU E T).1 h1
    exact⟨n+1,by rw[nI,hp,h];simp only;rw[if_pos ha,h1];exact hr⟩
   ·rename_i h1
    obtain⟨n,h1⟩:=(cU E T).1 h1
    exact⟨n+1,by rw[nI,hp,h];simp only;rw[if_pos ha,h1];exact hr⟩
   ·cases hr
  ·cases hr
end
end Go.PM
namespace Go.PM
theorem Fw {H H':aF} {lo iJ b o:Nat} {new:List Value} (hl:iJ≤lo) (h:H.write lo b o new=some H'):H.write iJ b o new=some H':=by
 unfold aF.write at h ⊢
 split at h
 ·split at h
  ·rename_i hc
   rw[if_pos ⟨by omega,hc.2⟩]
   exact h
  ·cases h
 ·cases h
theorem CW {α β:Type} {a b:Option α} {f:α→β} {r:β} (HD:∀x,a=some x→b=some x) (h:a.map f=some r):b.map f=some r:=by
 cases a with
 | none=>cases h
 | some x=>rw[HD x rfl];exact h
theorem K7 {lo iJ size bytes add:Nat} {x:Value} {new:List Value} {H:aF} {r:Value×aF} (hl:iJ≤lo) (h:fL lo size bytes x add new H=some r):fL iJ size bytes x add new H=some r:=by
 unfold fL at h ⊢
 split at h
 case isFalse=>cases h
 rename_i hc
 rw[if_pos hc]
 split at h
 ·exact h
 ·split at h
  ·split at h
   ·rename_i h1
    skip
    rw[if_pos h1]
    split at h
    ·rename_i h2
     rw[if_pos h2]
     split at h
     ·rename_i h3;rw[if_pos h3];exact h
     ·rename_i h3
      rw[if_neg h3]
      exact CW (fun H' hw=>Fw hl hw) h
    ·rename_i h2
     rw[if_neg h2]
     split at h
     ·rename_i h3
      rw[if_pos h3]
      split at h
      ·rename_i h4
       rw[if_pos h4]
       split at h
       ·rename_i h5;rw[if_pos (by omega)];exact h
       ·cases h
      ·rename_i h4;rw[if_neg h4];exact h
     ·cases h
   ·cases h
  ·cases h
 ·cases h
theorem YX {lo iJ:Nat} {p:oQ} {ρ:Env} {H:aF} {o:Out} (hl:iJ≤lo) (h:pop lo p ρ H=some o):pop iJ p ρ H=some o:=by
 cases p<;>first | exact h | skip
 case store size q v =>
  simp only[pop] at h ⊢
  split at h
  ·split at h
   ·rename_i h1
    skip
    rw[if_pos h1]
    exact CW (fun H' hw=>Fw hl hw) h
   ·cases h
  ·cases h
 case app size bytes x y =>
  simp only[pop] at h ⊢
  split at h
  ·split at h
   ·skip
    exact CW (fun H' hw=>K7 hl hw) h
   ·cases h
  ·cases h
 case appz z bytes x n =>
  simp only[pop] at h ⊢
  split at h
  ·split at h
   ·rename_i h1
    skip
    rw[if_pos h1]
    exact CW (fun H' hw=>K7 hl hw) h
   ·cases h
  ·cases h
 case copy size x y =>
  simp only[pop] at h ⊢
  split at h
  ·exact h
  ·split at h
   ·skip
    exact CW (fun H' hw=>Fw hl hw) h
   ·cases h
  ·cases h
 case clear z x =>
  simp only[pop] at h ⊢
  split at h
  ·exact h
  ·skip
   split at h
   ·rename_i h1;rw[if_pos h1];exact h
   ·rename_i h1
    rw[if_neg h1]
    exact CW (fun H' hw=>Fw hl hw) h
  ·cases h
def afA (c:gQ):Prop:=∀f args lo iJ H r,iJ≤lo→c f args lo H=some r→c f args iJ H=some r
section
variable {c:gQ} {lo iJ:Nat}
theorem Ob (hc:afA c) (hl:iJ≤lo):∀ {is:List PI} {ρ:Env} {H:aF} {r:Env×aF},iQ c lo is ρ H=some r→iQ c iJ is ρ H=some r
 | [],_,_,_,h=>h
 |
  i::is,ρ,H,r,h=>by
  rw[iQ] at h ⊢
  split at h
  ·rename_i yY H1 h1
   have e:Ah c iJ i ρ H=some (yY,H1):=by
    unfold Ah at h1 ⊢
    split at h1
    ·rename_i v H2 hv
     have:AM c iJ i ρ H=some (v,H2):=by
      unfold AM at hv ⊢
      split at hv
      ·cases hv
      ·exact hv
      ·split at hv
       ·rename_i SU
        rw[if_pos SU]
        split at hv
        ·rename_i hp;rw[YX hl hp];exact hv
        ·rename_i hp
         rw[YX hl hp]
         show c _ _ (if i.quiet=true then H.length else iJ) H=_
         cases hq:i.quiet with
         | true=>rw[hq] at hv;exact hv
         | false=>rw[hq] at hv;exact hc _ _ _ _ _ _ hl hv
        ·cases hv
       ·cases hv
     rw[this]
     exact h1
    ·cases h1
   rw[e]
   exact Ob hc hl h
  ·cases h
theorem ZG {b b':Env→aF→Option (Ex×Env×aF)} (h:∀ρ H r,b ρ H=some r→b' ρ H=some r):∀ {n:Nat} {ρ:Env} {H:aF} {r:Ex×Env×aF},Ad b n ρ H=some r→Ad b' n ρ H=some r :=
 fun hr=>zX h (Nat.le_refl _) hr
theorem oM (hc:afA c) (hl:iJ≤lo) {n:Nat}:∀(p:aD) {ρ:Env} {H:aF} {r:Ex×Env×aF},dW c lo n p ρ H=some r→dW c iJ n p ρ H=some r
 | .skip,_,_,_,hr=>hr
 |
  .dE ops,ρ,H,r,hr=>by
  rw[dW] at hr ⊢
  exact CW (fun _ h=>Ob hc hl h) hr
 |
  .seq a b,ρ,H,r,hr=>by
  rw[dW] at hr ⊢
  split at hr
  ·rename_i h1
   rw[oM hc hl a h1]
   exact oM hc hl b hr
  ·rename_i fT
   rw[oM hc hl a hr]
   split
   ·rename_i he;cases he;exact absurd hr (fT _ _)
   ·rfl
 |
  .cond x a b,ρ,H,r,hr=>by
  rw[dW] at hr ⊢
  split at hr
  ·split at hr
   ·rename_i ht;rw[if_pos ht];exact oM hc hl a hr
   ·rename_i ht;rw[if_neg ht];exact oM hc hl b hr
  ·cases hr
 |
  .block id a,ρ,H,r,hr=>by
  rw[dW] at hr ⊢
  split at hr
  ·rename_i h1
   rw[oM hc hl a h1]
   exact hr
  ·rename_i fT
   rw[oM hc hl a hr]
   split
   ·rename_i he;cases he;exact absurd hr (fT _ _ _)
   ·rfl
 |
  .loop a,ρ,H,r,hr=>by
  rw[dW] at hr ⊢
  exact ZG (fun ρ H r hr=>oM hc hl a hr) hr
 | .exit id,_,_,_,hr=>hr
 | .ret,_,_,_,hr=>hr
end
theorem Kj (E:BL) (T:Tab):∀n,afA (nI E T n)
 | 0,_,_,_,_,_,_,_,h=>by cases h
 |
  n+1,f,args,lo,iJ,H,r,hl,h=>by
  rw[nI] at h ⊢
  split at h
  ·exact h
  ·split at h
   ·cases h
   ·split at h
    ·rename_i pf _ ha
     rw[if_pos ha]
     split at h
     ·rename_i h1;rw[oM (Kj E T n) hl pf.body h1];exact h
     ·rename_i h1;rw[oM (Kj E T n) hl pf.body h1];exact h
     ·cases h
    ·cases h
section
variable {E:BL} {T:Tab}
theorem ajK {f:Nat} {args:List Value} {lo iJ:Nat} {H:aF} {r:Value×aF} (hl:iJ≤lo) (h:call E T f args lo H=some r):call E T f args iJ H=some r:=by
 obtain⟨n,hn⟩:=(wU E T).1 h
 exact(wU E T).2 ⟨n,Kj E T n f args lo iJ H r hl hn⟩
theorem ajJ {f:Nat} {args:List Value} {lo:Nat} {H H':aF} {v:Value} (h:call E T f args lo H=some (v,H')):Ext lo H H':=by
 obtain⟨n,hn⟩:=(wU E T).1 h
 exact Fp E T n f args lo H v H' hn
theorem Ext.more {H H':aF} (h:Ext H.length H H'):∃K,H'=H++K:=by
 refine⟨H'.drop H.length,?_⟩
 apply List.ext_getElem?
 intro i
 rcases Nat.lt_or_ge i H.length with hi | hi
 ·rw[List.getElem?_append_left hi]
  exact h.low i hi hi
 ·rw[List.getElem?_append_right hi,List.getElem?_drop,show H.length+(i-H.length)=i by omega]
def X5 (E:BL) (T:Tab) (f:Nat) (args:List Value) (H:aF) (R:Value→aF→Prop):Prop :=
 ∃v K,call E T f args H.length H=some (v,H++K)∧R v (H++K)
theorem X5.at {f:Nat} {args:List Value} {H:aF} {R:Value→aF→Prop} (h:X5 E T f args H R) {lo:Nat} (hl:lo≤H.length):∃v K,call E T f args lo H=some (v,H++K)∧R v (H++K):=by
 obtain⟨v,K,h1,h2⟩:=h
 exact⟨v,K,ajK hl h1,h2⟩
theorem X5.mk {f:Nat} {args:List Value} {H H':aF} {v:Value} {R:Value→aF→Prop} (h:call E T f args H.length H=some (v,H')) (hr:R v H'):X5 E T f args H R:=by
 obtain⟨K,rfl⟩:=(ajJ h).more
 exact⟨v,K,h,hr⟩
end
end Go.PM
namespace Go.PM
def strCells:List Value→Option (List ByteArray)
 | []=>some []
 | .string s::r=>(strCells r).map (s :: ·)
 | _=>none
def wR:List Value→aF→Option Value
 | [.int .u64 n,.int .i64 b],_=>if b=10∧0≤n∧n<18446744073709551616 then some (.string ⟨(Lib.decDigits n.toNat).toArray⟩) else none
 | _,_=>none
def Ie:List Value→aF→Option Value
 | [.string s,.int .i64 c],_=>if 0≤c∧c≤9223372036854775807∧s.size*c.toNat≤140737488355328 then some (.string ⟨(Lib.repeatL s.data.toList c.toNat).toArray⟩) else none
 | _,_=>none
def Es:List Value→aF→Option Value
 | [.int .u32 x],_=>if 0≤x∧x≤4294967295 then some (.int .i64 (32-(Lib.bitLen x.toNat:Int))) else none
 | _,_=>none
def TU:List Value→aF→Option Value
 | [.slice none 0 0,.string _],_=>some (.string ⟨#[]⟩)
 |
  [.slice (some ⟨b,o,none⟩) n c,.string sep],H =>
  if n=0 then some (.string ⟨#[]⟩) else
  match (H.read b o n).bind strCells with
  | some xs=>if xs.length=n∧n≤c∧n≤140737488355328∧(Lib.join (xs.map (·.data.toList)) sep.data.toList).length≤140737488355328 then some (.string ⟨(Lib.join (xs.map (·.data.toList)) sep.data.toList).toArray⟩) else none
  | none=>none
 | _,_=>none
def Sa:List Value→aF→Option Value
 |
  [.string s,.string p],_=>match p.data.toList with
  | [c]=>some (.int .i64 (Lib.indexByte s.data.toList c))
  | _=>none
 | _,_=>none
def zK:List Value→aF→Option Value
 |
  [.string s,.int .i64 b,.int .i64 z],_=>if b=10∧z=64∧s.size≤9223372036854775806 then
   match Lib.parseUintB 64 s.data.toList with
   | .ok u=>some (.tuple #[.int .u64 (u:Int),.nilIface])
   | _=>none
  else none
 | _,_=>none
end Go.PM
namespace Go.PM
open Go.Proofs
def aBm:List Nat:=[]
 ++ [200]
 ++ [204]
 ++ [205]
 ++ [95]
 ++ [90]
 ++ [118]
 ++ [134]
 ++ [179]
def Ln (f:Nat):Option (List Value→aF→Option Value) :=
 if f=214 then some wR else
 if f=215 then some Ie else
 if f=217 then some TU else
 if f=198 then some Es else
 if f=209 then some Sa else
 if f=192 then some zK else
 (fun _=>none) f
def cfg:BL:={ BV:=Ln,eff:=fun f=>aBm.contains f }
noncomputable def fA:Tab:=fun f=>if (Ln f).isSome then none else TX Tryz.prog cfg f
theorem aqS (f:Nat) (pf:aR) (h:fA f=some pf):TX Tryz.prog cfg f=some pf:=by
 unfold fA at h
 split at h
 ·cases h
 ·exact h
theorem Wq {f:Nat} {pf:aR} (h:fA f=some pf):cfg.BV f=none:=by
 unfold fA at h
 split at h
 ·cases h
 ·rename_i h1
  show Ln f=none
  cases hp:Ln f with
  | none=>rfl
  | some p=>rw[hp] at h1;exact absurd rfl h1
end Go.PM
namespace Go.PM
noncomputable abbrev sX:gQ:=call cfg fA
def W (lo:Nat) (c:aD) (Q:Ex→Env→aF→Prop) (ρ:Env) (H:aF):Prop:=∃x bI H',code cfg fA lo c ρ H=some (x,bI,H')∧Q x bI H'
def WS (lo:Nat) (is:List PI) (K:Env→aF→Prop) (ρ:Env) (H:aF):Prop:=∃bI H',iQ sX lo is ρ H=some (bI,H')∧K bI H'
def aCa (lo:Nat) (b:aD) (Q:Ex→Env→aF→Prop):Ex→Env→aF→Prop
 | .normal,ρ,H=>W lo b Q ρ H
 | x,ρ,H=>Q x ρ H
def axY (id:Nat) (Q:Ex→Env→aF→Prop):Ex→Env→aF→Prop
 | .exit Uu,ρ,H=>if Uu=id then Q .normal ρ H else Q (.exit Uu) ρ H
 | x,ρ,H=>Q x ρ H
def aA1 (res:List BI) (R:Value→aF→Prop):Ex→Env→aF→Prop
 | .exit _,_,_=>False
 | _,ρ,H=>∃v,rS res ρ H=some v∧R v H
def azA (J:Env→aF→Prop) (Q:Ex→Env→aF→Prop):Ex→Env→aF→Prop
 | .normal,ρ,H=>J ρ H
 | x,ρ,H=>Q x ρ H
section
variable {lo:Nat} {Q:Ex→Env→aF→Prop} {K:Env→aF→Prop} {ρ:Env} {H:aF} {b:aD} {id:Nat} {R:Value→aF→Prop} {res:List BI} {J:Env→aF→Prop}
theorem Js {i:Nat}:axY id Q (.exit i) ρ H=if i=id then Q .normal ρ H else Q (.exit i) ρ H:=rfl
theorem aqQ:W lo .skip Q ρ H=Q .normal ρ H:=by
 unfold W
 rw[Zm]
 exact propext ⟨fun⟨_,_,_,h,hq⟩=>(by cases h;exact hq),fun h=>⟨_,_,_,rfl,h⟩⟩
theorem aqR {i:Nat}:W lo (.exit i) Q ρ H=Q (.exit i) ρ H:=by
 unfold W
 rw[aaZ]
 exact propext ⟨fun⟨_,_,_,h,hq⟩=>(by cases h;exact hq),fun h=>⟨_,_,_,rfl,h⟩⟩
theorem awZ:W lo .ret Q ρ H=Q .ret ρ H:=by
 unfold W
 rw[ajG]
 exact propext ⟨fun⟨_,_,_,h,hq⟩=>(by cases h;exact hq),fun h=>⟨_,_,_,rfl,h⟩⟩
theorem ayZ {ops:List PI}:W lo (.dE ops) Q ρ H=WS lo ops (Q .normal) ρ H:=by
 unfold W WS
 rw[aeG]
 apply propext
 constructor
 ·rintro⟨x,bI,H',h,hq⟩
  cases hs:iQ (call cfg fA) lo ops ρ H with
  | none=>rw[hs] at h;cases h
  |
   some q =>
   rw[hs] at h
   cases h
   exact⟨_,_,rfl,hq⟩
 ·rintro⟨bI,H',h,hq⟩
  exact⟨_,_,_,by rw[h];rfl,hq⟩
theorem axB {a:aD}:W lo (.seq a b) Q ρ H=W lo a (aCa lo b Q) ρ H:=by
 unfold W
 rw[ahX]
 apply propext
 constructor
 ·rintro⟨x,bI,H',h,hq⟩
  split at h
  ·rename_i yY H1 h1
   exact⟨_,_,_,h1,x,bI,H',h,hq⟩
  ·rename_i fT
   refine⟨x,bI,H',h,?_⟩
   cases x with
   | normal=>exact absurd h (fT _ _)
   | exit i=>exact hq
   | ret=>exact hq
 ·rintro⟨x,bI,H',h,hq⟩
  rw[h]
  cases x with
  | normal=>exact hq
  | exit i=>exact⟨_,_,_,rfl,hq⟩
  | ret=>exact⟨_,_,_,rfl,hq⟩
theorem amY {a:aD}:W lo (.block id a) Q ρ H=W lo a (axY id Q) ρ H:=by
 unfold W
 rw[WU]
 apply propext
 constructor
 ·rintro⟨x,bI,H',h,hq⟩
  split at h
  ·rename_i Uu yY H1 h1
   refine⟨_,_,_,h1,?_⟩
   rw[Js]
   split at h
   ·rename_i he;cases h;rw[if_pos he];exact hq
   ·rename_i he;cases h;rw[if_neg he];exact hq
  ·rename_i fT
   refine⟨x,bI,H',h,?_⟩
   cases x with
   | normal=>exact hq
   | exit i=>exact absurd h (fT _ _ _)
   | ret=>exact hq
 ·rintro⟨x,bI,H',h,hq⟩
  rw[h]
  cases x with
  | normal=>exact⟨_,_,_,rfl,hq⟩
  |
   exit i =>
   rw[Js] at hq
   show ∃x B3 H'',(if i=id then some (Ex.normal,bI,H') else some (Ex.exit i,bI,H'))=some (x,B3,H'')∧Q x B3 H''
   split at hq
   ·rename_i he;rw[if_pos he];exact⟨_,_,_,rfl,hq⟩
   ·rename_i he;rw[if_neg he];exact⟨_,_,_,rfl,hq⟩
  | ret=>exact⟨_,_,_,rfl,hq⟩
theorem atI {x:Operand} {a:aD}:W lo (.cond x a b) Q ρ H=∃t,ev ρ x = .bool t∧((t=true→W lo a Q ρ H)∧(t=false→W lo b Q ρ H)):=by
 unfold W
 rw[abR]
 apply propext
 constructor
 ·rintro⟨y,bI,H',h,hq⟩
  split at h
  ·rename_i t ht
   cases t with
   | true=>exact⟨true,ht,fun _=>⟨y,bI,H',h,hq⟩,fun h=>by cases h⟩
   | false=>exact⟨false,ht,fun h=>(by cases h),fun _=>⟨y,bI,H',h,hq⟩⟩
  ·cases h
 ·rintro⟨t,ht,h1,h2⟩
  rw[ht]
  cases t with
  | true=>exact h1 rfl
  | false=>exact h2 rfl
theorem W.mono {Q':Ex→Env→aF→Prop} {c:aD} (h:W lo c Q ρ H) (hq:∀x ρ H,Q x ρ H→Q' x ρ H):W lo c Q' ρ H:=by
 obtain⟨x,bI,H',h1,h2⟩:=h
 exact⟨x,bI,H',h1,hq _ _ _ h2⟩
noncomputable def kP (lo:Nat) (q:Bool) (op:oQ) (ρ:Env) (H:aF):Option (Value×aF) :=
 match pop lo op ρ H with
 | some (.val v H')=>some (v,H')
 | some (.call f args)=>sX f args (if q then H.length else lo) H
 | none=>none
theorem aqD:WS lo [] K ρ H=K ρ H:=by
 unfold WS
 apply propext
 constructor
 ·rintro⟨bI,H',h,hk⟩;cases h;exact hk
 ·intro h;exact⟨ρ,H,rfl,h⟩
theorem ayF {i:PI} {is:List PI}:WS lo (i::is) K ρ H=∃v H',AM sX lo i ρ H=some (v,H')∧WS lo is K (put ρ i.dst v) H':=by
 unfold WS
 apply propext
 constructor
 ·rintro⟨bI,H',h,hk⟩
  rw[iQ] at h
  split at h
  ·rename_i yY H1 h1
   obtain⟨v,hv,rfl⟩:=Ae h1
   exact⟨v,H1,hv,bI,H',h,hk⟩
  ·cases h
 ·rintro⟨v,H1,hv,bI,H',h,hk⟩
  refine⟨bI,H',?_,hk⟩
  rw[iQ]
  unfold Ah
  rw[hv]
  exact h
variable {q:Bool}
theorem dX {op:oQ} (h:vH op=true):kP lo q op ρ H=(jM op ρ).map (·,H):=by
 unfold kP
 rw[Av h]
 cases jM op ρ<;>rfl
theorem alT {x:Operand}:kP lo q (.mv x) ρ H=some (ev ρ x,H):=rfl
theorem abN {c a b:Operand}:kP lo q (.pick c a b) ρ H=(match ev ρ c with | .bool t=>some ((if t=true then ev ρ a else ev ρ b),H) | _=>none):=by
 rw[dX rfl]
 simp only[jM]
 cases ev ρ c<;>rfl
theorem agJ {op:BinOp} {x y:Operand}:kP lo q (.bin op x y) ρ H=(dN op (ev ρ x) (ev ρ y)).map (·,H):=dX rfl
theorem amR {op:UnOp} {x:Operand}:kP lo q (.un op x) ρ H=(pun op (ev ρ x)).map (·,H):=dX rfl
theorem ZZ {f:Nat} {args:List Operand}:kP lo q (.call f args) ρ H=sX f (args.map (ev ρ)) (if q then H.length else lo) H:=rfl
end
theorem ahZ {f lo:Nat} {pf:aR} {args:List Value} {H:aF} {R:Value→aF→Prop} (ht:fA f=some pf) (ha:args.length≤pf.ntmps) (h:W lo pf.body (aA1 pf.res R) (aaD args) H):∃v H',sX f args lo H=some (v,H')∧R v H':=by
 obtain⟨x,bI,H',h1,h2⟩:=h
 show ∃v H',call cfg fA f args lo H=some (v,H')∧R v H'
 rw[amI cfg fA (Wq ht) ht]
 unfold aqT
 rw[if_pos ha,h1]
 cases x with
 | exit i=>exact h2.elim
 |
  normal =>
  obtain⟨v,h3,h4⟩:=h2
  exact⟨v,H',by simp only;rw[h3];rfl,h4⟩
 |
  ret =>
  obtain⟨v,h3,h4⟩:=h2
  exact⟨v,H',by simp only;rw[h3];rfl,h4⟩
end Go.PM
namespace Go.PM
theorem wrap64 {x:Int} (h1 : -9223372036854775808≤x) (h2:x≤9223372036854775807):IntKind.i64.wrap x=x:=by
 rw[IntKind.wrap_i64]
 omega
section
variable {k:IntKind} {a b:Int}
theorem Vg:dN .add (.int k a) (.int k b)=some (.int k (k.wrap (a+b))):=by simp[dN]
theorem TE:dN .sub (.int k a) (.int k b)=some (.int k (k.wrap (a-b))):=by simp[dN]
theorem TN:dN .mul (.int k a) (.int k b)=some (.int k (k.wrap (a*b))):=by simp[dN]
theorem Vm (h:b≠0):dN .rem (.int k a) (.int k b)=some (.int k (a.tmod b)):=by simp[dN,h]
theorem U0:dN .lss (.int k a) (.int k b)=some (.bool (decide (a<b))):=by simp[dN]
theorem S5:dN .leq (.int k a) (.int k b)=some (.bool (decide (a≤b))):=by simp[dN]
theorem UX:dN .gtr (.int k a) (.int k b)=some (.bool (decide (b<a))):=by simp[dN]
theorem Ux:dN .geq (.int k a) (.int k b)=some (.bool (decide (b≤a))):=by simp[dN]
theorem Ud:dN .eql (.int k a) (.int k b)=some (.bool (decide (a=b))):=by
 simp only[dN,if_true]
 rfl
theorem Tf:dN .neq (.int k a) (.int k b)=some (.bool (!decide (a=b))):=by
 simp only[dN,if_true]
 rfl
theorem XX:pun .neg (.int k a)=some (.int k (k.wrap (0-a))):=rfl
theorem Yt {t:Bool}:pun .not (.bool t)=some (.bool (!t)):=rfl
end
def apZ:Value→Option Value
 | .slice _ n _=>some (.int .i64 n)
 | _=>none
def Pv (neg:Bool):Value→Value→Option Value
 | .bool a,.bool b=>some (.bool ((a == b) != neg))
 | _,_=>none
def aeD (neg:Bool):Value→Option Value
 | .slice none _ _=>some (.bool (true != neg))
 | .slice (some _) _ _=>some (.bool (false != neg))
 | _=>none
def agU (neg:Bool) (ks:List CK):Value→Value→Option Value
 | .agg a,.agg b=>(qH ks a.toList b.toList).map fun t => .bool (t != neg)
 | _,_=>none
def Xm (k:IntKind):Value→Option Value
 | .int _ n=>some (.int k (k.wrap n))
 | _=>none
def arO (i:Nat):Value→Option Value
 | .tuple vs=>vs[i]?
 | _=>none
def amK (agg:Bool) (off size:Nat):Value→Option Value
 | .agg cs=>if agg then (if off+size≤cs.size then some (.agg (cs.extract off (off+size))) else none) else cs[off]?
 | _=>none
def axC:Value→Option Value
 | .pointer (some a)=>some (.pointer (some a))
 | _=>none
def aiG (off:Nat):Value→Option Value
 | .pointer (some ⟨b,o,none⟩)=>some (.pointer (some ⟨b,o+off,none⟩))
 | _=>none
def RW (size:Nat):Value→Value→Option Value
 | .slice (some ⟨b,o,none⟩) n _,.int _ i=>if 0≤i∧i<n then some (.pointer (some ⟨b,o+i.toNat*size,none⟩)) else none
 | _,_=>none
def TZ:Value→Value→Option Value
 | .int k a,.int _ b=>some (.int k (if b<a then b else a))
 | _,_=>none
def UQ:Value→Value→Option Value
 | .int k a,.int _ b=>some (.int k (if b>a then b else a))
 | _,_=>none
section
variable {lo:Nat} {ρ:Env} {H:aF} {q:Bool}
theorem qQ {op:oQ} {r:Option (Value×aF)} (h:pop lo op ρ H=r.map fun(v,H') => .val v H'):kP lo q op ρ H=r:=by
 unfold kP
 rw[h]
 cases r<;>rfl
theorem ahV {x:Operand}:kP lo q (.len x) ρ H=(apZ (ev ρ x)).map (·,H):=dX rfl
theorem aeF {neg:Bool} {x y:Operand}:kP lo q (.eqb neg x y) ρ H=(Pv neg (ev ρ x) (ev ρ y)).map (·,H):=dX rfl
theorem WY {neg:Bool} {x:Operand}:kP lo q (.isnil neg x) ρ H=(aeD neg (ev ρ x)).map (·,H):=dX rfl
theorem Xg {neg:Bool} {ks:List CK} {x y:Operand}:kP lo q (.eqagg neg ks x y) ρ H=(agU neg ks (ev ρ x) (ev ρ y)).map (·,H):=dX rfl
theorem aiV {k:IntKind} {x:Operand}:kP lo q (.cvt k x) ρ H=(Xm k (ev ρ x)).map (·,H):=dX rfl
theorem agC {i:Nat} {x:Operand}:kP lo q (.ext x i) ρ H=(arO i (ev ρ x)).map (·,H):=dX rfl
theorem agS {agg:Bool} {off size:Nat} {x:Operand}:kP lo q (.fld agg off size x) ρ H=(amK agg off size (ev ρ x)).map (·,H):=dX rfl
theorem WW {z:List Value} {places:List (Nat×Nat)} {parts:List (Nat×Operand)}:kP lo q (.build z places parts) ρ H=((xX places z (parts.map fun(i,x)=>(i,ev ρ x))).map fun cs=>Value.agg cs.toArray).map (·,H):=dX rfl
theorem aiI {x:Operand}:kP lo q (.chk x) ρ H=(axC (ev ρ x)).map (·,H):=dX rfl
theorem VZ {off:Nat} {x:Operand}:kP lo q (.faddr off x) ρ H=(aiG off (ev ρ x)).map (·,H):=dX rfl
theorem Wa {size:Nat} {x i:Operand}:kP lo q (.iaddr size x i) ρ H=(RW size (ev ρ x) (ev ρ i)).map (·,H):=dX rfl
theorem Zr {f:Nat} {gL:List Operand}:kP lo q (.mkfn f gL) ρ H=some (.func (.func f) #[] (gL.map (ev ρ)).toArray,H):=dX rfl
theorem adJ {x y:Operand}:kP lo q (.min x y) ρ H=(TZ (ev ρ x) (ev ρ y)).map (·,H):=dX rfl
theorem ahC {x y:Operand}:kP lo q (.max x y) ρ H=(UQ (ev ρ x) (ev ρ y)).map (·,H):=dX rfl
theorem aaU {agg:Bool} {size:Nat} {p:Operand}:kP lo q (.load agg size p) ρ H=(oX agg size (ev ρ p) H).map (·,H):=by
 unfold kP
 simp only[pop]
 cases oX agg size (ev ρ p) H<;>rfl
theorem afU {size:Nat} {x:Operand} {l h m:Option Operand}:kP lo q (.sub size x l h m) ρ H=DP size (ev ρ x) (l.map (ev ρ)) (h.map (ev ρ)) (m.map (ev ρ)) H:=by
 unfold kP
 simp only[pop]
 cases DP size (ev ρ x) (l.map (ev ρ)) (h.map (ev ρ)) (m.map (ev ρ)) H<;>rfl
theorem afC {z:List Value}:kP lo q (.new z) ρ H=some (.pointer (some ⟨H.length,0,none⟩),H++[.row z z.length false]):=rfl
theorem ahF {x:Operand}:kP lo q (.box x) ρ H=if (aU (ev ρ x)).all gM then some (.pointer (some ⟨H.length,0,none⟩),H++[.row (aU (ev ρ x)) (aU (ev ρ x)).length false]) else none:=by
 apply qQ
 simp only[pop]
 by_cases h:(aU (ev ρ x)).all gM=true
 ·rw[if_pos h,if_pos h];rfl
 ·rw[if_neg h,if_neg h];rfl
def Yj (z:List Value) (bytes:Nat) (l c:Value) (H:aF):Option (Value×aF) :=
 match l,c with
 | .int .i64 l,.int .i64 c=>if 0≤l∧l≤c∧c*bytes≤281474976710656∧c≤9223372036854775807 then
  some (.slice (some ⟨H.length,0,none⟩) l.toNat c.toNat,H++[.row (dF c.toNat z) z.length false]) else none
 | _,_=>none
theorem aaI {z:List Value} {bytes:Nat} {l c:Operand}:kP lo q (.make z bytes l c) ρ H=Yj z bytes (ev ρ l) (ev ρ c) H:=by
 apply qQ
 simp only[pop]
 unfold Yj
 split
 ·rename_i l c h1 h2
  simp only[h1,h2]
  split<;>rfl
 ·rename_i h1
  split
  ·rename_i h2 h3
   exact(h1 _ _ h2 h3).elim
  ·rfl
def anW (z:List Value) (n:Nat) (parts:List (Nat×Value)) (H:aF):Option (Value×aF) :=
 match xX ((List.range n).map fun i=>(i*z.length,z.length)) (dF n z) parts with
 | some cs=>if cs.all gM then some (.slice (some ⟨H.length,0,none⟩) n n,H++[.row cs z.length false]) else none
 | none=>none
theorem aeY {z:List Value} {n:Nat} {parts:List (Nat×Operand)}:kP lo q (.lit z n parts) ρ H=anW z n (parts.map fun(i,x)=>(i,ev ρ x)) H:=by
 apply qQ
 simp only[pop]
 unfold anW
 split
 ·rename_i cs h1
  simp only[h1]
  split<;>rfl
 ·rename_i h1
  simp only[h1]
  rfl
def Hh (lo size:Nat) (p v:Value) (H:aF):Option (Value×aF) :=
 match p with
 | .pointer (some ⟨b,o,none⟩)=>if (aU v).length=size then (H.write lo b o (aU v)).map fun H'=>(undef,H') else none
 | _=>none
theorem Wb {size:Nat} {p v:Operand}:kP lo q (.store size p v) ρ H=Hh lo size (ev ρ p) (ev ρ v) H:=by
 apply qQ
 simp only[pop]
 unfold Hh
 split
 ·rename_i b o h1
  simp only[h1]
  split
  ·cases H.write lo b o (aU (ev ρ v))<;>rfl
  ·rfl
 ·rename_i h1
  split
  ·rename_i h2
   exact(h1 _ _ h2).elim
  ·rfl
def arT (lo size bytes:Nat) (x y:Value) (H:aF):Option (Value×aF) :=
 match tW y with
 |
  some n=>match jY H size n y with
  | some new=>fL lo size bytes x n new H
  | none=>none
 | none=>none
theorem afN {size bytes:Nat} {x y:Operand}:kP lo q (.app size bytes x y) ρ H=arT lo size bytes (ev ρ x) (ev ρ y) H:=by
 apply qQ
 simp only[pop]
 unfold arT
 cases tW (ev ρ y) with
 | none=>rfl
 |
  some n =>
  cases hs:jY H size n (ev ρ y) with
  | none=>simp only[hs];rfl
  | some new=>simp only[hs]
def aeM (lo:Nat) (z:List Value) (bytes:Nat) (x n:Value) (H:aF):Option (Value×aF) :=
 match n with
 | .int .i64 n=>if 0≤n∧n*bytes≤140737488355328 then fL lo z.length bytes x n.toNat (dF n.toNat z) H else none
 | _=>none
theorem Zi {z:List Value} {bytes:Nat} {x n:Operand}:kP lo q (.appz z bytes x n) ρ H=aeM lo z bytes (ev ρ x) (ev ρ n) H:=by
 apply qQ
 simp only[pop]
 unfold aeM
 split
 ·rename_i n h1
  simp only[h1]
  split<;>rfl
 ·rename_i h1
  split
  ·rename_i h2
   exact(h1 _ h2).elim
  ·rfl
def copyV (lo size:Nat) (x y:Value) (H:aF):Option (Value×aF) :=
 match x,tW y with
 | .slice none _ _,some _=>some (.int .i64 0,H)
 |
  .slice (some ⟨b,o,none⟩) d _,some s=>match jY H size (Nat.min s d) y with
  | some new=>(H.write lo b o new).map fun H'=>(.int .i64 (Nat.min s d),H')
  | none=>none
 | _,_=>none
theorem abD {size:Nat} {x y:Operand}:kP lo q (.copy size x y) ρ H=copyV lo size (ev ρ x) (ev ρ y) H:=by
 apply qQ
 simp only[pop]
 unfold copyV
 split
 ·rename_i h1 h2
  simp only[h1,h2]
  rfl
 ·rename_i b o d _ s h1 h2
  simp only[h1,h2]
  cases hs:jY H size (Nat.min s d) (ev ρ y) with
  | none=>rfl
  |
   some new =>
   simp only
   cases H.write lo b o new<;>rfl
 ·rename_i h1 h2
  split
  ·rename_i h3 h4
   exact(h1 _ _ _ h3 h4).elim
  ·rename_i h3 h4
   exact(h2 _ _ _ _ _ h3 h4).elim
  ·rfl
def R4 (lo:Nat) (z:List Value) (x:Value) (H:aF):Option (Value×aF) :=
 match x with
 | .slice none _ _=>some (undef,H)
 | .slice (some ⟨b,o,none⟩) n _=>if n=0 then some (undef,H) else (H.write lo b o (dF n z)).map fun H'=>(undef,H')
 | _=>none
theorem Xy {z:List Value} {x:Operand}:kP lo q (.clear z x) ρ H=R4 lo z (ev ρ x) H:=by
 apply qQ
 simp only[pop]
 unfold R4
 split
 ·rename_i h1
  simp only[h1]
  rfl
 ·rename_i b o n _ h1
  simp only[h1]
  split
  ·rfl
  ·cases H.write lo b o (dF n z)<;>rfl
 ·rename_i h1 h2
  split
  ·rename_i h3
   exact(h1 _ _ h3).elim
  ·rename_i h3
   exact(h2 _ _ _ _ h3).elim
  ·rfl
noncomputable def acZ (lo:Nat) (fv:Value) (args:List Value) (H:aF):Option (Value×aF) :=
 match fv with
 | .func (.func f) first gL=>sX f (first.toList++args++gL.toList) lo H
 | _=>none
theorem Xl {fv:Operand} {args:List Operand}:kP lo q (.callv fv args) ρ H=acZ (if q then H.length else lo) (ev ρ fv) (args.map (ev ρ)) H:=by
 unfold kP
 simp only[pop]
 unfold acZ
 generalize ev ρ fv=v
 cases v with
 | func fn f c=>cases fn<;>rfl
 | _=>rfl
end
end Go.PM
namespace Go.PM
section
variable {lo:Nat} {Q:Ex→Env→aF→Prop} {K:Env→aF→Prop} {ρ:Env} {H:aF} {q:Bool}
def avE (u v:Value):Bool:=match jW u,jW v with
 | some a,some b=>a != b
 | _,_=>true
end
theorem Zb {k:IntKind} {a b:Int}:UQ (.int k a) (.int k b)=some (.int k (max a b)):=by
 simp only[UQ]
 congr 2
 split<;>omega
theorem Ys {k:IntKind} {a b:Int}:TZ (.int k a) (.int k b)=some (.int k (min a b)):=by
 simp only[TZ]
 congr 2
 split<;>omega
end Go.PM
namespace Go.PM
abbrev ptr (b o:Nat):Value := .pointer (some ⟨b,o,none⟩)
abbrev I (n:Int):Value := .int .i64 n
section
variable {H H':aF} {lo b o n size:Nat} {cs r:List Value} {L K:aF} {v:Value}
theorem SP (hb:b<H.length):(H++L)[b]? = H[b]? := List.getElem?_append_left hb
theorem Yf {x:PO}:(H++x::L)[H.length]? = some x:=by simp
theorem ahT (hb:b<H.length):(H++L).read b o n=H.read b o n:=GN (SP hb)
theorem Cc {e:Nat} {p:Bool} (h:H[b]? = some (.row r e p)) (hn:o+n≤r.length):H.read b o n=some ((r.drop o).take n):=by
 unfold aF.read
 rw[h]
 simp only[hn,if_true]
structure Eb (H:aF) (b o:Nat) (cs:List Value):Prop where
 lt:b<H.length
 rd:H.read b o cs.length=some cs
theorem Eb.app (h:Eb H b o cs):Eb (H++L) b o cs:=⟨by have:=h.lt;simp;omega,by rw[ahT h.lt];exact h.rd⟩
theorem Eb.pre (h:Eb H b o cs) (hp:H <+: H'):Eb H' b o cs:=by
 obtain⟨L,rfl⟩:=hp
 exact h.app
theorem Eb.all (h:Eb H b o cs) (hs:cs.length=size):oX true size (.pointer (some ⟨b,o,none⟩)) H=some (.agg cs.toArray):=by
 subst hs
 simp only[oX,if_true,h.rd]
 rfl
theorem Eb.one {u:Value} (h:Eb H b o [u]):oX false size (.pointer (some ⟨b,o,none⟩)) H=some u:=by
 have:=h.rd
 simp only[List.length_cons,List.length_nil] at this
 simp only[oX,this]
 rfl
theorem Eb.sub {k:Nat} {u:Value} (h:Eb H b o cs) (hk:cs[k]? = some u):Eb H b (o+k) [u]:=by
 refine⟨h.lt,?_⟩
 have h1:=h.rd
 unfold aF.read at h1 ⊢
 split at h1
 ·rename_i r e p hb
  split at h1
  ·rename_i hl
   have hk':=(List.getElem?_eq_some_iff.1 hk).1
   simp only[List.length_cons,List.length_nil]
   rw[if_pos (by simp;omega)]
   injection h1 with h1
   rw[←h1] at hk
   rw[List.getElem?_take,if_pos (by omega),List.getElem?_drop] at hk
   have bH:=(List.getElem?_eq_some_iff.1 hk).1
   rw[List.drop_eq_getElem_cons bH]
   simp only[List.take_succ_cons,List.take_zero]
   rw[List.getElem?_eq_getElem bH] at hk
   injection hk with hk
   rw[hk]
  ·cases h1
 ·cases h1
theorem Eb.fld {k:Nat} {u:Value} (h:Eb H b o cs) (hk:cs[k]? = some u):oX false size (.pointer (some ⟨b,o+k,none⟩)) H=some u:=(h.sub hk).one
theorem Vh {a:Nat} {c:Nat} {i:Int} {k:IntKind} (h0:0≤i) (h1:i<n):RW size (.slice (some ⟨b,a,none⟩) n c) (.int k i)=some (.pointer (some ⟨b,a+i.toNat*size,none⟩)):=by
 simp only[RW]
 rw[if_pos ⟨h0,h1⟩]
structure Arr {α:Type} (enc:α→List Value) (gC:Nat) (H:aF) (a:Option Addr) (n:Nat) (xs:List α):Prop where
 len:n=xs.length
 el:∀(i:Nat) x,xs[i]? = some x→∃b o,a=some ⟨b,o,none⟩∧Eb H b (o+i*gC) (enc x)
theorem Arr.pre {α:Type} {enc:α→List Value} {gC:Nat} {a:Option Addr} {xs:List α} (h:Arr enc gC H a n xs) (hp:H <+: H'):Arr enc gC H' a n xs :=
 ⟨h.len,fun i x hx=>by obtain⟨b,o,h1,h2⟩:=h.el i x hx;exact⟨b,o,h1,h2.pre hp⟩⟩
end
structure kQ where
 t:Int
 w:Int
 k:Int
 deriving DecidableEq
def cc (c:kQ):List Value:=[I c.t,I c.w,I c.k]
def ci (n:Int):List Value:=[I n]
end Go.PM
namespace Go.PM
structure Lv {α:Type} (enc:α→List Value) (gC:Nat):Prop where
 len:∀x,(enc x).length=gC
 sc:∀x,(enc x).all gM=true
 pos:1≤gC
section
variable {α:Type} {enc:α→List Value} {gC:Nat} {H H':aF} {lo b:Nat} {xs ys:List α} {p:Bool}
theorem OS (e:Lv enc gC):(xs.flatMap enc).length=xs.length*gC:=by
 induction xs with
 | nil=>simp
 | cons x xs ih=>simp only[List.flatMap_cons,List.length_append,e.len,ih,List.length_cons,Nat.succ_mul];omega
theorem JM (e:Lv enc gC) (i:Nat):(xs.flatMap enc).drop (i*gC)=(xs.drop i).flatMap enc:=by
 induction i generalizing xs with
 | zero=>simp
 |
  succ i ih =>
  cases xs with
  | nil=>simp
  |
   cons x xs =>
   rw[List.flatMap_cons,List.drop_succ_cons,←ih,show (i+1)*gC=(enc x).length+i*gC by rw[e.len,Nat.succ_mul];omega,List.drop_append]
   simp
theorem QJ (e:Lv enc gC) (i:Nat):(xs.flatMap enc).take (i*gC)=(xs.take i).flatMap enc:=by
 induction i generalizing xs with
 | zero=>simp
 |
  succ i ih =>
  cases xs with
  | nil=>simp
  |
   cons x xs =>
   rw[List.flatMap_cons,List.take_succ_cons,List.flatMap_cons,←ih,show (i+1)*gC=(enc x).length+i*gC by rw[e.len,Nat.succ_mul];omega,List.take_append]
   simp
   exact List.take_of_length_le (by omega)
theorem Uz (e:Lv enc gC) {i:Nat} (x:α) (hi:i<xs.length):jS (xs.flatMap enc) (i*gC) (enc x)=(xs.set i x).flatMap enc:=by
 unfold jS
 rw[QJ e,e.len,show i*gC+gC=(i+1)*gC by rw[Nat.succ_mul],JM e,List.set_eq_take_append_cons_drop,if_pos hi]
 simp
def Row (enc:α→List Value) (gC:Nat) (H:aF) (b:Nat) (p:Bool) (xs:List α):Prop:=H[b]? = some (.row (xs.flatMap enc) gC p)
theorem Row.lt (h:Row enc gC H b p xs):b<H.length:=(List.getElem?_eq_some_iff.1 h).1
theorem Row.pre (h:Row enc gC H b p xs) (hp:H <+: H'):Row enc gC H' b p xs:=by
 obtain⟨L,rfl⟩:=hp
 unfold Row
 rw[SP h.lt]
 exact h
theorem Row.elem (h:Row enc gC H b p xs) (e:Lv enc gC) {i:Nat} {x:α} (hx:xs[i]? = some x):Eb H b (i*gC) (enc x):=by
 refine⟨h.lt,?_⟩
 have hi:=(List.getElem?_eq_some_iff.1 hx).1
 have hm:(i+1)*gC≤xs.length*gC:=Nat.mul_le_mul_right _ hi
 rw[Nat.succ_mul] at hm
 rw[Cc h (by rw[e.len,OS e];omega),JM e,e.len]
 have:=QJ (xs:=xs.drop i) e 1
 rw[Nat.one_mul] at this
 rw[this,List.drop_eq_getElem_cons hi]
 rw[List.getElem?_eq_getElem hi] at hx
 injection hx with hx
 simp[hx]
theorem Row.arr (h:Row enc gC H b p xs) (e:Lv enc gC) {n:Nat} (hn:n≤xs.length):Arr enc gC H (some ⟨b,0,none⟩) n (xs.take n):=by
 refine⟨by simp;omega,fun i x hx=>⟨b,0,rfl,?_⟩⟩
 rw[Nat.zero_add]
 refine h.elem e ?_
 rw[List.getElem?_take] at hx
 split at hx
 ·exact hx
 ·cases hx
theorem Row.store (h:Row enc gC H b p xs) (e:Lv enc gC) {i:Nat} {x:α} {u:Value} (hu:aU u=enc x) (hi:i<xs.length) (hl:lo≤b):Hh lo gC (.pointer (some ⟨b,i*gC,none⟩)) u H=some (undef,H.set b (.row ((xs.set i x).flatMap enc) gC p)):=by
 simp only[Hh,aF.write,hu,e.len,if_true]
 have h':H[b]? = some (.row (xs.flatMap enc) gC p):=h
 have hm:(i+1)*gC≤xs.length*gC:=Nat.mul_le_mul_right _ hi
 rw[Nat.succ_mul] at hm
 simp only[h']
 rw[if_pos ⟨hl,by rw[OS e];omega,e.sc x⟩,Uz e x hi]
 rfl
theorem Row.set (h:Row enc gC H b p xs) (ys:List α):Row enc gC (H.set b (.row (ys.flatMap enc) gC p)) b p ys:=by
 unfold Row
 rw[List.getElem?_set_self h.lt]
theorem UO (e:Lv enc gC) {n:Nat} {x:α}:dF n (enc x)=(List.replicate n x).flatMap enc:=by
 have mC:=e.pos
 have hlen:=e.len x
 apply List.ext_getElem?
 intro i
 unfold dF
 rw[List.getElem?_map,hlen]
 rcases Nat.lt_or_ge i (n*gC) with hi | hi
 ·rw[List.getElem?_range hi]
  have hq:i / gC<n:=Nat.div_lt_of_lt_mul (by rw[Nat.mul_comm];exact hi)
  have h1:((List.replicate n x).flatMap enc)[i]? = (((List.replicate n x).flatMap enc).drop (i / gC*gC))[i % gC]? := by
   rw[List.getElem?_drop]
   congr 1
   rw[Nat.mul_comm]
   exact(Nat.div_add_mod i gC).symm
  have hr:i % gC<(enc x).length:=by rw[hlen];exact Nat.mod_lt _ (by omega)
  rw[h1,JM e,List.drop_replicate,show n-i / gC=(n-i / gC-1)+1 by omega,List.replicate_succ,List.flatMap_cons,List.getElem?_append_left hr]
  simp[List.getD_eq_getElem?_getD,List.getElem?_eq_getElem hr]
 ·rw[List.getElem?_eq_none (by simpa using hi),List.getElem?_eq_none (by rw[OS e];simpa using hi)]
  rfl
theorem Row.top {K:aF}:Row enc gC (H ++ .row (xs.flatMap enc) gC p::K) H.length p xs:=Yf
end
end Go.PM
namespace Go.PM
section
variable {H L:aF} {lo k o size:Nat} {agg:Bool} {u:Value}
end
end Go.PM
namespace Go.Proofs
open Go.Shelf
def MV:Go.Shelf.Ren:=⟨fun | 156=>217 | 165=>232 | 166=>233 | 169=>235 | 240=>245 | 241=>246 | 276=>253 | 277=>254 | n=>n,fun | 31=>33 | 9=>9 | 3=>3 | 4=>4 | 0=>0 | 20=>20 | 72=>262 | 76=>264 | 70=>260 | 37=>187 | 75=>220 | 127=>276 | 164=>285 | 5=>5 | 80=>227 | n=>n,fun | n=>n⟩
theorem Xi:Go.Proofs.Lays.n156 Tryz.prog MV:={
 mixed:=by kernel_rfl
 f156:=Tryz.func217.trans (congrArg some (by kernel_rfl))
 f165:=Tryz.func232.trans (congrArg some (by kernel_rfl))
 f166:=Tryz.func233.trans (congrArg some (by kernel_rfl))
 f169:=Tryz.func235.trans (congrArg some (by kernel_rfl))
 f240:=Tryz.func245.trans (congrArg some (by kernel_rfl))
 f241:=Tryz.func246.trans (congrArg some (by kernel_rfl))
 f276:=Tryz.func253.trans (congrArg some (by kernel_rfl))
 f277:=Tryz.func254.trans (congrArg some (by kernel_rfl))
 t0:=Tryz.underlying0
 a0:=Tryz.isAgg0
 z0:=Tryz.sizeOf0
 v0:=Tryz.zeroValue0
 t3:=Tryz.underlying3
 a3:=Tryz.isAgg3
 z3:=Tryz.sizeOf3
 v3:=Tryz.zeroValue3
 t4:=Tryz.underlying4
 a4:=Tryz.isAgg4
 z4:=Tryz.sizeOf4
 v4:=Tryz.zeroValue4
 t9:=Tryz.underlying9
 a9:=Tryz.isAgg9
 z9:=Tryz.sizeOf9
 v9:=Tryz.zeroValue9
 t20:=Tryz.underlying20
 a20:=Tryz.isAgg20
 z20:=Tryz.sizeOf20
 v20:=Tryz.zeroValue20
 t31:=Tryz.underlying33
 a31:=Tryz.isAgg33
 z31:=Tryz.sizeOf33
 v31:=Tryz.zeroValue33
 t37:=Tryz.underlying187
 a37:=Tryz.isAgg187
 z37:=Tryz.sizeOf187
 v37:=Tryz.zeroValue187
 t70:=Tryz.underlying260
 a70:=Tryz.isAgg260
 z70:=Tryz.sizeOf260
 v70:=Tryz.zeroValue260
 t72:=Tryz.underlying262
 a72:=Tryz.isAgg262
 z72:=Tryz.sizeOf262
 v72:=Tryz.zeroValue262
 t75:=Tryz.underlying220
 a75:=Tryz.isAgg220
 z75:=Tryz.sizeOf220
 v75:=Tryz.zeroValue220
 t76:=Tryz.underlying264
 a76:=Tryz.isAgg264
 z76:=Tryz.sizeOf264
 v76:=Tryz.zeroValue264
 t127:=Tryz.underlying276
 a127:=Tryz.isAgg276
 z127:=Tryz.sizeOf276
 v127:=Tryz.zeroValue276
 t164:=Tryz.underlying285
 a164:=Tryz.isAgg285
 z164:=Tryz.sizeOf285
 v164:=Tryz.zeroValue285 }
theorem Sw:Builder.Extra Tryz.prog MV:={
 sizeBuilder:=by kernel_rfl
 liesBuilder:=by kernel_rfl
 t5:=Tryz.underlying5
 a5:=Tryz.isAgg5
 z5:=Tryz.sizeOf5
 v5:=Tryz.zeroValue5
 infoByte:=by kernel_rfl
 cellsByte:=by kernel_rfl
 sizeByte:=by kernel_rfl
 neB5:=by decide }
def XD:Go.Shelf.Ren:=⟨fun | 133=>198 | 128=>218 | n=>n,fun | 51=>206 | 3=>3 | 4=>4 | 46=>207 | 5=>5 | 9=>9 | n=>n,fun | n=>n⟩
theorem asF:Go.Proofs.Lays.n133 Tryz.prog XD:={
 mixed:=by kernel_rfl
 f128:=Tryz.func218.trans (congrArg some (by kernel_rfl))
 f133:=Tryz.func198.trans (congrArg some (by kernel_rfl))
 t3:=Tryz.underlying3
 a3:=Tryz.isAgg3
 z3:=Tryz.sizeOf3
 v3:=Tryz.zeroValue3
 t4:=Tryz.underlying4
 a4:=Tryz.isAgg4
 z4:=Tryz.sizeOf4
 v4:=Tryz.zeroValue4
 t5:=Tryz.underlying5
 a5:=Tryz.isAgg5
 z5:=Tryz.sizeOf5
 v5:=Tryz.zeroValue5
 t9:=Tryz.underlying9
 a9:=Tryz.isAgg9
 z9:=Tryz.sizeOf9
 v9:=Tryz.zeroValue9
 t46:=Tryz.underlying207
 a46:=Tryz.isAgg207
 z46:=Tryz.sizeOf207
 v46:=Tryz.zeroValue207
 t51:=Tryz.underlying206
 a51:=Tryz.isAgg206
 z51:=Tryz.sizeOf206
 v51:=Tryz.zeroValue206 }
def Wo:Go.Shelf.Ren:=⟨fun | 283=>241 | n=>n,fun | 3=>3 | 9=>9 | 4=>4 | n=>n,fun | n=>n⟩
theorem aqE:Go.Proofs.Lays.n283 Tryz.prog Wo:={
 mixed:=by kernel_rfl
 f283:=Tryz.func241.trans (congrArg some (by kernel_rfl))
 t3:=Tryz.underlying3
 a3:=Tryz.isAgg3
 z3:=Tryz.sizeOf3
 v3:=Tryz.zeroValue3
 t4:=Tryz.underlying4
 a4:=Tryz.isAgg4
 z4:=Tryz.sizeOf4
 v4:=Tryz.zeroValue4
 t9:=Tryz.underlying9
 a9:=Tryz.isAgg9
 z9:=Tryz.sizeOf9
 v9:=Tryz.zeroValue9 }
def Wx:Go.Shelf.Ren:=⟨fun | 284=>242 | 129=>249 | 317=>248 | 318=>250 | n=>n,fun | 53=>171 | 3=>3 | 212=>281 | 0=>0 | 4=>4 | 46=>207 | 5=>5 | 9=>9 | n=>n,fun | 17=>3 | n=>n⟩
theorem arJ:Go.Proofs.LaysM.n284 Tryz.prog Wx:={
 mixed:=by kernel_rfl
 f129:=Tryz.func249.trans (congrArg some (by kernel_rfl))
 f284:=Tryz.func242.trans (congrArg some (by kernel_rfl))
 f317:=Tryz.func248.trans (congrArg some (by kernel_rfl))
 f318:=Tryz.func250.trans (congrArg some (by kernel_rfl))
 t0:=Tryz.underlying0
 a0:=Tryz.isAgg0
 z0:=Tryz.sizeOf0
 v0:=Tryz.zeroValue0
 t3:=Tryz.underlying3
 a3:=Tryz.isAgg3
 z3:=Tryz.sizeOf3
 v3:=Tryz.zeroValue3
 t4:=Tryz.underlying4
 a4:=Tryz.isAgg4
 z4:=Tryz.sizeOf4
 v4:=Tryz.zeroValue4
 t5:=Tryz.underlying5
 a5:=Tryz.isAgg5
 z5:=Tryz.sizeOf5
 v5:=Tryz.zeroValue5
 t9:=Tryz.underlying9
 a9:=Tryz.isAgg9
 z9:=Tryz.sizeOf9
 v9:=Tryz.zeroValue9
 t46:=Tryz.underlying207
 a46:=Tryz.isAgg207
 z46:=Tryz.sizeOf207
 v46:=Tryz.zeroValue207
 t53:=Tryz.underlying171
 a53:=Tryz.isAgg171
 z53:=Tryz.sizeOf171
 v53:=Tryz.zeroValue171
 t212:=Tryz.underlying281
 a212:=Tryz.isAgg281
 z212:=Tryz.sizeOf281
 v212:=Tryz.zeroValue281
 g17:=by kernel_rfl
 i0:=by kernel_rfl
 i3:=by kernel_rfl
 i4:=by kernel_rfl
 i5:=by kernel_rfl
 i9:=by kernel_rfl
 i46:=by kernel_rfl
 i53:=by kernel_rfl
 i212:=by kernel_rfl
 m17:=by kernel_rfl }
def V6:Go.Shelf.Ren:=⟨fun | 285=>243 | n=>n,fun | 37=>187 | 53=>171 | 3=>3 | 4=>4 | 51=>206 | 9=>9 | 5=>5 | 0=>0 | n=>n,fun | n=>n⟩
theorem arS:Go.Proofs.Lays.n285 Tryz.prog V6:={
 mixed:=by kernel_rfl
 f285:=Tryz.func243.trans (congrArg some (by kernel_rfl))
 t0:=Tryz.underlying0
 a0:=Tryz.isAgg0
 z0:=Tryz.sizeOf0
 v0:=Tryz.zeroValue0
 t3:=Tryz.underlying3
 a3:=Tryz.isAgg3
 z3:=Tryz.sizeOf3
 v3:=Tryz.zeroValue3
 t4:=Tryz.underlying4
 a4:=Tryz.isAgg4
 z4:=Tryz.sizeOf4
 v4:=Tryz.zeroValue4
 t5:=Tryz.underlying5
 a5:=Tryz.isAgg5
 z5:=Tryz.sizeOf5
 v5:=Tryz.zeroValue5
 t9:=Tryz.underlying9
 a9:=Tryz.isAgg9
 z9:=Tryz.sizeOf9
 v9:=Tryz.zeroValue9
 t37:=Tryz.underlying187
 a37:=Tryz.isAgg187
 z37:=Tryz.sizeOf187
 v37:=Tryz.zeroValue187
 t51:=Tryz.underlying206
 a51:=Tryz.isAgg206
 z51:=Tryz.sizeOf206
 v51:=Tryz.zeroValue206
 t53:=Tryz.underlying171
 a53:=Tryz.isAgg171
 z53:=Tryz.sizeOf171
 v53:=Tryz.zeroValue171 }
def TG:Go.Shelf.Ren:=⟨fun | 14=>192 | 16=>211 | 17=>212 | 19=>224 | 20=>225 | 21=>226 | 22=>227 | 23=>228 | 24=>229 | 25=>238 | 27=>240 | 26=>239 | 28=>247 | 29=>255 | 30=>241 | 31=>242 | 32=>243 | 33=>244 | 35=>249 | 34=>248 | 36=>250 | 37=>251 | 38=>252 | 39=>256 | 40=>257 | n=>n,fun | 9=>9 | 3=>3 | 22=>171 | 24=>220 | 25=>221 | 4=>4 | 34=>255 | 5=>5 | 36=>207 | 37=>187 | 0=>0 | 39=>257 | 21=>21 | 44=>269 | 47=>276 | 50=>279 | 48=>277 | 2=>2 | 52=>271 | 55=>274 | 59=>281 | 60=>206 | 20=>20 | 61=>282 | 65=>289 | 66=>290 | 67=>227 | n=>n,fun | 0=>1 | 1=>2 | 2=>3 | 3=>4 | 4=>5 | n=>n⟩
theorem akY:Go.Proofs.LaysPu.n14 Tryz.prog TG:={
 mixed:=by kernel_rfl
 f14:=Tryz.func192.trans (congrArg some (by kernel_rfl))
 f16:=Tryz.func211.trans (congrArg some (by kernel_rfl))
 f17:=Tryz.func212.trans (congrArg some (by kernel_rfl))
 f19:=Tryz.func224.trans (congrArg some (by kernel_rfl))
 f20:=Tryz.func225.trans (congrArg some (by kernel_rfl))
 f21:=Tryz.func226.trans (congrArg some (by kernel_rfl))
 f22:=Tryz.func227.trans (congrArg some (by kernel_rfl))
 f23:=Tryz.func228.trans (congrArg some (by kernel_rfl))
 f24:=Tryz.func229.trans (congrArg some (by kernel_rfl))
 f25:=Tryz.func238.trans (congrArg some (by kernel_rfl))
 f26:=Tryz.func239.trans (congrArg some (by kernel_rfl))
 f27:=Tryz.func240.trans (congrArg some (by kernel_rfl))
 f28:=Tryz.func247.trans (congrArg some (by kernel_rfl))
 f29:=Tryz.func255.trans (congrArg some (by kernel_rfl))
 f30:=Tryz.func241.trans (congrArg some (by kernel_rfl))
 f31:=Tryz.func242.trans (congrArg some (by kernel_rfl))
 f32:=Tryz.func243.trans (congrArg some (by kernel_rfl))
 f33:=Tryz.func244.trans (congrArg some (by kernel_rfl))
 f34:=Tryz.func248.trans (congrArg some (by kernel_rfl))
 f35:=Tryz.func249.trans (congrArg some (by kernel_rfl))
 f36:=Tryz.func250.trans (congrArg some (by kernel_rfl))
 f37:=Tryz.func251.trans (congrArg some (by kernel_rfl))
 f38:=Tryz.func252.trans (congrArg some (by kernel_rfl))
 f39:=Tryz.func256.trans (congrArg some (by kernel_rfl))
 f40:=Tryz.func257.trans (congrArg some (by kernel_rfl))
 t0:=Tryz.underlying0
 a0:=Tryz.isAgg0
 z0:=Tryz.sizeOf0
 v0:=Tryz.zeroValue0
 i0:=by kernel_rfl
 t2:=Tryz.underlying2
 a2:=Tryz.isAgg2
 z2:=Tryz.sizeOf2
 v2:=Tryz.zeroValue2
 i2:=by kernel_rfl
 t3:=Tryz.underlying3
 a3:=Tryz.isAgg3
 z3:=Tryz.sizeOf3
 v3:=Tryz.zeroValue3
 i3:=by kernel_rfl
 t4:=Tryz.underlying4
 a4:=Tryz.isAgg4
 z4:=Tryz.sizeOf4
 v4:=Tryz.zeroValue4
 i4:=by kernel_rfl
 t5:=Tryz.underlying5
 a5:=Tryz.isAgg5
 z5:=Tryz.sizeOf5
 v5:=Tryz.zeroValue5
 i5:=by kernel_rfl
 t9:=Tryz.underlying9
 a9:=Tryz.isAgg9
 z9:=Tryz.sizeOf9
 v9:=Tryz.zeroValue9
 i9:=by kernel_rfl
 t20:=Tryz.underlying20
 a20:=Tryz.isAgg20
 z20:=Tryz.sizeOf20
 v20:=Tryz.zeroValue20
 i20:=by kernel_rfl
 t21:=Tryz.underlying21
 a21:=Tryz.isAgg21
 z21:=Tryz.sizeOf21
 v21:=Tryz.zeroValue21
 i21:=by kernel_rfl
 t22:=Tryz.underlying171
 a22:=Tryz.isAgg171
 z22:=Tryz.sizeOf171
 v22:=Tryz.zeroValue171
 i22:=by kernel_rfl
 t24:=Tryz.underlying220
 a24:=Tryz.isAgg220
 z24:=Tryz.sizeOf220
 v24:=Tryz.zeroValue220
 i24:=by kernel_rfl
 t25:=Tryz.underlying221
 a25:=Tryz.isAgg221
 z25:=Tryz.sizeOf221
 v25:=Tryz.zeroValue221
 i25:=by kernel_rfl
 t34:=Tryz.underlying255
 a34:=Tryz.isAgg255
 z34:=Tryz.sizeOf255
 v34:=Tryz.zeroValue255
 i34:=by kernel_rfl
 c34:=by kernel_rfl
 t36:=Tryz.underlying207
 a36:=Tryz.isAgg207
 z36:=Tryz.sizeOf207
 v36:=Tryz.zeroValue207
 i36:=by kernel_rfl
 t37:=Tryz.underlying187
 a37:=Tryz.isAgg187
 z37:=Tryz.sizeOf187
 v37:=Tryz.zeroValue187
 i37:=by kernel_rfl
 t39:=Tryz.underlying257
 a39:=Tryz.isAgg257
 z39:=Tryz.sizeOf257
 v39:=Tryz.zeroValue257
 i39:=by kernel_rfl
 t44:=Tryz.underlying269
 a44:=Tryz.isAgg269
 z44:=Tryz.sizeOf269
 v44:=Tryz.zeroValue269
 i44:=by kernel_rfl
 t47:=Tryz.underlying276
 a47:=Tryz.isAgg276
 z47:=Tryz.sizeOf276
 v47:=Tryz.zeroValue276
 i47:=by kernel_rfl
 t48:=Tryz.underlying277
 a48:=Tryz.isAgg277
 z48:=Tryz.sizeOf277
 v48:=Tryz.zeroValue277
 i48:=by kernel_rfl
 t50:=Tryz.underlying279
 a50:=Tryz.isAgg279
 z50:=Tryz.sizeOf279
 v50:=Tryz.zeroValue279
 i50:=by kernel_rfl
 t52:=Tryz.underlying271
 a52:=Tryz.isAgg271
 z52:=Tryz.sizeOf271
 v52:=Tryz.zeroValue271
 i52:=by kernel_rfl
 t55:=Tryz.underlying274
 a55:=Tryz.isAgg274
 z55:=Tryz.sizeOf274
 v55:=Tryz.zeroValue274
 i55:=by kernel_rfl
 t59:=Tryz.underlying281
 a59:=Tryz.isAgg281
 z59:=Tryz.sizeOf281
 v59:=Tryz.zeroValue281
 i59:=by kernel_rfl
 t60:=Tryz.underlying206
 a60:=Tryz.isAgg206
 z60:=Tryz.sizeOf206
 v60:=Tryz.zeroValue206
 i60:=by kernel_rfl
 t61:=Tryz.underlying282
 a61:=Tryz.isAgg282
 z61:=Tryz.sizeOf282
 t65:=Tryz.underlying289
 a65:=Tryz.isAgg289
 z65:=Tryz.sizeOf289
 v65:=Tryz.zeroValue289
 i65:=by kernel_rfl
 t66:=Tryz.underlying290
 a66:=Tryz.isAgg290
 z66:=Tryz.sizeOf290
 v66:=Tryz.zeroValue290
 i66:=by kernel_rfl
 t67:=Tryz.underlying227
 a67:=Tryz.isAgg227
 z67:=Tryz.sizeOf227
 v67:=Tryz.zeroValue227
 i67:=by kernel_rfl
 g0:=by kernel_rfl
 m0:=by kernel_rfl
 g1:=by kernel_rfl
 m1:=by kernel_rfl
 g2:=by kernel_rfl
 m2:=by kernel_rfl
 g3:=by kernel_rfl
 m3:=by kernel_rfl
 g4:=by kernel_rfl
 m4:=by kernel_rfl }
def XJ:Go.Shelf.Ren:=⟨fun | 219=>209 | 217=>220 | 225=>221 | 224=>222 | 267=>223 | 266=>236 | 314=>237 | n=>n,fun | 9=>9 | 3=>3 | 4=>4 | 5=>5 | 46=>207 | 146=>240 | 51=>206 | n=>n,fun | 1=>0 | n=>n⟩
theorem aqJ:Go.Proofs.Lays.n219 Tryz.prog XJ:={
 mixed:=by kernel_rfl
 f217:=Tryz.func220.trans (congrArg some (by kernel_rfl))
 f219:=Tryz.func209.trans (congrArg some (by kernel_rfl))
 f224:=Tryz.func222.trans (congrArg some (by kernel_rfl))
 f225:=Tryz.func221.trans (congrArg some (by kernel_rfl))
 f266:=Tryz.func236.trans (congrArg some (by kernel_rfl))
 f267:=Tryz.func223.trans (congrArg some (by kernel_rfl))
 f314:=Tryz.func237.trans (congrArg some (by kernel_rfl))
 t3:=Tryz.underlying3
 a3:=Tryz.isAgg3
 z3:=Tryz.sizeOf3
 v3:=Tryz.zeroValue3
 t4:=Tryz.underlying4
 a4:=Tryz.isAgg4
 z4:=Tryz.sizeOf4
 v4:=Tryz.zeroValue4
 t5:=Tryz.underlying5
 a5:=Tryz.isAgg5
 z5:=Tryz.sizeOf5
 v5:=Tryz.zeroValue5
 t9:=Tryz.underlying9
 a9:=Tryz.isAgg9
 z9:=Tryz.sizeOf9
 v9:=Tryz.zeroValue9
 t46:=Tryz.underlying207
 a46:=Tryz.isAgg207
 z46:=Tryz.sizeOf207
 v46:=Tryz.zeroValue207
 t51:=Tryz.underlying206
 a51:=Tryz.isAgg206
 z51:=Tryz.sizeOf206
 v51:=Tryz.zeroValue206
 t146:=Tryz.underlying240
 a146:=Tryz.isAgg240
 z146:=Tryz.sizeOf240
 v146:=Tryz.zeroValue240
 g1:=by kernel_rfl }
def OZ:Go.Shelf.Ren:=⟨fun | 105=>215 | 212=>187 | 99=>231 | 165=>232 | 166=>233 | 170=>234 | 169=>235 | 263=>206 | 264=>207 | 206=>210 | 240=>245 | 241=>246 | 276=>253 | 277=>254 | n=>n,fun | 9=>9 | 3=>3 | 4=>4 | 20=>20 | 0=>0 | 46=>207 | 109=>215 | 5=>5 | 72=>262 | 76=>264 | 51=>206 | 146=>240 | 53=>171 | 148=>242 | 70=>260 | 37=>187 | 75=>220 | 127=>276 | 164=>285 | 80=>227 | n=>n,fun | n=>n⟩
theorem apX:Go.Proofs.Lays.n105 Tryz.prog OZ:={
 mixed:=by kernel_rfl
 f99:=Tryz.func231.trans (congrArg some (by kernel_rfl))
 f105:=Tryz.func215.trans (congrArg some (by kernel_rfl))
 f165:=Tryz.func232.trans (congrArg some (by kernel_rfl))
 f166:=Tryz.func233.trans (congrArg some (by kernel_rfl))
 f169:=Tryz.func235.trans (congrArg some (by kernel_rfl))
 f170:=Tryz.func234.trans (congrArg some (by kernel_rfl))
 f206:=Tryz.func210.trans (congrArg some (by kernel_rfl))
 f212:=Tryz.func187.trans (congrArg some (by kernel_rfl))
 f240:=Tryz.func245.trans (congrArg some (by kernel_rfl))
 f241:=Tryz.func246.trans (congrArg some (by kernel_rfl))
 f263:=Tryz.func206.trans (congrArg some (by kernel_rfl))
 f264:=Tryz.func207.trans (congrArg some (by kernel_rfl))
 f276:=Tryz.func253.trans (congrArg some (by kernel_rfl))
 f277:=Tryz.func254.trans (congrArg some (by kernel_rfl))
 t0:=Tryz.underlying0
 a0:=Tryz.isAgg0
 z0:=Tryz.sizeOf0
 v0:=Tryz.zeroValue0
 t3:=Tryz.underlying3
 a3:=Tryz.isAgg3
 z3:=Tryz.sizeOf3
 v3:=Tryz.zeroValue3
 t4:=Tryz.underlying4
 a4:=Tryz.isAgg4
 z4:=Tryz.sizeOf4
 v4:=Tryz.zeroValue4
 t5:=Tryz.underlying5
 a5:=Tryz.isAgg5
 z5:=Tryz.sizeOf5
 v5:=Tryz.zeroValue5
 t9:=Tryz.underlying9
 a9:=Tryz.isAgg9
 z9:=Tryz.sizeOf9
 v9:=Tryz.zeroValue9
 t20:=Tryz.underlying20
 a20:=Tryz.isAgg20
 z20:=Tryz.sizeOf20
 v20:=Tryz.zeroValue20
 t37:=Tryz.underlying187
 a37:=Tryz.isAgg187
 z37:=Tryz.sizeOf187
 v37:=Tryz.zeroValue187
 t46:=Tryz.underlying207
 a46:=Tryz.isAgg207
 z46:=Tryz.sizeOf207
 v46:=Tryz.zeroValue207
 t51:=Tryz.underlying206
 a51:=Tryz.isAgg206
 z51:=Tryz.sizeOf206
 v51:=Tryz.zeroValue206
 t53:=Tryz.underlying171
 a53:=Tryz.isAgg171
 z53:=Tryz.sizeOf171
 v53:=Tryz.zeroValue171
 t70:=Tryz.underlying260
 a70:=Tryz.isAgg260
 z70:=Tryz.sizeOf260
 v70:=Tryz.zeroValue260
 t72:=Tryz.underlying262
 a72:=Tryz.isAgg262
 z72:=Tryz.sizeOf262
 v72:=Tryz.zeroValue262
 t75:=Tryz.underlying220
 a75:=Tryz.isAgg220
 z75:=Tryz.sizeOf220
 v75:=Tryz.zeroValue220
 t76:=Tryz.underlying264
 a76:=Tryz.isAgg264
 z76:=Tryz.sizeOf264
 v76:=Tryz.zeroValue264
 t109:=Tryz.underlying215
 a109:=Tryz.isAgg215
 z109:=Tryz.sizeOf215
 v109:=Tryz.zeroValue215
 t127:=Tryz.underlying276
 a127:=Tryz.isAgg276
 z127:=Tryz.sizeOf276
 v127:=Tryz.zeroValue276
 t146:=Tryz.underlying240
 a146:=Tryz.isAgg240
 z146:=Tryz.sizeOf240
 v146:=Tryz.zeroValue240
 t148:=Tryz.underlying242
 a148:=Tryz.isAgg242
 z148:=Tryz.sizeOf242
 v148:=Tryz.zeroValue242
 t164:=Tryz.underlying285
 a164:=Tryz.isAgg285
 z164:=Tryz.sizeOf285
 v164:=Tryz.zeroValue285 }
theorem anD:Builder.Extra Tryz.prog OZ:={
 sizeBuilder:=by kernel_rfl
 liesBuilder:=by kernel_rfl
 t5:=Tryz.underlying5
 a5:=Tryz.isAgg5
 z5:=Tryz.sizeOf5
 v5:=Tryz.zeroValue5
 infoByte:=by kernel_rfl
 cellsByte:=by kernel_rfl
 sizeByte:=by kernel_rfl
 neB5:=by decide }
end Go.Proofs
namespace Go.Proofs
open Go.Shelf Go.RowKit Go.Sort Go.Lib
abbrev WM:UInt8→Value:=fun b=>Value.int .u8 (b.toNat:Int)
theorem aaS (w:World) (T:TypeId) (nd:Nat) (hs:nd≤24):Holds WM (w.alloc (.cells Lib.zeros24 T)) w.heap.size 0 (Array.replicate nd (0:UInt8)):=fun j hj=>by
 have hj':j<nd:=by simpa using hj
 refine⟨?_,World.frozen?_alloc_new _ _ _ _⟩
 rw[World.cell?_alloc_new,Lib.zeros24_at _ (by omega),getElem!_pos _ j hj]
 simp
theorem yU (w:World) (o:Obj) (dk:Array UInt8) (k:Nat):Below w.heap.size w ((putRow WM (w.alloc o) w.heap.size 0 dk).drewN k):=by
 rw[alloc_eq_grow]
 obtain⟨os',_,e⟩:=putRow_grow_new WM w #[o] w.heap.size 0 dk (Nat.le_refl _)
 rw[e]
 refine⟨rfl,rfl,rfl,by show w.heap.size≤(w.heap++os').size;simp,fun i hi => ?_⟩
 show (w.heap++os')[i]? = _
 rw[Array.getElem?_append_left hi]
set_option maxHeartbeats 6400000 in
set_option maxRecDepth 100000 in
theorem aqZ (u:Nat) (aiR:u<18446744073709551616) (w:World) (atH:Lib.TabIs Tryz.prog w "internal/strconv.uint64pow10" .u64 Lib.pow10Tab) :
  Calls Tryz.prog 230 #[.int .u64 u,.int .i64 10] w fun e w'=>e = .returned (.string ⟨(Lib.decDigits u).toArray⟩)∧Below w.heap.size w w':=by
 by_cases hs:u<100
 ·go_enter Tryz.func230,Tryz.ntmps230
  go_wp2_with (go_at_call 241;refine(Any.internal_strconv_small aqE u hs _).mono ?_;rintro e w' ⟨rfl,rfl⟩)
  go_ret
  exact⟨rfl,Below.refl _ _⟩
 ·have hu1:1≤u:=by omega
  have aC8:Lib.nDigits u≤20:=by have:=Lib.numDigits_eq u hu1 aiR;split at this<;>omega
  have hH0:=aaS w 271 (Lib.nDigits u) (by omega)
  have azH:=Any.internal_strconv_formatBase10 arS w.heap.size 0 24 u (Array.replicate (Lib.nDigits u) 0) (w.alloc (.cells Lib.zeros24 271)) hH0 (by rw[Array.size_replicate];exact Lib.lt_pow_nDigits u) aiR (by rw[Array.size_replicate];omega)
  rw[Array.size_replicate] at azH
  have HH0:=Lib.hid hH0
  have hal:Tryz.prog.arrayLen 271=24:=by simp[Program.arrayLen,Tryz.underlying271]
  have Rp:∀W,(Instr.sliceAt 271 (.pointer (some ⟨w.heap.size,0,none⟩)) none (some (.int .i64 (Lib.nDigits u:Int))) none).run Tryz.prog W = .ok (.slice (some ⟨w.heap.size,0,none⟩) (Lib.nDigits u) 24) W:=fun W=>by
   rw[run_sliceAt_array_h W 271 ⟨w.heap.size,0,none⟩ (by simp[Program.arrayLen,Program.elem,Tryz.underlying271]) .i64 (Lib.nDigits u:Int) (by omega) (by rw[hal];omega)]
   go_simp
  clear hH0 hal
  go_enter Tryz.func230,Tryz.ntmps230
  go_wp2_with (first
   | (go_at_call 242;refine(Any.internal_strconv_numDigits arJ u hu1 aiR _ (Lib.tabIs_alloc atH _)).mono ?_;rintro e w' ⟨rfl,rfl⟩))
  go_at_call 243
  refine azH.mono ?_
  rintro e w' ⟨rfl,k,v',dk,rfl,hF⟩
  have hcv:(convert 187 9 (.slice (some ⟨w.heap.size,0,none⟩) (Lib.nDigits u) 24)).run Tryz.prog ((putRow WM (w.alloc (.cells Lib.zeros24 271)) w.heap.size 0 dk).drewN k) = .ok (.string ⟨(Lib.decDigits u).toArray⟩) ((putRow WM (w.alloc (.cells Lib.zeros24 271)) w.heap.size 0 dk).drewN k):=by
   have h:=run_convert_bytes_back (P:=Tryz.prog) ((putRow WM (w.alloc (.cells Lib.zeros24 271)) w.heap.size 0 dk).drewN k) 187 9 5 ⟨w.heap.size,0,none⟩ 24 (Lib.decDigits u) Tryz.underlying187 Tryz.underlying5 Tryz.underlying9 (fun j hj=>by
    rw[Lib.row_is_numeral hF j hj,Lib.add_plain,World.cell?_drewN]
    exact cell?_putRow WM _ w.heap.size 0 _ dk HH0.out (by rw[hF.size,Array.size_replicate]) j (by rw[hF.size];rw[Lib.decDigits_length] at hj;exact hj))
   rw[Lib.decDigits_length] at h
   exact h
  go_wp2
  go_ret
  exact⟨rfl,yU w _ dk k⟩
theorem ahP (u:Nat) (aiR:u<18446744073709551616) (w:World) (atH:Lib.TabIs Tryz.prog w "internal/strconv.uint64pow10" .u64 Lib.pow10Tab) :
  Calls Tryz.prog 214 #[.int .u64 u,.int .i64 10] w fun e w'=>e = .returned (.string ⟨(Lib.decDigits u).toArray⟩)∧Below w.heap.size w w':=by
 go_enter Tryz.func214,Tryz.ntmps214
 go_wp2_with (go_at_call 230;refine(aqZ u aiR _ atH).mono ?_;rintro e w' ⟨rfl,hb⟩)
 go_ret
 exact⟨rfl,hb⟩
end Go.Proofs
namespace Go.PM
open Go.Proofs Go.RowKit
theorem Below.BV {w w':World} (h:Below w.heap.size w w'):w.heap.size≤w'.heap.size∧(∀rb,rb<w.heap.size→w'.heap[rb]? = w.heap[rb]?)∧w'.os=w.os∧w'.output=w.output∧w'.tape=w.tape :=
 ⟨h.size,h.block,h.os,h.output,h.tape⟩
theorem BY {w:World}:w.heap.size≤w.heap.size∧(∀rb,rb<w.heap.size→w.heap[rb]? = w.heap[rb]?)∧w.os=w.os∧w.output=w.output∧w.tape=w.tape :=
 ⟨Nat.le_refl _,fun _ _=>rfl,rfl,rfl,rfl⟩
def FG (f:Nat) (p:List Value→aF→Option Value):Prop :=
 N0 Tryz.prog f∧∀L0 args H v,p args H=some v→∀m w iG,Rel m L0 H w→RL m args iG →
  Calls Tryz.prog f iG.toArray w fun e w'=>∃rv,e = .returned rv∧RV m v rv∧w.heap.size≤w'.heap.size∧(∀rb,rb<w.heap.size→w'.heap[rb]? = w.heap[rb]?)∧w'.os=w.os∧w'.output=w.output∧w'.tape=w.tape
theorem RL.one {m:dR} {x:Value} {ys:List Value} (h:RL m [x] ys):∃y,ys=[y]∧RV m x y:=by
 match ys,h with
 | [y],h=>exact⟨y,rfl,h.kR.1⟩
 | [],h=>exact absurd h.1 (by simp)
 | _::_::_,h=>exact absurd h.1 (by simp)
theorem RL.two {m:dR} {x x':Value} {ys:List Value} (h:RL m [x,x'] ys):∃y y',ys=[y,y']∧RV m x y∧RV m x' y':=by
 match ys,h with
 | [y,y'],h=>exact⟨y,y',rfl,h.kR.1,h.kR.2.kR.1⟩
 | [],h=>exact absurd h.1 (by simp)
 | [_],h=>exact absurd h.1 (by simp)
 | _::_::_::_,h=>exact absurd h.1 (by simp)
theorem RL.three {m:dR} {x x' x'':Value} {ys:List Value} (h:RL m [x,x',x''] ys):∃y y' y'',ys=[y,y',y'']∧RV m x y∧RV m x' y'∧RV m x'' y'':=by
 match ys,h with
 | [y,y',y''],h=>exact⟨y,y',y'',rfl,h.kR.1,h.kR.2.kR.1,h.kR.2.kR.2.kR.1⟩
 | [],h=>exact absurd h.1 (by simp)
 | [_],h=>exact absurd h.1 (by simp)
 | [_,_],h=>exact absurd h.1 (by simp)
 | _::_::_::_::_,h=>exact absurd h.1 (by simp)
theorem Gv {m:dR}:∀ {cs rs:List Value} {xs:List ByteArray},strCells cs=some xs→RL m cs rs→rs=xs.map .string
 |
  [],rs,xs,h,hr=>by
  cases h
  match rs,hr with
  | [],_=>rfl
  | _::_,hr=>exact absurd hr.1 (by simp)
 |
  c::cs,rs,xs,h,hr=>by
  match rs,hr with
  | [],hr=>exact absurd hr.1 (by simp)
  |
   r::rs,hr =>
   obtain⟨h1,h2⟩:=hr.kR
   cases c with
   |
    string s =>
    rw[strCells] at h
    cases hc:strCells cs with
    | none=>rw[hc] at h;cases h
    |
     some ys =>
     rw[hc] at h
     cases h
     cases h1
     rw[Gv hc h2]
     rfl
   | _=>cases h
theorem K4:FG 198 Es:=by
 refine⟨⟨_,Tryz.func198,by kernel_rfl,by kernel_rfl⟩,fun L0 args H v hp m w iG hR hr => ?_⟩
 unfold Es at hp
 split at hp
 case h_2=>cases hp
 rename_i x
 split at hp
 case isFalse=>cases hp
 rename_i hx
 cases hp
 obtain⟨y,rfl,h1⟩:=hr.one
 cases h1
 refine(Any.bits_LeadingZeros32 asF x w hx.1 hx.2).mono ?_
 rintro e w' ⟨rfl,rfl⟩
 exact⟨_,rfl,.int _ _,BY⟩
theorem NY:FG 215 Ie:=by
 refine⟨⟨_,Tryz.func215,by kernel_rfl,by kernel_rfl⟩,fun L0 args H v hp m w iG hR hr => ?_⟩
 unfold Ie at hp
 split at hp
 case h_2=>cases hp
 rename_i s c
 split at hp
 case isFalse=>cases hp
 rename_i hx
 cases hp
 obtain⟨y,y',rfl,h1,h2⟩:=hr.two
 cases h1
 cases h2
 obtain⟨k,rfl⟩:∃k:Nat,c=k:=⟨c.toNat,by omega⟩
 refine(Any.strings_Repeat apX anD s k w (by omega) hx.2.2).mono ?_
 rintro e w' ⟨rfl,hb⟩
 exact⟨_,rfl,.str _,Below.BV hb⟩
theorem Um:FG 217 TU:=by
 refine⟨⟨_,Tryz.func217,by kernel_rfl,by kernel_rfl⟩,fun L0 args H v hp m w iG hR hr => ?_⟩
 unfold TU at hp
 split at hp
 case h_3=>cases hp
 ·cases hp
  obtain⟨y,y',rfl,h1,h2⟩:=hr.two
  cases h1
  cases h2
  refine(Any.strings_Join_none Xi Sw none 0 _ w).mono ?_
  rintro e w' ⟨rfl,rfl⟩
  exact⟨_,rfl,.str _,BY⟩
 ·rename_i b o n c sep
  obtain⟨y,y',rfl,h1,h2⟩:=hr.two
  cases h2
  cases h1 with
  |
   slice _ _ _ _ l ra rc h hn hc hx ha =>
   split at hp
   ·rename_i hn0
    subst hn0
    cases hp
    refine(Any.strings_Join_none Xi Sw (some ra) rc _ w).mono ?_
    rintro e w' ⟨rfl,rfl⟩
    exact⟨_,rfl,.str _,BY⟩
   ·rename_i hn0
    split at hp
    case h_2=>cases hp
    rename_i xs Pa
    split at hp
    case isFalse=>cases hp
    rename_i Vr
    cases hp
    obtain⟨cs,XT,O7⟩:=Option.bind_eq_some_iff.1 Pa
    obtain⟨rs,r1,r2,_,r4⟩:=Aw hR h XT
    have N8:=Gv O7 r1
    subst N8
    rcases ha with ha | ⟨rfl,ha⟩
    ·omega
    obtain⟨arr,e0,fz0,v1,_⟩:=hR.valid b l h
    have Co:l.rb<w.heap.size:=(Array.getElem?_eq_some_iff.1 v1).1
    obtain⟨c1,c2,c3,c4⟩:=Vr
    subst c1
    refine(Any.strings_Join Xi Sw l.rb (l.base+o) rc xs sep w (fun j x hj => ?_) Co c3 (by omega) c4).mono ?_
    ·have:=r4 j (.string x) (by simp[hj])
     rw[Addr.add_lit] at this
     exact this
    ·rintro e w' ⟨rfl,hb⟩
     exact⟨_,rfl,.str _,Below.BV hb⟩
theorem XC {m:dR} {L0:Nat} {H:aF} {w:World} (hR:Rel m L0 H w):Lib.TabIs Tryz.prog w "internal/strconv.uint64pow10" .u64 Lib.pow10Tab:=by
 obtain⟨e,fz,h⟩:=(hR.Ev (3,(Lib.pow10Tab.map fun z=>Value.int .u64 z).toArray) (by simp[alH])).1
 have hg:Tryz.prog.globalNamed "internal/strconv.uint64pow10"=some 3:=by kernel_rfl
 unfold Lib.TabIs World.var?
 rw[hg]
 simp only[Option.bind_some,h]
theorem Tn:FG 214 wR:=by
 refine⟨⟨_,Tryz.func214,by kernel_rfl,by kernel_rfl⟩,fun L0 args H v hp m w iG hR hr => ?_⟩
 unfold wR at hp
 split at hp
 case h_2=>cases hp
 rename_i n b
 split at hp
 case isFalse=>cases hp
 rename_i hx
 cases hp
 obtain⟨y,y',rfl,h1,h2⟩:=hr.two
 cases h1
 cases h2
 obtain⟨rfl,h0,h1⟩:=hx
 obtain⟨u,rfl⟩:∃u:Nat,n=u:=⟨n.toNat,by omega⟩
 refine(ahP u (by omega) w (XC hR)).mono ?_
 rintro e w' ⟨rfl,hb⟩
 exact⟨_,rfl,.str _,Below.BV hb⟩
theorem Q5:FG 209 Sa:=by
 refine⟨⟨_,Tryz.func209,by kernel_rfl,by kernel_rfl⟩,fun L0 args H v hp m w iG hR hr => ?_⟩
 unfold Sa at hp
 split at hp
 case h_2=>cases hp
 rename_i s p
 split at hp
 case h_2=>cases hp
 rename_i c hc
 cases hp
 obtain⟨y,y',rfl,h1,h2⟩:=hr.two
 cases h1
 cases h2
 have hp:p=⟨#[c]⟩:=by
  obtain⟨a⟩:=p
  obtain⟨l⟩:=a
  have:l=[c]:=hc
  rw[this]
 subst hp
 refine(Any.stringslite_Index_one aqJ s c w).mono ?_
 rintro e w' ⟨rfl,rfl⟩
 exact⟨_,rfl,.int _ _,BY⟩
theorem PW:FG 192 zK:=by
 refine⟨⟨_,Tryz.func192,by kernel_rfl,by kernel_rfl⟩,fun L0 args H v hp m w iG hR hr => ?_⟩
 unfold zK at hp
 split at hp
 case h_2=>cases hp
 rename_i s b z
 split at hp
 case isFalse=>cases hp
 rename_i hx
 obtain⟨rfl,rfl,hs⟩:=hx
 split at hp
 case h_2=>cases hp
 rename_i u hu
 cases hp
 obtain⟨y,y',y'',rfl,h1,h2,h3⟩:=hr.three
 cases h1
 cases h2
 cases h3
 refine(Any.strconv_ParseUint_10_at64_ok akY s hs u hu w).mono ?_
 have hv:∀m,RV m (.tuple #[.int .u64 (u:Int),.nilIface]) (.tuple #[.int .u64 (u:Int),.nilIface]):=fun m => .tuple _ _ rfl fun i hi=>by
  match i,hi with
  | 0,_=>exact .int _ _
  | 1,_=>exact .nilIface
  | n+2,hi=>exact absurd hi (by simp)
 rintro e w' ⟨rfl,rfl | rfl⟩
 ·exact⟨_,rfl,hv m,BY⟩
 ·exact⟨_,rfl,hv m,Below.BV (Lib.bytesWorld_below _ _ _)⟩
theorem atE {L0:Nat}:afE Tryz.prog cfg L0:=by
 intro f p hp
 have DQ:Ln f=some p:=hp
 unfold Ln at DQ
 split at DQ
 ·rename_i h;subst h;cases DQ;exact⟨Tn.1,Tn.2 L0⟩
 split at DQ
 ·rename_i h;subst h;cases DQ;exact⟨NY.1,NY.2 L0⟩
 split at DQ
 ·rename_i h;subst h;cases DQ;exact⟨Um.1,Um.2 L0⟩
 split at DQ
 ·rename_i h;subst h;cases DQ;exact⟨K4.1,K4.2 L0⟩
 split at DQ
 ·rename_i h;subst h;cases DQ;exact⟨Q5.1,Q5.2 L0⟩
 split at DQ
 ·rename_i h;subst h;cases DQ;exact⟨PW.1,PW.2 L0⟩
 cases DQ
end Go.PM
namespace Go.PM
open Go.ChangeShapes Go.WideShapes Go.ChangeAt Go.RowKit
open Go.Proofs
structure In (m:dR) (H:aF) (W:World):Prop where
 dom:∀b l,m b=some l→b<H.length
 valid:∀b l,m b=some l→∃arr e fz,W.heap[l.rb]? = some (.cells arr e fz)∧arr.size=l.Sq
 row:∀b l cs e p,m b=some l→H[b]? = some (.row cs e p)→l.gC=e∧l.TP=p∧l.base+cs.length≤l.Sq ∧
  ∀i,i<cs.length→∃rv,W.cell? ⟨l.rb,l.base+i,none⟩=some rv∧RV m (cs.getD i Go.undef) rv∧PM.gM (cs.getD i Go.undef)=true
section
variable {m:dR} {H:aF} {W:World}
theorem In.empty:In (fun _=>none) [] W:=⟨fun _ _ h=>(by cases h),fun _ _ h=>(by cases h),fun _ _ _ _ _ h=>(by cases h)⟩
theorem In.rel (h:In m H W) (hg:RF W):Rel m H.length H W :=
 ⟨fun b l hb=>by
  obtain⟨arr,e,fz,h1,h2⟩:=h.valid b l hb
  exact⟨arr,e,fz,h1,h2,fun hl=>by have:=h.dom b l hb;omega⟩,h.row,fun b1 b2 l1 l2 hl h1 _ _ _ _=>by have:=h.dom b1 l1 h1;omega,fun x hx=>⟨hg x hx,fun b l hb hm _=>by have:=h.dom b l hm;omega⟩⟩
theorem In.Tw (h:In m H W) {b:Nat} (hb:H.length≤b):m b=none:=by
 cases hm:m b with
 | none=>rfl
 | some l=>have:=h.dom b l hm;omega
theorem In.add (h:In m H W) {rb base gC:Nat} {arr:Array Value} {e:TypeId} {fz:Nat×Nat} {cs:List Value} (hb:W.heap[rb]? = some (.cells arr e fz)) (sJ:base+cs.length≤arr.size)
  (hc:∀i,i<cs.length→∃rv,W.cell? ⟨rb,base+i,none⟩=some rv∧RV (vN m H.length ⟨rb,base,gC,arr.size,false⟩) (cs.getD i Go.undef) rv∧PM.gM (cs.getD i Go.undef)=true) :
  In (vN m H.length ⟨rb,base,gC,arr.size,false⟩) (H++[.row cs gC false]) W:=by
 have hn:=h.Tw (Nat.le_refl H.length)
 refine⟨fun b l vB => ?_,fun b l vB => ?_,fun b l ds e' p vB lF => ?_⟩
 ·by_cases he:b=H.length
  ·subst he;simp
  ·rw[dB he] at vB
   have:=h.dom b l vB
   simp;omega
 ·by_cases he:b=H.length
  ·subst he
   rw[cD] at vB
   cases vB
   exact⟨arr,e,fz,hb,rfl⟩
  ·rw[dB he] at vB
   exact h.valid b l vB
 ·by_cases he:b=H.length
  ·subst he
   rw[cD] at vB
   cases vB
   rw[Yf] at lF
   cases lF
   exact⟨rfl,rfl,sJ,hc⟩
  ·rw[dB he] at vB
   have bH:=h.dom b l vB
   rw[SP bH] at lF
   obtain⟨h1,h2,h3,h4⟩:=h.row b l ds e' p vB lF
   refine⟨h1,h2,h3,fun i hi => ?_⟩
   obtain⟨rv,g1,g2,g3⟩:=h4 i hi
   exact⟨rv,g1,g2.mono (vU hn),g3⟩
end
theorem YN {α:Type} (p:Nat→α→Prop):∀c,(∀i,i<c→∃x,p i x)→∃xs:List α,xs.length=c∧∀i x,xs[i]? = some x→p i x
 | 0,_=>⟨[],rfl,fun i x hx=>by simp at hx⟩
 |
  c+1,h=>by
  obtain⟨xs,h1,h2⟩:=YN p c fun i hi=>h i (by omega)
  obtain⟨x,h3⟩:=h c (by omega)
  refine⟨xs++[x],by simp[h1],fun i y hy => ?_⟩
  rcases Nat.lt_or_ge i xs.length with hi | hi
  ·rw[List.getElem?_append_left hi] at hy
   exact h2 i y hy
  ·rw[List.getElem?_append_right hi] at hy
   have hi0:i-xs.length=0:=by
    rcases Nat.eq_zero_or_pos (i-xs.length) with h | h
    ·exact h
    ·rw[List.getElem?_eq_none (by simp;omega)] at hy;cases hy
   rw[hi0] at hy
   cases hy
   have:i=c:=by omega
   subst this
   exact h3
theorem asG {T:Type} {P:Program} {ts:List TypeId} {ds:List (DataW T)} (h:(DataW.weightsEach P ts ds).all (· ≤ reachBytes)=true) {j:Nat} {t e:TypeId} {d:DataW T} {c:Nat} (hc:c=0∨∃el sp,d = .slice el sp∧el.length+sp.length=c)
  (ht:ts[j]? = some t) (hd:ds[j]? = some d) (hu:P.underlying t=some (.slice e)) (hb:Nat.ble 1 (P.bytesOf e)=true):c≤140737488355328:=by
 rcases hc with rfl | ⟨el,sp,rfl,rfl⟩
 ·omega
 ·have h1:=sized_slice h ht hd hu
  have h2:reachBytes<2^47:=reachBytes_lt
  have h3:=Nat.le_of_ble_eq_true hb
  have h4:=Nat.mul_le_mul_left (el.length+sp.length) h3
  omega
theorem ajN {f:Nat} {args iG:List Value} {H H':aF} {v:Value} {m:dR} {W:World} (hI:In m H W) (hr:RL m args iG) (h:sX f args H.length H=some (v,H')) (hg:RF W:=by first | assumption | exact fun x hx=>nomatch hx) :
  Calls Tryz.prog f iG.toArray W fun e W'=>∃m' rv,e = .returned rv∧RV m' v rv∧Below W.heap.size W W':=by
 obtain⟨n,hn⟩:=(wU cfg fA).1 h
 refine(Ju Tryz.checked.mixed atE aqS n f args H.length H v H' hn m W iG (hI.rel hg) (Nat.le_refl _) (Nat.le_refl _) hr (fun b hb _=>hI.Tw hb)).2.mono ?_
 rintro e W' ⟨m',rv,rfl,h1,_,h3⟩
 refine⟨m',rv,rfl,h1,⟨h3.same.1,h3.same.2.2,h3.same.2.1,h3.size,fun k hk=>h3.cJ k hk fun b l hb hm _ => ?_⟩⟩
 rw[hI.Tw hb] at hm
 cases hm
end Go.PM
namespace Go.PM
def WG (c:kQ):Prop:=(0≤c.t∧c.t≤10000)∧(1≤c.w∧c.w≤1000)∧(0≤c.k∧c.k≤9)
instance (c:kQ):Decidable (WG c):=by unfold WG;infer_instance
def arV (cs:List kQ) (i:Nat) (c:kQ):Prop:=WG c∧∀b,0<i→cs[i-1]? = some b→b.t≤c.t
def nQ (cs:List kQ):Prop:=(∀i c,cs[i]? = some c→arV cs i c)∧cs.length≤24
noncomputable instance (cs:List kQ):Decidable (nQ cs):=Classical.propDecidable _
theorem nQ.at {cs:List kQ} (h:nQ cs) {i:Nat} {c:kQ} (hc:cs[i]? = some c):(0≤c.t∧c.t≤10000)∧(1≤c.w∧c.w≤1000)∧(0≤c.k∧c.k≤9):=(h.1 i c hc).1
def w64 (n:Int):Prop := -9223372036854775808≤n∧n≤9223372036854775807
def wl (time:Int):List kQ→Int→Int→Int
 | [],l,s=>max (l-(time-s)) 0
 | c::cs,l,s=>if time<c.t then max (l-(time-s)) 0 else wl time cs (max (l-(c.t-s)) 0+c.w) c.t
def aA8 (cs:List kQ) (time:Int):Prop:=nQ cs∧(0≤time∧time≤1000000000)
noncomputable instance (cs:List kQ) (time:Int):Decidable (aA8 cs time):=Classical.propDecidable _
def axI (cs:List kQ) (ls:List Int):Prop:=nQ cs∧ls.length=cs.length∧∀x∈ls,0≤x∧x≤1000000000
noncomputable instance (cs:List kQ) (ls:List Int):Decidable (axI cs ls):=Classical.propDecidable _
def ayP (cs:List kQ) (ls:List Int) (time:Int):Prop:=axI cs ls∧(0≤time∧time≤1000000000)
noncomputable instance (cs:List kQ) (ls:List Int) (time:Int):Decidable (ayP cs ls time):=Classical.propDecidable _
def aBV (cs:List kQ) (ps:List Int):Prop:=nQ cs∧ps.length=cs.length∧∀x∈ps,0≤x∧x≤10000
noncomputable instance (cs:List kQ) (ps:List Int):Decidable (aBV cs ps):=Classical.propDecidable _
end Go.PM
namespace Go.Proofs.YtjmflicajplclaaGreatDoor
open Go.ChangeShapes Go.WideShapes Go.ChangeAt Go.RowKit Go.PM
theorem own:ownKnob Tryz.prog.godebug=none:=by kernel_rfl
theorem laidOut:laidOutB Tryz.prog=true:=by kernel_rfl
theorem arI {n:Int} (h:(Lit.int .i64 n).wf=true):w64 n:=by
 simp only[Lit.wf,Bool.and_eq_true,decide_eq_true_eq] at h
 exact h
theorem three {α:Type} {l:List α} (h:l.length=3):∃a b c,l=[a,b,c]:=by
 rcases l with _ | ⟨a,_ | ⟨b,_ | ⟨c,_ | ⟨d,l⟩⟩⟩⟩
 ·cases h
 ·cases h
 ·cases h
 ·exact⟨a,b,c,rfl⟩
 ·simp at h
end Go.Proofs.YtjmflicajplclaaGreatDoor
namespace Go.PM
def Cf:List Nat:=[]
 ++ [34]
 ++ [36]
 ++ [37]
 ++ [17]
 ++ [20]
 ++ [21]
 ++ [26]
 ++ [28]
 ++ [29]
 ++ [22]
 ++ [46]
 ++ [48]
 ++ [18]
 ++ [16]
 ++ [27]
 ++ [25]
 ++ [41]
 ++ [40]
 ++ [43]
 ++ [42]
 ++ [31]
 ++ [30]
 ++ [39]
 ++ [38]
 ++ [35]
 ++ [33]
 ++ [182]
 ++ [199]
 ++ [200]
 ++ [204]
 ++ [205]
 ++ [162]
 ++ [216]
 ++ [147]
 ++ [181]
 ++ [71]
 ++ [138]
 ++ [61]
 ++ [99]
 ++ [76]
 ++ [133]
 ++ [149]
 ++ [94]
 ++ [95]
 ++ [90]
 ++ [118]
 ++ [134]
 ++ [179]
 ++ [103]
 ++ [119]
 ++ [72]
 ++ [62]
 ++ [78]
 ++ [70]
 ++ [60]
end Go.PM