/- Texts of a claim, in one: part 3. -/
import Derived.Lib.ItoaNum
import Derived.Lib.Join
import Derived.Lib.BitFns
import Derived.Lib.Repeat
import Derived.Lib.Bytealg
import Derived.Lib.ParseIntB
import Derived.Test.YtinhiblbgejbdaaGreatDoorChecked
import Derived.Laws.BitsLemmas
import Derived.Shelf.Strings.OnBuilder
import Derived.Shelf.Strings.Repeat
import Derived.Shelf.Small.Bits
import Derived.Shelf.Strconv.Itoa1
import Derived.Shelf.Strconv.Itoa2
import Derived.Shelf.LaysM
import Derived.Shelf.Strings.Search2
import Derived.Shelf.Pu.ParseUintPublic10
import Derived.KernelRfl
import Derived.Test.YtinhiblbgejbdaaGreatDoorProg
import Derived.Lib.Walk
import Derived.Lib.ItoaMem
import Derived.WalkKit
import Derived.BigCall
import Derived.BigGuard
import Derived.Below
import Derived.Shelf.Strings.OnBuilder
import Derived.Shelf.Strings.Repeat
import Derived.Shelf.Small.Bits
import Derived.ProofKit
import Derived.OpenShut
import Derived.ShutString
import Derived.ChangeOld
import Derived.Carry
import Derived.SizedLaws
import Derived.Test.YtinhiblbgejbdaaGreatDoorRows
import Derived.Test.YtinhiblbgejbdaaGreatDoorKNb
set_option linter.unusedSimpArgs false
set_option linter.unusedVariables false
namespace Go.PM
def aiC:Ex→Exit
 | .normal => .normal
 | .exit id => .exit id
 | .ret => .ret
section
variable {P:Program} {E:xL} {n:Nat} {call:fC} {lo L0:Nat}
def LB (P:Program) (n lo L0:Nat) (c:Code) (run:Env→aF→Option (Ex×Env×aF)):Prop :=
 ∀ρ H x aP H',run ρ H=some (x,aP,H')→∀m a w,Et n L0 m ρ H a w→L0≤H.length→(∀b,H.length≤b→b<H'.length→m b=none) →
  ∀Q:Exit→Act→World→Prop,(∀m' a' w',Et n L0 m' aP H' a' w'→Trans lo m H w m' H' w'→Q (aiC x) a' w')→c.wp P Q a w
theorem WR {c:Code} {run:Env→aF→Option (Ex×Env×aF)} (hc:LB P n lo L0 c run) (he:∀ρ H x aP H',run ρ H=some (x,aP,H')→Ext lo H H') (N:Nat):LB P n lo L0 (.loop c) (tM run N):=by
 intro ρ H x aP H' hr m a w h hl hf Q hQ
 apply wp_loop_rounds N
 have key:∀N ρ H,tM run N ρ H=some (x,aP,H')→∀m a w,Et n L0 m ρ H a w→L0≤H.length→(∀b,H.length≤b→b<H'.length→m b=none) →
   (∀m' a' w',Et n L0 m' aP H' a' w'→Trans lo m H w m' H' w'→Q (aiC x) a' w')→Code.rounds P c Q N a w:=by
  intro N
  induction N with
  | zero=>intro ρ H h;cases h
  |
   succ N ih =>
   intro ρ H hr m a w h hl hf hQ
   rw[rounds_succ]
   rw[tM] at hr
   split at hr
   ·rename_i yA H1 h1
    have e1:=he _ _ _ _ _ h1
    have e2:=Fj he N hr
    refine hc ρ H _ yA H1 h1 m a w h hl (fun b xE Yp=>hf b xE (Nat.lt_of_lt_of_le Yp e2.len)) _ fun m1 a1 w1 hh hT => ?_
    exact ih yA H1 hr m1 a1 w1 hh (Nat.le_trans hl e1.len) (hT.fresh e1.len hf) fun m2 a2 w2 h2 hT2=>hQ m2 a2 w2 h2 (Trans.trans hf e1 e2 hT hT2)
   ·rename_i cI
    refine hc ρ H _ aP H' hr m a w h hl hf _ fun m1 a1 w1 hh hT => ?_
    have:=hQ m1 a1 w1 hh hT
    cases x with
    | normal=>exact absurd hr (cI aP H')
    | exit id=>exact this
    | ret=>exact this
 exact key N ρ H hr m a w h hl hf hQ
theorem kY (AX:P.follows .mixedOrders=true) (kR:sN P L0 call) (nP:nX call) (dP:L0≤lo) (N:Nat):∀(c:Code) (pc:aH),fZ P E n c=some pc→LB P n lo L0 c (cL call lo N pc)
 |
  .skip,pc,hp=>by
  cases hp
  intro ρ H x aP H' hr m a w h hl hf Q hQ
  cases hr
  exact wp_skip (hQ m a w h (Trans.refl _ _ _ _))
 |
  .region id ops draw,pc,hp=>by
  rw[fZ] at hp
  cases ZU:tK P E n ops draw with
  | none=>rw[ZU] at hp;cases hp
  |
   some pH =>
   rw[ZU] at hp
   cases hp
   intro ρ H x aP H' hr m a w h hl hf Q hQ
   rw[cL] at hr
   cases hs:fT call lo pH ρ H with
   | none=>rw[hs] at hr;cases hr
   |
    some q =>
    obtain⟨yA,H1⟩:=q
    rw[hs] at hr
    cases hr
    exact O8 AX kR nP ZU hs h dP hl hf hQ
 |
  .seq x y,pc,hp=>by
  rw[fZ] at hp
  split at hp
  ·rename_i px py KZ hpy
   cases hp
   intro ρ H e aP H' hr m a w h hl hf Q hQ
   rw[cL] at hr
   apply wp_seq
   split at hr
   ·rename_i yA H1 h1
    have e1:=hJ nP px h1
    have e2:=hJ nP py hr
    refine kY AX kR nP dP N x px KZ ρ H _ yA H1 h1 m a w h hl (fun b xE Yp=>hf b xE (Nat.lt_of_lt_of_le Yp e2.len)) _ fun m1 a1 w1 hh hT => ?_
    exact kY AX kR nP dP N y py hpy yA H1 _ aP H' hr m1 a1 w1 hh (Nat.le_trans hl e1.len) (hT.fresh e1.len hf) Q fun m2 a2 w2 h2 hT2=>hQ m2 a2 w2 h2 (Trans.trans hf e1 e2 hT hT2)
   ·rename_i cI
    refine kY AX kR nP dP N x px KZ ρ H _ aP H' hr m a w h hl hf _ fun m1 a1 w1 hh hT => ?_
    have:=hQ m1 a1 w1 hh hT
    cases e with
    | normal=>exact absurd hr (cI aP H')
    | exit id=>exact this
    | ret=>exact this
  ·cases hp
 |
  .cond o x y,pc,hp=>by
  rw[fZ] at hp
  split at hp
  ·rename_i nW
   split at hp
   ·rename_i px py KZ hpy
    cases hp
    intro ρ H e aP H' hr m a w h hl hf Q hQ
    rw[cL] at hr
    split at hr
    ·rename_i t ht
     have Pk:=P5 (a:=a) (m:=m) (ρ:=ρ) nW fun t _=>h.env t
     rw[ht] at Pk
     generalize hev:a.eval o=ro at Pk
     cases Pk
     refine wp_cond hev ?_
     cases t with
     | true=>exact kY AX kR nP dP N x px KZ ρ H _ aP H' hr m a w h hl hf Q hQ
     | false=>exact kY AX kR nP dP N y py hpy ρ H _ aP H' hr m a w h hl hf Q hQ
    ·cases hr
   ·cases hp
  ·cases hp
 |
  .block id x,pc,hp=>by
  rw[fZ] at hp
  cases KZ:fZ P E n x with
  | none=>rw[KZ] at hp;cases hp
  |
   some px =>
   rw[KZ] at hp
   cases hp
   intro ρ H e aP H' hr m a w h hl hf Q hQ
   rw[cL] at hr
   apply wp_block
   split at hr
   ·rename_i Ou yA H1 h1
    split at hr
    ·rename_i hid
     cases hr
     refine kY AX kR nP dP N x px KZ ρ H _ aP H' h1 m a w h hl hf _ fun m1 a1 w1 hh hT => ?_
     have:=hQ m1 a1 w1 hh hT
     show Exit.inBlock id Q (.exit Ou) a1 w1
     simp only[Exit.inBlock,if_pos hid]
     exact this
    ·rename_i hid
     cases hr
     refine kY AX kR nP dP N x px KZ ρ H _ aP H' h1 m a w h hl hf _ fun m1 a1 w1 hh hT => ?_
     have:=hQ m1 a1 w1 hh hT
     show Exit.inBlock id Q (.exit Ou) a1 w1
     simp only[Exit.inBlock,if_neg hid]
     exact this
   ·rename_i cI
    refine kY AX kR nP dP N x px KZ ρ H _ aP H' hr m a w h hl hf _ fun m1 a1 w1 hh hT => ?_
    have:=hQ m1 a1 w1 hh hT
    cases e with
    | normal=>exact this
    | exit Ou=>exact absurd hr (cI Ou aP H')
    | ret=>exact this
 |
  .loop x,pc,hp=>by
  rw[fZ] at hp
  cases KZ:fZ P E n x with
  | none=>rw[KZ] at hp;cases hp
  |
   some px =>
   rw[KZ] at hp
   cases hp
   have hx:=kY AX kR nP dP N x px KZ
   intro ρ H e aP H' hr
   rw[cL] at hr
   exact WR hx (fun ρ H x aP H' h=>hJ nP px h) N ρ H e aP H' hr
 |
  .exit id,pc,hp=>by
  cases hp
  intro ρ H x aP H' hr m a w h hl hf Q hQ
  cases hr
  exact wp_exit (hQ m a w h (Trans.refl _ _ _ _))
 |
  .ret,pc,hp=>by
  cases hp
  intro ρ H x aP H' hr m a w h hl hf Q hQ
  cases hr
  exact wp_ret (hQ m a w h (Trans.refl _ _ _ _))
 | .rangeFunc ..,pc,hp=>by cases hp
 | .scope _,pc,hp=>by cases hp
 | .label _,pc,hp=>by cases hp
 | .goto _,pc,hp=>by cases hp
 | .refuse _,pc,hp=>by cases hp
def uT (P:Program):ResultVar→Option xK
 | .tmp t=>some (.tmp t)
 | .cell t ty=>(jP P ty).map fun(agg,size,_,_) => .cell t agg size
def HB (a:Act):ResultVar→Sem Value
 | .tmp t=>pure (a.tmps.getD t undef)
 | .cell x t=>do loadVar t (←asAddr (a.tmps.getD x undef))
theorem aoQ {m:cK} {ρ:Env} {H:aF} {a:Act} {w:World} (h:Et n L0 m ρ H a w) {r:ResultVar} {pr:xK} (hp:uT P r=some pr) {v:Value} (hv:Qj ρ H pr=some v) :
  ∃rv,RV m v rv∧(HB a r).run P w = .ok rv w:=by
 cases r with
 |
  tmp t =>
  cases hp
  cases hv
  exact⟨_,h.env t,rfl⟩
 |
  cell x t =>
  simp only[uT] at hp
  cases ht:jP P t with
  | none=>rw[ht] at hp;cases hp
  |
   some q =>
   obtain⟨agg,size,z,nb⟩:=q
   rw[ht] at hp
   cases hp
   obtain⟨rv,h1,h2⟩:=JJ ht hv h.rel (h.env x)
   refine⟨rv,h1,?_⟩
   unfold HB
   have hpv:=h.env x
   simp only[Qj,kU] at hv
   split at hv
   ·rename_i b o hb
    rw[hb] at hpv
    show (do loadVar t (←asAddr (a.tmps.getD x undef)):Sem Value).run P w=_
    generalize a.tmps.getD x undef=rp at h2 hpv ⊢
    cases hpv
    exact h2
   ·cases hv
theorem Ut {m:cK} {ρ:Env} {H:aF} {a:Act} {w:World} (h:Et n L0 m ρ H a w):∀ {rs:List ResultVar} {Zy:List xK} {vs:List Value},rs.mapM (uT P)=some Zy→yJ ρ H Zy=some vs →
  ∃TL,RL m vs TL∧(rs.mapM (HB a)).run P w = .ok TL w
 |
  [],Zy,vs,hp,hv=>by
  simp at hp
  subst hp
  cases hv
  exact⟨[],RL.nil m,rfl⟩
 |
  r::rs,Zy,vs,hp,hv=>by
  simp only[List.mapM_cons,Option.pure_def,Option.bind_eq_bind] at hp
  cases h1:uT P r with
  | none=>rw[h1] at hp;cases hp
  |
   some pr =>
   rw[h1] at hp
   cases h2:rs.mapM (uT P) with
   | none=>rw[h2] at hp;cases hp
   |
    some avL =>
    rw[h2] at hp
    cases hp
    simp only[yJ] at hv
    split at hv
    ·rename_i v vs' Zo hv2
     cases hv
     obtain⟨rv,g1,g2⟩:=aoQ h h1 Zo
     obtain⟨TL,g3,g4⟩:=Ut h h2 hv2
     refine⟨rv::TL,RL.cons g1 g3,?_⟩
     rw[List.mapM_cons,Sem.run_bind,g2,Result.andThen_ok,Sem.run_bind,g4]
     rfl
    ·cases hv
theorem Fy {m:cK} {ρ:Env} {H:aF} {a:Act} {w:World} (h:Et n L0 m ρ H a w) {fn:Func} {Zy:List xK} (hp:fn.results.toList.mapM (uT P)=some Zy) {v:Value} (hv:nF Zy ρ H=some v) :
  ∃rv,RV m v rv∧(results fn a.tmps).run P w = .ok rv w:=by
 unfold nF at hv
 cases iN:yJ ρ H Zy with
 | none=>rw[iN] at hv;cases hv
 |
  some vs =>
  obtain⟨TL,h1,h2⟩:=Ut h hp iN
  rw[iN] at hv
  have kF:∀rv,(if h:TL.toArray.size=1 then TL.toArray[0] else .tuple TL.toArray)=rv→(results fn a.tmps).run P w = .ok rv w:=by
   intro rv Pk
   have e:results fn a.tmps=(do let vs ←fn.results.mapM (HB a);pure (if h:vs.size=1 then vs[0] else .tuple vs)):=by
    unfold results
    congr 2
   rw[e,Array.mapM_eq_mapM_toList,Sem.run_bind]
   have:(List.toArray <$> fn.results.toList.mapM (HB a)).run P w = .ok TL.toArray w:=by
    rw[map_eq_pure_bind,Sem.run_bind,h2]
    rfl
   rw[this,←Pk]
   rfl
  clear h2 iN
  rcases vs with _ | ⟨x,_ | ⟨y,xs⟩⟩
  ·rcases TL with _ | ⟨x',ys⟩
   ·cases hv
    exact⟨_,h1.Rp,kF _ rfl⟩
   ·cases h1.1
  ·rcases TL with _ | ⟨x',_ | ⟨y',ys⟩⟩
   ·cases h1.1
   ·cases hv
    exact⟨x',h1.iF.1,kF x' rfl⟩
   ·cases h1.1
  ·rcases TL with _ | ⟨x',_ | ⟨y',ys⟩⟩
   ·cases h1.1
   ·cases h1.1
   ·cases hv
    exact⟨_,h1.Rp,kF _ (by simp)⟩
end
end Go.PM
namespace Go.PM
def Uy (P:Program) (E:xL) (L0:Nat):Prop :=
 ∀f p,E.Ae f=some p→HM P f∧∀args H v,p args H=some v→∀m w fN,Rel m L0 H w→RL m args fN →
  Calls P f fN.toArray w fun e w'=>∃rv,e = .returned rv∧RV m v rv∧w.heap.size≤w'.heap.size∧(∀rb,rb<w.heap.size→w'.heap[rb]? = w.heap[rb]?)∧w'.os=w.os∧w'.output=w.output∧w'.tape=w.tape
theorem Rel.more {m:cK} {L0:Nat} {H:aF} {w w':World} (h:Rel m L0 H w) (hk:∀rb,rb<w.heap.size→w'.heap[rb]? = w.heap[rb]?):Rel m L0 H w':=by
 have hv:∀b l,m b=some l→l.rb<w.heap.size:=fun b l hb=>by
  obtain⟨arr,e,fz,h1,_⟩:=h.valid b l hb
  exact(Array.getElem?_eq_some_iff.1 h1).1
 refine⟨fun b l hb=>by rw[hk _ (hv b l hb)];exact h.valid b l hb,fun b l cs e p hm hb => ?_,h.inj,fun x hx=>⟨?_,(h.Ba x hx).2⟩⟩
 ·obtain⟨h1,h2,h3,h4⟩:=h.row b l cs e p hm hb
  refine⟨h1,h2,h3,fun i hi => ?_⟩
  obtain⟨rv,g1,g2⟩:=h4 i hi
  refine⟨rv,?_,g2⟩
  rw[←g1]
  unfold World.cell?
  simp only[hk _ (hv b l hm)]
 ·obtain⟨e,fz,g1⟩:=(h.Ba x hx).1
  exact⟨e,fz,by rw[hk _ (Array.getElem?_eq_some_iff.1 g1).1];exact g1⟩
theorem Vl {P:Program} {E:xL} {f:Nat} {pf:aU} (h:NZ P E f=some pf):∃fn c,P.funcs[f]? = some fn∧fn.body=some c∧(fn.name == "runtime.NumGoroutine")=false∧fn.results.toList.mapM (uT P)=some pf.res∧fZ P E fn.ntmps c=some pf.body∧pf.ntmps=fn.ntmps:=by
 unfold NZ at h
 cases hf:P.funcs[f]? with
 | none=>rw[hf] at h;cases h
 |
  some fn =>
  rw[hf] at h
  have h':HP P E fn=some pf:=h
  unfold HP at h'
  cases hb:fn.body with
  | none=>rw[hb] at h';cases h'
  |
   some c =>
   rw[hb] at h'
   simp only at h'
   split at h'
   ·cases h'
   ·rename_i Ui
    split at h'
    ·cases h'
    ·rename_i res U6
     cases hc:fZ P E fn.ntmps c with
     | none=>rw[hc] at h';cases h'
     |
      some body =>
      rw[hc] at h'
      cases h'
      refine⟨fn,c,rfl,hb,by simpa using Ui,?_,hc,rfl⟩
      have e:(fun(r:ResultVar)=>match r with
       | .tmp t=>some (xK.tmp t)
       | .cell t ty=>(jP P ty).map fun(agg,size,_,_) => .cell t agg size)=uT P:=by
       funext r
       cases r<;>rfl
      rw[←e]
      exact U6
theorem E2 {P:Program} {E:xL} {T:WX} {L0:Nat} (AX:P.follows .mixedOrders=true) (T1:Uy P E L0) (hT:∀f pf,T f=some pf→NZ P E f=some pf):∀n,sN P L0 (jN E T n)
 | 0=>fun f args lo H v H' h=>by cases h
 |
  n+1=>fun f args lo H v H' h m w fN hR dP hlen OC hf=>by
  have nP:=Bp E T n
  rw[jN] at h
  split at h
  ·rename_i p hp
   obtain⟨hco,amR⟩:=T1 f p hp
   refine⟨hco,?_⟩
   cases hpv:p args H with
   | none=>rw[hpv] at h;cases h
   |
    some u =>
    rw[hpv] at h
    cases h
    refine(amR args H v hpv m w fN hR OC).mono ?_
    rintro e w' ⟨rv,rfl,h1,h2,h3,h4⟩
    exact⟨m,rv,rfl,h1,hR.more h3,fun _ _ h=>h,fun b l hb hn=>(by rw[hb] at hn;cases hn),h2,fun rb AF _=>h3 rb AF,h4⟩
  ·split at h
   ·cases h
   ·rename_i pf hpf
    obtain⟨fn,c,h1,h2,h3,h4,h5,h6⟩:=Vl (hT _ _ hpf)
    split at h
    case isFalse=>cases h
    rename_i sS
    refine⟨⟨fn,h1,h3,by rw[h2];rfl⟩,calls_of_wp h1 h2 ?_⟩
    have Aa:fN.toArray.size≤fn.ntmps:=by
     have:=OC.1
     simp;omega
    have hH:Et fn.ntmps L0 m (St args) H { tmps:=fN.toArray++Array.replicate (fn.ntmps-fN.toArray.size) undef,defers:=[] } w:=by
     refine⟨by simp at Aa ⊢;omega,rfl,fun t => ?_,hR⟩
     rcases Nat.lt_or_ge t args.length with ht | ht
     ·have h7:=OC.2 t ht
      have YN:t<fN.length:=by rw[←OC.1];exact ht
      have e:(fN.toArray++Array.replicate (fn.ntmps-fN.toArray.size) undef).getD t undef=fN.getD t undef:=by
       rw[Array.getD_eq_getD_getElem?,Array.getElem?_append_left (by simpa using YN)]
       simp
      show RV m (args.getD t undef) _
      rw[e]
      exact h7
     ·have e1:args.getD t undef=undef:=by simp[List.getD_eq_getElem?_getD,List.getElem?_eq_none ht]
      have YN:fN.length≤t:=by rw[←OC.1];exact ht
      have e2:(fN.toArray++Array.replicate (fn.ntmps-fN.toArray.size) undef).getD t undef=undef:=by
       rw[Array.getD_eq_getD_getElem?,Array.getElem?_append_right (by simpa using YN)]
       rw[Array.getElem?_replicate]
       split<;>rfl
      show RV m (args.getD t undef) _
      rw[e1,e2]
      exact RV.undef m
    split at h
    ·rename_i yA H1 kF
     cases hr:nF pf.res yA H1 with
     | none=>rw[hr] at h;cases h
     |
      some u =>
      rw[hr] at h
      cases h
      refine kY AX (E2 AX T1 hT n) nP dP n c pf.body h5 _ _ _ _ _ kF m _ w hH hlen hf _ fun m' a' w' hh hTr => ?_
      obtain⟨rv,g1,g2⟩:=Fy hh h4 hr
      exact⟨hh.defs,rv,g2,m',rv,rfl,g1,hh.rel,hTr⟩
    ·rename_i yA H1 kF
     cases hr:nF pf.res yA H1 with
     | none=>rw[hr] at h;cases h
     |
      some u =>
      rw[hr] at h
      cases h
      refine kY AX (E2 AX T1 hT n) nP dP n c pf.body h5 _ _ _ _ _ kF m _ w hH hlen hf _ fun m' a' w' hh hTr => ?_
      obtain⟨rv,g1,g2⟩:=Fy hh h4 hr
      exact⟨hh.defs,rv,g2,m',rv,rfl,g1,hh.rel,hTr⟩
    ·cases h
end Go.PM
namespace Go.PM
def CLe (c c':fC):Prop:=∀f args lo H r,c f args lo H=some r→c' f args lo H=some r
section
variable {c c':fC} {lo:Nat}
theorem Kj (h:CLe c c') {i:PI} {ρ:Env} {H:aF} {r:Value×aF} (hr:uC c lo i ρ H=some r):uC c' lo i ρ H=some r:=by
 unfold uC at hr ⊢
 split at hr
 ·cases hr
 ·exact hr
 ·split at hr
  ·rename_i Ma
   rw[if_pos Ma]
   split at hr
   ·exact hr
   ·exact h _ _ _ _ _ hr
   ·cases hr
  ·cases hr
theorem PZ (h:CLe c c') {i:PI} {ρ:Env} {H:aF} {r:Env×aF} (hr:tN c lo i ρ H=some r):tN c' lo i ρ H=some r:=by
 unfold tN at hr ⊢
 split at hr
 ·rename_i v H' hv
  rw[Kj h hv]
  exact hr
 ·cases hr
theorem uK (h:CLe c c'):∀ {is:List PI} {ρ:Env} {H:aF} {r:Env×aF},fT c lo is ρ H=some r→fT c' lo is ρ H=some r
 | [],_,_,_,hr=>hr
 |
  i::is,ρ,H,r,hr=>by
  rw[fT] at hr ⊢
  split at hr
  ·rename_i h1
   rw[PZ h h1]
   exact uK h hr
  ·cases hr
theorem sQ {b b':Env→aF→Option (Ex×Env×aF)} (h:∀ρ H r,b ρ H=some r→b' ρ H=some r):∀ {n n':Nat} {ρ:Env} {H:aF} {r:Ex×Env×aF},n≤n'→tM b n ρ H=some r→tM b' n' ρ H=some r
 | 0,_,_,_,_,_,hr=>by cases hr
 | n+1,0,_,_,_,hn,_=>by omega
 |
  n+1,n'+1,ρ,H,r,hn,hr=>by
  rw[tM] at hr ⊢
  split at hr
  ·rename_i h1
   rw[h _ _ _ h1]
   exact sQ h (by omega) hr
  ·rename_i cI
   rw[h _ _ _ hr]
   split
   ·rename_i aP H' he
    cases he
    exact absurd hr (cI _ _)
   ·rfl
theorem dM (h:CLe c c') {n n':Nat} (hn:n≤n'):∀(p:aH) {ρ:Env} {H:aF} {r:Ex×Env×aF},cL c lo n p ρ H=some r→cL c' lo n' p ρ H=some r
 | .skip,_,_,_,hr=>hr
 |
  .fG ops,ρ,H,r,hr=>by
  rw[cL] at hr ⊢
  cases hs:fT c lo ops ρ H with
  | none=>rw[hs] at hr;cases hr
  | some q=>rw[hs] at hr;rw[uK h hs];exact hr
 |
  .seq a b,ρ,H,r,hr=>by
  rw[cL] at hr ⊢
  split at hr
  ·rename_i h1
   rw[dM h hn a h1]
   exact dM h hn b hr
  ·rename_i cI
   rw[dM h hn a hr]
   split
   ·rename_i he;cases he;exact absurd hr (cI _ _)
   ·rfl
 |
  .cond x a b,ρ,H,r,hr=>by
  rw[cL] at hr ⊢
  split at hr
  ·split at hr
   ·rename_i ht;rw[if_pos ht];exact dM h hn a hr
   ·rename_i ht;rw[if_neg ht];exact dM h hn b hr
  ·cases hr
 |
  .block id a,ρ,H,r,hr=>by
  rw[cL] at hr ⊢
  split at hr
  ·rename_i h1
   rw[dM h hn a h1]
   exact hr
  ·rename_i cI
   rw[dM h hn a hr]
   split
   ·rename_i he;cases he;exact absurd hr (cI _ _ _)
   ·rfl
 |
  .loop a,ρ,H,r,hr=>by
  rw[cL] at hr ⊢
  exact sQ (fun ρ H r hr=>dM h hn a hr) hn hr
 | .exit id,_,_,_,hr=>hr
 | .ret,_,_,_,hr=>hr
theorem xY (E:xL) (T:WX):∀n,CLe (jN E T n) (jN E T (n+1))
 | 0,_,_,_,_,_,hr=>by cases hr
 |
  n+1,f,args,lo,H,r,hr=>by
  rw[jN] at hr ⊢
  split at hr
  ·exact hr
  ·split at hr
   ·cases hr
   ·split at hr
    ·rename_i pf _ ha
     rw[if_pos ha]
     split at hr
     ·rename_i h1
      rw[dM (xY E T n) (Nat.le_succ n) pf.body h1]
      exact hr
     ·rename_i h1
      rw[dM (xY E T n) (Nat.le_succ n) pf.body h1]
      exact hr
     ·cases hr
    ·cases hr
theorem lI (E:xL) (T:WX) {n n':Nat} (h:n≤n'):CLe (jN E T n) (jN E T n'):=by
 induction h with
 | refl=>exact fun _ _ _ _ _ h=>h
 | step _ ih=>exact fun f args lo H r hr=>xY E T _ f args lo H r (ih f args lo H r hr)
end
section
variable (E:xL) (T:WX)
open Classical in
noncomputable def lim {α:Type} (run:Nat→Option α):Option α:=if h:∃r,∃n,run n=some r then some (Classical.choose h) else none
theorem Qm {α:Type} {run:Nat→Option α} (hm:∀n n' r,n≤n'→run n=some r→run n'=some r) {r:α}:lim run=some r↔∃n,run n=some r:=by
 unfold lim
 constructor
 ·intro h
  split at h
  ·rename_i hx
   cases h
   exact Classical.choose_spec hx
  ·cases h
 ·rintro⟨n,hn⟩
  have hx:∃r,∃n,run n=some r:=⟨r,n,hn⟩
  rw[dif_pos hx]
  obtain⟨n',hn'⟩:=Classical.choose_spec hx
  have h1:=hm n (max n n') r (Nat.le_max_left _ _) hn
  have h2:=hm n' (max n n') _ (Nat.le_max_right _ _) hn'
  rw[h1] at h2
  injection h2 with h2
  rw[←h2]
noncomputable def call:fC:=fun f args lo H=>lim fun n=>jN E T n f args lo H
noncomputable def code (lo:Nat) (c:aH) (ρ:Env) (H:aF):Option (Ex×Env×aF):=lim fun n=>cL (jN E T n) lo n c ρ H
theorem qK {f:Nat} {args:List Value} {lo:Nat} {H:aF} {r:Value×aF}:call E T f args lo H=some r↔∃n,jN E T n f args lo H=some r :=
 Qm fun _ _ r h hr=>lI E T h f args lo H r hr
theorem bQ {lo:Nat} {c:aH} {ρ:Env} {H:aF} {r:Ex×Env×aF}:code E T lo c ρ H=some r↔∃n,cL (jN E T n) lo n c ρ H=some r :=
 Qm fun _ _ _ h hr=>dM (lI E T h) h c hr
theorem HL {lo:Nat}:∀ {is:List PI} {ρ:Env} {H:aF} {r:Env×aF},fT (call E T) lo is ρ H=some r↔∃n,fT (jN E T n) lo is ρ H=some r:=by
 have le:∀n,CLe (jN E T n) (call E T):=fun n f args lo H r hr=>(qK E T).2 ⟨n,hr⟩
 have val:∀ {i:PI} {ρ:Env} {H:aF} {r:Value×aF},uC (call E T) lo i ρ H=some r→∃n,uC (jN E T n) lo i ρ H=some r:=by
  intro i ρ H r hr
  unfold uC at hr ⊢
  split at hr
  ·cases hr
  ·exact⟨0,hr⟩
  ·split at hr
   ·rename_i Ma
    split at hr
    ·exact⟨0,by rw[if_pos Ma];exact hr⟩
    ·obtain⟨n,hn⟩:=(qK E T).1 hr
     exact⟨n,by rw[if_pos Ma];exact hn⟩
    ·cases hr
   ·cases hr
 intro is
 induction is with
 | nil=>exact fun {ρ H r}=>⟨fun h=>⟨0,h⟩,fun⟨_,h⟩=>h⟩
 |
  cons i is ih =>
  intro ρ H r
  constructor
  ·intro h
   rw[fT] at h
   split at h
   ·rename_i yA H1 h1
    obtain⟨v,hv,rfl⟩:=sO h1
    obtain⟨n1,hn1⟩:=val hv
    obtain⟨n2,Xk⟩:=ih.1 h
    refine⟨max n1 n2,?_⟩
    rw[fT]
    have e:tN (jN E T (max n1 n2)) lo i ρ H=some (put ρ i.dst v,H1):=by
     unfold tN
     rw[Kj (lI E T (Nat.le_max_left n1 n2)) hn1]
    rw[e]
    exact uK (lI E T (Nat.le_max_right n1 n2)) Xk
   ·cases h
  ·rintro⟨n,h⟩
   exact uK (le n) h
theorem yL {α:Type} {a b:Option α} (h:∀r,a=some r↔b=some r):a=b:=by
 cases a with
 |
  none =>
  cases b with
  | none=>rfl
  | some y=>exact((h y).2 rfl)
 | some x=>exact((h x).1 rfl).symm
variable {lo:Nat} {ρ:Env} {H:aF}
theorem SB:code E T lo .skip ρ H=some (.normal,ρ,H):=(bQ E T).2 ⟨0,rfl⟩
theorem TB {id:Nat}:code E T lo (.exit id) ρ H=some (.exit id,ρ,H):=(bQ E T).2 ⟨0,rfl⟩
theorem V5:code E T lo .ret ρ H=some (.ret,ρ,H):=(bQ E T).2 ⟨0,rfl⟩
theorem UZ {ops:List PI}:code E T lo (.fG ops) ρ H=(fT (call E T) lo ops ρ H).map fun(aP,H')=>(.normal,aP,H'):=by
 refine yL fun r => ?_
 rw[bQ]
 constructor
 ·rintro⟨n,h⟩
  rw[cL] at h
  cases hs:fT (jN E T n) lo ops ρ H with
  | none=>rw[hs] at h;cases h
  |
   some q =>
   rw[hs] at h
   rw[(HL E T).2 ⟨n,hs⟩]
   exact h
 ·intro h
  cases hs:fT (call E T) lo ops ρ H with
  | none=>rw[hs] at h;cases h
  |
   some q =>
   rw[hs] at h
   obtain⟨n,hn⟩:=(HL E T).1 hs
   exact⟨n,by rw[cL,hn];exact h⟩
theorem Wi {a b:aH}:code E T lo (.seq a b) ρ H=match code E T lo a ρ H with
  | some (.normal,aP,H')=>code E T lo b aP H'
  | r=>r:=by
 refine yL fun r => ?_
 rw[bQ]
 constructor
 ·rintro⟨n,h⟩
  rw[cL] at h
  split at h
  ·rename_i h1
   rw[(bQ E T).2 ⟨n,h1⟩]
   exact(bQ E T).2 ⟨n,h⟩
  ·rename_i cI
   rw[(bQ E T).2 ⟨n,h⟩]
   split
   ·rename_i he;cases he;exact absurd h (cI _ _)
   ·rfl
 ·intro h
  split at h
  ·rename_i h1
   obtain⟨n1,h1⟩:=(bQ E T).1 h1
   obtain⟨n2,h2⟩:=(bQ E T).1 h
   refine⟨max n1 n2,?_⟩
   rw[cL,dM (lI E T (Nat.le_max_left n1 n2)) (Nat.le_max_left n1 n2) a h1]
   exact dM (lI E T (Nat.le_max_right n1 n2)) (Nat.le_max_right n1 n2) b h2
  ·rename_i cI
   obtain⟨n,h1⟩:=(bQ E T).1 h
   refine⟨n,?_⟩
   rw[cL,h1]
   split
   ·rename_i he;cases he;exact absurd h (cI _ _)
   ·rfl
theorem S4 {x:Operand} {a b:aH}:code E T lo (.cond x a b) ρ H=match ev ρ x with
  | .bool t=>if t then code E T lo a ρ H else code E T lo b ρ H
  | _=>none:=by
 refine yL fun r => ?_
 rw[bQ]
 constructor
 ·rintro⟨n,h⟩
  rw[cL] at h
  split at h
  ·rename_i t he
   rw[he]
   show (if t=true then code E T lo a ρ H else code E T lo b ρ H)=some r
   split at h
   ·rename_i ht;rw[if_pos ht];exact(bQ E T).2 ⟨n,h⟩
   ·rename_i ht;rw[if_neg ht];exact(bQ E T).2 ⟨n,h⟩
  ·cases h
 ·intro h
  split at h
  ·rename_i t he
   split at h
   ·rename_i ht
    obtain⟨n,h⟩:=(bQ E T).1 h
    refine⟨n,?_⟩
    rw[cL,he]
    show (if t=true then _ else _)=_
    rw[if_pos ht]
    exact h
   ·rename_i ht
    obtain⟨n,h⟩:=(bQ E T).1 h
    refine⟨n,?_⟩
    rw[cL,he]
    show (if t=true then _ else _)=_
    rw[if_neg ht]
    exact h
  ·cases h
theorem O3 {id:Nat} {a:aH}:code E T lo (.block id a) ρ H=match code E T lo a ρ H with
  | some (.exit Ou,aP,H')=>if Ou=id then some (.normal,aP,H') else some (.exit Ou,aP,H')
  | r=>r:=by
 refine yL fun r => ?_
 rw[bQ]
 constructor
 ·rintro⟨n,h⟩
  rw[cL] at h
  split at h
  ·rename_i h1
   rw[(bQ E T).2 ⟨n,h1⟩]
   exact h
  ·rename_i cI
   rw[(bQ E T).2 ⟨n,h⟩]
   split
   ·rename_i he;cases he;exact absurd h (cI _ _ _)
   ·rfl
 ·intro h
  split at h
  ·rename_i h1
   obtain⟨n,h1⟩:=(bQ E T).1 h1
   exact⟨n,by rw[cL,h1];exact h⟩
  ·rename_i cI
   obtain⟨n,h1⟩:=(bQ E T).1 h
   refine⟨n,?_⟩
   rw[cL,h1]
   split
   ·rename_i he;cases he;exact absurd h (cI _ _ _)
   ·rfl
theorem Tf {a:aH}:code E T lo (.loop a) ρ H=match code E T lo a ρ H with
  | some (.normal,aP,H')=>code E T lo (.loop a) aP H'
  | r=>r:=by
 refine yL fun r => ?_
 rw[bQ]
 constructor
 ·rintro⟨n,h⟩
  rw[cL] at h
  cases n with
  | zero=>cases h
  |
   succ n =>
   rw[tM] at h
   split at h
   ·rename_i h1
    rw[(bQ E T).2 ⟨n+1,h1⟩]
    refine(bQ E T).2 ⟨n+1,?_⟩
    rw[cL]
    exact sQ (fun _ _ _ h=>h) (Nat.le_succ n) h
   ·rename_i cI
    rw[(bQ E T).2 ⟨n+1,h⟩]
    split
    ·rename_i he;cases he;exact absurd h (cI _ _)
    ·rfl
 ·intro h
  split at h
  ·rename_i h1
   obtain⟨n1,h1⟩:=(bQ E T).1 h1
   obtain⟨n2,h2⟩:=(bQ E T).1 h
   refine⟨max n1 n2+1,?_⟩
   have g1:=dM (lI E T (show n1≤max n1 n2+1 by omega)) (show n1≤max n1 n2+1 by omega) a h1
   rw[cL,tM,g1]
   rw[cL] at h2
   exact sQ (fun _ _ _ h=>dM (lI E T (show n2≤max n1 n2+1 by omega)) (show n2≤max n1 n2+1 by omega) a h) (show n2≤max n1 n2 by omega) h2
  ·rename_i cI
   obtain⟨n,h1⟩:=(bQ E T).1 h
   refine⟨n+1,?_⟩
   rw[cL,tM,dM (xY E T n) (Nat.le_succ n) a h1]
   split
   ·rename_i he;cases he;exact absurd h (cI _ _)
   ·rfl
noncomputable def acR (lo:Nat) (pf:aU) (args:List Value) (H:aF):Option (Value×aF) :=
 if args.length≤pf.ntmps then
  match code E T lo pf.body (St args) H with
  | some (.normal,ρ,H') | some (.ret,ρ,H')=>(nF pf.res ρ H').map (·,H')
  | _=>none
 else none
theorem SD {f:Nat} {p:List Value→aF→Option Value} (h:E.Ae f=some p) {args:List Value}:call E T f args lo H=(p args H).map (·,H):=by
 refine yL fun r => ?_
 rw[qK]
 constructor
 ·rintro⟨n,hr⟩
  cases n with
  | zero=>cases hr
  | succ n=>rw[jN,h] at hr;exact hr
 ·intro hr
  exact⟨1,by rw[jN,h];exact hr⟩
theorem YH {f:Nat} {pf:aU} (hp:E.Ae f=none) (h:T f=some pf) {args:List Value}:call E T f args lo H=acR E T lo pf args H:=by
 refine yL fun r => ?_
 rw[qK]
 unfold acR
 constructor
 ·rintro⟨n,hr⟩
  cases n with
  | zero=>cases hr
  |
   succ n =>
   rw[jN,hp,h] at hr
   simp only at hr
   split at hr
   ·rename_i ha
    rw[if_pos ha]
    split at hr
    ·rename_i h1
     rw[(bQ E T).2 ⟨n,h1⟩]
     exact hr
    ·rename_i h1
     rw[(bQ E T).2 ⟨n,h1⟩]
     exact hr
    ·cases hr
   ·cases hr
 ·intro hr
  split at hr
  ·rename_i ha
   split at hr
   ·rename_i h1
    obtain⟨n,h1⟩:=(bQ E T).1 h1
    exact⟨n+1,by rw[jN,hp,h];simp only;rw[if_pos ha,h1];exact hr⟩
   ·rename_i h1
    obtain⟨n,h1⟩:=(bQ E T).1 h1
    exact⟨n+1,by rw[jN,hp,h];simp only;rw[if_pos ha,h1];exact hr⟩
   ·cases hr
  ·cases hr
end
end Go.PM
namespace Go.PM
theorem Bx {H H':aF} {lo As b o:Nat} {new:List Value} (hl:As≤lo) (h:H.write lo b o new=some H'):H.write As b o new=some H':=by
 unfold aF.write at h ⊢
 split at h
 ·split at h
  ·rename_i hc
   rw[if_pos ⟨by omega,hc.2⟩]
   exact h
  ·cases h
 ·cases h
theorem yM {α β:Type} {a b:Option α} {f:α→β} {r:β} (Hy:∀x,a=some x→b=some x) (h:a.map f=some r):b.map f=some r:=by
 cases a with
 | none=>cases h
 | some x=>rw[Hy x rfl];exact h
theorem FE {lo As size bytes add:Nat} {x:Value} {new:List Value} {H:aF} {r:Value×aF} (hl:As≤lo) (h:dF lo size bytes x add new H=some r):dF As size bytes x add new H=some r:=by
 unfold dF at h ⊢
 split at h
 case isFalse=>cases h
 rename_i hc
 rw[if_pos hc]
 split at h
 ·exact h
 ·split at h
  ·split at h
   ·rename_i h1
    skip
    rw[if_pos h1]
    split at h
    ·rename_i h2
     rw[if_pos h2]
     split at h
     ·rename_i h3;rw[if_pos h3];exact h
     ·rename_i h3
      rw[if_neg h3]
      exact yM (fun H' hw=>Bx hl hw) h
    ·rename_i h2
     rw[if_neg h2]
     split at h
     ·rename_i h3
      rw[if_pos h3]
      split at h
      ·rename_i h4
       rw[if_pos h4]
       split at h
       ·rename_i h5;rw[if_pos (by omega)];exact h
       ·cases h
      ·rename_i h4;rw[if_neg h4];exact h
     ·cases h
   ·cases h
  ·cases h
 ·cases h
theorem Ra {lo As:Nat} {p:kO} {ρ:Env} {H:aF} {o:Out} (hl:As≤lo) (h:pop lo p ρ H=some o):pop As p ρ H=some o:=by
 cases p<;>first | exact h | skip
 case store size q v =>
  simp only[pop] at h ⊢
  split at h
  ·split at h
   ·rename_i h1
    skip
    rw[if_pos h1]
    exact yM (fun H' hw=>Bx hl hw) h
   ·cases h
  ·cases h
 case app size bytes x y =>
  simp only[pop] at h ⊢
  split at h
  ·split at h
   ·skip
    exact yM (fun H' hw=>FE hl hw) h
   ·cases h
  ·cases h
 case appz z bytes x n =>
  simp only[pop] at h ⊢
  split at h
  ·split at h
   ·rename_i h1
    skip
    rw[if_pos h1]
    exact yM (fun H' hw=>FE hl hw) h
   ·cases h
  ·cases h
 case copy size x y =>
  simp only[pop] at h ⊢
  split at h
  ·exact h
  ·split at h
   ·skip
    exact yM (fun H' hw=>Bx hl hw) h
   ·cases h
  ·cases h
 case clear z x =>
  simp only[pop] at h ⊢
  split at h
  ·exact h
  ·skip
   split at h
   ·rename_i h1;rw[if_pos h1];exact h
   ·rename_i h1
    rw[if_neg h1]
    exact yM (fun H' hw=>Bx hl hw) h
  ·cases h
def UX (c:fC):Prop:=∀f args lo As H r,As≤lo→c f args lo H=some r→c f args As H=some r
section
variable {c:fC} {lo As:Nat}
theorem Ir (hc:UX c) (hl:As≤lo):∀ {is:List PI} {ρ:Env} {H:aF} {r:Env×aF},fT c lo is ρ H=some r→fT c As is ρ H=some r
 | [],_,_,_,h=>h
 |
  i::is,ρ,H,r,h=>by
  rw[fT] at h ⊢
  split at h
  ·rename_i yA H1 h1
   have e:tN c As i ρ H=some (yA,H1):=by
    unfold tN at h1 ⊢
    split at h1
    ·rename_i v H2 hv
     have:uC c As i ρ H=some (v,H2):=by
      unfold uC at hv ⊢
      split at hv
      ·cases hv
      ·exact hv
      ·split at hv
       ·rename_i Ma
        rw[if_pos Ma]
        split at hv
        ·rename_i hp;rw[Ra hl hp];exact hv
        ·rename_i hp
         rw[Ra hl hp]
         show c _ _ (if i.quiet=true then H.length else As) H=_
         cases hq:i.quiet with
         | true=>rw[hq] at hv;exact hv
         | false=>rw[hq] at hv;exact hc _ _ _ _ _ _ hl hv
        ·cases hv
       ·cases hv
     rw[this]
     exact h1
    ·cases h1
   rw[e]
   exact Ir hc hl h
  ·cases h
theorem SZ {b b':Env→aF→Option (Ex×Env×aF)} (h:∀ρ H r,b ρ H=some r→b' ρ H=some r):∀ {n:Nat} {ρ:Env} {H:aF} {r:Ex×Env×aF},tM b n ρ H=some r→tM b' n ρ H=some r :=
 fun hr=>sQ h (Nat.le_refl _) hr
theorem kL (hc:UX c) (hl:As≤lo) {n:Nat}:∀(p:aH) {ρ:Env} {H:aF} {r:Ex×Env×aF},cL c lo n p ρ H=some r→cL c As n p ρ H=some r
 | .skip,_,_,_,hr=>hr
 |
  .fG ops,ρ,H,r,hr=>by
  rw[cL] at hr ⊢
  exact yM (fun _ h=>Ir hc hl h) hr
 |
  .seq a b,ρ,H,r,hr=>by
  rw[cL] at hr ⊢
  split at hr
  ·rename_i h1
   rw[kL hc hl a h1]
   exact kL hc hl b hr
  ·rename_i cI
   rw[kL hc hl a hr]
   split
   ·rename_i he;cases he;exact absurd hr (cI _ _)
   ·rfl
 |
  .cond x a b,ρ,H,r,hr=>by
  rw[cL] at hr ⊢
  split at hr
  ·split at hr
   ·rename_i ht;rw[if_pos ht];exact kL hc hl a hr
   ·rename_i ht;rw[if_neg ht];exact kL hc hl b hr
  ·cases hr
 |
  .block id a,ρ,H,r,hr=>by
  rw[cL] at hr ⊢
  split at hr
  ·rename_i h1
   rw[kL hc hl a h1]
   exact hr
  ·rename_i cI
   rw[kL hc hl a hr]
   split
   ·rename_i he;cases he;exact absurd hr (cI _ _ _)
   ·rfl
 |
  .loop a,ρ,H,r,hr=>by
  rw[cL] at hr ⊢
  exact SZ (fun ρ H r hr=>kL hc hl a hr) hr
 | .exit id,_,_,_,hr=>hr
 | .ret,_,_,_,hr=>hr
end
theorem EN (E:xL) (T:WX):∀n,UX (jN E T n)
 | 0,_,_,_,_,_,_,_,h=>by cases h
 |
  n+1,f,args,lo,As,H,r,hl,h=>by
  rw[jN] at h ⊢
  split at h
  ·exact h
  ·split at h
   ·cases h
   ·split at h
    ·rename_i pf _ ha
     rw[if_pos ha]
     split at h
     ·rename_i h1;rw[kL (EN E T n) hl pf.body h1];exact h
     ·rename_i h1;rw[kL (EN E T n) hl pf.body h1];exact h
     ·cases h
    ·cases h
section
variable {E:xL} {T:WX}
theorem Wy {f:Nat} {args:List Value} {lo As:Nat} {H:aF} {r:Value×aF} (hl:As≤lo) (h:call E T f args lo H=some r):call E T f args As H=some r:=by
 obtain⟨n,hn⟩:=(qK E T).1 h
 exact(qK E T).2 ⟨n,EN E T n f args lo As H r hl hn⟩
theorem Vt {f:Nat} {args:List Value} {lo:Nat} {H H':aF} {v:Value} (h:call E T f args lo H=some (v,H')):Ext lo H H':=by
 obtain⟨n,hn⟩:=(qK E T).1 h
 exact Bp E T n f args lo H v H' hn
theorem Ext.more {H H':aF} (h:Ext H.length H H'):∃K,H'=H++K:=by
 refine⟨H'.drop H.length,?_⟩
 apply List.ext_getElem?
 intro i
 rcases Nat.lt_or_ge i H.length with hi | hi
 ·rw[List.getElem?_append_left hi]
  exact h.low i hi hi
 ·rw[List.getElem?_append_right hi,List.getElem?_drop,show H.length+(i-H.length)=i by omega]
def Rh (E:xL) (T:WX) (f:Nat) (args:List Value) (H:aF) (R:Value→aF→Prop):Prop :=
 ∃v K,call E T f args H.length H=some (v,H++K)∧R v (H++K)
theorem Rh.at {f:Nat} {args:List Value} {H:aF} {R:Value→aF→Prop} (h:Rh E T f args H R) {lo:Nat} (hl:lo≤H.length):∃v K,call E T f args lo H=some (v,H++K)∧R v (H++K):=by
 obtain⟨v,K,h1,h2⟩:=h
 exact⟨v,K,Wy hl h1,h2⟩
theorem Rh.mk {f:Nat} {args:List Value} {H H':aF} {v:Value} {R:Value→aF→Prop} (h:call E T f args H.length H=some (v,H')) (hr:R v H'):Rh E T f args H R:=by
 obtain⟨K,rfl⟩:=(Vt h).more
 exact⟨v,K,h,hr⟩
end
end Go.PM
namespace Go.PM
def strCells:List Value→Option (List ByteArray)
 | []=>some []
 | .string s::r=>(strCells r).map (s :: ·)
 | _=>none
def qR:List Value→aF→Option Value
 | [.int .u64 n,.int .i64 b],_=>if b=10∧0≤n∧n<18446744073709551616 then some (.string ⟨(Lib.decDigits n.toNat).toArray⟩) else none
 | _,_=>none
def Dk:List Value→aF→Option Value
 | [.string s,.int .i64 c],_=>if 0≤c∧c≤9223372036854775807∧s.size*c.toNat≤140737488355328 then some (.string ⟨(Lib.repeatL s.data.toList c.toNat).toArray⟩) else none
 | _,_=>none
def A8:List Value→aF→Option Value
 | [.int .u32 x],_=>if 0≤x∧x≤4294967295 then some (.int .i64 (32-(Lib.bitLen x.toNat:Int))) else none
 | _,_=>none
def Md:List Value→aF→Option Value
 | [.slice none 0 0,.string _],_=>some (.string ⟨#[]⟩)
 |
  [.slice (some ⟨b,o,none⟩) n c,.string sep],H =>
  if n=0 then some (.string ⟨#[]⟩) else
  match (H.read b o n).bind strCells with
  | some xs=>if xs.length=n∧n≤c∧n≤140737488355328∧(Lib.join (xs.map (·.data.toList)) sep.data.toList).length≤140737488355328 then some (.string ⟨(Lib.join (xs.map (·.data.toList)) sep.data.toList).toArray⟩) else none
  | none=>none
 | _,_=>none
def OW:List Value→aF→Option Value
 |
  [.string s,.string p],_=>match p.data.toList with
  | [c]=>some (.int .i64 (Lib.indexByte s.data.toList c))
  | _=>none
 | _,_=>none
def CS:List Value→aF→Option Value
 |
  [.string s,.int .i64 b,.int .i64 z],_=>if b=10∧z=64∧s.size≤9223372036854775806 then
   match Lib.parseUintB 64 s.data.toList with
   | .ok u=>some (.tuple #[.int .u64 (u:Int),.nilIface])
   | _=>none
  else none
 | _,_=>none
end Go.PM
namespace Go.PM
open Go.Proofs
def anA:List Nat:=[]
 ++ [25]
 ++ [76]
 ++ [73]
 ++ [122]
 ++ [133]
 ++ [134]
def FT (f:Nat):Option (List Value→aF→Option Value) :=
 if f=123 then some qR else
 if f=124 then some Dk else
 if f=126 then some Md else
 if f=120 then some A8 else
 (fun _=>none) f
def cfg:xL:={ Ae:=FT,eff:=fun f=>anA.contains f }
noncomputable def iY:WX:=fun f=>if (FT f).isSome then none else NZ Tryz.prog cfg f
theorem aaS (f:Nat) (pf:aU) (h:iY f=some pf):NZ Tryz.prog cfg f=some pf:=by
 unfold iY at h
 split at h
 ·cases h
 ·exact h
theorem Pt {f:Nat} {pf:aU} (h:iY f=some pf):cfg.Ae f=none:=by
 unfold iY at h
 split at h
 ·cases h
 ·rename_i h1
  show FT f=none
  cases hp:FT f with
  | none=>rfl
  | some p=>rw[hp] at h1;exact absurd rfl h1
end Go.PM
namespace Go.PM
noncomputable abbrev nK:fC:=call cfg iY
def W (lo:Nat) (c:aH) (Q:Ex→Env→aF→Prop) (ρ:Env) (H:aF):Prop:=∃x aP H',code cfg iY lo c ρ H=some (x,aP,H')∧Q x aP H'
def WS (lo:Nat) (is:List PI) (K:Env→aF→Prop) (ρ:Env) (H:aF):Prop:=∃aP H',fT nK lo is ρ H=some (aP,H')∧K aP H'
def aoB (lo:Nat) (b:aH) (Q:Ex→Env→aF→Prop):Ex→Env→aF→Prop
 | .normal,ρ,H=>W lo b Q ρ H
 | x,ρ,H=>Q x ρ H
def ahS (id:Nat) (Q:Ex→Env→aF→Prop):Ex→Env→aF→Prop
 | .exit Ou,ρ,H=>if Ou=id then Q .normal ρ H else Q (.exit Ou) ρ H
 | x,ρ,H=>Q x ρ H
def ajP (res:List xK) (R:Value→aF→Prop):Ex→Env→aF→Prop
 | .exit _,_,_=>False
 | _,ρ,H=>∃v,nF res ρ H=some v∧R v H
def ahR (J:Env→aF→Prop) (Q:Ex→Env→aF→Prop):Ex→Env→aF→Prop
 | .normal,ρ,H=>J ρ H
 | x,ρ,H=>Q x ρ H
section
variable {lo:Nat} {Q:Ex→Env→aF→Prop} {K:Env→aF→Prop} {ρ:Env} {H:aF} {b:aH} {id:Nat} {R:Value→aF→Prop} {res:List xK} {J:Env→aF→Prop}
theorem Fi {i:Nat}:ahS id Q (.exit i) ρ H=if i=id then Q .normal ρ H else Q (.exit i) ρ H:=rfl
theorem aaI:W lo .skip Q ρ H=Q .normal ρ H:=by
 unfold W
 rw[SB]
 exact propext ⟨fun⟨_,_,_,h,hq⟩=>(by cases h;exact hq),fun h=>⟨_,_,_,rfl,h⟩⟩
theorem ZV {i:Nat}:W lo (.exit i) Q ρ H=Q (.exit i) ρ H:=by
 unfold W
 rw[TB]
 exact propext ⟨fun⟨_,_,_,h,hq⟩=>(by cases h;exact hq),fun h=>⟨_,_,_,rfl,h⟩⟩
theorem afK:W lo .ret Q ρ H=Q .ret ρ H:=by
 unfold W
 rw[V5]
 exact propext ⟨fun⟨_,_,_,h,hq⟩=>(by cases h;exact hq),fun h=>⟨_,_,_,rfl,h⟩⟩
theorem agZ {ops:List PI}:W lo (.fG ops) Q ρ H=WS lo ops (Q .normal) ρ H:=by
 unfold W WS
 rw[UZ]
 apply propext
 constructor
 ·rintro⟨x,aP,H',h,hq⟩
  cases hs:fT (call cfg iY) lo ops ρ H with
  | none=>rw[hs] at h;cases h
  |
   some q =>
   rw[hs] at h
   cases h
   exact⟨_,_,rfl,hq⟩
 ·rintro⟨aP,H',h,hq⟩
  exact⟨_,_,_,by rw[h];rfl,hq⟩
theorem afQ {a:aH}:W lo (.seq a b) Q ρ H=W lo a (aoB lo b Q) ρ H:=by
 unfold W
 rw[Wi]
 apply propext
 constructor
 ·rintro⟨x,aP,H',h,hq⟩
  split at h
  ·rename_i yA H1 h1
   exact⟨_,_,_,h1,x,aP,H',h,hq⟩
  ·rename_i cI
   refine⟨x,aP,H',h,?_⟩
   cases x with
   | normal=>exact absurd h (cI _ _)
   | exit i=>exact hq
   | ret=>exact hq
 ·rintro⟨x,aP,H',h,hq⟩
  rw[h]
  cases x with
  | normal=>exact hq
  | exit i=>exact⟨_,_,_,rfl,hq⟩
  | ret=>exact⟨_,_,_,rfl,hq⟩
theorem YZ {a:aH}:W lo (.block id a) Q ρ H=W lo a (ahS id Q) ρ H:=by
 unfold W
 rw[O3]
 apply propext
 constructor
 ·rintro⟨x,aP,H',h,hq⟩
  split at h
  ·rename_i Ou yA H1 h1
   refine⟨_,_,_,h1,?_⟩
   rw[Fi]
   split at h
   ·rename_i he;cases h;rw[if_pos he];exact hq
   ·rename_i he;cases h;rw[if_neg he];exact hq
  ·rename_i cI
   refine⟨x,aP,H',h,?_⟩
   cases x with
   | normal=>exact hq
   | exit i=>exact absurd h (cI _ _ _)
   | ret=>exact hq
 ·rintro⟨x,aP,H',h,hq⟩
  rw[h]
  cases x with
  | normal=>exact⟨_,_,_,rfl,hq⟩
  |
   exit i =>
   rw[Fi] at hq
   show ∃x BW H'',(if i=id then some (Ex.normal,aP,H') else some (Ex.exit i,aP,H'))=some (x,BW,H'')∧Q x BW H''
   split at hq
   ·rename_i he;rw[if_pos he];exact⟨_,_,_,rfl,hq⟩
   ·rename_i he;rw[if_neg he];exact⟨_,_,_,rfl,hq⟩
  | ret=>exact⟨_,_,_,rfl,hq⟩
theorem acJ {x:Operand} {a:aH}:W lo (.cond x a b) Q ρ H=∃t,ev ρ x = .bool t∧((t=true→W lo a Q ρ H)∧(t=false→W lo b Q ρ H)):=by
 unfold W
 rw[S4]
 apply propext
 constructor
 ·rintro⟨y,aP,H',h,hq⟩
  split at h
  ·rename_i t ht
   cases t with
   | true=>exact⟨true,ht,fun _=>⟨y,aP,H',h,hq⟩,fun h=>by cases h⟩
   | false=>exact⟨false,ht,fun h=>(by cases h),fun _=>⟨y,aP,H',h,hq⟩⟩
  ·cases h
 ·rintro⟨t,ht,h1,h2⟩
  rw[ht]
  cases t with
  | true=>exact h1 rfl
  | false=>exact h2 rfl
theorem W.mono {Q':Ex→Env→aF→Prop} {c:aH} (h:W lo c Q ρ H) (hq:∀x ρ H,Q x ρ H→Q' x ρ H):W lo c Q' ρ H:=by
 obtain⟨x,aP,H',h1,h2⟩:=h
 exact⟨x,aP,H',h1,hq _ _ _ h2⟩
noncomputable def iL (lo:Nat) (q:Bool) (op:kO) (ρ:Env) (H:aF):Option (Value×aF) :=
 match pop lo op ρ H with
 | some (.val v H')=>some (v,H')
 | some (.call f args)=>nK f args (if q then H.length else lo) H
 | none=>none
theorem abD:WS lo [] K ρ H=K ρ H:=by
 unfold WS
 apply propext
 constructor
 ·rintro⟨aP,H',h,hk⟩;cases h;exact hk
 ·intro h;exact⟨ρ,H,rfl,h⟩
theorem aeD {i:PI} {is:List PI}:WS lo (i::is) K ρ H=∃v H',uC nK lo i ρ H=some (v,H')∧WS lo is K (put ρ i.dst v) H':=by
 unfold WS
 apply propext
 constructor
 ·rintro⟨aP,H',h,hk⟩
  rw[fT] at h
  split at h
  ·rename_i yA H1 h1
   obtain⟨v,hv,rfl⟩:=sO h1
   exact⟨v,H1,hv,aP,H',h,hk⟩
  ·cases h
 ·rintro⟨v,H1,hv,aP,H',h,hk⟩
  refine⟨aP,H',?_,hk⟩
  rw[fT]
  unfold tN
  rw[hv]
  exact h
variable {q:Bool}
theorem cO {op:kO} (h:pP op=true):iL lo q op ρ H=(gC op ρ).map (·,H):=by
 unfold iL
 rw[tR h]
 cases gC op ρ<;>rfl
theorem Yx {x:Operand}:iL lo q (.mv x) ρ H=some (ev ρ x,H):=rfl
theorem Sg {c a b:Operand}:iL lo q (.pick c a b) ρ H=(match ev ρ c with | .bool t=>some ((if t=true then ev ρ a else ev ρ b),H) | _=>none):=by
 rw[cO rfl]
 simp only[gC]
 cases ev ρ c<;>rfl
theorem WC {op:BinOp} {x y:Operand}:iL lo q (.bin op x y) ρ H=(cY op (ev ρ x) (ev ρ y)).map (·,H):=cO rfl
theorem YL {op:UnOp} {x:Operand}:iL lo q (.un op x) ρ H=(TT op (ev ρ x)).map (·,H):=cO rfl
theorem Sl {f:Nat} {args:List Operand}:iL lo q (.call f args) ρ H=nK f (args.map (ev ρ)) (if q then H.length else lo) H:=rfl
end
theorem Wn {f lo:Nat} {pf:aU} {args:List Value} {H:aF} {R:Value→aF→Prop} (ht:iY f=some pf) (ha:args.length≤pf.ntmps) (h:W lo pf.body (ajP pf.res R) (St args) H):∃v H',nK f args lo H=some (v,H')∧R v H':=by
 obtain⟨x,aP,H',h1,h2⟩:=h
 show ∃v H',call cfg iY f args lo H=some (v,H')∧R v H'
 rw[YH cfg iY (Pt ht) ht]
 unfold acR
 rw[if_pos ha,h1]
 cases x with
 | exit i=>exact h2.elim
 |
  normal =>
  obtain⟨v,h3,h4⟩:=h2
  exact⟨v,H',by simp only;rw[h3];rfl,h4⟩
 |
  ret =>
  obtain⟨v,h3,h4⟩:=h2
  exact⟨v,H',by simp only;rw[h3];rfl,h4⟩
end Go.PM
namespace Go.PM
theorem wrap64 {x:Int} (h1 : -9223372036854775808≤x) (h2:x≤9223372036854775807):IntKind.i64.wrap x=x:=by
 rw[IntKind.wrap_i64]
 omega
section
variable {k:IntKind} {a b:Int}
theorem Mm:cY .add (.int k a) (.int k b)=some (.int k (k.wrap (a+b))):=by simp[cY]
theorem NJ:cY .sub (.int k a) (.int k b)=some (.int k (k.wrap (a-b))):=by simp[cY]
theorem NI:cY .mul (.int k a) (.int k b)=some (.int k (k.wrap (a*b))):=by simp[cY]
theorem Nc:cY .lss (.int k a) (.int k b)=some (.bool (decide (a<b))):=by simp[cY]
theorem NC:cY .leq (.int k a) (.int k b)=some (.bool (decide (a≤b))):=by simp[cY]
theorem Od:cY .gtr (.int k a) (.int k b)=some (.bool (decide (b<a))):=by simp[cY]
theorem Oo:cY .geq (.int k a) (.int k b)=some (.bool (decide (b≤a))):=by simp[cY]
theorem NH:cY .eql (.int k a) (.int k b)=some (.bool (decide (a=b))):=by
 simp only[cY,if_true]
 rfl
theorem Mr:cY .neq (.int k a) (.int k b)=some (.bool (!decide (a=b))):=by
 simp only[cY,if_true]
 rfl
theorem RC:TT .neg (.int k a)=some (.int k (k.wrap (0-a))):=rfl
theorem Qn {t:Bool}:TT .not (.bool t)=some (.bool (!t)):=rfl
end
def ahD:Value→Option Value
 | .slice _ n _=>some (.int .i64 n)
 | _=>none
def Po (neg:Bool):Value→Value→Option Value
 | .bool a,.bool b=>some (.bool ((a == b) != neg))
 | _,_=>none
def V3 (neg:Bool):Value→Option Value
 | .slice none _ _=>some (.bool (true != neg))
 | .slice (some _) _ _=>some (.bool (false != neg))
 | _=>none
def W9 (neg:Bool) (ks:List CK):Value→Value→Option Value
 | .agg a,.agg b=>(lT ks a.toList b.toList).map fun t => .bool (t != neg)
 | _,_=>none
def P6 (k:IntKind):Value→Option Value
 | .int _ n=>some (.int k (k.wrap n))
 | _=>none
def acG (i:Nat):Value→Option Value
 | .tuple vs=>vs[i]?
 | _=>none
def YE (agg:Bool) (off size:Nat):Value→Option Value
 | .agg cs=>if agg then (if off+size≤cs.size then some (.agg (cs.extract off (off+size))) else none) else cs[off]?
 | _=>none
def afG:Value→Option Value
 | .pointer (some a)=>some (.pointer (some a))
 | _=>none
def Vx (off:Nat):Value→Option Value
 | .pointer (some ⟨b,o,none⟩)=>some (.pointer (some ⟨b,o+off,none⟩))
 | _=>none
def LP (size:Nat):Value→Value→Option Value
 | .slice (some ⟨b,o,none⟩) n _,.int _ i=>if 0≤i∧i<n then some (.pointer (some ⟨b,o+i.toNat*size,none⟩)) else none
 | _,_=>none
def MX:Value→Value→Option Value
 | .int k a,.int _ b=>some (.int k (if b<a then b else a))
 | _,_=>none
def Ol:Value→Value→Option Value
 | .int k a,.int _ b=>some (.int k (if b>a then b else a))
 | _,_=>none
section
variable {lo:Nat} {ρ:Env} {H:aF} {q:Bool}
theorem lU {op:kO} {r:Option (Value×aF)} (h:pop lo op ρ H=r.map fun(v,H') => .val v H'):iL lo q op ρ H=r:=by
 unfold iL
 rw[h]
 cases r<;>rfl
theorem UB {x:Operand}:iL lo q (.len x) ρ H=(ahD (ev ρ x)).map (·,H):=cO rfl
theorem Wz {neg:Bool} {x y:Operand}:iL lo q (.eqb neg x y) ρ H=(Po neg (ev ρ x) (ev ρ y)).map (·,H):=cO rfl
theorem Qb {neg:Bool} {x:Operand}:iL lo q (.isnil neg x) ρ H=(V3 neg (ev ρ x)).map (·,H):=cO rfl
theorem OP {neg:Bool} {ks:List CK} {x y:Operand}:iL lo q (.eqagg neg ks x y) ρ H=(W9 neg ks (ev ρ x) (ev ρ y)).map (·,H):=cO rfl
theorem Vz {k:IntKind} {x:Operand}:iL lo q (.cvt k x) ρ H=(P6 k (ev ρ x)).map (·,H):=cO rfl
theorem W0 {i:Nat} {x:Operand}:iL lo q (.ext x i) ρ H=(acG i (ev ρ x)).map (·,H):=cO rfl
theorem TW {agg:Bool} {off size:Nat} {x:Operand}:iL lo q (.fld agg off size x) ρ H=(YE agg off size (ev ρ x)).map (·,H):=cO rfl
theorem Pj {z:List Value} {places:List (Nat×Nat)} {parts:List (Nat×Operand)}:iL lo q (.build z places parts) ρ H=((rV places z (parts.map fun(i,x)=>(i,ev ρ x))).map fun cs=>Value.agg cs.toArray).map (·,H):=cO rfl
theorem Wf {x:Operand}:iL lo q (.chk x) ρ H=(afG (ev ρ x)).map (·,H):=cO rfl
theorem O0 {off:Nat} {x:Operand}:iL lo q (.faddr off x) ρ H=(Vx off (ev ρ x)).map (·,H):=cO rfl
theorem PV {size:Nat} {x i:Operand}:iL lo q (.iaddr size x i) ρ H=(LP size (ev ρ x) (ev ρ i)).map (·,H):=cO rfl
theorem SH {f:Nat} {eV:List Operand}:iL lo q (.mkfn f eV) ρ H=some (.func (.func f) #[] (eV.map (ev ρ)).toArray,H):=cO rfl
theorem Xc {x y:Operand}:iL lo q (.min x y) ρ H=(MX (ev ρ x) (ev ρ y)).map (·,H):=cO rfl
theorem US {x y:Operand}:iL lo q (.max x y) ρ H=(Ol (ev ρ x) (ev ρ y)).map (·,H):=cO rfl
theorem Tj {agg:Bool} {size:Nat} {p:Operand}:iL lo q (.load agg size p) ρ H=(kU agg size (ev ρ p) H).map (·,H):=by
 unfold iL
 simp only[pop]
 cases kU agg size (ev ρ p) H<;>rfl
theorem Wk {size:Nat} {x:Operand} {l h m:Option Operand}:iL lo q (.sub size x l h m) ρ H=Ah size (ev ρ x) (l.map (ev ρ)) (h.map (ev ρ)) (m.map (ev ρ)) H:=by
 unfold iL
 simp only[pop]
 cases Ah size (ev ρ x) (l.map (ev ρ)) (h.map (ev ρ)) (m.map (ev ρ)) H<;>rfl
theorem Uq {z:List Value}:iL lo q (.new z) ρ H=some (.pointer (some ⟨H.length,0,none⟩),H++[.row z z.length false]):=rfl
theorem Uu {x:Operand}:iL lo q (.box x) ρ H=if (aK (ev ρ x)).all fU then some (.pointer (some ⟨H.length,0,none⟩),H++[.row (aK (ev ρ x)) (aK (ev ρ x)).length false]) else none:=by
 apply lU
 simp only[pop]
 by_cases h:(aK (ev ρ x)).all fU=true
 ·rw[if_pos h,if_pos h];rfl
 ·rw[if_neg h,if_neg h];rfl
def RW (z:List Value) (bytes:Nat) (l c:Value) (H:aF):Option (Value×aF) :=
 match l,c with
 | .int .i64 l,.int .i64 c=>if 0≤l∧l≤c∧c*bytes≤281474976710656∧c≤9223372036854775807 then
  some (.slice (some ⟨H.length,0,none⟩) l.toNat c.toNat,H++[.row (bZ c.toNat z) z.length false]) else none
 | _,_=>none
theorem Si {z:List Value} {bytes:Nat} {l c:Operand}:iL lo q (.make z bytes l c) ρ H=RW z bytes (ev ρ l) (ev ρ c) H:=by
 apply lU
 simp only[pop]
 unfold RW
 split
 ·rename_i l c h1 h2
  simp only[h1,h2]
  split<;>rfl
 ·rename_i h1
  split
  ·rename_i h2 h3
   exact(h1 _ _ h2 h3).elim
  ·rfl
def X4 (z:List Value) (n:Nat) (parts:List (Nat×Value)) (H:aF):Option (Value×aF) :=
 match rV ((List.range n).map fun i=>(i*z.length,z.length)) (bZ n z) parts with
 | some cs=>if cs.all fU then some (.slice (some ⟨H.length,0,none⟩) n n,H++[.row cs z.length false]) else none
 | none=>none
theorem Ul {z:List Value} {n:Nat} {parts:List (Nat×Operand)}:iL lo q (.lit z n parts) ρ H=X4 z n (parts.map fun(i,x)=>(i,ev ρ x)) H:=by
 apply lU
 simp only[pop]
 unfold X4
 split
 ·rename_i cs h1
  simp only[h1]
  split<;>rfl
 ·rename_i h1
  simp only[h1]
  rfl
def CX (lo size:Nat) (p v:Value) (H:aF):Option (Value×aF) :=
 match p with
 | .pointer (some ⟨b,o,none⟩)=>if (aK v).length=size then (H.write lo b o (aK v)).map fun H'=>(undef,H') else none
 | _=>none
theorem PN {size:Nat} {p v:Operand}:iL lo q (.store size p v) ρ H=CX lo size (ev ρ p) (ev ρ v) H:=by
 apply lU
 simp only[pop]
 unfold CX
 split
 ·rename_i b o h1
  simp only[h1]
  split
  ·cases H.write lo b o (aK (ev ρ v))<;>rfl
  ·rfl
 ·rename_i h1
  split
  ·rename_i h2
   exact(h1 _ _ h2).elim
  ·rfl
def aaN (lo size bytes:Nat) (x y:Value) (H:aF):Option (Value×aF) :=
 match oL y with
 |
  some n=>match gU H size n y with
  | some new=>dF lo size bytes x n new H
  | none=>none
 | none=>none
theorem Vq {size bytes:Nat} {x y:Operand}:iL lo q (.app size bytes x y) ρ H=aaN lo size bytes (ev ρ x) (ev ρ y) H:=by
 apply lU
 simp only[pop]
 unfold aaN
 cases oL (ev ρ y) with
 | none=>rfl
 |
  some n =>
  cases hs:gU H size n (ev ρ y) with
  | none=>simp only[hs];rfl
  | some new=>simp only[hs]
def UJ (lo:Nat) (z:List Value) (bytes:Nat) (x n:Value) (H:aF):Option (Value×aF) :=
 match n with
 | .int .i64 n=>if 0≤n∧n*bytes≤140737488355328 then dF lo z.length bytes x n.toNat (bZ n.toNat z) H else none
 | _=>none
theorem SM {z:List Value} {bytes:Nat} {x n:Operand}:iL lo q (.appz z bytes x n) ρ H=UJ lo z bytes (ev ρ x) (ev ρ n) H:=by
 apply lU
 simp only[pop]
 unfold UJ
 split
 ·rename_i n h1
  simp only[h1]
  split<;>rfl
 ·rename_i h1
  split
  ·rename_i h2
   exact(h1 _ h2).elim
  ·rfl
def copyV (lo size:Nat) (x y:Value) (H:aF):Option (Value×aF) :=
 match x,oL y with
 | .slice none _ _,some _=>some (.int .i64 0,H)
 |
  .slice (some ⟨b,o,none⟩) d _,some s=>match gU H size (Nat.min s d) y with
  | some new=>(H.write lo b o new).map fun H'=>(.int .i64 (Nat.min s d),H')
  | none=>none
 | _,_=>none
theorem R8 {size:Nat} {x y:Operand}:iL lo q (.copy size x y) ρ H=copyV lo size (ev ρ x) (ev ρ y) H:=by
 apply lU
 simp only[pop]
 unfold copyV
 split
 ·rename_i h1 h2
  simp only[h1,h2]
  rfl
 ·rename_i b o d _ s h1 h2
  simp only[h1,h2]
  cases hs:gU H size (Nat.min s d) (ev ρ y) with
  | none=>rfl
  |
   some new =>
   simp only
   cases H.write lo b o new<;>rfl
 ·rename_i h1 h2
  split
  ·rename_i h3 h4
   exact(h1 _ _ _ h3 h4).elim
  ·rename_i h3 h4
   exact(h2 _ _ _ _ _ h3 h4).elim
  ·rfl
def Lm (lo:Nat) (z:List Value) (x:Value) (H:aF):Option (Value×aF) :=
 match x with
 | .slice none _ _=>some (undef,H)
 | .slice (some ⟨b,o,none⟩) n _=>if n=0 then some (undef,H) else (H.write lo b o (bZ n z)).map fun H'=>(undef,H')
 | _=>none
theorem O7 {z:List Value} {x:Operand}:iL lo q (.clear z x) ρ H=Lm lo z (ev ρ x) H:=by
 apply lU
 simp only[pop]
 unfold Lm
 split
 ·rename_i h1
  simp only[h1]
  rfl
 ·rename_i b o n _ h1
  simp only[h1]
  split
  ·rfl
  ·cases H.write lo b o (bZ n z)<;>rfl
 ·rename_i h1 h2
  split
  ·rename_i h3
   exact(h1 _ _ h3).elim
  ·rename_i h3
   exact(h2 _ _ _ _ h3).elim
  ·rfl
noncomputable def Xj (lo:Nat) (fv:Value) (args:List Value) (H:aF):Option (Value×aF) :=
 match fv with
 | .func (.func f) first eV=>nK f (first.toList++args++eV.toList) lo H
 | _=>none
theorem Pv {fv:Operand} {args:List Operand}:iL lo q (.callv fv args) ρ H=Xj (if q then H.length else lo) (ev ρ fv) (args.map (ev ρ)) H:=by
 unfold iL
 simp only[pop]
 unfold Xj
 generalize ev ρ fv=v
 cases v with
 | func fn f c=>cases fn<;>rfl
 | _=>rfl
end
end Go.PM
namespace Go.PM
section
variable {lo:Nat} {Q:Ex→Env→aF→Prop} {K:Env→aF→Prop} {ρ:Env} {H:aF} {q:Bool}
def agG (u v:Value):Bool:=match gP u,gP v with
 | some a,some b=>a != b
 | _,_=>true
end
theorem Ru {k:IntKind} {a b:Int}:Ol (.int k a) (.int k b)=some (.int k (max a b)):=by
 simp only[Ol]
 congr 2
 split<;>omega
theorem Rk {k:IntKind} {a b:Int}:MX (.int k a) (.int k b)=some (.int k (min a b)):=by
 simp only[MX]
 congr 2
 split<;>omega
end Go.PM
namespace Go.PM
abbrev ptr (b o:Nat):Value := .pointer (some ⟨b,o,none⟩)
abbrev I (n:Int):Value := .int .i64 n
section
variable {H H':aF} {lo b o n size:Nat} {cs r:List Value} {L K:aF} {v:Value}
theorem KT (hb:b<H.length):(H++L)[b]? = H[b]? := List.getElem?_append_left hb
theorem Rx {x:NA}:(H++x::L)[H.length]? = some x:=by simp
theorem WJ (hb:b<H.length):(H++L).read b o n=H.read b o n:=CG (KT hb)
theorem xR {e:Nat} {p:Bool} (h:H[b]? = some (.row r e p)) (hn:o+n≤r.length):H.read b o n=some ((r.drop o).take n):=by
 unfold aF.read
 rw[h]
 simp only[hn,if_true]
structure AE (H:aF) (b o:Nat) (cs:List Value):Prop where
 lt:b<H.length
 rd:H.read b o cs.length=some cs
theorem AE.app (h:AE H b o cs):AE (H++L) b o cs:=⟨by have:=h.lt;simp;omega,by rw[WJ h.lt];exact h.rd⟩
theorem AE.pre (h:AE H b o cs) (hp:H <+: H'):AE H' b o cs:=by
 obtain⟨L,rfl⟩:=hp
 exact h.app
theorem AE.all (h:AE H b o cs) (hs:cs.length=size):kU true size (.pointer (some ⟨b,o,none⟩)) H=some (.agg cs.toArray):=by
 subst hs
 simp only[kU,if_true,h.rd]
 rfl
theorem AE.one {u:Value} (h:AE H b o [u]):kU false size (.pointer (some ⟨b,o,none⟩)) H=some u:=by
 have:=h.rd
 simp only[List.length_cons,List.length_nil] at this
 simp only[kU,this]
 rfl
theorem AE.sub {k:Nat} {u:Value} (h:AE H b o cs) (hk:cs[k]? = some u):AE H b (o+k) [u]:=by
 refine⟨h.lt,?_⟩
 have h1:=h.rd
 unfold aF.read at h1 ⊢
 split at h1
 ·rename_i r e p hb
  split at h1
  ·rename_i hl
   have So:=(List.getElem?_eq_some_iff.1 hk).1
   simp only[List.length_cons,List.length_nil]
   rw[if_pos (by simp;omega)]
   injection h1 with h1
   rw[←h1] at hk
   rw[List.getElem?_take,if_pos (by omega),List.getElem?_drop] at hk
   have aR:=(List.getElem?_eq_some_iff.1 hk).1
   rw[List.drop_eq_getElem_cons aR]
   simp only[List.take_succ_cons,List.take_zero]
   rw[List.getElem?_eq_getElem aR] at hk
   injection hk with hk
   rw[hk]
  ·cases h1
 ·cases h1
theorem AE.fld {k:Nat} {u:Value} (h:AE H b o cs) (hk:cs[k]? = some u):kU false size (.pointer (some ⟨b,o+k,none⟩)) H=some u:=(h.sub hk).one
theorem Me {a:Nat} {c:Nat} {i:Int} {k:IntKind} (h0:0≤i) (h1:i<n):LP size (.slice (some ⟨b,a,none⟩) n c) (.int k i)=some (.pointer (some ⟨b,a+i.toNat*size,none⟩)):=by
 simp only[LP]
 rw[if_pos ⟨h0,h1⟩]
structure Arr {α:Type} (enc:α→List Value) (dA:Nat) (H:aF) (a:Option Addr) (n:Nat) (xs:List α):Prop where
 len:n=xs.length
 el:∀(i:Nat) x,xs[i]? = some x→∃b o,a=some ⟨b,o,none⟩∧AE H b (o+i*dA) (enc x)
theorem Arr.pre {α:Type} {enc:α→List Value} {dA:Nat} {a:Option Addr} {xs:List α} (h:Arr enc dA H a n xs) (hp:H <+: H'):Arr enc dA H' a n xs :=
 ⟨h.len,fun i x hx=>by obtain⟨b,o,h1,h2⟩:=h.el i x hx;exact⟨b,o,h1,h2.pre hp⟩⟩
end
structure aJ where
 t:Int
 w:Int
 k:Int
 deriving DecidableEq
def cc (c:aJ):List Value:=[I c.t,I c.w,I c.k]
end Go.PM
namespace Go.PM
structure Cd {α:Type} (enc:α→List Value) (dA:Nat):Prop where
 len:∀x,(enc x).length=dA
 sc:∀x,(enc x).all fU=true
 pos:1≤dA
section
variable {α:Type} {enc:α→List Value} {dA:Nat} {H H':aF} {lo b:Nat} {xs ys:List α} {p:Bool}
theorem D0 (e:Cd enc dA):(xs.flatMap enc).length=xs.length*dA:=by
 induction xs with
 | nil=>simp
 | cons x xs ih=>simp only[List.flatMap_cons,List.length_append,e.len,ih,List.length_cons,Nat.succ_mul];omega
theorem Bv (e:Cd enc dA) (i:Nat):(xs.flatMap enc).drop (i*dA)=(xs.drop i).flatMap enc:=by
 induction i generalizing xs with
 | zero=>simp
 |
  succ i ih =>
  cases xs with
  | nil=>simp
  |
   cons x xs =>
   rw[List.flatMap_cons,List.drop_succ_cons,←ih,show (i+1)*dA=(enc x).length+i*dA by rw[e.len,Nat.succ_mul];omega,List.drop_append]
   simp
theorem Fm (e:Cd enc dA) (i:Nat):(xs.flatMap enc).take (i*dA)=(xs.take i).flatMap enc:=by
 induction i generalizing xs with
 | zero=>simp
 |
  succ i ih =>
  cases xs with
  | nil=>simp
  |
   cons x xs =>
   rw[List.flatMap_cons,List.take_succ_cons,List.flatMap_cons,←ih,show (i+1)*dA=(enc x).length+i*dA by rw[e.len,Nat.succ_mul];omega,List.take_append]
   simp
   exact List.take_of_length_le (by omega)
theorem NW (e:Cd enc dA) {i:Nat} (x:α) (hi:i<xs.length):gJ (xs.flatMap enc) (i*dA) (enc x)=(xs.set i x).flatMap enc:=by
 unfold gJ
 rw[Fm e,e.len,show i*dA+dA=(i+1)*dA by rw[Nat.succ_mul],Bv e,List.set_eq_take_append_cons_drop,if_pos hi]
 simp
def Row (enc:α→List Value) (dA:Nat) (H:aF) (b:Nat) (p:Bool) (xs:List α):Prop:=H[b]? = some (.row (xs.flatMap enc) dA p)
theorem Row.lt (h:Row enc dA H b p xs):b<H.length:=(List.getElem?_eq_some_iff.1 h).1
theorem Row.pre (h:Row enc dA H b p xs) (hp:H <+: H'):Row enc dA H' b p xs:=by
 obtain⟨L,rfl⟩:=hp
 unfold Row
 rw[KT h.lt]
 exact h
theorem Row.elem (h:Row enc dA H b p xs) (e:Cd enc dA) {i:Nat} {x:α} (hx:xs[i]? = some x):AE H b (i*dA) (enc x):=by
 refine⟨h.lt,?_⟩
 have hi:=(List.getElem?_eq_some_iff.1 hx).1
 have hm:(i+1)*dA≤xs.length*dA:=Nat.mul_le_mul_right _ hi
 rw[Nat.succ_mul] at hm
 rw[xR h (by rw[e.len,D0 e];omega),Bv e,e.len]
 have:=Fm (xs:=xs.drop i) e 1
 rw[Nat.one_mul] at this
 rw[this,List.drop_eq_getElem_cons hi]
 rw[List.getElem?_eq_getElem hi] at hx
 injection hx with hx
 simp[hx]
theorem Row.arr (h:Row enc dA H b p xs) (e:Cd enc dA) {n:Nat} (hn:n≤xs.length):Arr enc dA H (some ⟨b,0,none⟩) n (xs.take n):=by
 refine⟨by simp;omega,fun i x hx=>⟨b,0,rfl,?_⟩⟩
 rw[Nat.zero_add]
 refine h.elem e ?_
 rw[List.getElem?_take] at hx
 split at hx
 ·exact hx
 ·cases hx
theorem Row.store (h:Row enc dA H b p xs) (e:Cd enc dA) {i:Nat} {x:α} {u:Value} (hu:aK u=enc x) (hi:i<xs.length) (hl:lo≤b):CX lo dA (.pointer (some ⟨b,i*dA,none⟩)) u H=some (undef,H.set b (.row ((xs.set i x).flatMap enc) dA p)):=by
 simp only[CX,aF.write,hu,e.len,if_true]
 have h':H[b]? = some (.row (xs.flatMap enc) dA p):=h
 have hm:(i+1)*dA≤xs.length*dA:=Nat.mul_le_mul_right _ hi
 rw[Nat.succ_mul] at hm
 simp only[h']
 rw[if_pos ⟨hl,by rw[D0 e];omega,e.sc x⟩,NW e x hi]
 rfl
theorem Row.set (h:Row enc dA H b p xs) (ys:List α):Row enc dA (H.set b (.row (ys.flatMap enc) dA p)) b p ys:=by
 unfold Row
 rw[List.getElem?_set_self h.lt]
theorem NY (e:Cd enc dA) {n:Nat} {x:α}:bZ n (enc x)=(List.replicate n x).flatMap enc:=by
 have fL:=e.pos
 have hlen:=e.len x
 apply List.ext_getElem?
 intro i
 unfold bZ
 rw[List.getElem?_map,hlen]
 rcases Nat.lt_or_ge i (n*dA) with hi | hi
 ·rw[List.getElem?_range hi]
  have hq:i / dA<n:=Nat.div_lt_of_lt_mul (by rw[Nat.mul_comm];exact hi)
  have h1:((List.replicate n x).flatMap enc)[i]? = (((List.replicate n x).flatMap enc).drop (i / dA*dA))[i % dA]? := by
   rw[List.getElem?_drop]
   congr 1
   rw[Nat.mul_comm]
   exact(Nat.div_add_mod i dA).symm
  have hr:i % dA<(enc x).length:=by rw[hlen];exact Nat.mod_lt _ (by omega)
  rw[h1,Bv e,List.drop_replicate,show n-i / dA=(n-i / dA-1)+1 by omega,List.replicate_succ,List.flatMap_cons,List.getElem?_append_left hr]
  simp[List.getD_eq_getElem?_getD,List.getElem?_eq_getElem hr]
 ·rw[List.getElem?_eq_none (by simpa using hi),List.getElem?_eq_none (by rw[D0 e];simpa using hi)]
  rfl
theorem Row.top {K:aF}:Row enc dA (H ++ .row (xs.flatMap enc) dA p::K) H.length p xs:=Rx
end
end Go.PM
namespace Go.PM
section
variable {H L:aF} {lo k o size:Nat} {agg:Bool} {u:Value}
end
end Go.PM
namespace Go.Proofs
open Go.Shelf
def IH:Go.Shelf.Ren:=⟨fun | 156=>126 | 165=>139 | 166=>140 | 169=>142 | 240=>148 | 241=>149 | 276=>155 | 277=>156 | n=>n,fun | 31=>34 | 9=>9 | 3=>3 | 4=>4 | 0=>0 | 20=>20 | 72=>173 | 76=>177 | 70=>171 | 37=>22 | 75=>176 | 127=>184 | 164=>189 | 5=>5 | 80=>138 | n=>n,fun | n=>n⟩
theorem O4:Go.Proofs.Lays.n156 Tryz.prog IH:={
 mixed:=by kernel_rfl
 f156:=Tryz.func126.trans (congrArg some (by kernel_rfl))
 f165:=Tryz.func139.trans (congrArg some (by kernel_rfl))
 f166:=Tryz.func140.trans (congrArg some (by kernel_rfl))
 f169:=Tryz.func142.trans (congrArg some (by kernel_rfl))
 f240:=Tryz.func148.trans (congrArg some (by kernel_rfl))
 f241:=Tryz.func149.trans (congrArg some (by kernel_rfl))
 f276:=Tryz.func155.trans (congrArg some (by kernel_rfl))
 f277:=Tryz.func156.trans (congrArg some (by kernel_rfl))
 t0:=Tryz.underlying0
 a0:=Tryz.isAgg0
 z0:=Tryz.sizeOf0
 v0:=Tryz.zeroValue0
 t3:=Tryz.underlying3
 a3:=Tryz.isAgg3
 z3:=Tryz.sizeOf3
 v3:=Tryz.zeroValue3
 t4:=Tryz.underlying4
 a4:=Tryz.isAgg4
 z4:=Tryz.sizeOf4
 v4:=Tryz.zeroValue4
 t9:=Tryz.underlying9
 a9:=Tryz.isAgg9
 z9:=Tryz.sizeOf9
 v9:=Tryz.zeroValue9
 t20:=Tryz.underlying20
 a20:=Tryz.isAgg20
 z20:=Tryz.sizeOf20
 v20:=Tryz.zeroValue20
 t31:=Tryz.underlying34
 a31:=Tryz.isAgg34
 z31:=Tryz.sizeOf34
 v31:=Tryz.zeroValue34
 t37:=Tryz.underlying22
 a37:=Tryz.isAgg22
 z37:=Tryz.sizeOf22
 v37:=Tryz.zeroValue22
 t70:=Tryz.underlying171
 a70:=Tryz.isAgg171
 z70:=Tryz.sizeOf171
 v70:=Tryz.zeroValue171
 t72:=Tryz.underlying173
 a72:=Tryz.isAgg173
 z72:=Tryz.sizeOf173
 v72:=Tryz.zeroValue173
 t75:=Tryz.underlying176
 a75:=Tryz.isAgg176
 z75:=Tryz.sizeOf176
 v75:=Tryz.zeroValue176
 t76:=Tryz.underlying177
 a76:=Tryz.isAgg177
 z76:=Tryz.sizeOf177
 v76:=Tryz.zeroValue177
 t127:=Tryz.underlying184
 a127:=Tryz.isAgg184
 z127:=Tryz.sizeOf184
 v127:=Tryz.zeroValue184
 t164:=Tryz.underlying189
 a164:=Tryz.isAgg189
 z164:=Tryz.sizeOf189
 v164:=Tryz.zeroValue189 }
theorem LJ:Builder.Extra Tryz.prog IH:={
 sizeBuilder:=by kernel_rfl
 liesBuilder:=by kernel_rfl
 t5:=Tryz.underlying5
 a5:=Tryz.isAgg5
 z5:=Tryz.sizeOf5
 v5:=Tryz.zeroValue5
 infoByte:=by kernel_rfl
 cellsByte:=by kernel_rfl
 sizeByte:=by kernel_rfl
 neB5:=by decide }
def Pz:Go.Shelf.Ren:=⟨fun | 133=>120 | 128=>136 | n=>n,fun | 51=>134 | 3=>3 | 4=>4 | 46=>130 | 5=>5 | 9=>9 | n=>n,fun | n=>n⟩
theorem acC:Go.Proofs.Lays.n133 Tryz.prog Pz:={
 mixed:=by kernel_rfl
 f128:=Tryz.func136.trans (congrArg some (by kernel_rfl))
 f133:=Tryz.func120.trans (congrArg some (by kernel_rfl))
 t3:=Tryz.underlying3
 a3:=Tryz.isAgg3
 z3:=Tryz.sizeOf3
 v3:=Tryz.zeroValue3
 t4:=Tryz.underlying4
 a4:=Tryz.isAgg4
 z4:=Tryz.sizeOf4
 v4:=Tryz.zeroValue4
 t5:=Tryz.underlying5
 a5:=Tryz.isAgg5
 z5:=Tryz.sizeOf5
 v5:=Tryz.zeroValue5
 t9:=Tryz.underlying9
 a9:=Tryz.isAgg9
 z9:=Tryz.sizeOf9
 v9:=Tryz.zeroValue9
 t46:=Tryz.underlying130
 a46:=Tryz.isAgg130
 z46:=Tryz.sizeOf130
 v46:=Tryz.zeroValue130
 t51:=Tryz.underlying134
 a51:=Tryz.isAgg134
 z51:=Tryz.sizeOf134
 v51:=Tryz.zeroValue134 }
def Qa:Go.Shelf.Ren:=⟨fun | 283=>143 | n=>n,fun | 3=>3 | 9=>9 | 4=>4 | n=>n,fun | n=>n⟩
theorem aaU:Go.Proofs.Lays.n283 Tryz.prog Qa:={
 mixed:=by kernel_rfl
 f283:=Tryz.func143.trans (congrArg some (by kernel_rfl))
 t3:=Tryz.underlying3
 a3:=Tryz.isAgg3
 z3:=Tryz.sizeOf3
 v3:=Tryz.zeroValue3
 t4:=Tryz.underlying4
 a4:=Tryz.isAgg4
 z4:=Tryz.sizeOf4
 v4:=Tryz.zeroValue4
 t9:=Tryz.underlying9
 a9:=Tryz.isAgg9
 z9:=Tryz.sizeOf9
 v9:=Tryz.zeroValue9 }
def OY:Go.Shelf.Ren:=⟨fun | 284=>144 | 129=>151 | 317=>150 | 318=>152 | n=>n,fun | 53=>101 | 3=>3 | 212=>186 | 0=>0 | 4=>4 | 46=>130 | 5=>5 | 9=>9 | n=>n,fun | 17=>0 | n=>n⟩
theorem aaM:Go.Proofs.LaysM.n284 Tryz.prog OY:={
 mixed:=by kernel_rfl
 f129:=Tryz.func151.trans (congrArg some (by kernel_rfl))
 f284:=Tryz.func144.trans (congrArg some (by kernel_rfl))
 f317:=Tryz.func150.trans (congrArg some (by kernel_rfl))
 f318:=Tryz.func152.trans (congrArg some (by kernel_rfl))
 t0:=Tryz.underlying0
 a0:=Tryz.isAgg0
 z0:=Tryz.sizeOf0
 v0:=Tryz.zeroValue0
 t3:=Tryz.underlying3
 a3:=Tryz.isAgg3
 z3:=Tryz.sizeOf3
 v3:=Tryz.zeroValue3
 t4:=Tryz.underlying4
 a4:=Tryz.isAgg4
 z4:=Tryz.sizeOf4
 v4:=Tryz.zeroValue4
 t5:=Tryz.underlying5
 a5:=Tryz.isAgg5
 z5:=Tryz.sizeOf5
 v5:=Tryz.zeroValue5
 t9:=Tryz.underlying9
 a9:=Tryz.isAgg9
 z9:=Tryz.sizeOf9
 v9:=Tryz.zeroValue9
 t46:=Tryz.underlying130
 a46:=Tryz.isAgg130
 z46:=Tryz.sizeOf130
 v46:=Tryz.zeroValue130
 t53:=Tryz.underlying101
 a53:=Tryz.isAgg101
 z53:=Tryz.sizeOf101
 v53:=Tryz.zeroValue101
 t212:=Tryz.underlying186
 a212:=Tryz.isAgg186
 z212:=Tryz.sizeOf186
 v212:=Tryz.zeroValue186
 g17:=by kernel_rfl
 i0:=by kernel_rfl
 i3:=by kernel_rfl
 i4:=by kernel_rfl
 i5:=by kernel_rfl
 i9:=by kernel_rfl
 i46:=by kernel_rfl
 i53:=by kernel_rfl
 i212:=by kernel_rfl
 m17:=by kernel_rfl }
def PC:Go.Shelf.Ren:=⟨fun | 285=>145 | n=>n,fun | 37=>22 | 53=>101 | 3=>3 | 4=>4 | 51=>134 | 9=>9 | 5=>5 | 0=>0 | n=>n,fun | n=>n⟩
theorem aaE:Go.Proofs.Lays.n285 Tryz.prog PC:={
 mixed:=by kernel_rfl
 f285:=Tryz.func145.trans (congrArg some (by kernel_rfl))
 t0:=Tryz.underlying0
 a0:=Tryz.isAgg0
 z0:=Tryz.sizeOf0
 v0:=Tryz.zeroValue0
 t3:=Tryz.underlying3
 a3:=Tryz.isAgg3
 z3:=Tryz.sizeOf3
 v3:=Tryz.zeroValue3
 t4:=Tryz.underlying4
 a4:=Tryz.isAgg4
 z4:=Tryz.sizeOf4
 v4:=Tryz.zeroValue4
 t5:=Tryz.underlying5
 a5:=Tryz.isAgg5
 z5:=Tryz.sizeOf5
 v5:=Tryz.zeroValue5
 t9:=Tryz.underlying9
 a9:=Tryz.isAgg9
 z9:=Tryz.sizeOf9
 v9:=Tryz.zeroValue9
 t37:=Tryz.underlying22
 a37:=Tryz.isAgg22
 z37:=Tryz.sizeOf22
 v37:=Tryz.zeroValue22
 t51:=Tryz.underlying134
 a51:=Tryz.isAgg134
 z51:=Tryz.sizeOf134
 v51:=Tryz.zeroValue134
 t53:=Tryz.underlying101
 a53:=Tryz.isAgg101
 z53:=Tryz.sizeOf101
 v53:=Tryz.zeroValue101 }
def IM:Go.Shelf.Ren:=⟨fun | 105=>124 | 212=>103 | 99=>138 | 165=>139 | 166=>140 | 170=>141 | 169=>142 | 263=>116 | 264=>117 | 206=>147 | 240=>148 | 241=>149 | 276=>155 | 277=>156 | n=>n,fun | 9=>9 | 3=>3 | 4=>4 | 20=>20 | 0=>0 | 46=>130 | 109=>131 | 5=>5 | 72=>173 | 76=>177 | 51=>134 | 146=>146 | 53=>101 | 148=>148 | 70=>171 | 37=>22 | 75=>176 | 127=>184 | 164=>189 | 80=>138 | n=>n,fun | n=>n⟩
theorem aaJ:Go.Proofs.Lays.n105 Tryz.prog IM:={
 mixed:=by kernel_rfl
 f99:=Tryz.func138.trans (congrArg some (by kernel_rfl))
 f105:=Tryz.func124.trans (congrArg some (by kernel_rfl))
 f165:=Tryz.func139.trans (congrArg some (by kernel_rfl))
 f166:=Tryz.func140.trans (congrArg some (by kernel_rfl))
 f169:=Tryz.func142.trans (congrArg some (by kernel_rfl))
 f170:=Tryz.func141.trans (congrArg some (by kernel_rfl))
 f206:=Tryz.func147.trans (congrArg some (by kernel_rfl))
 f212:=Tryz.func103.trans (congrArg some (by kernel_rfl))
 f240:=Tryz.func148.trans (congrArg some (by kernel_rfl))
 f241:=Tryz.func149.trans (congrArg some (by kernel_rfl))
 f263:=Tryz.func116.trans (congrArg some (by kernel_rfl))
 f264:=Tryz.func117.trans (congrArg some (by kernel_rfl))
 f276:=Tryz.func155.trans (congrArg some (by kernel_rfl))
 f277:=Tryz.func156.trans (congrArg some (by kernel_rfl))
 t0:=Tryz.underlying0
 a0:=Tryz.isAgg0
 z0:=Tryz.sizeOf0
 v0:=Tryz.zeroValue0
 t3:=Tryz.underlying3
 a3:=Tryz.isAgg3
 z3:=Tryz.sizeOf3
 v3:=Tryz.zeroValue3
 t4:=Tryz.underlying4
 a4:=Tryz.isAgg4
 z4:=Tryz.sizeOf4
 v4:=Tryz.zeroValue4
 t5:=Tryz.underlying5
 a5:=Tryz.isAgg5
 z5:=Tryz.sizeOf5
 v5:=Tryz.zeroValue5
 t9:=Tryz.underlying9
 a9:=Tryz.isAgg9
 z9:=Tryz.sizeOf9
 v9:=Tryz.zeroValue9
 t20:=Tryz.underlying20
 a20:=Tryz.isAgg20
 z20:=Tryz.sizeOf20
 v20:=Tryz.zeroValue20
 t37:=Tryz.underlying22
 a37:=Tryz.isAgg22
 z37:=Tryz.sizeOf22
 v37:=Tryz.zeroValue22
 t46:=Tryz.underlying130
 a46:=Tryz.isAgg130
 z46:=Tryz.sizeOf130
 v46:=Tryz.zeroValue130
 t51:=Tryz.underlying134
 a51:=Tryz.isAgg134
 z51:=Tryz.sizeOf134
 v51:=Tryz.zeroValue134
 t53:=Tryz.underlying101
 a53:=Tryz.isAgg101
 z53:=Tryz.sizeOf101
 v53:=Tryz.zeroValue101
 t70:=Tryz.underlying171
 a70:=Tryz.isAgg171
 z70:=Tryz.sizeOf171
 v70:=Tryz.zeroValue171
 t72:=Tryz.underlying173
 a72:=Tryz.isAgg173
 z72:=Tryz.sizeOf173
 v72:=Tryz.zeroValue173
 t75:=Tryz.underlying176
 a75:=Tryz.isAgg176
 z75:=Tryz.sizeOf176
 v75:=Tryz.zeroValue176
 t76:=Tryz.underlying177
 a76:=Tryz.isAgg177
 z76:=Tryz.sizeOf177
 v76:=Tryz.zeroValue177
 t109:=Tryz.underlying131
 a109:=Tryz.isAgg131
 z109:=Tryz.sizeOf131
 v109:=Tryz.zeroValue131
 t127:=Tryz.underlying184
 a127:=Tryz.isAgg184
 z127:=Tryz.sizeOf184
 v127:=Tryz.zeroValue184
 t146:=Tryz.underlying146
 a146:=Tryz.isAgg146
 z146:=Tryz.sizeOf146
 v146:=Tryz.zeroValue146
 t148:=Tryz.underlying148
 a148:=Tryz.isAgg148
 z148:=Tryz.sizeOf148
 v148:=Tryz.zeroValue148
 t164:=Tryz.underlying189
 a164:=Tryz.isAgg189
 z164:=Tryz.sizeOf189
 v164:=Tryz.zeroValue189 }
theorem Yv:Builder.Extra Tryz.prog IM:={
 sizeBuilder:=by kernel_rfl
 liesBuilder:=by kernel_rfl
 t5:=Tryz.underlying5
 a5:=Tryz.isAgg5
 z5:=Tryz.sizeOf5
 v5:=Tryz.zeroValue5
 infoByte:=by kernel_rfl
 cellsByte:=by kernel_rfl
 sizeByte:=by kernel_rfl
 neB5:=by decide }
end Go.Proofs
namespace Go.Proofs
open Go.Shelf Go.RowKit Go.Sort Go.Lib
abbrev PO:UInt8→Value:=fun b=>Value.int .u8 (b.toNat:Int)
theorem TD (w:World) (T:TypeId) (nd:Nat) (hs:nd≤24):Holds PO (w.alloc (.cells Lib.zeros24 T)) w.heap.size 0 (Array.replicate nd (0:UInt8)):=fun j hj=>by
 have hj':j<nd:=by simpa using hj
 refine⟨?_,World.frozen?_alloc_new _ _ _ _⟩
 rw[World.cell?_alloc_new,Lib.zeros24_at _ (by omega),getElem!_pos _ j hj]
 simp
theorem xO (w:World) (o:Obj) (dk:Array UInt8) (k:Nat):Below w.heap.size w ((putRow PO (w.alloc o) w.heap.size 0 dk).drewN k):=by
 rw[alloc_eq_grow]
 obtain⟨os',_,e⟩:=putRow_grow_new PO w #[o] w.heap.size 0 dk (Nat.le_refl _)
 rw[e]
 refine⟨rfl,rfl,rfl,by show w.heap.size≤(w.heap++os').size;simp,fun i hi => ?_⟩
 show (w.heap++os')[i]? = _
 rw[Array.getElem?_append_left hi]
set_option maxHeartbeats 6400000 in
set_option maxRecDepth 100000 in
theorem aaV (u:Nat) (Wt:u<18446744073709551616) (w:World) (acF:Lib.TabIs Tryz.prog w "internal/strconv.uint64pow10" .u64 Lib.pow10Tab) :
  Calls Tryz.prog 137 #[.int .u64 u,.int .i64 10] w fun e w'=>e = .returned (.string ⟨(Lib.decDigits u).toArray⟩)∧Below w.heap.size w w':=by
 by_cases hs:u<100
 ·go_enter Tryz.func137,Tryz.ntmps137
  go_wp2_with (go_at_call 143;refine(Any.internal_strconv_small aaU u hs _).mono ?_;rintro e w' ⟨rfl,rfl⟩)
  go_ret
  exact⟨rfl,Below.refl _ _⟩
 ·have Xv:1≤u:=by omega
  have aqZ:Lib.nDigits u≤20:=by have:=Lib.numDigits_eq u Xv Wt;split at this<;>omega
  have hH0:=TD w 179 (Lib.nDigits u) (by omega)
  have ahP:=Any.internal_strconv_formatBase10 aaE w.heap.size 0 24 u (Array.replicate (Lib.nDigits u) 0) (w.alloc (.cells Lib.zeros24 179)) hH0 (by rw[Array.size_replicate];exact Lib.lt_pow_nDigits u) Wt (by rw[Array.size_replicate];omega)
  rw[Array.size_replicate] at ahP
  have HH0:=Lib.hid hH0
  have hal:Tryz.prog.arrayLen 179=24:=by simp[Program.arrayLen,Tryz.underlying179]
  have I0:∀W,(Instr.sliceAt 179 (.pointer (some ⟨w.heap.size,0,none⟩)) none (some (.int .i64 (Lib.nDigits u:Int))) none).run Tryz.prog W = .ok (.slice (some ⟨w.heap.size,0,none⟩) (Lib.nDigits u) 24) W:=fun W=>by
   rw[run_sliceAt_array_h W 179 ⟨w.heap.size,0,none⟩ (by simp[Program.arrayLen,Program.elem,Tryz.underlying179]) .i64 (Lib.nDigits u:Int) (by omega) (by rw[hal];omega)]
   go_simp
  clear hH0 hal
  go_enter Tryz.func137,Tryz.ntmps137
  go_wp2_with (first
   | (go_at_call 144;refine(Any.internal_strconv_numDigits aaM u Xv Wt _ (Lib.tabIs_alloc acF _)).mono ?_;rintro e w' ⟨rfl,rfl⟩))
  go_at_call 145
  refine ahP.mono ?_
  rintro e w' ⟨rfl,k,v',dk,rfl,hF⟩
  have hcv:(convert 22 9 (.slice (some ⟨w.heap.size,0,none⟩) (Lib.nDigits u) 24)).run Tryz.prog ((putRow PO (w.alloc (.cells Lib.zeros24 179)) w.heap.size 0 dk).drewN k) = .ok (.string ⟨(Lib.decDigits u).toArray⟩) ((putRow PO (w.alloc (.cells Lib.zeros24 179)) w.heap.size 0 dk).drewN k):=by
   have h:=run_convert_bytes_back (P:=Tryz.prog) ((putRow PO (w.alloc (.cells Lib.zeros24 179)) w.heap.size 0 dk).drewN k) 22 9 5 ⟨w.heap.size,0,none⟩ 24 (Lib.decDigits u) Tryz.underlying22 Tryz.underlying5 Tryz.underlying9 (fun j hj=>by
    rw[Lib.row_is_numeral hF j hj,Lib.add_plain,World.cell?_drewN]
    exact cell?_putRow PO _ w.heap.size 0 _ dk HH0.out (by rw[hF.size,Array.size_replicate]) j (by rw[hF.size];rw[Lib.decDigits_length] at hj;exact hj))
   rw[Lib.decDigits_length] at h
   exact h
  go_wp2
  go_ret
  exact⟨rfl,xO w _ dk k⟩
theorem Xg (u:Nat) (Wt:u<18446744073709551616) (w:World) (acF:Lib.TabIs Tryz.prog w "internal/strconv.uint64pow10" .u64 Lib.pow10Tab) :
  Calls Tryz.prog 123 #[.int .u64 u,.int .i64 10] w fun e w'=>e = .returned (.string ⟨(Lib.decDigits u).toArray⟩)∧Below w.heap.size w w':=by
 go_enter Tryz.func123,Tryz.ntmps123
 go_wp2_with (go_at_call 137;refine(aaV u Wt _ acF).mono ?_;rintro e w' ⟨rfl,hb⟩)
 go_ret
 exact⟨rfl,hb⟩
end Go.Proofs
namespace Go.PM
open Go.Proofs Go.RowKit
theorem Below.Ae {w w':World} (h:Below w.heap.size w w'):w.heap.size≤w'.heap.size∧(∀rb,rb<w.heap.size→w'.heap[rb]? = w.heap[rb]?)∧w'.os=w.os∧w'.output=w.output∧w'.tape=w.tape :=
 ⟨h.size,h.block,h.os,h.output,h.tape⟩
theorem wF {w:World}:w.heap.size≤w.heap.size∧(∀rb,rb<w.heap.size→w.heap[rb]? = w.heap[rb]?)∧w.os=w.os∧w.output=w.output∧w.tape=w.tape :=
 ⟨Nat.le_refl _,fun _ _=>rfl,rfl,rfl,rfl⟩
def Bo (f:Nat) (p:List Value→aF→Option Value):Prop :=
 HM Tryz.prog f∧∀L0 args H v,p args H=some v→∀m w fN,Rel m L0 H w→RL m args fN →
  Calls Tryz.prog f fN.toArray w fun e w'=>∃rv,e = .returned rv∧RV m v rv∧w.heap.size≤w'.heap.size∧(∀rb,rb<w.heap.size→w'.heap[rb]? = w.heap[rb]?)∧w'.os=w.os∧w'.output=w.output∧w'.tape=w.tape
theorem RL.one {m:cK} {x:Value} {ys:List Value} (h:RL m [x] ys):∃y,ys=[y]∧RV m x y:=by
 match ys,h with
 | [y],h=>exact⟨y,rfl,h.iF.1⟩
 | [],h=>exact absurd h.1 (by simp)
 | _::_::_,h=>exact absurd h.1 (by simp)
theorem RL.two {m:cK} {x x':Value} {ys:List Value} (h:RL m [x,x'] ys):∃y y',ys=[y,y']∧RV m x y∧RV m x' y':=by
 match ys,h with
 | [y,y'],h=>exact⟨y,y',rfl,h.iF.1,h.iF.2.iF.1⟩
 | [],h=>exact absurd h.1 (by simp)
 | [_],h=>exact absurd h.1 (by simp)
 | _::_::_::_,h=>exact absurd h.1 (by simp)
theorem RL.three {m:cK} {x x' x'':Value} {ys:List Value} (h:RL m [x,x',x''] ys):∃y y' y'',ys=[y,y',y'']∧RV m x y∧RV m x' y'∧RV m x'' y'':=by
 match ys,h with
 | [y,y',y''],h=>exact⟨y,y',y'',rfl,h.iF.1,h.iF.2.iF.1,h.iF.2.iF.2.iF.1⟩
 | [],h=>exact absurd h.1 (by simp)
 | [_],h=>exact absurd h.1 (by simp)
 | [_,_],h=>exact absurd h.1 (by simp)
 | _::_::_::_::_,h=>exact absurd h.1 (by simp)
theorem B9 {m:cK}:∀ {cs rs:List Value} {xs:List ByteArray},strCells cs=some xs→RL m cs rs→rs=xs.map .string
 |
  [],rs,xs,h,hr=>by
  cases h
  match rs,hr with
  | [],_=>rfl
  | _::_,hr=>exact absurd hr.1 (by simp)
 |
  c::cs,rs,xs,h,hr=>by
  match rs,hr with
  | [],hr=>exact absurd hr.1 (by simp)
  |
   r::rs,hr =>
   obtain⟨h1,h2⟩:=hr.iF
   cases c with
   |
    string s =>
    rw[strCells] at h
    cases hc:strCells cs with
    | none=>rw[hc] at h;cases h
    |
     some ys =>
     rw[hc] at h
     cases h
     cases h1
     rw[B9 hc h2]
     rfl
   | _=>cases h
theorem F5:Bo 120 A8:=by
 refine⟨⟨_,Tryz.func120,by kernel_rfl,by kernel_rfl⟩,fun L0 args H v hp m w fN hR hr => ?_⟩
 unfold A8 at hp
 split at hp
 case h_2=>cases hp
 rename_i x
 split at hp
 case isFalse=>cases hp
 rename_i hx
 cases hp
 obtain⟨y,rfl,h1⟩:=hr.one
 cases h1
 refine(Any.bits_LeadingZeros32 acC x w hx.1 hx.2).mono ?_
 rintro e w' ⟨rfl,rfl⟩
 exact⟨_,rfl,.int _ _,wF⟩
theorem Ic:Bo 124 Dk:=by
 refine⟨⟨_,Tryz.func124,by kernel_rfl,by kernel_rfl⟩,fun L0 args H v hp m w fN hR hr => ?_⟩
 unfold Dk at hp
 split at hp
 case h_2=>cases hp
 rename_i s c
 split at hp
 case isFalse=>cases hp
 rename_i hx
 cases hp
 obtain⟨y,y',rfl,h1,h2⟩:=hr.two
 cases h1
 cases h2
 obtain⟨k,rfl⟩:∃k:Nat,c=k:=⟨c.toNat,by omega⟩
 refine(Any.strings_Repeat aaJ Yv s k w (by omega) hx.2.2).mono ?_
 rintro e w' ⟨rfl,hb⟩
 exact⟨_,rfl,.str _,Below.Ae hb⟩
theorem N6:Bo 126 Md:=by
 refine⟨⟨_,Tryz.func126,by kernel_rfl,by kernel_rfl⟩,fun L0 args H v hp m w fN hR hr => ?_⟩
 unfold Md at hp
 split at hp
 case h_3=>cases hp
 ·cases hp
  obtain⟨y,y',rfl,h1,h2⟩:=hr.two
  cases h1
  cases h2
  refine(Any.strings_Join_none O4 LJ none 0 _ w).mono ?_
  rintro e w' ⟨rfl,rfl⟩
  exact⟨_,rfl,.str _,wF⟩
 ·rename_i b o n c sep
  obtain⟨y,y',rfl,h1,h2⟩:=hr.two
  cases h2
  cases h1 with
  |
   slice _ _ _ _ l ra rc h hn hc hx ha =>
   split at hp
   ·rename_i Gd
    subst Gd
    cases hp
    refine(Any.strings_Join_none O4 LJ (some ra) rc _ w).mono ?_
    rintro e w' ⟨rfl,rfl⟩
    exact⟨_,rfl,.str _,wF⟩
   ·rename_i Gd
    split at hp
    case h_2=>cases hp
    rename_i xs PU
    split at hp
    case isFalse=>cases hp
    rename_i NR
    cases hp
    obtain⟨cs,Qy,OD⟩:=Option.bind_eq_some_iff.1 PU
    obtain⟨rs,r1,r2,_,r4⟩:=tI hR h Qy
    have hrs:=B9 OD r1
    subst hrs
    rcases ha with ha | ⟨rfl,ha⟩
    ·omega
    obtain⟨arr,e0,ZZ,v1,_⟩:=hR.valid b l h
    have Aa:l.rb<w.heap.size:=(Array.getElem?_eq_some_iff.1 v1).1
    obtain⟨c1,c2,c3,c4⟩:=NR
    subst c1
    refine(Any.strings_Join O4 LJ l.rb (l.base+o) rc xs sep w (fun j x hj => ?_) Aa c3 (by omega) c4).mono ?_
    ·have:=r4 j (.string x) (by simp[hj])
     rw[Addr.add_lit] at this
     exact this
    ·rintro e w' ⟨rfl,hb⟩
     exact⟨_,rfl,.str _,Below.Ae hb⟩
theorem OU {m:cK} {L0:Nat} {H:aF} {w:World} (hR:Rel m L0 H w):Lib.TabIs Tryz.prog w "internal/strconv.uint64pow10" .u64 Lib.pow10Tab:=by
 obtain⟨e,fz,h⟩:=(hR.Ba (0,(Lib.pow10Tab.map fun z=>Value.int .u64 z).toArray) (by simp[YC])).1
 have hg:Tryz.prog.globalNamed "internal/strconv.uint64pow10"=some 0:=by kernel_rfl
 unfold Lib.TabIs World.var?
 rw[hg]
 simp only[Option.bind_some,h]
theorem M3:Bo 123 qR:=by
 refine⟨⟨_,Tryz.func123,by kernel_rfl,by kernel_rfl⟩,fun L0 args H v hp m w fN hR hr => ?_⟩
 unfold qR at hp
 split at hp
 case h_2=>cases hp
 rename_i n b
 split at hp
 case isFalse=>cases hp
 rename_i hx
 cases hp
 obtain⟨y,y',rfl,h1,h2⟩:=hr.two
 cases h1
 cases h2
 obtain⟨rfl,h0,h1⟩:=hx
 obtain⟨u,rfl⟩:∃u:Nat,n=u:=⟨n.toNat,by omega⟩
 refine(Xg u (by omega) w (OU hR)).mono ?_
 rintro e w' ⟨rfl,hb⟩
 exact⟨_,rfl,.str _,Below.Ae hb⟩
theorem Z3 {L0:Nat}:Uy Tryz.prog cfg L0:=by
 intro f p hp
 have Ax:FT f=some p:=hp
 unfold FT at Ax
 split at Ax
 ·rename_i h;subst h;cases Ax;exact⟨M3.1,M3.2 L0⟩
 split at Ax
 ·rename_i h;subst h;cases Ax;exact⟨Ic.1,Ic.2 L0⟩
 split at Ax
 ·rename_i h;subst h;cases Ax;exact⟨N6.1,N6.2 L0⟩
 split at Ax
 ·rename_i h;subst h;cases Ax;exact⟨F5.1,F5.2 L0⟩
 cases Ax
end Go.PM
namespace Go.PM
open Go.ChangeShapes Go.WideShapes Go.ChangeAt Go.RowKit
open Go.Proofs
structure In (m:cK) (H:aF) (W:World):Prop where
 TJ:∀b l,m b=some l→b<H.length
 valid:∀b l,m b=some l→∃arr e fz,W.heap[l.rb]? = some (.cells arr e fz)∧arr.size=l.K9
 row:∀b l cs e p,m b=some l→H[b]? = some (.row cs e p)→l.dA=e∧l.No=p∧l.base+cs.length≤l.K9 ∧
  ∀i,i<cs.length→∃rv,W.cell? ⟨l.rb,l.base+i,none⟩=some rv∧RV m (cs.getD i Go.undef) rv∧PM.fU (cs.getD i Go.undef)=true
section
variable {m:cK} {H:aF} {W:World}
theorem In.empty:In (fun _=>none) [] W:=⟨fun _ _ h=>(by cases h),fun _ _ h=>(by cases h),fun _ _ _ _ _ h=>(by cases h)⟩
theorem In.rel (h:In m H W) (hg:Lq W):Rel m H.length H W :=
 ⟨fun b l hb=>by
  obtain⟨arr,e,fz,h1,h2⟩:=h.valid b l hb
  exact⟨arr,e,fz,h1,h2,fun hl=>by have:=h.TJ b l hb;omega⟩,h.row,fun b1 b2 l1 l2 hl h1 _ _ _ _=>by have:=h.TJ b1 l1 h1;omega,fun x hx=>⟨hg x hx,fun b l hb hm _=>by have:=h.TJ b l hm;omega⟩⟩
theorem In.Ro (h:In m H W) {b:Nat} (hb:H.length≤b):m b=none:=by
 cases hm:m b with
 | none=>rfl
 | some l=>have:=h.TJ b l hm;omega
theorem In.add (h:In m H W) {rb base dA:Nat} {arr:Array Value} {e:TypeId} {fz:Nat×Nat} {cs:List Value} (hb:W.heap[rb]? = some (.cells arr e fz)) (sE:base+cs.length≤arr.size)
  (hc:∀i,i<cs.length→∃rv,W.cell? ⟨rb,base+i,none⟩=some rv∧RV (pM m H.length ⟨rb,base,dA,arr.size,false⟩) (cs.getD i Go.undef) rv∧PM.fU (cs.getD i Go.undef)=true) :
  In (pM m H.length ⟨rb,base,dA,arr.size,false⟩) (H++[.row cs dA false]) W:=by
 have hn:=h.Ro (Nat.le_refl H.length)
 refine⟨fun b l oY => ?_,fun b l oY => ?_,fun b l ds e' p oY EU => ?_⟩
 ·by_cases he:b=H.length
  ·subst he;simp
  ·rw[bX he] at oY
   have:=h.TJ b l oY
   simp;omega
 ·by_cases he:b=H.length
  ·subst he
   rw[bC] at oY
   cases oY
   exact⟨arr,e,fz,hb,rfl⟩
  ·rw[bX he] at oY
   exact h.valid b l oY
 ·by_cases he:b=H.length
  ·subst he
   rw[bC] at oY
   cases oY
   rw[Rx] at EU
   cases EU
   exact⟨rfl,rfl,sE,hc⟩
  ·rw[bX he] at oY
   have aR:=h.TJ b l oY
   rw[KT aR] at EU
   obtain⟨h1,h2,h3,h4⟩:=h.row b l ds e' p oY EU
   refine⟨h1,h2,h3,fun i hi => ?_⟩
   obtain⟨rv,g1,g2,g3⟩:=h4 i hi
   exact⟨rv,g1,g2.mono (tG hn),g3⟩
end
theorem Rg {α:Type} (p:Nat→α→Prop):∀c,(∀i,i<c→∃x,p i x)→∃xs:List α,xs.length=c∧∀i x,xs[i]? = some x→p i x
 | 0,_=>⟨[],rfl,fun i x hx=>by simp at hx⟩
 |
  c+1,h=>by
  obtain⟨xs,h1,h2⟩:=Rg p c fun i hi=>h i (by omega)
  obtain⟨x,h3⟩:=h c (by omega)
  refine⟨xs++[x],by simp[h1],fun i y hy => ?_⟩
  rcases Nat.lt_or_ge i xs.length with hi | hi
  ·rw[List.getElem?_append_left hi] at hy
   exact h2 i y hy
  ·rw[List.getElem?_append_right hi] at hy
   have Yi:i-xs.length=0:=by
    rcases Nat.eq_zero_or_pos (i-xs.length) with h | h
    ·exact h
    ·rw[List.getElem?_eq_none (by simp;omega)] at hy;cases hy
   rw[Yi] at hy
   cases hy
   have:i=c:=by omega
   subst this
   exact h3
theorem HH {T:Type} {T5:TypeId×Value→T} {α:Type} {enc:α→List Value} {Tt:α→Prop} {P:Program} {W:World} {t e:TypeId} {dA base:Nat} (ht:P.underlying t=some (.slice e)) (akZ:P.cellsOf e=dA) (Uc:Cd enc dA)
  (ZD:∀fuel cs y,DataW.trod T5 P W 0 (fun _=>true) true fuel e cs=some y→∃x:α,cs=enc x∧Tt x) (afR:∀(m:cK) x,Tt x→∀i,i<dA→RV m ((enc x).getD i Go.undef) ((enc x).getD i Go.undef))
  {v:Value} {d:DataW T} {ps:List MemPlace} (h:DataW.Trod T5 P W 0 (fun _=>true) true t v d ps) (hv:Value.okWide P W .any base t v) {m:cK} {H:aF} (hI:In m H W) :
  ∃(a pa:Option Addr) (n c:Nat) (xs:List α) (m':cK) (L:aF),v = .slice a n c∧In m' (H++L) W∧(∀b l,m b=some l→m' b=some l)∧RV m' (.slice pa n c) v∧Arr enc dA (H++L) pa n xs∧(∀x∈xs,Tt x)∧n≤c∧(c=0∨∃el sp,d = .slice el sp∧el.length+sp.length=c)∧(pa=none↔a=none) ∧
   ((pa=none∧xs=[]∧n=0∧c=0)∨∃b r p,pa=some ⟨b,0,none⟩∧(H++L)[b]? = some (.row r dA p)∧n*dA≤r.length∧r.take (n*dA)=xs.flatMap enc):=by
 obtain⟨a,n,c,rfl⟩:=okWide_slice ht hv
 obtain⟨fuel,hf⟩:=h
 have OD:(Value.slice a n c).cells.toList=[.slice a n c]:=rfl
 rw[OD] at hf
 rcases DataW.trod_slice ht hf with⟨h1,_⟩ | ⟨a',len,cap,elems,rest,k,_,h1,hd,_,hl,hm,hlen,hE,hR,_⟩
 ·injection h1 with h1 _
  cases h1
  exact⟨none,none,0,0,[],m,[],rfl,by simpa using hI,fun _ _ h=>h,.Ln,⟨rfl,fun i x hx=>by simp at hx⟩,fun x hx=>by simp at hx,Nat.le_refl _,.inl rfl,Iff.rfl,.inl ⟨rfl,rfl,rfl,rfl⟩⟩
 ·injection h1 with h1 _
  cases h1
  obtain⟨FA,hR⟩:=hR rfl
  have VP:∀i,i<c→∃x:α,W.cells? 0 (a'.add (i*dA)) dA=some (enc x)∧Tt x:=by
   intro i hi
   have key:∃y,(W.cells? 0 (a'.add (i*P.cellsOf e)) (P.cellsOf e)).bind (DataW.trod T5 P W 0 (fun _=>true) true k e)=some y:=by
    rcases Nat.lt_or_ge i n with cX | cX
    ·exact⟨elems[i]'(by omega),by rw[hE i cX];exact List.getElem?_eq_getElem _⟩
    ·have:=hR (i-n) (by omega)
     rw[show n+(i-n)=i by omega] at this
     exact⟨rest[i-n]'(by omega),by rw[this];exact List.getElem?_eq_getElem _⟩
   obtain⟨y,hy⟩:=key
   rw[Option.bind_eq_some_iff,akZ] at hy
   obtain⟨cs,h1,h2⟩:=hy
   obtain⟨x,rfl,hg⟩:=ZD _ _ _ h2
   exact⟨x,h1,hg⟩
  obtain⟨xs,X3,hx⟩:=Rg (fun i x=>W.cells? 0 (a'.add (i*dA)) dA=some (enc x)∧Tt x) c VP
  have aoL:W.has P .any base a' e c:=by
   simp only[Value.okWide,ht,Cell.okWide,Cell.ok] at hv
   exact hv.2.2
  obtain⟨_,ZK,row,ajK,Pf,_⟩:=aoL
  obtain⟨rb,off,spot⟩:=a'
  simp only at ZK
  subst ZK
  obtain⟨arr,e',fz,agS⟩:∃arr e' fz,W.heap[rb]? = some (.cells arr e' fz):=by
   unfold World.shape? at Pf
   split at Pf
   ·rename_i arr e' fz hb;exact⟨arr,e',fz,hb⟩
   ·cases Pf
  have RJ:=D0 (xs:=xs) Uc
  have La:∀i,i<xs.length*dA→∃x,xs[i / dA]? = some x∧(xs.flatMap enc).getD i Go.undef=(enc x).getD (i % dA) Go.undef∧W.cell? ⟨rb,off+i,none⟩=some ((enc x).getD (i % dA) Go.undef)∧Tt x:=by
   intro i hi
   have fL:=Uc.pos
   have hq:i / dA<xs.length:=Nat.div_lt_of_lt_mul (by rw[Nat.mul_comm];exact hi)
   have hr:i % dA<dA:=Nat.mod_lt _ (by omega)
   have hx1:xs[i / dA]? = some xs[i / dA]:=List.getElem?_eq_getElem hq
   obtain⟨h1,h2⟩:=hx _ _ hx1
   have h3:=(World.cells?_some h1).2.2 (i % dA) hr
   have W2:i / dA*dA+i % dA=i:=by rw[Nat.mul_comm];exact Nat.div_add_mod i dA
   have hre:(enc xs[i / dA])[i % dA]? = some ((enc xs[i / dA]).getD (i % dA) Go.undef):=by
    rw[List.getD_eq_getElem?_getD,List.getElem?_eq_getElem (by rw[Uc.len];exact hr)]
    rfl
   refine⟨xs[i / dA],hx1,?_,?_,h2⟩
   ·have h4:(xs.flatMap enc)[i]? = ((xs.flatMap enc).drop (i / dA*dA))[i % dA]? := by
     rw[List.getElem?_drop,W2]
    rw[List.getD_eq_getElem?_getD,h4,Bv Uc,List.drop_eq_getElem_cons hq,List.flatMap_cons,List.getElem?_append_left (by rw[Uc.len];exact hr),List.getD_eq_getElem?_getD]
   ·rw[hre] at h3
    rw[←h3]
    have ha:∀o k:Nat,(⟨rb,o,none⟩:Addr).add k=⟨rb,o+k,none⟩:=by
     intro o k
     unfold Addr.add
     split
     ·rename_i h0;subst h0;rfl
     ·rfl
    rw[ha,ha,Nat.add_assoc,W2]
  have sE:(if c=0 then 0 else off)+(xs.flatMap enc).length≤arr.size:=by
   rw[RJ,X3]
   split
   ·rename_i h0;subst h0;simp
   ·rename_i h0
    have fL:=Uc.pos
    have Jd:1≤c*dA:=Nat.mul_pos (by omega) fL
    obtain⟨x,_,_,h3,_⟩:=La (c*dA-1) (by rw[X3];omega)
    unfold World.cell? at h3
    simp only[agS,Option.isSome_none,Bool.false_eq_true,if_false] at h3
    have:=(Array.getElem?_eq_some_iff.1 h3).1
    omega
  have Pc:=hI.add (dA:=dA) (cs:=xs.flatMap enc) (base:=if c=0 then 0 else off) agS sE (fun i hi=>by
   rw[RJ] at hi
   obtain⟨x,_,h2,h3,h4⟩:=La i hi
   have h0:¬c=0:=by
    intro h0
    rw[X3,h0] at hi
    omega
   rw[if_neg h0,h2]
   have hr:i % dA<dA:=Nat.mod_lt _ (by have:=Uc.pos;omega)
   refine⟨_,h3,afR _ x h4 _ hr,?_⟩
   have zG:=List.all_eq_true.1 (Uc.sc x) ((enc x).getD (i % dA) Go.undef) (by
    rw[List.getD_eq_getElem?_getD,List.getElem?_eq_getElem (by rw[Uc.len];exact hr)]
    exact List.getElem_mem _)
   exact zG)
  refine⟨some ⟨rb,off,none⟩,some ⟨H.length,0,none⟩,n,c,xs.take n,_,_,rfl,Pc,tG (hI.Ro (Nat.le_refl _)),?_,?_,fun x hxm => ?_,hl,.inr ⟨_,_,congrArg Prod.fst hd,by simp[hlen,FA];omega⟩,by simp,.inr ⟨H.length,xs.flatMap enc,false,rfl,by simp,?_,Fm Uc n⟩⟩
  ·refine .slice H.length 0 n c _ _ c (bC _ _ _) hl (Nat.le_refl _) (fun _=>rfl) ?_
   rcases Nat.eq_zero_or_pos c with h0 | h0
   ·exact .inl h0
   ·right
    rw[if_neg (by omega)]
    refine⟨rfl,?_⟩
    rw[if_neg (by omega),RJ,X3] at sE
    simpa using sE
  ·have hR:Row enc dA (H++[.row (xs.flatMap enc) dA false]) H.length false xs:=Row.top
   exact hR.arr Uc (by omega)
  ·have amB:=List.mem_of_mem_take hxm
   obtain⟨i,hi⟩:=List.getElem?_of_mem amB
   exact(hx i x hi).2
  ·rw[RJ,X3]
   exact Nat.mul_le_mul_right _ hl
theorem Xb {T:Type} {P:Program} {ts:List TypeId} {ds:List (DataW T)} (h:(DataW.weightsEach P ts ds).all (· ≤ reachBytes)=true) {j:Nat} {t e:TypeId} {d:DataW T} {c:Nat} (hc:c=0∨∃el sp,d = .slice el sp∧el.length+sp.length=c)
  (ht:ts[j]? = some t) (hd:ds[j]? = some d) (hu:P.underlying t=some (.slice e)) (hb:Nat.ble 1 (P.bytesOf e)=true):c≤140737488355328:=by
 rcases hc with rfl | ⟨el,sp,rfl,rfl⟩
 ·omega
 ·have h1:=sized_slice h ht hd hu
  have h2:reachBytes<2^47:=reachBytes_lt
  have h3:=Nat.le_of_ble_eq_true hb
  have h4:=Nat.mul_le_mul_left (el.length+sp.length) h3
  omega
theorem TX {f:Nat} {args fN:List Value} {H H':aF} {v:Value} {m:cK} {W:World} (hI:In m H W) (hr:RL m args fN) (h:nK f args H.length H=some (v,H')) (hg:Lq W:=by first | assumption | exact fun x hx=>nomatch hx) :
  Calls Tryz.prog f fN.toArray W fun e W'=>∃m' rv,e = .returned rv∧RV m' v rv∧Below W.heap.size W W':=by
 obtain⟨n,hn⟩:=(qK cfg iY).1 h
 refine(E2 Tryz.checked.mixed Z3 aaS n f args H.length H v H' hn m W fN (hI.rel hg) (Nat.le_refl _) (Nat.le_refl _) hr (fun b hb _=>hI.Ro hb)).2.mono ?_
 rintro e W' ⟨m',rv,rfl,h1,_,h3⟩
 refine⟨m',rv,rfl,h1,⟨h3.same.1,h3.same.2.2,h3.same.2.1,h3.size,fun k hk=>h3.oB k hk fun b l hb hm _ => ?_⟩⟩
 rw[hI.Ro hb] at hm
 cases hm
end Go.PM
namespace Go.PM
def Fc (c:aJ):Prop:=(0≤c.t∧c.t≤10000)∧(1≤c.w∧c.w≤1000)∧(0≤c.k∧c.k≤9)
instance (c:aJ):Decidable (Fc c):=by unfold Fc;infer_instance
def EH (cs:List aJ) (i:Nat) (c:aJ):Prop:=Fc c∧∀b,0<i→cs[i-1]? = some b→b.t≤c.t
def aN (cs:List aJ):Prop:=(∀i c,cs[i]? = some c→EH cs i c)∧cs.length≤24
noncomputable instance (cs:List aJ):Decidable (aN cs):=Classical.propDecidable _
theorem aN.at {cs:List aJ} (h:aN cs) {i:Nat} {c:aJ} (hc:cs[i]? = some c):(0≤c.t∧c.t≤10000)∧(1≤c.w∧c.w≤1000)∧(0≤c.k∧c.k≤9):=(h.1 i c hc).1
def wl (time:Int):List aJ→Int→Int→Int
 | [],l,s=>max (l-(time-s)) 0
 | c::cs,l,s=>if time<c.t then max (l-(time-s)) 0 else wl time cs (max (l-(c.t-s)) 0+c.w) c.t
def akH (cs:List aJ) (time:Int):Prop:=aN cs∧(0≤time∧time≤1000000000)
noncomputable instance (cs:List aJ) (time:Int):Decidable (akH cs time):=Classical.propDecidable _
def Pm (cs:List aJ) (ls:List Int):Prop:=aN cs∧ls.length=cs.length∧∀x∈ls,0≤x∧x≤1000000000
noncomputable instance (cs:List aJ) (ls:List Int):Decidable (Pm cs ls):=Classical.propDecidable _
def jS:List Int→Int
 | []=>0
 | x::xs=>x+jS xs
def Ap:List aJ→Int
 | []=>0
 | c::cs=>c.t+Ap cs
def jH (time:Int):List aJ→List Int→Int
 | c::cs,l::ls=>(if c.t≤time∧time<l then 1 else 0)+jH time cs ls
 | _,_=>0
def ahG (cs:List aJ) (ls:List Int) (time:Int):Prop:=Pm cs ls∧(0≤time∧time≤1000000000)
noncomputable instance (cs:List aJ) (ls:List Int) (time:Int):Decidable (ahG cs ls time):=Classical.propDecidable _
def akN (cs:List aJ) (ps:List Int):Prop:=aN cs∧ps.length=cs.length∧∀x∈ps,0≤x∧x≤10000
noncomputable instance (cs:List aJ) (ps:List Int):Decidable (akN cs ps):=Classical.propDecidable _
end Go.PM
namespace Go.Proofs.YtinhiblbgejbdaaGreatDoor
open Go.ChangeShapes Go.WideShapes Go.ChangeAt Go.RowKit Go.PM
theorem own:ownKnob Tryz.prog.godebug=none:=by kernel_rfl
theorem laidOut:laidOutB Tryz.prog=true:=by kernel_rfl
theorem three {α:Type} {l:List α} (h:l.length=3):∃a b c,l=[a,b,c]:=by
 rcases l with _ | ⟨a,_ | ⟨b,_ | ⟨c,_ | ⟨d,l⟩⟩⟩⟩
 ·cases h
 ·cases h
 ·cases h
 ·exact⟨a,b,c,rfl⟩
 ·simp at h
end Go.Proofs.YtinhiblbgejbdaaGreatDoor
namespace Go.PM
def oG:aH:=(LS [LO 4 (.mv LF)] (LS [LM 5 0,LO 6 (.len (LT 5)),LO 7 (.bin .gtr (LT 6) (LI 1048576)),LM 8 7,LZ 8 9 (.mv (LT 1)),LZ 8 10 (.len (LT 9)),LZ 8 11 (.bin .gtr (LT 10) (LI 1048576)),LO 12 (.pick (LT 8) LG (LT 11)),LM 4 12] .ret))
def sG:aU:=⟨13,[(.tmp 4)],oG⟩
theorem IP:iY 6=some sG:=by kernel_rfl
def yK:aH:=(LS [LO 6 (.mv (LI 0))] (.seq (LS [LM 7 2,LO 8 (.bin .leq (LT 7) (LI 1))] (.cond (LT 8) (LS [LO 6 (.mv (LI 0))] .ret) .skip)) (.seq (LS [LM 9 1,LM 10 0,LO 11 (.len (LT 10)),LO 12 (.bin .lss (LT 9) (LT 11))] (.cond (LT 12) (LS [LM 13 0,LM 14 1,LO 15 (.iaddr 1 (LT 13) (LT 14)),LO 16 (LL 15),LO 17 (.cvt .i64 (LT 16)),LM 18 2,LO 19 (.bin .rem (LT 17) (LT 18)),LM 6 19] .ret) .skip)) (LS [LM 20 1,LO 21 (.bin .mul (LT 20) (LI 37)),LO 22 (.bin .add (LT 21) (LI 11)),LM 23 2,LO 24 (.bin .rem (LT 22) (LT 23)),LM 6 24] .ret))))
def CN:aU:=⟨25,[(.tmp 6)],yK⟩
theorem LW:iY 8=some CN:=by kernel_rfl
def qB:aH:=(LS [LO 4 (.mv LF)] (LS [LM 8 0,LM 9 1,LO 10 (.call 46 [(LT 8),(LT 9)]),LM 7 10,LO 11 (LX 7 0),LO 12 (LX 7 1),LM 5 11,LM 6 12] (LS [LM 13 6,LM 14 13,LY 14 15 (.mv (LT 5)),LY 14 16 (.bin .leq (LT 15) (LI 0)),LO 17 (.pick (LT 14) (LT 16) LF),LM 4 17] .ret)))
def tF:aU:=⟨18,[(.tmp 4)],qB⟩
theorem Er:iY 15=some tF:=by kernel_rfl
end Go.PM
namespace Go.PM
def BI:List Nat:=[]
 ++ [22]
 ++ [24]
 ++ [25]
 ++ [26]
 ++ [10]
 ++ [11]
 ++ [33]
 ++ [9]
 ++ [16]
 ++ [52]
 ++ [12]
 ++ [21]
 ++ [105]
 ++ [121]
 ++ [122]
 ++ [133]
 ++ [134]
 ++ [47]
 ++ [31]
 ++ [72]
 ++ [76]
 ++ [73]
 ++ [40]
 ++ [125]
 ++ [28]
 ++ [70]
 ++ [102]
 ++ [71]
 ++ [29]
 ++ [7]
end Go.PM