/- Texts of a claim, in one: part 3. -/
import Derived.Lib.ItoaNum
import Derived.Lib.Join
import Derived.Lib.BitFns
import Derived.Lib.Repeat
import Derived.Lib.Bytealg
import Derived.Lib.ParseIntB
import Derived.Test.YtjmflicajplclaaGreatDoorChecked
import Derived.Laws.BitsLemmas
import Derived.Shelf.Strings.OnBuilder
import Derived.Shelf.Strings.Repeat
import Derived.Shelf.Small.Bits
import Derived.Shelf.Strconv.Itoa1
import Derived.Shelf.Strconv.Itoa2
import Derived.Shelf.LaysM
import Derived.Shelf.Strings.Search2
import Derived.Shelf.Pu.ParseUintPublic10
import Derived.KernelRfl
import Derived.Test.YtjmflicajplclaaGreatDoorProg
import Derived.Lib.Walk
import Derived.Lib.ItoaMem
import Derived.WalkKit
import Derived.BigCall
import Derived.BigGuard
import Derived.Below
import Derived.Shelf.Strings.Search2
import Derived.Shelf.Pu.ParseUintPublic10
import Derived.Shelf.Strings.OnBuilder
import Derived.Shelf.Strings.Repeat
import Derived.Shelf.Small.Bits
import Derived.ProofKit
import Derived.OpenShut
import Derived.ShutString
import Derived.ChangeOld
import Derived.Carry
import Derived.SizedLaws
import Derived.Test.YtjmflicajplclaaGreatDoorRows
import Derived.Test.YtjmflicajplclaaGreatDoorKTb
set_option linter.unusedSimpArgs false
set_option linter.unusedVariables false
namespace Go.PM
def aqL:Ex→Exit
 | .normal => .normal
 | .exit id => .exit id
 | .ret => .ret
section
variable {P:Program} {E:AX} {n:Nat} {call:gG} {lo L0:Nat}
def P7 (P:Program) (n lo L0:Nat) (c:Code) (run:Env→aE→Option (Ex×Env×aE)):Prop :=
 ∀ρ H x bI H',run ρ H=some (x,bI,H')→∀m a w,HW n L0 m ρ H a w→L0≤H.length→(∀b,H.length≤b→b<H'.length→m b=none) →
  ∀Q:Exit→Act→World→Prop,(∀m' a' w',HW n L0 m' bI H' a' w'→Trans lo m H w m' H' w'→Q (aqL x) a' w')→c.wp P Q a w
theorem Zf {c:Code} {run:Env→aE→Option (Ex×Env×aE)} (hc:P7 P n lo L0 c run) (he:∀ρ H x bI H',run ρ H=some (x,bI,H')→Ext lo H H') (N:Nat):P7 P n lo L0 (.loop c) (wW run N):=by
 intro ρ H x bI H' hr m a w h hl hf Q hQ
 apply wp_loop_rounds N
 have key:∀N ρ H,wW run N ρ H=some (x,bI,H')→∀m a w,HW n L0 m ρ H a w→L0≤H.length→(∀b,H.length≤b→b<H'.length→m b=none) →
   (∀m' a' w',HW n L0 m' bI H' a' w'→Trans lo m H w m' H' w'→Q (aqL x) a' w')→Code.rounds P c Q N a w:=by
  intro N
  induction N with
  | zero=>intro ρ H h;cases h
  |
   succ N ih =>
   intro ρ H hr m a w h hl hf hQ
   rw[rounds_succ]
   rw[wW] at hr
   split at hr
   ·rename_i wP H1 h1
    have e1:=he _ _ _ _ _ h1
    have e2:=IM he N hr
    refine hc ρ H _ wP H1 h1 m a w h hl (fun b CB Yr=>hf b CB (Nat.lt_of_lt_of_le Yr e2.len)) _ fun m1 a1 w1 hh hT => ?_
    exact ih wP H1 hr m1 a1 w1 hh (Nat.le_trans hl e1.len) (hT.fresh e1.len hf) fun m2 a2 w2 h2 Pp=>hQ m2 a2 w2 h2 (Trans.trans hf e1 e2 hT Pp)
   ·rename_i fC
    refine hc ρ H _ bI H' hr m a w h hl hf _ fun m1 a1 w1 hh hT => ?_
    have:=hQ m1 a1 w1 hh hT
    cases x with
    | normal=>exact absurd hr (fC bI H')
    | exit id=>exact this
    | ret=>exact this
 exact key N ρ H hr m a w h hl hf hQ
theorem oL (DF:P.follows .mixedOrders=true) (nP:wQ P L0 call) (qU:rB call) (dK:L0≤lo) (N:Nat):∀(c:Code) (pc:aD),iG P E n c=some pc→P7 P n lo L0 c (dL call lo N pc)
 |
  .skip,pc,hp=>by
  cases hp
  intro ρ H x bI H' hr m a w h hl hf Q hQ
  cases hr
  exact wp_skip (hQ m a w h (Trans.refl _ _ _ _))
 |
  .region id ops draw,pc,hp=>by
  rw[iG] at hp
  cases hpr:xZ P E n ops draw with
  | none=>rw[hpr] at hp;cases hp
  |
   some sY =>
   rw[hpr] at hp
   cases hp
   intro ρ H x bI H' hr m a w h hl hf Q hQ
   rw[dL] at hr
   cases hs:gT call lo sY ρ H with
   | none=>rw[hs] at hr;cases hr
   |
    some q =>
    obtain⟨wP,H1⟩:=q
    rw[hs] at hr
    cases hr
    exact UH DF nP qU hpr hs h dK hl hf hQ
 |
  .seq x y,pc,hp=>by
  rw[iG] at hp
  split at hp
  ·rename_i px py WR hpy
   cases hp
   intro ρ H e bI H' hr m a w h hl hf Q hQ
   rw[dL] at hr
   apply wp_seq
   split at hr
   ·rename_i wP H1 h1
    have e1:=jM qU px h1
    have e2:=jM qU py hr
    refine oL DF nP qU dK N x px WR ρ H _ wP H1 h1 m a w h hl (fun b CB Yr=>hf b CB (Nat.lt_of_lt_of_le Yr e2.len)) _ fun m1 a1 w1 hh hT => ?_
    exact oL DF nP qU dK N y py hpy wP H1 _ bI H' hr m1 a1 w1 hh (Nat.le_trans hl e1.len) (hT.fresh e1.len hf) Q fun m2 a2 w2 h2 Pp=>hQ m2 a2 w2 h2 (Trans.trans hf e1 e2 hT Pp)
   ·rename_i fC
    refine oL DF nP qU dK N x px WR ρ H _ bI H' hr m a w h hl hf _ fun m1 a1 w1 hh hT => ?_
    have:=hQ m1 a1 w1 hh hT
    cases e with
    | normal=>exact absurd hr (fC bI H')
    | exit id=>exact this
    | ret=>exact this
  ·cases hp
 |
  .cond o x y,pc,hp=>by
  rw[iG] at hp
  split at hp
  ·rename_i DY
   split at hp
   ·rename_i px py WR hpy
    cases hp
    intro ρ H e bI H' hr m a w h hl hf Q hQ
    rw[dL] at hr
    split at hr
    ·rename_i t ht
     have Va:=UX (a:=a) (m:=m) (ρ:=ρ) DY fun t _=>h.env t
     rw[ht] at Va
     generalize hev:a.eval o=ro at Va
     cases Va
     refine wp_cond hev ?_
     cases t with
     | true=>exact oL DF nP qU dK N x px WR ρ H _ bI H' hr m a w h hl hf Q hQ
     | false=>exact oL DF nP qU dK N y py hpy ρ H _ bI H' hr m a w h hl hf Q hQ
    ·cases hr
   ·cases hp
  ·cases hp
 |
  .block id x,pc,hp=>by
  rw[iG] at hp
  cases WR:iG P E n x with
  | none=>rw[WR] at hp;cases hp
  |
   some px =>
   rw[WR] at hp
   cases hp
   intro ρ H e bI H' hr m a w h hl hf Q hQ
   rw[dL] at hr
   apply wp_block
   split at hr
   ·rename_i SM wP H1 h1
    split at hr
    ·rename_i hid
     cases hr
     refine oL DF nP qU dK N x px WR ρ H _ bI H' h1 m a w h hl hf _ fun m1 a1 w1 hh hT => ?_
     have:=hQ m1 a1 w1 hh hT
     show Exit.inBlock id Q (.exit SM) a1 w1
     simp only[Exit.inBlock,if_pos hid]
     exact this
    ·rename_i hid
     cases hr
     refine oL DF nP qU dK N x px WR ρ H _ bI H' h1 m a w h hl hf _ fun m1 a1 w1 hh hT => ?_
     have:=hQ m1 a1 w1 hh hT
     show Exit.inBlock id Q (.exit SM) a1 w1
     simp only[Exit.inBlock,if_neg hid]
     exact this
   ·rename_i fC
    refine oL DF nP qU dK N x px WR ρ H _ bI H' hr m a w h hl hf _ fun m1 a1 w1 hh hT => ?_
    have:=hQ m1 a1 w1 hh hT
    cases e with
    | normal=>exact this
    | exit SM=>exact absurd hr (fC SM bI H')
    | ret=>exact this
 |
  .loop x,pc,hp=>by
  rw[iG] at hp
  cases WR:iG P E n x with
  | none=>rw[WR] at hp;cases hp
  |
   some px =>
   rw[WR] at hp
   cases hp
   have hx:=oL DF nP qU dK N x px WR
   intro ρ H e bI H' hr
   rw[dL] at hr
   exact Zf hx (fun ρ H x bI H' h=>jM qU px h) N ρ H e bI H' hr
 |
  .exit id,pc,hp=>by
  cases hp
  intro ρ H x bI H' hr m a w h hl hf Q hQ
  cases hr
  exact wp_exit (hQ m a w h (Trans.refl _ _ _ _))
 |
  .ret,pc,hp=>by
  cases hp
  intro ρ H x bI H' hr m a w h hl hf Q hQ
  cases hr
  exact wp_ret (hQ m a w h (Trans.refl _ _ _ _))
 | .rangeFunc ..,pc,hp=>by cases hp
 | .scope _,pc,hp=>by cases hp
 | .label _,pc,hp=>by cases hp
 | .goto _,pc,hp=>by cases hp
 | .refuse _,pc,hp=>by cases hp
def yZ (P:Program):ResultVar→Option Bd
 | .tmp t=>some (.tmp t)
 | .cell t ty=>(mA P ty).map fun(agg,size,_,_) => .cell t agg size
def MR (a:Act):ResultVar→Sem Value
 | .tmp t=>pure (a.tmps.getD t undef)
 | .cell x t=>do loadVar t (←asAddr (a.tmps.getD x undef))
theorem aAf {m:dO} {ρ:Env} {H:aE} {a:Act} {w:World} (h:HW n L0 m ρ H a w) {r:ResultVar} {pr:Bd} (hp:yZ P r=some pr) {v:Value} (hv:Vz ρ H pr=some v) :
  ∃rv,RV m v rv∧(MR a r).run P w = .ok rv w:=by
 cases r with
 |
  tmp t =>
  cases hp
  cases hv
  exact⟨_,h.env t,rfl⟩
 |
  cell x t =>
  simp only[yZ] at hp
  cases ht:mA P t with
  | none=>rw[ht] at hp;cases hp
  |
   some q =>
   obtain⟨agg,size,z,nb⟩:=q
   rw[ht] at hp
   cases hp
   obtain⟨rv,h1,h2⟩:=ON ht hv h.rel (h.env x)
   refine⟨rv,h1,?_⟩
   unfold MR
   have hpv:=h.env x
   simp only[Vz,nS] at hv
   split at hv
   ·rename_i b o hb
    rw[hb] at hpv
    show (do loadVar t (←asAddr (a.tmps.getD x undef)):Sem Value).run P w=_
    generalize a.tmps.getD x undef=rp at h2 hpv ⊢
    cases hpv
    exact h2
   ·cases hv
theorem abR {m:dO} {ρ:Env} {H:aE} {a:Act} {w:World} (h:HW n L0 m ρ H a w):∀ {rs:List ResultVar} {prs:List Bd} {vs:List Value},rs.mapM (yZ P)=some prs→BB ρ H prs=some vs →
  ∃Y2,RL m vs Y2∧(rs.mapM (MR a)).run P w = .ok Y2 w
 |
  [],prs,vs,hp,hv=>by
  simp at hp
  subst hp
  cases hv
  exact⟨[],RL.nil m,rfl⟩
 |
  r::rs,prs,vs,hp,hv=>by
  simp only[List.mapM_cons,Option.pure_def,Option.bind_eq_bind] at hp
  cases h1:yZ P r with
  | none=>rw[h1] at hp;cases hp
  |
   some pr =>
   rw[h1] at hp
   cases h2:rs.mapM (yZ P) with
   | none=>rw[h2] at hp;cases hp
   |
    some aCs =>
    rw[h2] at hp
    cases hp
    simp only[BB] at hv
    split at hv
    ·rename_i v vs' hv1 hv2
     cases hv
     obtain⟨rv,g1,g2⟩:=aAf h h1 hv1
     obtain⟨Y2,g3,g4⟩:=abR h h2 hv2
     refine⟨rv::Y2,RL.cons g1 g3,?_⟩
     rw[List.mapM_cons,Sem.run_bind,g2,Result.andThen_ok,Sem.run_bind,g4]
     rfl
    ·cases hv
theorem I3 {m:dO} {ρ:Env} {H:aE} {a:Act} {w:World} (h:HW n L0 m ρ H a w) {fn:Func} {prs:List Bd} (hp:fn.results.toList.mapM (yZ P)=some prs) {v:Value} (hv:qH prs ρ H=some v) :
  ∃rv,RV m v rv∧(results fn a.tmps).run P w = .ok rv w:=by
 unfold qH at hv
 cases lF:BB ρ H prs with
 | none=>rw[lF] at hv;cases hv
 |
  some vs =>
  obtain⟨Y2,h1,h2⟩:=abR h hp lF
  rw[lF] at hv
  have oP:∀rv,(if h:Y2.toArray.size=1 then Y2.toArray[0] else .tuple Y2.toArray)=rv→(results fn a.tmps).run P w = .ok rv w:=by
   intro rv Va
   have e:results fn a.tmps=(do let vs ←fn.results.mapM (MR a);pure (if h:vs.size=1 then vs[0] else .tuple vs)):=by
    unfold results
    congr 2
   rw[e,Array.mapM_eq_mapM_toList,Sem.run_bind]
   have:(List.toArray <$> fn.results.toList.mapM (MR a)).run P w = .ok Y2.toArray w:=by
    rw[map_eq_pure_bind,Sem.run_bind,h2]
    rfl
   rw[this,←Va]
   rfl
  clear h2 lF
  rcases vs with _ | ⟨x,_ | ⟨y,xs⟩⟩
  ·rcases Y2 with _ | ⟨x',ys⟩
   ·cases hv
    exact⟨_,h1.Wh,oP _ rfl⟩
   ·cases h1.1
  ·rcases Y2 with _ | ⟨x',_ | ⟨y',ys⟩⟩
   ·cases h1.1
   ·cases hv
    exact⟨x',h1.jU.1,oP x' rfl⟩
   ·cases h1.1
  ·rcases Y2 with _ | ⟨x',_ | ⟨y',ys⟩⟩
   ·cases h1.1
   ·cases h1.1
   ·cases hv
    exact⟨_,h1.Wh,oP _ (by simp)⟩
end
end Go.PM
namespace Go.PM
def ZB (P:Program) (E:AX) (L0:Nat):Prop :=
 ∀f p,E.Ba f=some p→KP P f∧∀args H v,p args H=some v→∀m w gQ,Rel m L0 H w→RL m args gQ →
  Calls P f gQ.toArray w fun e w'=>∃rv,e = .returned rv∧RV m v rv∧w.heap.size≤w'.heap.size∧(∀rb,rb<w.heap.size→w'.heap[rb]? = w.heap[rb]?)∧w'.os=w.os∧w'.output=w.output∧w'.tape=w.tape
theorem Rel.more {m:dO} {L0:Nat} {H:aE} {w w':World} (h:Rel m L0 H w) (hk:∀rb,rb<w.heap.size→w'.heap[rb]? = w.heap[rb]?):Rel m L0 H w':=by
 have hv:∀b l,m b=some l→l.rb<w.heap.size:=fun b l hb=>by
  obtain⟨arr,e,fz,h1,_⟩:=h.valid b l hb
  exact(Array.getElem?_eq_some_iff.1 h1).1
 refine⟨fun b l hb=>by rw[hk _ (hv b l hb)];exact h.valid b l hb,fun b l cs e p hm hb => ?_,h.inj,fun x hx=>⟨?_,(h.Dw x hx).2⟩⟩
 ·obtain⟨h1,h2,h3,h4⟩:=h.row b l cs e p hm hb
  refine⟨h1,h2,h3,fun i hi => ?_⟩
  obtain⟨rv,g1,g2⟩:=h4 i hi
  refine⟨rv,?_,g2⟩
  rw[←g1]
  unfold World.cell?
  simp only[hk _ (hv b l hm)]
 ·obtain⟨e,fz,g1⟩:=(h.Dw x hx).1
  exact⟨e,fz,by rw[hk _ (Array.getElem?_eq_some_iff.1 g1).1];exact g1⟩
theorem acT {P:Program} {E:AX} {f:Nat} {pf:aR} (h:Te P E f=some pf):∃fn c,P.funcs[f]? = some fn∧fn.body=some c∧(fn.name == "runtime.NumGoroutine")=false∧fn.results.toList.mapM (yZ P)=some pf.res∧iG P E fn.ntmps c=some pf.body∧pf.ntmps=fn.ntmps:=by
 unfold Te at h
 cases hf:P.funcs[f]? with
 | none=>rw[hf] at h;cases h
 |
  some fn =>
  rw[hf] at h
  have h':Mw P E fn=some pf:=h
  unfold Mw at h'
  cases hb:fn.body with
  | none=>rw[hb] at h';cases h'
  |
   some c =>
   rw[hb] at h'
   simp only at h'
   split at h'
   ·cases h'
   ·rename_i Y9
    split at h'
    ·cases h'
    ·rename_i res Ug
     cases hc:iG P E fn.ntmps c with
     | none=>rw[hc] at h';cases h'
     |
      some body =>
      rw[hc] at h'
      cases h'
      refine⟨fn,c,rfl,hb,by simpa using Y9,?_,hc,rfl⟩
      have e:(fun(r:ResultVar)=>match r with
       | .tmp t=>some (Bd.tmp t)
       | .cell t ty=>(mA P ty).map fun(agg,size,_,_) => .cell t agg size)=yZ P:=by
       funext r
       cases r<;>rfl
      rw[←e]
      exact Ug
theorem IG {P:Program} {E:AX} {T:Zl} {L0:Nat} (DF:P.follows .mixedOrders=true) (abT:ZB P E L0) (hT:∀f pf,T f=some pf→Te P E f=some pf):∀n,wQ P L0 (mB E T n)
 | 0=>fun f args lo H v H' h=>by cases h
 |
  n+1=>fun f args lo H v H' h m w gQ hR dK hlen Tn hf=>by
  have qU:=DX E T n
  rw[mB] at h
  split at h
  ·rename_i p hp
   obtain⟨hco,ayX⟩:=abT f p hp
   refine⟨hco,?_⟩
   cases hpv:p args H with
   | none=>rw[hpv] at h;cases h
   |
    some u =>
    rw[hpv] at h
    cases h
    refine(ayX args H v hpv m w gQ hR Tn).mono ?_
    rintro e w' ⟨rv,rfl,h1,h2,h3,h4⟩
    exact⟨m,rv,rfl,h1,hR.more h3,fun _ _ h=>h,fun b l hb hn=>(by rw[hb] at hn;cases hn),h2,fun rb CE _=>h3 rb CE,h4⟩
  ·split at h
   ·cases h
   ·rename_i pf hpf
    obtain⟨fn,c,h1,h2,h3,h4,h5,h6⟩:=acT (hT _ _ hpf)
    split at h
    case isFalse=>cases h
    rename_i xC
    refine⟨⟨fn,h1,h3,by rw[h2];rfl⟩,calls_of_wp h1 h2 ?_⟩
    have BH:gQ.toArray.size≤fn.ntmps:=by
     have:=Tn.1
     simp;omega
    have hH:HW fn.ntmps L0 m (XL args) H { tmps:=gQ.toArray++Array.replicate (fn.ntmps-gQ.toArray.size) undef,defers:=[] } w:=by
     refine⟨by simp at BH ⊢;omega,rfl,fun t => ?_,hR⟩
     rcases Nat.lt_or_ge t args.length with ht | ht
     ·have h7:=Tn.2 t ht
      have ht':t<gQ.length:=by rw[←Tn.1];exact ht
      have e:(gQ.toArray++Array.replicate (fn.ntmps-gQ.toArray.size) undef).getD t undef=gQ.getD t undef:=by
       rw[Array.getD_eq_getD_getElem?,Array.getElem?_append_left (by simpa using ht')]
       simp
      show RV m (args.getD t undef) _
      rw[e]
      exact h7
     ·have e1:args.getD t undef=undef:=by simp[List.getD_eq_getElem?_getD,List.getElem?_eq_none ht]
      have ht':gQ.length≤t:=by rw[←Tn.1];exact ht
      have e2:(gQ.toArray++Array.replicate (fn.ntmps-gQ.toArray.size) undef).getD t undef=undef:=by
       rw[Array.getD_eq_getD_getElem?,Array.getElem?_append_right (by simpa using ht')]
       rw[Array.getElem?_replicate]
       split<;>rfl
      show RV m (args.getD t undef) _
      rw[e1,e2]
      exact RV.undef m
    split at h
    ·rename_i wP H1 oP
     cases hr:qH pf.res wP H1 with
     | none=>rw[hr] at h;cases h
     |
      some u =>
      rw[hr] at h
      cases h
      refine oL DF (IG DF abT hT n) qU dK n c pf.body h5 _ _ _ _ _ oP m _ w hH hlen hf _ fun m' a' w' hh hTr => ?_
      obtain⟨rv,g1,g2⟩:=I3 hh h4 hr
      exact⟨hh.defs,rv,g2,m',rv,rfl,g1,hh.rel,hTr⟩
    ·rename_i wP H1 oP
     cases hr:qH pf.res wP H1 with
     | none=>rw[hr] at h;cases h
     |
      some u =>
      rw[hr] at h
      cases h
      refine oL DF (IG DF abT hT n) qU dK n c pf.body h5 _ _ _ _ _ oP m _ w hH hlen hf _ fun m' a' w' hh hTr => ?_
      obtain⟨rv,g1,g2⟩:=I3 hh h4 hr
      exact⟨hh.defs,rv,g2,m',rv,rfl,g1,hh.rel,hTr⟩
    ·cases h
end Go.PM
namespace Go.PM
def CLe (c c':gG):Prop:=∀f args lo H r,c f args lo H=some r→c' f args lo H=some r
section
variable {c c':gG} {lo:Nat}
theorem Ou (h:CLe c c') {i:PI} {ρ:Env} {H:aE} {r:Value×aE} (hr:yR c lo i ρ H=some r):yR c' lo i ρ H=some r:=by
 unfold yR at hr ⊢
 split at hr
 ·cases hr
 ·exact hr
 ·split at hr
  ·rename_i Qv
   rw[if_pos Qv]
   split at hr
   ·exact hr
   ·exact h _ _ _ _ _ hr
   ·cases hr
  ·cases hr
theorem T2 (h:CLe c c') {i:PI} {ρ:Env} {H:aE} {r:Env×aE} (hr:yO c lo i ρ H=some r):yO c' lo i ρ H=some r:=by
 unfold yO at hr ⊢
 split at hr
 ·rename_i v H' hv
  rw[Ou h hv]
  exact hr
 ·cases hr
theorem zI (h:CLe c c'):∀ {is:List PI} {ρ:Env} {H:aE} {r:Env×aE},gT c lo is ρ H=some r→gT c' lo is ρ H=some r
 | [],_,_,_,hr=>hr
 |
  i::is,ρ,H,r,hr=>by
  rw[gT] at hr ⊢
  split at hr
  ·rename_i h1
   rw[T2 h h1]
   exact zI h hr
  ·cases hr
theorem wV {b b':Env→aE→Option (Ex×Env×aE)} (h:∀ρ H r,b ρ H=some r→b' ρ H=some r):∀ {n n':Nat} {ρ:Env} {H:aE} {r:Ex×Env×aE},n≤n'→wW b n ρ H=some r→wW b' n' ρ H=some r
 | 0,_,_,_,_,_,hr=>by cases hr
 | n+1,0,_,_,_,hn,_=>by omega
 |
  n+1,n'+1,ρ,H,r,hn,hr=>by
  rw[wW] at hr ⊢
  split at hr
  ·rename_i h1
   rw[h _ _ _ h1]
   exact wV h (by omega) hr
  ·rename_i fC
   rw[h _ _ _ hr]
   split
   ·rename_i bI H' he
    cases he
    exact absurd hr (fC _ _)
   ·rfl
theorem eY (h:CLe c c') {n n':Nat} (hn:n≤n'):∀(p:aD) {ρ:Env} {H:aE} {r:Ex×Env×aE},dL c lo n p ρ H=some r→dL c' lo n' p ρ H=some r
 | .skip,_,_,_,hr=>hr
 |
  .dC ops,ρ,H,r,hr=>by
  rw[dL] at hr ⊢
  cases hs:gT c lo ops ρ H with
  | none=>rw[hs] at hr;cases hr
  | some q=>rw[hs] at hr;rw[zI h hs];exact hr
 |
  .seq a b,ρ,H,r,hr=>by
  rw[dL] at hr ⊢
  split at hr
  ·rename_i h1
   rw[eY h hn a h1]
   exact eY h hn b hr
  ·rename_i fC
   rw[eY h hn a hr]
   split
   ·rename_i he;cases he;exact absurd hr (fC _ _)
   ·rfl
 |
  .cond x a b,ρ,H,r,hr=>by
  rw[dL] at hr ⊢
  split at hr
  ·split at hr
   ·rename_i ht;rw[if_pos ht];exact eY h hn a hr
   ·rename_i ht;rw[if_neg ht];exact eY h hn b hr
  ·cases hr
 |
  .block id a,ρ,H,r,hr=>by
  rw[dL] at hr ⊢
  split at hr
  ·rename_i h1
   rw[eY h hn a h1]
   exact hr
  ·rename_i fC
   rw[eY h hn a hr]
   split
   ·rename_i he;cases he;exact absurd hr (fC _ _ _)
   ·rfl
 |
  .loop a,ρ,H,r,hr=>by
  rw[dL] at hr ⊢
  exact wV (fun ρ H r hr=>eY h hn a hr) hn hr
 | .exit id,_,_,_,hr=>hr
 | .ret,_,_,_,hr=>hr
theorem BJ (E:AX) (T:Zl):∀n,CLe (mB E T n) (mB E T (n+1))
 | 0,_,_,_,_,_,hr=>by cases hr
 |
  n+1,f,args,lo,H,r,hr=>by
  rw[mB] at hr ⊢
  split at hr
  ·exact hr
  ·split at hr
   ·cases hr
   ·split at hr
    ·rename_i pf _ ha
     rw[if_pos ha]
     split at hr
     ·rename_i h1
      rw[eY (BJ E T n) (Nat.le_succ n) pf.body h1]
      exact hr
     ·rename_i h1
      rw[eY (BJ E T n) (Nat.le_succ n) pf.body h1]
      exact hr
     ·cases hr
    ·cases hr
theorem oG (E:AX) (T:Zl) {n n':Nat} (h:n≤n'):CLe (mB E T n) (mB E T n'):=by
 induction h with
 | refl=>exact fun _ _ _ _ _ h=>h
 | step _ ih=>exact fun f args lo H r hr=>BJ E T _ f args lo H r (ih f args lo H r hr)
end
section
variable (E:AX) (T:Zl)
open Classical in
noncomputable def lim {α:Type} (run:Nat→Option α):Option α:=if h:∃r,∃n,run n=some r then some (Classical.choose h) else none
theorem WM {α:Type} {run:Nat→Option α} (hm:∀n n' r,n≤n'→run n=some r→run n'=some r) {r:α}:lim run=some r↔∃n,run n=some r:=by
 unfold lim
 constructor
 ·intro h
  split at h
  ·rename_i hx
   cases h
   exact Classical.choose_spec hx
  ·cases h
 ·rintro⟨n,hn⟩
  have hx:∃r,∃n,run n=some r:=⟨r,n,hn⟩
  rw[dif_pos hx]
  obtain⟨n',S8⟩:=Classical.choose_spec hx
  have h1:=hm n (max n n') r (Nat.le_max_left _ _) hn
  have h2:=hm n' (max n n') _ (Nat.le_max_right _ _) S8
  rw[h1] at h2
  injection h2 with h2
  rw[←h2]
noncomputable def call:gG:=fun f args lo H=>lim fun n=>mB E T n f args lo H
noncomputable def code (lo:Nat) (c:aD) (ρ:Env) (H:aE):Option (Ex×Env×aE):=lim fun n=>dL (mB E T n) lo n c ρ H
theorem uM {f:Nat} {args:List Value} {lo:Nat} {H:aE} {r:Value×aE}:call E T f args lo H=some r↔∃n,mB E T n f args lo H=some r :=
 WM fun _ _ r h hr=>oG E T h f args lo H r hr
theorem cP {lo:Nat} {c:aD} {ρ:Env} {H:aE} {r:Ex×Env×aE}:code E T lo c ρ H=some r↔∃n,dL (mB E T n) lo n c ρ H=some r :=
 WM fun _ _ _ h hr=>eY (oG E T h) h c hr
theorem Mj {lo:Nat}:∀ {is:List PI} {ρ:Env} {H:aE} {r:Env×aE},gT (call E T) lo is ρ H=some r↔∃n,gT (mB E T n) lo is ρ H=some r:=by
 have le:∀n,CLe (mB E T n) (call E T):=fun n f args lo H r hr=>(uM E T).2 ⟨n,hr⟩
 have val:∀ {i:PI} {ρ:Env} {H:aE} {r:Value×aE},yR (call E T) lo i ρ H=some r→∃n,yR (mB E T n) lo i ρ H=some r:=by
  intro i ρ H r hr
  unfold yR at hr ⊢
  split at hr
  ·cases hr
  ·exact⟨0,hr⟩
  ·split at hr
   ·rename_i Qv
    split at hr
    ·exact⟨0,by rw[if_pos Qv];exact hr⟩
    ·obtain⟨n,hn⟩:=(uM E T).1 hr
     exact⟨n,by rw[if_pos Qv];exact hn⟩
    ·cases hr
   ·cases hr
 intro is
 induction is with
 | nil=>exact fun {ρ H r}=>⟨fun h=>⟨0,h⟩,fun⟨_,h⟩=>h⟩
 |
  cons i is ih =>
  intro ρ H r
  constructor
  ·intro h
   rw[gT] at h
   split at h
   ·rename_i wP H1 h1
    obtain⟨v,hv,rfl⟩:=xF h1
    obtain⟨n1,hn1⟩:=val hv
    obtain⟨n2,hn2⟩:=ih.1 h
    refine⟨max n1 n2,?_⟩
    rw[gT]
    have e:yO (mB E T (max n1 n2)) lo i ρ H=some (put ρ i.dst v,H1):=by
     unfold yO
     rw[Ou (oG E T (Nat.le_max_left n1 n2)) hn1]
    rw[e]
    exact zI (oG E T (Nat.le_max_right n1 n2)) hn2
   ·cases h
  ·rintro⟨n,h⟩
   exact zI (le n) h
theorem BU {α:Type} {a b:Option α} (h:∀r,a=some r↔b=some r):a=b:=by
 cases a with
 |
  none =>
  cases b with
  | none=>rfl
  | some y=>exact((h y).2 rfl)
 | some x=>exact((h x).1 rfl).symm
variable {lo:Nat} {ρ:Env} {H:aE}
theorem Yg:code E T lo .skip ρ H=some (.normal,ρ,H):=(cP E T).2 ⟨0,rfl⟩
theorem XF {id:Nat}:code E T lo (.exit id) ρ H=some (.exit id,ρ,H):=(cP E T).2 ⟨0,rfl⟩
theorem Zu:code E T lo .ret ρ H=some (.ret,ρ,H):=(cP E T).2 ⟨0,rfl⟩
theorem ZH {ops:List PI}:code E T lo (.dC ops) ρ H=(gT (call E T) lo ops ρ H).map fun(bI,H')=>(.normal,bI,H'):=by
 refine BU fun r => ?_
 rw[cP]
 constructor
 ·rintro⟨n,h⟩
  rw[dL] at h
  cases hs:gT (mB E T n) lo ops ρ H with
  | none=>rw[hs] at h;cases h
  |
   some q =>
   rw[hs] at h
   rw[(Mj E T).2 ⟨n,hs⟩]
   exact h
 ·intro h
  cases hs:gT (call E T) lo ops ρ H with
  | none=>rw[hs] at h;cases h
  |
   some q =>
   rw[hs] at h
   obtain⟨n,hn⟩:=(Mj E T).1 hs
   exact⟨n,by rw[dL,hn];exact h⟩
theorem aeN {a b:aD}:code E T lo (.seq a b) ρ H=match code E T lo a ρ H with
  | some (.normal,bI,H')=>code E T lo b bI H'
  | r=>r:=by
 refine BU fun r => ?_
 rw[cP]
 constructor
 ·rintro⟨n,h⟩
  rw[dL] at h
  split at h
  ·rename_i h1
   rw[(cP E T).2 ⟨n,h1⟩]
   exact(cP E T).2 ⟨n,h⟩
  ·rename_i fC
   rw[(cP E T).2 ⟨n,h⟩]
   split
   ·rename_i he;cases he;exact absurd h (fC _ _)
   ·rfl
 ·intro h
  split at h
  ·rename_i h1
   obtain⟨n1,h1⟩:=(cP E T).1 h1
   obtain⟨n2,h2⟩:=(cP E T).1 h
   refine⟨max n1 n2,?_⟩
   rw[dL,eY (oG E T (Nat.le_max_left n1 n2)) (Nat.le_max_left n1 n2) a h1]
   exact eY (oG E T (Nat.le_max_right n1 n2)) (Nat.le_max_right n1 n2) b h2
  ·rename_i fC
   obtain⟨n,h1⟩:=(cP E T).1 h
   refine⟨n,?_⟩
   rw[dL,h1]
   split
   ·rename_i he;cases he;exact absurd h (fC _ _)
   ·rfl
theorem W3 {x:Operand} {a b:aD}:code E T lo (.cond x a b) ρ H=match ev ρ x with
  | .bool t=>if t then code E T lo a ρ H else code E T lo b ρ H
  | _=>none:=by
 refine BU fun r => ?_
 rw[cP]
 constructor
 ·rintro⟨n,h⟩
  rw[dL] at h
  split at h
  ·rename_i t he
   rw[he]
   show (if t=true then code E T lo a ρ H else code E T lo b ρ H)=some r
   split at h
   ·rename_i ht;rw[if_pos ht];exact(cP E T).2 ⟨n,h⟩
   ·rename_i ht;rw[if_neg ht];exact(cP E T).2 ⟨n,h⟩
  ·cases h
 ·intro h
  split at h
  ·rename_i t he
   split at h
   ·rename_i ht
    obtain⟨n,h⟩:=(cP E T).1 h
    refine⟨n,?_⟩
    rw[dL,he]
    show (if t=true then _ else _)=_
    rw[if_pos ht]
    exact h
   ·rename_i ht
    obtain⟨n,h⟩:=(cP E T).1 h
    refine⟨n,?_⟩
    rw[dL,he]
    show (if t=true then _ else _)=_
    rw[if_neg ht]
    exact h
  ·cases h
theorem TW {id:Nat} {a:aD}:code E T lo (.block id a) ρ H=match code E T lo a ρ H with
  | some (.exit SM,bI,H')=>if SM=id then some (.normal,bI,H') else some (.exit SM,bI,H')
  | r=>r:=by
 refine BU fun r => ?_
 rw[cP]
 constructor
 ·rintro⟨n,h⟩
  rw[dL] at h
  split at h
  ·rename_i h1
   rw[(cP E T).2 ⟨n,h1⟩]
   exact h
  ·rename_i fC
   rw[(cP E T).2 ⟨n,h⟩]
   split
   ·rename_i he;cases he;exact absurd h (fC _ _ _)
   ·rfl
 ·intro h
  split at h
  ·rename_i h1
   obtain⟨n,h1⟩:=(cP E T).1 h1
   exact⟨n,by rw[dL,h1];exact h⟩
  ·rename_i fC
   obtain⟨n,h1⟩:=(cP E T).1 h
   refine⟨n,?_⟩
   rw[dL,h1]
   split
   ·rename_i he;cases he;exact absurd h (fC _ _ _)
   ·rfl
theorem Yh {a:aD}:code E T lo (.loop a) ρ H=match code E T lo a ρ H with
  | some (.normal,bI,H')=>code E T lo (.loop a) bI H'
  | r=>r:=by
 refine BU fun r => ?_
 rw[cP]
 constructor
 ·rintro⟨n,h⟩
  rw[dL] at h
  cases n with
  | zero=>cases h
  |
   succ n =>
   rw[wW] at h
   split at h
   ·rename_i h1
    rw[(cP E T).2 ⟨n+1,h1⟩]
    refine(cP E T).2 ⟨n+1,?_⟩
    rw[dL]
    exact wV (fun _ _ _ h=>h) (Nat.le_succ n) h
   ·rename_i fC
    rw[(cP E T).2 ⟨n+1,h⟩]
    split
    ·rename_i he;cases he;exact absurd h (fC _ _)
    ·rfl
 ·intro h
  split at h
  ·rename_i h1
   obtain⟨n1,h1⟩:=(cP E T).1 h1
   obtain⟨n2,h2⟩:=(cP E T).1 h
   refine⟨max n1 n2+1,?_⟩
   have g1:=eY (oG E T (show n1≤max n1 n2+1 by omega)) (show n1≤max n1 n2+1 by omega) a h1
   rw[dL,wW,g1]
   rw[dL] at h2
   exact wV (fun _ _ _ h=>eY (oG E T (show n2≤max n1 n2+1 by omega)) (show n2≤max n1 n2+1 by omega) a h) (show n2≤max n1 n2 by omega) h2
  ·rename_i fC
   obtain⟨n,h1⟩:=(cP E T).1 h
   refine⟨n+1,?_⟩
   rw[dL,wW,eY (BJ E T n) (Nat.le_succ n) a h1]
   split
   ·rename_i he;cases he;exact absurd h (fC _ _)
   ·rfl
noncomputable def akS (lo:Nat) (pf:aR) (args:List Value) (H:aE):Option (Value×aE) :=
 if args.length≤pf.ntmps then
  match code E T lo pf.body (XL args) H with
  | some (.normal,ρ,H') | some (.ret,ρ,H')=>(qH pf.res ρ H').map (·,H')
  | _=>none
 else none
theorem Yd {f:Nat} {p:List Value→aE→Option Value} (h:E.Ba f=some p) {args:List Value}:call E T f args lo H=(p args H).map (·,H):=by
 refine BU fun r => ?_
 rw[uM]
 constructor
 ·rintro⟨n,hr⟩
  cases n with
  | zero=>cases hr
  | succ n=>rw[mB,h] at hr;exact hr
 ·intro hr
  exact⟨1,by rw[mB,h];exact hr⟩
theorem agY {f:Nat} {pf:aR} (hp:E.Ba f=none) (h:T f=some pf) {args:List Value}:call E T f args lo H=akS E T lo pf args H:=by
 refine BU fun r => ?_
 rw[uM]
 unfold akS
 constructor
 ·rintro⟨n,hr⟩
  cases n with
  | zero=>cases hr
  |
   succ n =>
   rw[mB,hp,h] at hr
   simp only at hr
   split at hr
   ·rename_i ha
    rw[if_pos ha]
    split at hr
    ·rename_i h1
     rw[(cP E T).2 ⟨n,h1⟩]
     exact hr
    ·rename_i h1
     rw[(cP E T).2 ⟨n,h1⟩]
     exact hr
    ·cases hr
   ·cases hr
 ·intro hr
  split at hr
  ·rename_i ha
   split at hr
   ·rename_i h1
    obtain⟨n,h1⟩:=(cP E T).1 h1
    exact⟨n+1,by rw[mB,hp,h];simp only;rw[if_pos ha,h1];exact hr⟩
   ·rename_i h1
    obtain⟨n,h1⟩:=(cP E T).1 h1
    exact⟨n+1,by rw[mB,hp,h];simp only;rw[if_pos ha,h1];exact hr⟩
   ·cases hr
  ·cases hr
end
end Go.PM
namespace Go.PM
theorem DI {H H':aE} {lo gO b o:Nat} {new:List Value} (hl:gO≤lo) (h:H.write lo b o new=some H'):H.write gO b o new=some H':=by
 unfold aE.write at h ⊢
 split at h
 ·split at h
  ·rename_i hc
   rw[if_pos ⟨by omega,hc.2⟩]
   exact h
  ·cases h
 ·cases h
theorem Bt {α β:Type} {a b:Option α} {f:α→β} {r:β} (Ef:∀x,a=some x→b=some x) (h:a.map f=some r):b.map f=some r:=by
 cases a with
 | none=>cases h
 | some x=>rw[Ef x rfl];exact h
theorem Jo {lo gO size bytes add:Nat} {x:Value} {new:List Value} {H:aE} {r:Value×aE} (hl:gO≤lo) (h:eO lo size bytes x add new H=some r):eO gO size bytes x add new H=some r:=by
 unfold eO at h ⊢
 split at h
 case isFalse=>cases h
 rename_i hc
 rw[if_pos hc]
 split at h
 ·exact h
 ·split at h
  ·split at h
   ·rename_i h1
    skip
    rw[if_pos h1]
    split at h
    ·rename_i h2
     rw[if_pos h2]
     split at h
     ·rename_i h3;rw[if_pos h3];exact h
     ·rename_i h3
      rw[if_neg h3]
      exact Bt (fun H' hw=>DI hl hw) h
    ·rename_i h2
     rw[if_neg h2]
     split at h
     ·rename_i h3
      rw[if_pos h3]
      split at h
      ·rename_i h4
       rw[if_pos h4]
       split at h
       ·rename_i h5;rw[if_pos (by omega)];exact h
       ·cases h
      ·rename_i h4;rw[if_neg h4];exact h
     ·cases h
   ·cases h
  ·cases h
 ·cases h
theorem Vr {lo gO:Nat} {p:nK} {ρ:Env} {H:aE} {o:Out} (hl:gO≤lo) (h:pop lo p ρ H=some o):pop gO p ρ H=some o:=by
 cases p<;>first | exact h | skip
 case store size q v =>
  simp only[pop] at h ⊢
  split at h
  ·split at h
   ·rename_i h1
    skip
    rw[if_pos h1]
    exact Bt (fun H' hw=>DI hl hw) h
   ·cases h
  ·cases h
 case app size bytes x y =>
  simp only[pop] at h ⊢
  split at h
  ·split at h
   ·skip
    exact Bt (fun H' hw=>Jo hl hw) h
   ·cases h
  ·cases h
 case appz z bytes x n =>
  simp only[pop] at h ⊢
  split at h
  ·split at h
   ·rename_i h1
    skip
    rw[if_pos h1]
    exact Bt (fun H' hw=>Jo hl hw) h
   ·cases h
  ·cases h
 case copy size x y =>
  simp only[pop] at h ⊢
  split at h
  ·exact h
  ·split at h
   ·skip
    exact Bt (fun H' hw=>DI hl hw) h
   ·cases h
  ·cases h
 case clear z x =>
  simp only[pop] at h ⊢
  split at h
  ·exact h
  ·skip
   split at h
   ·rename_i h1;rw[if_pos h1];exact h
   ·rename_i h1
    rw[if_neg h1]
    exact Bt (fun H' hw=>DI hl hw) h
  ·cases h
def Zx (c:gG):Prop:=∀f args lo gO H r,gO≤lo→c f args lo H=some r→c f args gO H=some r
section
variable {c:gG} {lo gO:Nat}
theorem Ms (hc:Zx c) (hl:gO≤lo):∀ {is:List PI} {ρ:Env} {H:aE} {r:Env×aE},gT c lo is ρ H=some r→gT c gO is ρ H=some r
 | [],_,_,_,h=>h
 |
  i::is,ρ,H,r,h=>by
  rw[gT] at h ⊢
  split at h
  ·rename_i wP H1 h1
   have e:yO c gO i ρ H=some (wP,H1):=by
    unfold yO at h1 ⊢
    split at h1
    ·rename_i v H2 hv
     have:yR c gO i ρ H=some (v,H2):=by
      unfold yR at hv ⊢
      split at hv
      ·cases hv
      ·exact hv
      ·split at hv
       ·rename_i Qv
        rw[if_pos Qv]
        split at hv
        ·rename_i hp;rw[Vr hl hp];exact hv
        ·rename_i hp
         rw[Vr hl hp]
         show c _ _ (if i.quiet=true then H.length else gO) H=_
         cases hq:i.quiet with
         | true=>rw[hq] at hv;exact hv
         | false=>rw[hq] at hv;exact hc _ _ _ _ _ _ hl hv
        ·cases hv
       ·cases hv
     rw[this]
     exact h1
    ·cases h1
   rw[e]
   exact Ms hc hl h
  ·cases h
theorem Yt {b b':Env→aE→Option (Ex×Env×aE)} (h:∀ρ H r,b ρ H=some r→b' ρ H=some r):∀ {n:Nat} {ρ:Env} {H:aE} {r:Ex×Env×aE},wW b n ρ H=some r→wW b' n ρ H=some r :=
 fun hr=>wV h (Nat.le_refl _) hr
theorem nF (hc:Zx c) (hl:gO≤lo) {n:Nat}:∀(p:aD) {ρ:Env} {H:aE} {r:Ex×Env×aE},dL c lo n p ρ H=some r→dL c gO n p ρ H=some r
 | .skip,_,_,_,hr=>hr
 |
  .dC ops,ρ,H,r,hr=>by
  rw[dL] at hr ⊢
  exact Bt (fun _ h=>Ms hc hl h) hr
 |
  .seq a b,ρ,H,r,hr=>by
  rw[dL] at hr ⊢
  split at hr
  ·rename_i h1
   rw[nF hc hl a h1]
   exact nF hc hl b hr
  ·rename_i fC
   rw[nF hc hl a hr]
   split
   ·rename_i he;cases he;exact absurd hr (fC _ _)
   ·rfl
 |
  .cond x a b,ρ,H,r,hr=>by
  rw[dL] at hr ⊢
  split at hr
  ·split at hr
   ·rename_i ht;rw[if_pos ht];exact nF hc hl a hr
   ·rename_i ht;rw[if_neg ht];exact nF hc hl b hr
  ·cases hr
 |
  .block id a,ρ,H,r,hr=>by
  rw[dL] at hr ⊢
  split at hr
  ·rename_i h1
   rw[nF hc hl a h1]
   exact hr
  ·rename_i fC
   rw[nF hc hl a hr]
   split
   ·rename_i he;cases he;exact absurd hr (fC _ _ _)
   ·rfl
 |
  .loop a,ρ,H,r,hr=>by
  rw[dL] at hr ⊢
  exact Yt (fun ρ H r hr=>nF hc hl a hr) hr
 | .exit id,_,_,_,hr=>hr
 | .ret,_,_,_,hr=>hr
end
theorem Hw (E:AX) (T:Zl):∀n,Zx (mB E T n)
 | 0,_,_,_,_,_,_,_,h=>by cases h
 |
  n+1,f,args,lo,gO,H,r,hl,h=>by
  rw[mB] at h ⊢
  split at h
  ·exact h
  ·split at h
   ·cases h
   ·split at h
    ·rename_i pf _ ha
     rw[if_pos ha]
     split at h
     ·rename_i h1;rw[nF (Hw E T n) hl pf.body h1];exact h
     ·rename_i h1;rw[nF (Hw E T n) hl pf.body h1];exact h
     ·cases h
    ·cases h
section
variable {E:AX} {T:Zl}
theorem Zh {f:Nat} {args:List Value} {lo gO:Nat} {H:aE} {r:Value×aE} (hl:gO≤lo) (h:call E T f args lo H=some r):call E T f args gO H=some r:=by
 obtain⟨n,hn⟩:=(uM E T).1 h
 exact(uM E T).2 ⟨n,Hw E T n f args lo gO H r hl hn⟩
theorem aaX {f:Nat} {args:List Value} {lo:Nat} {H H':aE} {v:Value} (h:call E T f args lo H=some (v,H')):Ext lo H H':=by
 obtain⟨n,hn⟩:=(uM E T).1 h
 exact DX E T n f args lo H v H' hn
theorem Ext.more {H H':aE} (h:Ext H.length H H'):∃K,H'=H++K:=by
 refine⟨H'.drop H.length,?_⟩
 apply List.ext_getElem?
 intro i
 rcases Nat.lt_or_ge i H.length with hi | hi
 ·rw[List.getElem?_append_left hi]
  exact h.low i hi hi
 ·rw[List.getElem?_append_right hi,List.getElem?_drop,show H.length+(i-H.length)=i by omega]
def VA (E:AX) (T:Zl) (f:Nat) (args:List Value) (H:aE) (R:Value→aE→Prop):Prop :=
 ∃v K,call E T f args H.length H=some (v,H++K)∧R v (H++K)
theorem VA.at {f:Nat} {args:List Value} {H:aE} {R:Value→aE→Prop} (h:VA E T f args H R) {lo:Nat} (hl:lo≤H.length):∃v K,call E T f args lo H=some (v,H++K)∧R v (H++K):=by
 obtain⟨v,K,h1,h2⟩:=h
 exact⟨v,K,Zh hl h1,h2⟩
theorem VA.mk {f:Nat} {args:List Value} {H H':aE} {v:Value} {R:Value→aE→Prop} (h:call E T f args H.length H=some (v,H')) (hr:R v H'):VA E T f args H R:=by
 obtain⟨K,rfl⟩:=(aaX h).more
 exact⟨v,K,h,hr⟩
end
end Go.PM
namespace Go.PM
def strCells:List Value→Option (List ByteArray)
 | []=>some []
 | .string s::r=>(strCells r).map (s :: ·)
 | _=>none
def uL:List Value→aE→Option Value
 | [.int .u64 n,.int .i64 b],_=>if b=10∧0≤n∧n<18446744073709551616 then some (.string ⟨(Lib.decDigits n.toNat).toArray⟩) else none
 | _,_=>none
def GO:List Value→aE→Option Value
 | [.string s,.int .i64 c],_=>if 0≤c∧c≤9223372036854775807∧s.size*c.toNat≤140737488355328 then some (.string ⟨(Lib.repeatL s.data.toList c.toNat).toArray⟩) else none
 | _,_=>none
def Dy:List Value→aE→Option Value
 | [.int .u32 x],_=>if 0≤x∧x≤4294967295 then some (.int .i64 (32-(Lib.bitLen x.toNat:Int))) else none
 | _,_=>none
def RI:List Value→aE→Option Value
 | [.slice none 0 0,.string _],_=>some (.string ⟨#[]⟩)
 |
  [.slice (some ⟨b,o,none⟩) n c,.string sep],H =>
  if n=0 then some (.string ⟨#[]⟩) else
  match (H.read b o n).bind strCells with
  | some xs=>if xs.length=n∧n≤c∧n≤140737488355328∧(Lib.join (xs.map (·.data.toList)) sep.data.toList).length≤140737488355328 then some (.string ⟨(Lib.join (xs.map (·.data.toList)) sep.data.toList).toArray⟩) else none
  | none=>none
 | _,_=>none
def Pc:List Value→aE→Option Value
 |
  [.string s,.string p],_=>match p.data.toList with
  | [c]=>some (.int .i64 (Lib.indexByte s.data.toList c))
  | _=>none
 | _,_=>none
def wT:List Value→aE→Option Value
 |
  [.string s,.int .i64 b,.int .i64 z],_=>if b=10∧z=64∧s.size≤9223372036854775806 then
   match Lib.parseUintB 64 s.data.toList with
   | .ok u=>some (.tuple #[.int .u64 (u:Int),.nilIface])
   | _=>none
  else none
 | _,_=>none
end Go.PM
namespace Go.PM
open Go.Proofs
def avO:List Nat:=[]
 ++ [200]
 ++ [204]
 ++ [205]
 ++ [95]
 ++ [90]
 ++ [118]
 ++ [134]
 ++ [179]
def Jw (f:Nat):Option (List Value→aE→Option Value) :=
 if f=214 then some uL else
 if f=215 then some GO else
 if f=217 then some RI else
 if f=198 then some Dy else
 if f=209 then some Pc else
 if f=192 then some wT else
 (fun _=>none) f
def cfg:AX:={ Ba:=Jw,eff:=fun f=>avO.contains f }
noncomputable def fR:Zl:=fun f=>if (Jw f).isSome then none else Te Tryz.prog cfg f
theorem anA (f:Nat) (pf:aR) (h:fR f=some pf):Te Tryz.prog cfg f=some pf:=by
 unfold fR at h
 split at h
 ·cases h
 ·exact h
theorem UU {f:Nat} {pf:aR} (h:fR f=some pf):cfg.Ba f=none:=by
 unfold fR at h
 split at h
 ·cases h
 ·rename_i h1
  show Jw f=none
  cases hp:Jw f with
  | none=>rfl
  | some p=>rw[hp] at h1;exact absurd rfl h1
end Go.PM
namespace Go.PM
noncomputable abbrev qT:gG:=call cfg fR
def W (lo:Nat) (c:aD) (Q:Ex→Env→aE→Prop) (ρ:Env) (H:aE):Prop:=∃x bI H',code cfg fR lo c ρ H=some (x,bI,H')∧Q x bI H'
def WS (lo:Nat) (is:List PI) (K:Env→aE→Prop) (ρ:Env) (H:aE):Prop:=∃bI H',gT qT lo is ρ H=some (bI,H')∧K bI H'
def azR (lo:Nat) (b:aD) (Q:Ex→Env→aE→Prop):Ex→Env→aE→Prop
 | .normal,ρ,H=>W lo b Q ρ H
 | x,ρ,H=>Q x ρ H
def arZ (id:Nat) (Q:Ex→Env→aE→Prop):Ex→Env→aE→Prop
 | .exit SM,ρ,H=>if SM=id then Q .normal ρ H else Q (.exit SM) ρ H
 | x,ρ,H=>Q x ρ H
def axZ (res:List Bd) (R:Value→aE→Prop):Ex→Env→aE→Prop
 | .exit _,_,_=>False
 | _,ρ,H=>∃v,qH res ρ H=some v∧R v H
def atQ (J:Env→aE→Prop) (Q:Ex→Env→aE→Prop):Ex→Env→aE→Prop
 | .normal,ρ,H=>J ρ H
 | x,ρ,H=>Q x ρ H
section
variable {lo:Nat} {Q:Ex→Env→aE→Prop} {K:Env→aE→Prop} {ρ:Env} {H:aE} {b:aD} {id:Nat} {R:Value→aE→Prop} {res:List Bd} {J:Env→aE→Prop}
theorem Ib {i:Nat}:arZ id Q (.exit i) ρ H=if i=id then Q .normal ρ H else Q (.exit i) ρ H:=rfl
theorem alO:W lo .skip Q ρ H=Q .normal ρ H:=by
 unfold W
 rw[Yg]
 exact propext ⟨fun⟨_,_,_,h,hq⟩=>(by cases h;exact hq),fun h=>⟨_,_,_,rfl,h⟩⟩
theorem amE {i:Nat}:W lo (.exit i) Q ρ H=Q (.exit i) ρ H:=by
 unfold W
 rw[XF]
 exact propext ⟨fun⟨_,_,_,h,hq⟩=>(by cases h;exact hq),fun h=>⟨_,_,_,rfl,h⟩⟩
theorem atK:W lo .ret Q ρ H=Q .ret ρ H:=by
 unfold W
 rw[Zu]
 exact propext ⟨fun⟨_,_,_,h,hq⟩=>(by cases h;exact hq),fun h=>⟨_,_,_,rfl,h⟩⟩
theorem arQ {ops:List PI}:W lo (.dC ops) Q ρ H=WS lo ops (Q .normal) ρ H:=by
 unfold W WS
 rw[ZH]
 apply propext
 constructor
 ·rintro⟨x,bI,H',h,hq⟩
  cases hs:gT (call cfg fR) lo ops ρ H with
  | none=>rw[hs] at h;cases h
  |
   some q =>
   rw[hs] at h
   cases h
   exact⟨_,_,rfl,hq⟩
 ·rintro⟨bI,H',h,hq⟩
  exact⟨_,_,_,by rw[h];rfl,hq⟩
theorem arW {a:aD}:W lo (.seq a b) Q ρ H=W lo a (azR lo b Q) ρ H:=by
 unfold W
 rw[aeN]
 apply propext
 constructor
 ·rintro⟨x,bI,H',h,hq⟩
  split at h
  ·rename_i wP H1 h1
   exact⟨_,_,_,h1,x,bI,H',h,hq⟩
  ·rename_i fC
   refine⟨x,bI,H',h,?_⟩
   cases x with
   | normal=>exact absurd h (fC _ _)
   | exit i=>exact hq
   | ret=>exact hq
 ·rintro⟨x,bI,H',h,hq⟩
  rw[h]
  cases x with
  | normal=>exact hq
  | exit i=>exact⟨_,_,_,rfl,hq⟩
  | ret=>exact⟨_,_,_,rfl,hq⟩
theorem ahM {a:aD}:W lo (.block id a) Q ρ H=W lo a (arZ id Q) ρ H:=by
 unfold W
 rw[TW]
 apply propext
 constructor
 ·rintro⟨x,bI,H',h,hq⟩
  split at h
  ·rename_i SM wP H1 h1
   refine⟨_,_,_,h1,?_⟩
   rw[Ib]
   split at h
   ·rename_i he;cases h;rw[if_pos he];exact hq
   ·rename_i he;cases h;rw[if_neg he];exact hq
  ·rename_i fC
   refine⟨x,bI,H',h,?_⟩
   cases x with
   | normal=>exact hq
   | exit i=>exact absurd h (fC _ _ _)
   | ret=>exact hq
 ·rintro⟨x,bI,H',h,hq⟩
  rw[h]
  cases x with
  | normal=>exact⟨_,_,_,rfl,hq⟩
  |
   exit i =>
   rw[Ib] at hq
   show ∃x Em H'',(if i=id then some (Ex.normal,bI,H') else some (Ex.exit i,bI,H'))=some (x,Em,H'')∧Q x Em H''
   split at hq
   ·rename_i he;rw[if_pos he];exact⟨_,_,_,rfl,hq⟩
   ·rename_i he;rw[if_neg he];exact⟨_,_,_,rfl,hq⟩
  | ret=>exact⟨_,_,_,rfl,hq⟩
theorem aoS {x:Operand} {a:aD}:W lo (.cond x a b) Q ρ H=∃t,ev ρ x = .bool t∧((t=true→W lo a Q ρ H)∧(t=false→W lo b Q ρ H)):=by
 unfold W
 rw[W3]
 apply propext
 constructor
 ·rintro⟨y,bI,H',h,hq⟩
  split at h
  ·rename_i t ht
   cases t with
   | true=>exact⟨true,ht,fun _=>⟨y,bI,H',h,hq⟩,fun h=>by cases h⟩
   | false=>exact⟨false,ht,fun h=>(by cases h),fun _=>⟨y,bI,H',h,hq⟩⟩
  ·cases h
 ·rintro⟨t,ht,h1,h2⟩
  rw[ht]
  cases t with
  | true=>exact h1 rfl
  | false=>exact h2 rfl
theorem W.mono {Q':Ex→Env→aE→Prop} {c:aD} (h:W lo c Q ρ H) (hq:∀x ρ H,Q x ρ H→Q' x ρ H):W lo c Q' ρ H:=by
 obtain⟨x,bI,H',h1,h2⟩:=h
 exact⟨x,bI,H',h1,hq _ _ _ h2⟩
noncomputable def jV (lo:Nat) (q:Bool) (op:nK) (ρ:Env) (H:aE):Option (Value×aE) :=
 match pop lo op ρ H with
 | some (.val v H')=>some (v,H')
 | some (.call f args)=>qT f args (if q then H.length else lo) H
 | none=>none
theorem aoU:WS lo [] K ρ H=K ρ H:=by
 unfold WS
 apply propext
 constructor
 ·rintro⟨bI,H',h,hk⟩;cases h;exact hk
 ·intro h;exact⟨ρ,H,rfl,h⟩
theorem arI {i:PI} {is:List PI}:WS lo (i::is) K ρ H=∃v H',yR qT lo i ρ H=some (v,H')∧WS lo is K (put ρ i.dst v) H':=by
 unfold WS
 apply propext
 constructor
 ·rintro⟨bI,H',h,hk⟩
  rw[gT] at h
  split at h
  ·rename_i wP H1 h1
   obtain⟨v,hv,rfl⟩:=xF h1
   exact⟨v,H1,hv,bI,H',h,hk⟩
  ·cases h
 ·rintro⟨v,H1,hv,bI,H',h,hk⟩
  refine⟨bI,H',?_,hk⟩
  rw[gT]
  unfold yO
  rw[hv]
  exact h
variable {q:Bool}
theorem dN {op:nK} (h:tQ op=true):jV lo q op ρ H=(iM op ρ).map (·,H):=by
 unfold jV
 rw[yH h]
 cases iM op ρ<;>rfl
theorem aiH {x:Operand}:jV lo q (.mv x) ρ H=some (ev ρ x,H):=rfl
theorem YM {c a b:Operand}:jV lo q (.pick c a b) ρ H=(match ev ρ c with | .bool t=>some ((if t=true then ev ρ a else ev ρ b),H) | _=>none):=by
 rw[dN rfl]
 simp only[iM]
 cases ev ρ c<;>rfl
theorem adJ {op:BinOp} {x y:Operand}:jV lo q (.bin op x y) ρ H=(dI op (ev ρ x) (ev ρ y)).map (·,H):=dN rfl
theorem agM {op:UnOp} {x:Operand}:jV lo q (.un op x) ρ H=(pun op (ev ρ x)).map (·,H):=dN rfl
theorem Yz {f:Nat} {args:List Operand}:jV lo q (.call f args) ρ H=qT f (args.map (ev ρ)) (if q then H.length else lo) H:=rfl
end
theorem acR {f lo:Nat} {pf:aR} {args:List Value} {H:aE} {R:Value→aE→Prop} (ht:fR f=some pf) (ha:args.length≤pf.ntmps) (h:W lo pf.body (axZ pf.res R) (XL args) H):∃v H',qT f args lo H=some (v,H')∧R v H':=by
 obtain⟨x,bI,H',h1,h2⟩:=h
 show ∃v H',call cfg fR f args lo H=some (v,H')∧R v H'
 rw[agY cfg fR (UU ht) ht]
 unfold akS
 rw[if_pos ha,h1]
 cases x with
 | exit i=>exact h2.elim
 |
  normal =>
  obtain⟨v,h3,h4⟩:=h2
  exact⟨v,H',by simp only;rw[h3];rfl,h4⟩
 |
  ret =>
  obtain⟨v,h3,h4⟩:=h2
  exact⟨v,H',by simp only;rw[h3];rfl,h4⟩
end Go.PM
namespace Go.PM
theorem wrap64 {x:Int} (h1 : -9223372036854775808≤x) (h2:x≤9223372036854775807):IntKind.i64.wrap x=x:=by
 rw[IntKind.wrap_i64]
 omega
section
variable {k:IntKind} {a b:Int}
theorem Ti:dI .add (.int k a) (.int k b)=some (.int k (k.wrap (a+b))):=by simp[dI]
theorem R8:dI .sub (.int k a) (.int k b)=some (.int k (k.wrap (a-b))):=by simp[dI]
theorem Tf:dI .mul (.int k a) (.int k b)=some (.int k (k.wrap (a*b))):=by simp[dI]
theorem Q6:dI .lss (.int k a) (.int k b)=some (.bool (decide (a<b))):=by simp[dI]
theorem RS:dI .leq (.int k a) (.int k b)=some (.bool (decide (a≤b))):=by simp[dI]
theorem Sj:dI .gtr (.int k a) (.int k b)=some (.bool (decide (b<a))):=by simp[dI]
theorem SE:dI .geq (.int k a) (.int k b)=some (.bool (decide (b≤a))):=by simp[dI]
theorem Q1:dI .eql (.int k a) (.int k b)=some (.bool (decide (a=b))):=by
 simp only[dI,if_true]
 rfl
theorem Tc:dI .neq (.int k a) (.int k b)=some (.bool (!decide (a=b))):=by
 simp only[dI,if_true]
 rfl
theorem Vt:pun .neg (.int k a)=some (.int k (k.wrap (0-a))):=rfl
theorem Wn {t:Bool}:pun .not (.bool t)=some (.bool (!t)):=rfl
end
def anC:Value→Option Value
 | .slice _ n _=>some (.int .i64 n)
 | _=>none
def Nx (neg:Bool):Value→Value→Option Value
 | .bool a,.bool b=>some (.bool ((a == b) != neg))
 | _,_=>none
def Y7 (neg:Bool):Value→Option Value
 | .slice none _ _=>some (.bool (true != neg))
 | .slice (some _) _ _=>some (.bool (false != neg))
 | _=>none
def ZN (neg:Bool) (ks:List CK):Value→Value→Option Value
 | .agg a,.agg b=>(pE ks a.toList b.toList).map fun t => .bool (t != neg)
 | _,_=>none
def UA (k:IntKind):Value→Option Value
 | .int _ n=>some (.int k (k.wrap n))
 | _=>none
def amY (i:Nat):Value→Option Value
 | .tuple vs=>vs[i]?
 | _=>none
def ahK (agg:Bool) (off size:Nat):Value→Option Value
 | .agg cs=>if agg then (if off+size≤cs.size then some (.agg (cs.extract off (off+size))) else none) else cs[off]?
 | _=>none
def asX:Value→Option Value
 | .pointer (some a)=>some (.pointer (some a))
 | _=>none
def abH (off:Nat):Value→Option Value
 | .pointer (some ⟨b,o,none⟩)=>some (.pointer (some ⟨b,o+off,none⟩))
 | _=>none
def P5 (size:Nat):Value→Value→Option Value
 | .slice (some ⟨b,o,none⟩) n _,.int _ i=>if 0≤i∧i<n then some (.pointer (some ⟨b,o+i.toNat*size,none⟩)) else none
 | _,_=>none
def Sh:Value→Value→Option Value
 | .int k a,.int _ b=>some (.int k (if b<a then b else a))
 | _,_=>none
def SA:Value→Value→Option Value
 | .int k a,.int _ b=>some (.int k (if b>a then b else a))
 | _,_=>none
section
variable {lo:Nat} {ρ:Env} {H:aE} {q:Bool}
theorem oY {op:nK} {r:Option (Value×aE)} (h:pop lo op ρ H=r.map fun(v,H') => .val v H'):jV lo q op ρ H=r:=by
 unfold jV
 rw[h]
 cases r<;>rfl
theorem Zk {x:Operand}:jV lo q (.len x) ρ H=(anC (ev ρ x)).map (·,H):=dN rfl
theorem ZW {neg:Bool} {x y:Operand}:jV lo q (.eqb neg x y) ρ H=(Nx neg (ev ρ x) (ev ρ y)).map (·,H):=dN rfl
theorem UI {neg:Bool} {x:Operand}:jV lo q (.isnil neg x) ρ H=(Y7 neg (ev ρ x)).map (·,H):=dN rfl
theorem UL {neg:Bool} {ks:List CK} {x y:Operand}:jV lo q (.eqagg neg ks x y) ρ H=(ZN neg ks (ev ρ x) (ev ρ y)).map (·,H):=dN rfl
theorem aaN {k:IntKind} {x:Operand}:jV lo q (.cvt k x) ρ H=(UA k (ev ρ x)).map (·,H):=dN rfl
theorem abQ {i:Nat} {x:Operand}:jV lo q (.ext x i) ρ H=(amY i (ev ρ x)).map (·,H):=dN rfl
theorem Zs {agg:Bool} {off size:Nat} {x:Operand}:jV lo q (.fld agg off size x) ρ H=(ahK agg off size (ev ρ x)).map (·,H):=dN rfl
theorem Uk {z:List Value} {places:List (Nat×Nat)} {parts:List (Nat×Operand)}:jV lo q (.build z places parts) ρ H=((vO places z (parts.map fun(i,x)=>(i,ev ρ x))).map fun cs=>Value.agg cs.toArray).map (·,H):=dN rfl
theorem ZU {x:Operand}:jV lo q (.chk x) ρ H=(asX (ev ρ x)).map (·,H):=dN rfl
theorem Tz {off:Nat} {x:Operand}:jV lo q (.faddr off x) ρ H=(abH off (ev ρ x)).map (·,H):=dN rfl
theorem Uv {size:Nat} {x i:Operand}:jV lo q (.iaddr size x i) ρ H=(P5 size (ev ρ x) (ev ρ i)).map (·,H):=dN rfl
theorem YA {f:Nat} {fT:List Operand}:jV lo q (.mkfn f fT) ρ H=some (.func (.func f) #[] (fT.map (ev ρ)).toArray,H):=dN rfl
theorem acD {x y:Operand}:jV lo q (.min x y) ρ H=(Sh (ev ρ x) (ev ρ y)).map (·,H):=dN rfl
theorem aaD {x y:Operand}:jV lo q (.max x y) ρ H=(SA (ev ρ x) (ev ρ y)).map (·,H):=dN rfl
theorem Ye {agg:Bool} {size:Nat} {p:Operand}:jV lo q (.load agg size p) ρ H=(nS agg size (ev ρ p) H).map (·,H):=by
 unfold jV
 simp only[pop]
 cases nS agg size (ev ρ p) H<;>rfl
theorem acJ {size:Nat} {x:Operand} {l h m:Option Operand}:jV lo q (.sub size x l h m) ρ H=CA size (ev ρ x) (l.map (ev ρ)) (h.map (ev ρ)) (m.map (ev ρ)) H:=by
 unfold jV
 simp only[pop]
 cases CA size (ev ρ x) (l.map (ev ρ)) (h.map (ev ρ)) (m.map (ev ρ)) H<;>rfl
theorem acI {z:List Value}:jV lo q (.new z) ρ H=some (.pointer (some ⟨H.length,0,none⟩),H++[.row z z.length false]):=rfl
theorem aeI {x:Operand}:jV lo q (.box x) ρ H=if (aO (ev ρ x)).all fS then some (.pointer (some ⟨H.length,0,none⟩),H++[.row (aO (ev ρ x)) (aO (ev ρ x)).length false]) else none:=by
 apply oY
 simp only[pop]
 by_cases h:(aO (ev ρ x)).all fS=true
 ·rw[if_pos h,if_pos h];rfl
 ·rw[if_neg h,if_neg h];rfl
def Wm (z:List Value) (bytes:Nat) (l c:Value) (H:aE):Option (Value×aE) :=
 match l,c with
 | .int .i64 l,.int .i64 c=>if 0≤l∧l≤c∧c*bytes≤281474976710656∧c≤9223372036854775807 then
  some (.slice (some ⟨H.length,0,none⟩) l.toNat c.toNat,H++[.row (cZ c.toNat z) z.length false]) else none
 | _,_=>none
theorem XJ {z:List Value} {bytes:Nat} {l c:Operand}:jV lo q (.make z bytes l c) ρ H=Wm z bytes (ev ρ l) (ev ρ c) H:=by
 apply oY
 simp only[pop]
 unfold Wm
 split
 ·rename_i l c h1 h2
  simp only[h1,h2]
  split<;>rfl
 ·rename_i h1
  split
  ·rename_i h2 h3
   exact(h1 _ _ h2 h3).elim
  ·rfl
def agJ (z:List Value) (n:Nat) (parts:List (Nat×Value)) (H:aE):Option (Value×aE) :=
 match vO ((List.range n).map fun i=>(i*z.length,z.length)) (cZ n z) parts with
 | some cs=>if cs.all fS then some (.slice (some ⟨H.length,0,none⟩) n n,H++[.row cs z.length false]) else none
 | none=>none
theorem aaM {z:List Value} {n:Nat} {parts:List (Nat×Operand)}:jV lo q (.lit z n parts) ρ H=agJ z n (parts.map fun(i,x)=>(i,ev ρ x)) H:=by
 apply oY
 simp only[pop]
 unfold agJ
 split
 ·rename_i cs h1
  simp only[h1]
  split<;>rfl
 ·rename_i h1
  simp only[h1]
  rfl
def Fi (lo size:Nat) (p v:Value) (H:aE):Option (Value×aE) :=
 match p with
 | .pointer (some ⟨b,o,none⟩)=>if (aO v).length=size then (H.write lo b o (aO v)).map fun H'=>(undef,H') else none
 | _=>none
theorem Uq {size:Nat} {p v:Operand}:jV lo q (.store size p v) ρ H=Fi lo size (ev ρ p) (ev ρ v) H:=by
 apply oY
 simp only[pop]
 unfold Fi
 split
 ·rename_i b o h1
  simp only[h1]
  split
  ·cases H.write lo b o (aO (ev ρ v))<;>rfl
  ·rfl
 ·rename_i h1
  split
  ·rename_i h2
   exact(h1 _ _ h2).elim
  ·rfl
def aoM (lo size bytes:Nat) (x y:Value) (H:aE):Option (Value×aE) :=
 match rY y with
 |
  some n=>match jD H size n y with
  | some new=>eO lo size bytes x n new H
  | none=>none
 | none=>none
theorem abI {size bytes:Nat} {x y:Operand}:jV lo q (.app size bytes x y) ρ H=aoM lo size bytes (ev ρ x) (ev ρ y) H:=by
 apply oY
 simp only[pop]
 unfold aoM
 cases rY (ev ρ y) with
 | none=>rfl
 |
  some n =>
  cases hs:jD H size n (ev ρ y) with
  | none=>simp only[hs];rfl
  | some new=>simp only[hs]
def adA (lo:Nat) (z:List Value) (bytes:Nat) (x n:Value) (H:aE):Option (Value×aE) :=
 match n with
 | .int .i64 n=>if 0≤n∧n*bytes≤140737488355328 then eO lo z.length bytes x n.toNat (cZ n.toNat z) H else none
 | _=>none
theorem Xb {z:List Value} {bytes:Nat} {x n:Operand}:jV lo q (.appz z bytes x n) ρ H=adA lo z bytes (ev ρ x) (ev ρ n) H:=by
 apply oY
 simp only[pop]
 unfold adA
 split
 ·rename_i n h1
  simp only[h1]
  split<;>rfl
 ·rename_i h1
  split
  ·rename_i h2
   exact(h1 _ h2).elim
  ·rfl
def copyV (lo size:Nat) (x y:Value) (H:aE):Option (Value×aE) :=
 match x,rY y with
 | .slice none _ _,some _=>some (.int .i64 0,H)
 |
  .slice (some ⟨b,o,none⟩) d _,some s=>match jD H size (Nat.min s d) y with
  | some new=>(H.write lo b o new).map fun H'=>(.int .i64 (Nat.min s d),H')
  | none=>none
 | _,_=>none
theorem YJ {size:Nat} {x y:Operand}:jV lo q (.copy size x y) ρ H=copyV lo size (ev ρ x) (ev ρ y) H:=by
 apply oY
 simp only[pop]
 unfold copyV
 split
 ·rename_i h1 h2
  simp only[h1,h2]
  rfl
 ·rename_i b o d _ s h1 h2
  simp only[h1,h2]
  cases hs:jD H size (Nat.min s d) (ev ρ y) with
  | none=>rfl
  |
   some new =>
   simp only
   cases H.write lo b o new<;>rfl
 ·rename_i h1 h2
  split
  ·rename_i h3 h4
   exact(h1 _ _ _ h3 h4).elim
  ·rename_i h3 h4
   exact(h2 _ _ _ _ _ h3 h4).elim
  ·rfl
def Qk (lo:Nat) (z:List Value) (x:Value) (H:aE):Option (Value×aE) :=
 match x with
 | .slice none _ _=>some (undef,H)
 | .slice (some ⟨b,o,none⟩) n _=>if n=0 then some (undef,H) else (H.write lo b o (cZ n z)).map fun H'=>(undef,H')
 | _=>none
theorem UG {z:List Value} {x:Operand}:jV lo q (.clear z x) ρ H=Qk lo z (ev ρ x) H:=by
 apply oY
 simp only[pop]
 unfold Qk
 split
 ·rename_i h1
  simp only[h1]
  rfl
 ·rename_i b o n _ h1
  simp only[h1]
  split
  ·rfl
  ·cases H.write lo b o (cZ n z)<;>rfl
 ·rename_i h1 h2
  split
  ·rename_i h3
   exact(h1 _ _ h3).elim
  ·rename_i h3
   exact(h2 _ _ _ _ h3).elim
  ·rfl
noncomputable def aaS (lo:Nat) (fv:Value) (args:List Value) (H:aE):Option (Value×aE) :=
 match fv with
 | .func (.func f) first fT=>qT f (first.toList++args++fT.toList) lo H
 | _=>none
theorem TX {fv:Operand} {args:List Operand}:jV lo q (.callv fv args) ρ H=aaS (if q then H.length else lo) (ev ρ fv) (args.map (ev ρ)) H:=by
 unfold jV
 simp only[pop]
 unfold aaS
 generalize ev ρ fv=v
 cases v with
 | func fn f c=>cases fn<;>rfl
 | _=>rfl
end
end Go.PM
namespace Go.PM
section
variable {lo:Nat} {Q:Ex→Env→aE→Prop} {K:Env→aE→Prop} {ρ:Env} {H:aE} {q:Bool}
def asJ (u v:Value):Bool:=match iX u,iX v with
 | some a,some b=>a != b
 | _,_=>true
end
theorem WV {k:IntKind} {a b:Int}:SA (.int k a) (.int k b)=some (.int k (max a b)):=by
 simp only[SA]
 congr 2
 split<;>omega
theorem Vs {k:IntKind} {a b:Int}:Sh (.int k a) (.int k b)=some (.int k (min a b)):=by
 simp only[Sh]
 congr 2
 split<;>omega
end Go.PM
namespace Go.PM
abbrev ptr (b o:Nat):Value := .pointer (some ⟨b,o,none⟩)
abbrev I (n:Int):Value := .int .i64 n
section
variable {H H':aE} {lo b o n size:Nat} {cs r:List Value} {L K:aE} {v:Value}
theorem P9 (hb:b<H.length):(H++L)[b]? = H[b]? := List.getElem?_append_left hb
theorem WL {x:QU}:(H++x::L)[H.length]? = some x:=by simp
theorem acV (hb:b<H.length):(H++L).read b o n=H.read b o n:=FL (P9 hb)
theorem AB {e:Nat} {p:Bool} (h:H[b]? = some (.row r e p)) (hn:o+n≤r.length):H.read b o n=some ((r.drop o).take n):=by
 unfold aE.read
 rw[h]
 simp only[hn,if_true]
structure CD (H:aE) (b o:Nat) (cs:List Value):Prop where
 lt:b<H.length
 rd:H.read b o cs.length=some cs
theorem CD.app (h:CD H b o cs):CD (H++L) b o cs:=⟨by have:=h.lt;simp;omega,by rw[acV h.lt];exact h.rd⟩
theorem CD.pre (h:CD H b o cs) (hp:H <+: H'):CD H' b o cs:=by
 obtain⟨L,rfl⟩:=hp
 exact h.app
theorem CD.all (h:CD H b o cs) (hs:cs.length=size):nS true size (.pointer (some ⟨b,o,none⟩)) H=some (.agg cs.toArray):=by
 subst hs
 simp only[nS,if_true,h.rd]
 rfl
theorem CD.one {u:Value} (h:CD H b o [u]):nS false size (.pointer (some ⟨b,o,none⟩)) H=some u:=by
 have:=h.rd
 simp only[List.length_cons,List.length_nil] at this
 simp only[nS,this]
 rfl
theorem CD.sub {k:Nat} {u:Value} (h:CD H b o cs) (hk:cs[k]? = some u):CD H b (o+k) [u]:=by
 refine⟨h.lt,?_⟩
 have h1:=h.rd
 unfold aE.read at h1 ⊢
 split at h1
 ·rename_i r e p hb
  split at h1
  ·rename_i hl
   have hk':=(List.getElem?_eq_some_iff.1 hk).1
   simp only[List.length_cons,List.length_nil]
   rw[if_pos (by simp;omega)]
   injection h1 with h1
   rw[←h1] at hk
   rw[List.getElem?_take,if_pos (by omega),List.getElem?_drop] at hk
   have bF:=(List.getElem?_eq_some_iff.1 hk).1
   rw[List.drop_eq_getElem_cons bF]
   simp only[List.take_succ_cons,List.take_zero]
   rw[List.getElem?_eq_getElem bF] at hk
   injection hk with hk
   rw[hk]
  ·cases h1
 ·cases h1
theorem CD.fld {k:Nat} {u:Value} (h:CD H b o cs) (hk:cs[k]? = some u):nS false size (.pointer (some ⟨b,o+k,none⟩)) H=some u:=(h.sub hk).one
theorem RA {a:Nat} {c:Nat} {i:Int} {k:IntKind} (h0:0≤i) (h1:i<n):P5 size (.slice (some ⟨b,a,none⟩) n c) (.int k i)=some (.pointer (some ⟨b,a+i.toNat*size,none⟩)):=by
 simp only[P5]
 rw[if_pos ⟨h0,h1⟩]
structure Arr {α:Type} (enc:α→List Value) (kJ:Nat) (H:aE) (a:Option Addr) (n:Nat) (xs:List α):Prop where
 len:n=xs.length
 el:∀(i:Nat) x,xs[i]? = some x→∃b o,a=some ⟨b,o,none⟩∧CD H b (o+i*kJ) (enc x)
theorem Arr.pre {α:Type} {enc:α→List Value} {kJ:Nat} {a:Option Addr} {xs:List α} (h:Arr enc kJ H a n xs) (hp:H <+: H'):Arr enc kJ H' a n xs :=
 ⟨h.len,fun i x hx=>by obtain⟨b,o,h1,h2⟩:=h.el i x hx;exact⟨b,o,h1,h2.pre hp⟩⟩
end
structure jW where
 t:Int
 w:Int
 k:Int
 deriving DecidableEq
def cc (c:jW):List Value:=[I c.t,I c.w,I c.k]
def ci (n:Int):List Value:=[I n]
end Go.PM
namespace Go.PM
structure Jq {α:Type} (enc:α→List Value) (kJ:Nat):Prop where
 len:∀x,(enc x).length=kJ
 sc:∀x,(enc x).all fS=true
 pos:1≤kJ
section
variable {α:Type} {enc:α→List Value} {kJ:Nat} {H H':aE} {lo b:Nat} {xs ys:List α} {p:Bool}
theorem Mb (e:Jq enc kJ):(xs.flatMap enc).length=xs.length*kJ:=by
 induction xs with
 | nil=>simp
 | cons x xs ih=>simp only[List.flatMap_cons,List.length_append,e.len,ih,List.length_cons,Nat.succ_mul];omega
theorem IE (e:Jq enc kJ) (i:Nat):(xs.flatMap enc).drop (i*kJ)=(xs.drop i).flatMap enc:=by
 induction i generalizing xs with
 | zero=>simp
 |
  succ i ih =>
  cases xs with
  | nil=>simp
  |
   cons x xs =>
   rw[List.flatMap_cons,List.drop_succ_cons,←ih,show (i+1)*kJ=(enc x).length+i*kJ by rw[e.len,Nat.succ_mul];omega,List.drop_append]
   simp
theorem Oi (e:Jq enc kJ) (i:Nat):(xs.flatMap enc).take (i*kJ)=(xs.take i).flatMap enc:=by
 induction i generalizing xs with
 | zero=>simp
 |
  succ i ih =>
  cases xs with
  | nil=>simp
  |
   cons x xs =>
   rw[List.flatMap_cons,List.take_succ_cons,List.flatMap_cons,←ih,show (i+1)*kJ=(enc x).length+i*kJ by rw[e.len,Nat.succ_mul];omega,List.take_append]
   simp
   exact List.take_of_length_le (by omega)
theorem SX (e:Jq enc kJ) {i:Nat} (x:α) (hi:i<xs.length):iT (xs.flatMap enc) (i*kJ) (enc x)=(xs.set i x).flatMap enc:=by
 unfold iT
 rw[Oi e,e.len,show i*kJ+kJ=(i+1)*kJ by rw[Nat.succ_mul],IE e,List.set_eq_take_append_cons_drop,if_pos hi]
 simp
def Row (enc:α→List Value) (kJ:Nat) (H:aE) (b:Nat) (p:Bool) (xs:List α):Prop:=H[b]? = some (.row (xs.flatMap enc) kJ p)
theorem Row.lt (h:Row enc kJ H b p xs):b<H.length:=(List.getElem?_eq_some_iff.1 h).1
theorem Row.pre (h:Row enc kJ H b p xs) (hp:H <+: H'):Row enc kJ H' b p xs:=by
 obtain⟨L,rfl⟩:=hp
 unfold Row
 rw[P9 h.lt]
 exact h
theorem Row.elem (h:Row enc kJ H b p xs) (e:Jq enc kJ) {i:Nat} {x:α} (hx:xs[i]? = some x):CD H b (i*kJ) (enc x):=by
 refine⟨h.lt,?_⟩
 have hi:=(List.getElem?_eq_some_iff.1 hx).1
 have hm:(i+1)*kJ≤xs.length*kJ:=Nat.mul_le_mul_right _ hi
 rw[Nat.succ_mul] at hm
 rw[AB h (by rw[e.len,Mb e];omega),IE e,e.len]
 have:=Oi (xs:=xs.drop i) e 1
 rw[Nat.one_mul] at this
 rw[this,List.drop_eq_getElem_cons hi]
 rw[List.getElem?_eq_getElem hi] at hx
 injection hx with hx
 simp[hx]
theorem Row.arr (h:Row enc kJ H b p xs) (e:Jq enc kJ) {n:Nat} (hn:n≤xs.length):Arr enc kJ H (some ⟨b,0,none⟩) n (xs.take n):=by
 refine⟨by simp;omega,fun i x hx=>⟨b,0,rfl,?_⟩⟩
 rw[Nat.zero_add]
 refine h.elem e ?_
 rw[List.getElem?_take] at hx
 split at hx
 ·exact hx
 ·cases hx
theorem Row.store (h:Row enc kJ H b p xs) (e:Jq enc kJ) {i:Nat} {x:α} {u:Value} (hu:aO u=enc x) (hi:i<xs.length) (hl:lo≤b):Fi lo kJ (.pointer (some ⟨b,i*kJ,none⟩)) u H=some (undef,H.set b (.row ((xs.set i x).flatMap enc) kJ p)):=by
 simp only[Fi,aE.write,hu,e.len,if_true]
 have h':H[b]? = some (.row (xs.flatMap enc) kJ p):=h
 have hm:(i+1)*kJ≤xs.length*kJ:=Nat.mul_le_mul_right _ hi
 rw[Nat.succ_mul] at hm
 simp only[h']
 rw[if_pos ⟨hl,by rw[Mb e];omega,e.sc x⟩,SX e x hi]
 rfl
theorem Row.set (h:Row enc kJ H b p xs) (ys:List α):Row enc kJ (H.set b (.row (ys.flatMap enc) kJ p)) b p ys:=by
 unfold Row
 rw[List.getElem?_set_self h.lt]
theorem SH (e:Jq enc kJ) {n:Nat} {x:α}:cZ n (enc x)=(List.replicate n x).flatMap enc:=by
 have kY:=e.pos
 have hlen:=e.len x
 apply List.ext_getElem?
 intro i
 unfold cZ
 rw[List.getElem?_map,hlen]
 rcases Nat.lt_or_ge i (n*kJ) with hi | hi
 ·rw[List.getElem?_range hi]
  have hq:i / kJ<n:=Nat.div_lt_of_lt_mul (by rw[Nat.mul_comm];exact hi)
  have h1:((List.replicate n x).flatMap enc)[i]? = (((List.replicate n x).flatMap enc).drop (i / kJ*kJ))[i % kJ]? := by
   rw[List.getElem?_drop]
   congr 1
   rw[Nat.mul_comm]
   exact(Nat.div_add_mod i kJ).symm
  have hr:i % kJ<(enc x).length:=by rw[hlen];exact Nat.mod_lt _ (by omega)
  rw[h1,IE e,List.drop_replicate,show n-i / kJ=(n-i / kJ-1)+1 by omega,List.replicate_succ,List.flatMap_cons,List.getElem?_append_left hr]
  simp[List.getD_eq_getElem?_getD,List.getElem?_eq_getElem hr]
 ·rw[List.getElem?_eq_none (by simpa using hi),List.getElem?_eq_none (by rw[Mb e];simpa using hi)]
  rfl
theorem Row.top {K:aE}:Row enc kJ (H ++ .row (xs.flatMap enc) kJ p::K) H.length p xs:=WL
end
end Go.PM
namespace Go.PM
section
variable {H L:aE} {lo k o size:Nat} {agg:Bool} {u:Value}
end
end Go.PM
namespace Go.Proofs
open Go.Shelf
def MD:Go.Shelf.Ren:=⟨fun | 156=>217 | 165=>232 | 166=>233 | 169=>235 | 240=>245 | 241=>246 | 276=>253 | 277=>254 | n=>n,fun | 31=>33 | 9=>9 | 3=>3 | 4=>4 | 0=>0 | 20=>20 | 72=>262 | 76=>264 | 70=>260 | 37=>187 | 75=>220 | 127=>276 | 164=>285 | 5=>5 | 80=>227 | n=>n,fun | n=>n⟩
theorem Vb:Go.Proofs.Lays.n156 Tryz.prog MD:={
 mixed:=by kernel_rfl
 f156:=Tryz.func217.trans (congrArg some (by kernel_rfl))
 f165:=Tryz.func232.trans (congrArg some (by kernel_rfl))
 f166:=Tryz.func233.trans (congrArg some (by kernel_rfl))
 f169:=Tryz.func235.trans (congrArg some (by kernel_rfl))
 f240:=Tryz.func245.trans (congrArg some (by kernel_rfl))
 f241:=Tryz.func246.trans (congrArg some (by kernel_rfl))
 f276:=Tryz.func253.trans (congrArg some (by kernel_rfl))
 f277:=Tryz.func254.trans (congrArg some (by kernel_rfl))
 t0:=Tryz.underlying0
 a0:=Tryz.isAgg0
 z0:=Tryz.sizeOf0
 v0:=Tryz.zeroValue0
 t3:=Tryz.underlying3
 a3:=Tryz.isAgg3
 z3:=Tryz.sizeOf3
 v3:=Tryz.zeroValue3
 t4:=Tryz.underlying4
 a4:=Tryz.isAgg4
 z4:=Tryz.sizeOf4
 v4:=Tryz.zeroValue4
 t9:=Tryz.underlying9
 a9:=Tryz.isAgg9
 z9:=Tryz.sizeOf9
 v9:=Tryz.zeroValue9
 t20:=Tryz.underlying20
 a20:=Tryz.isAgg20
 z20:=Tryz.sizeOf20
 v20:=Tryz.zeroValue20
 t31:=Tryz.underlying33
 a31:=Tryz.isAgg33
 z31:=Tryz.sizeOf33
 v31:=Tryz.zeroValue33
 t37:=Tryz.underlying187
 a37:=Tryz.isAgg187
 z37:=Tryz.sizeOf187
 v37:=Tryz.zeroValue187
 t70:=Tryz.underlying260
 a70:=Tryz.isAgg260
 z70:=Tryz.sizeOf260
 v70:=Tryz.zeroValue260
 t72:=Tryz.underlying262
 a72:=Tryz.isAgg262
 z72:=Tryz.sizeOf262
 v72:=Tryz.zeroValue262
 t75:=Tryz.underlying220
 a75:=Tryz.isAgg220
 z75:=Tryz.sizeOf220
 v75:=Tryz.zeroValue220
 t76:=Tryz.underlying264
 a76:=Tryz.isAgg264
 z76:=Tryz.sizeOf264
 v76:=Tryz.zeroValue264
 t127:=Tryz.underlying276
 a127:=Tryz.isAgg276
 z127:=Tryz.sizeOf276
 v127:=Tryz.zeroValue276
 t164:=Tryz.underlying285
 a164:=Tryz.isAgg285
 z164:=Tryz.sizeOf285
 v164:=Tryz.zeroValue285 }
theorem Qu:Builder.Extra Tryz.prog MD:={
 sizeBuilder:=by kernel_rfl
 liesBuilder:=by kernel_rfl
 t5:=Tryz.underlying5
 a5:=Tryz.isAgg5
 z5:=Tryz.sizeOf5
 v5:=Tryz.zeroValue5
 infoByte:=by kernel_rfl
 cellsByte:=by kernel_rfl
 sizeByte:=by kernel_rfl
 neB5:=by decide }
def TY:Go.Shelf.Ren:=⟨fun | 133=>198 | 128=>218 | n=>n,fun | 51=>206 | 3=>3 | 4=>4 | 46=>207 | 5=>5 | 9=>9 | n=>n,fun | n=>n⟩
theorem alY:Go.Proofs.Lays.n133 Tryz.prog TY:={
 mixed:=by kernel_rfl
 f128:=Tryz.func218.trans (congrArg some (by kernel_rfl))
 f133:=Tryz.func198.trans (congrArg some (by kernel_rfl))
 t3:=Tryz.underlying3
 a3:=Tryz.isAgg3
 z3:=Tryz.sizeOf3
 v3:=Tryz.zeroValue3
 t4:=Tryz.underlying4
 a4:=Tryz.isAgg4
 z4:=Tryz.sizeOf4
 v4:=Tryz.zeroValue4
 t5:=Tryz.underlying5
 a5:=Tryz.isAgg5
 z5:=Tryz.sizeOf5
 v5:=Tryz.zeroValue5
 t9:=Tryz.underlying9
 a9:=Tryz.isAgg9
 z9:=Tryz.sizeOf9
 v9:=Tryz.zeroValue9
 t46:=Tryz.underlying207
 a46:=Tryz.isAgg207
 z46:=Tryz.sizeOf207
 v46:=Tryz.zeroValue207
 t51:=Tryz.underlying206
 a51:=Tryz.isAgg206
 z51:=Tryz.sizeOf206
 v51:=Tryz.zeroValue206 }
def Uo:Go.Shelf.Ren:=⟨fun | 283=>241 | n=>n,fun | 3=>3 | 9=>9 | 4=>4 | n=>n,fun | n=>n⟩
theorem alE:Go.Proofs.Lays.n283 Tryz.prog Uo:={
 mixed:=by kernel_rfl
 f283:=Tryz.func241.trans (congrArg some (by kernel_rfl))
 t3:=Tryz.underlying3
 a3:=Tryz.isAgg3
 z3:=Tryz.sizeOf3
 v3:=Tryz.zeroValue3
 t4:=Tryz.underlying4
 a4:=Tryz.isAgg4
 z4:=Tryz.sizeOf4
 v4:=Tryz.zeroValue4
 t9:=Tryz.underlying9
 a9:=Tryz.isAgg9
 z9:=Tryz.sizeOf9
 v9:=Tryz.zeroValue9 }
def UP:Go.Shelf.Ren:=⟨fun | 284=>242 | 129=>249 | 317=>248 | 318=>250 | n=>n,fun | 53=>171 | 3=>3 | 212=>281 | 0=>0 | 4=>4 | 46=>207 | 5=>5 | 9=>9 | n=>n,fun | 17=>3 | n=>n⟩
theorem amI:Go.Proofs.LaysM.n284 Tryz.prog UP:={
 mixed:=by kernel_rfl
 f129:=Tryz.func249.trans (congrArg some (by kernel_rfl))
 f284:=Tryz.func242.trans (congrArg some (by kernel_rfl))
 f317:=Tryz.func248.trans (congrArg some (by kernel_rfl))
 f318:=Tryz.func250.trans (congrArg some (by kernel_rfl))
 t0:=Tryz.underlying0
 a0:=Tryz.isAgg0
 z0:=Tryz.sizeOf0
 v0:=Tryz.zeroValue0
 t3:=Tryz.underlying3
 a3:=Tryz.isAgg3
 z3:=Tryz.sizeOf3
 v3:=Tryz.zeroValue3
 t4:=Tryz.underlying4
 a4:=Tryz.isAgg4
 z4:=Tryz.sizeOf4
 v4:=Tryz.zeroValue4
 t5:=Tryz.underlying5
 a5:=Tryz.isAgg5
 z5:=Tryz.sizeOf5
 v5:=Tryz.zeroValue5
 t9:=Tryz.underlying9
 a9:=Tryz.isAgg9
 z9:=Tryz.sizeOf9
 v9:=Tryz.zeroValue9
 t46:=Tryz.underlying207
 a46:=Tryz.isAgg207
 z46:=Tryz.sizeOf207
 v46:=Tryz.zeroValue207
 t53:=Tryz.underlying171
 a53:=Tryz.isAgg171
 z53:=Tryz.sizeOf171
 v53:=Tryz.zeroValue171
 t212:=Tryz.underlying281
 a212:=Tryz.isAgg281
 z212:=Tryz.sizeOf281
 v212:=Tryz.zeroValue281
 g17:=by kernel_rfl
 i0:=by kernel_rfl
 i3:=by kernel_rfl
 i4:=by kernel_rfl
 i5:=by kernel_rfl
 i9:=by kernel_rfl
 i46:=by kernel_rfl
 i53:=by kernel_rfl
 i212:=by kernel_rfl
 m17:=by kernel_rfl }
def Vg:Go.Shelf.Ren:=⟨fun | 285=>243 | n=>n,fun | 37=>187 | 53=>171 | 3=>3 | 4=>4 | 51=>206 | 9=>9 | 5=>5 | 0=>0 | n=>n,fun | n=>n⟩
theorem anD:Go.Proofs.Lays.n285 Tryz.prog Vg:={
 mixed:=by kernel_rfl
 f285:=Tryz.func243.trans (congrArg some (by kernel_rfl))
 t0:=Tryz.underlying0
 a0:=Tryz.isAgg0
 z0:=Tryz.sizeOf0
 v0:=Tryz.zeroValue0
 t3:=Tryz.underlying3
 a3:=Tryz.isAgg3
 z3:=Tryz.sizeOf3
 v3:=Tryz.zeroValue3
 t4:=Tryz.underlying4
 a4:=Tryz.isAgg4
 z4:=Tryz.sizeOf4
 v4:=Tryz.zeroValue4
 t5:=Tryz.underlying5
 a5:=Tryz.isAgg5
 z5:=Tryz.sizeOf5
 v5:=Tryz.zeroValue5
 t9:=Tryz.underlying9
 a9:=Tryz.isAgg9
 z9:=Tryz.sizeOf9
 v9:=Tryz.zeroValue9
 t37:=Tryz.underlying187
 a37:=Tryz.isAgg187
 z37:=Tryz.sizeOf187
 v37:=Tryz.zeroValue187
 t51:=Tryz.underlying206
 a51:=Tryz.isAgg206
 z51:=Tryz.sizeOf206
 v51:=Tryz.zeroValue206
 t53:=Tryz.underlying171
 a53:=Tryz.isAgg171
 z53:=Tryz.sizeOf171
 v53:=Tryz.zeroValue171 }
def SF:Go.Shelf.Ren:=⟨fun | 14=>192 | 16=>211 | 17=>212 | 19=>224 | 20=>225 | 21=>226 | 22=>227 | 23=>228 | 24=>229 | 25=>238 | 27=>240 | 26=>239 | 28=>247 | 29=>255 | 30=>241 | 31=>242 | 32=>243 | 33=>244 | 35=>249 | 34=>248 | 36=>250 | 37=>251 | 38=>252 | 39=>256 | 40=>257 | n=>n,fun | 9=>9 | 3=>3 | 22=>171 | 24=>220 | 25=>221 | 4=>4 | 34=>255 | 5=>5 | 36=>207 | 37=>187 | 0=>0 | 39=>257 | 21=>21 | 44=>269 | 47=>276 | 50=>279 | 48=>277 | 2=>2 | 52=>271 | 55=>274 | 59=>281 | 60=>206 | 20=>20 | 61=>282 | 65=>289 | 66=>290 | 67=>227 | n=>n,fun | 0=>1 | 1=>2 | 2=>3 | 3=>4 | 4=>5 | n=>n⟩
theorem ahS:Go.Proofs.LaysPu.n14 Tryz.prog SF:={
 mixed:=by kernel_rfl
 f14:=Tryz.func192.trans (congrArg some (by kernel_rfl))
 f16:=Tryz.func211.trans (congrArg some (by kernel_rfl))
 f17:=Tryz.func212.trans (congrArg some (by kernel_rfl))
 f19:=Tryz.func224.trans (congrArg some (by kernel_rfl))
 f20:=Tryz.func225.trans (congrArg some (by kernel_rfl))
 f21:=Tryz.func226.trans (congrArg some (by kernel_rfl))
 f22:=Tryz.func227.trans (congrArg some (by kernel_rfl))
 f23:=Tryz.func228.trans (congrArg some (by kernel_rfl))
 f24:=Tryz.func229.trans (congrArg some (by kernel_rfl))
 f25:=Tryz.func238.trans (congrArg some (by kernel_rfl))
 f26:=Tryz.func239.trans (congrArg some (by kernel_rfl))
 f27:=Tryz.func240.trans (congrArg some (by kernel_rfl))
 f28:=Tryz.func247.trans (congrArg some (by kernel_rfl))
 f29:=Tryz.func255.trans (congrArg some (by kernel_rfl))
 f30:=Tryz.func241.trans (congrArg some (by kernel_rfl))
 f31:=Tryz.func242.trans (congrArg some (by kernel_rfl))
 f32:=Tryz.func243.trans (congrArg some (by kernel_rfl))
 f33:=Tryz.func244.trans (congrArg some (by kernel_rfl))
 f34:=Tryz.func248.trans (congrArg some (by kernel_rfl))
 f35:=Tryz.func249.trans (congrArg some (by kernel_rfl))
 f36:=Tryz.func250.trans (congrArg some (by kernel_rfl))
 f37:=Tryz.func251.trans (congrArg some (by kernel_rfl))
 f38:=Tryz.func252.trans (congrArg some (by kernel_rfl))
 f39:=Tryz.func256.trans (congrArg some (by kernel_rfl))
 f40:=Tryz.func257.trans (congrArg some (by kernel_rfl))
 t0:=Tryz.underlying0
 a0:=Tryz.isAgg0
 z0:=Tryz.sizeOf0
 v0:=Tryz.zeroValue0
 i0:=by kernel_rfl
 t2:=Tryz.underlying2
 a2:=Tryz.isAgg2
 z2:=Tryz.sizeOf2
 v2:=Tryz.zeroValue2
 i2:=by kernel_rfl
 t3:=Tryz.underlying3
 a3:=Tryz.isAgg3
 z3:=Tryz.sizeOf3
 v3:=Tryz.zeroValue3
 i3:=by kernel_rfl
 t4:=Tryz.underlying4
 a4:=Tryz.isAgg4
 z4:=Tryz.sizeOf4
 v4:=Tryz.zeroValue4
 i4:=by kernel_rfl
 t5:=Tryz.underlying5
 a5:=Tryz.isAgg5
 z5:=Tryz.sizeOf5
 v5:=Tryz.zeroValue5
 i5:=by kernel_rfl
 t9:=Tryz.underlying9
 a9:=Tryz.isAgg9
 z9:=Tryz.sizeOf9
 v9:=Tryz.zeroValue9
 i9:=by kernel_rfl
 t20:=Tryz.underlying20
 a20:=Tryz.isAgg20
 z20:=Tryz.sizeOf20
 v20:=Tryz.zeroValue20
 i20:=by kernel_rfl
 t21:=Tryz.underlying21
 a21:=Tryz.isAgg21
 z21:=Tryz.sizeOf21
 v21:=Tryz.zeroValue21
 i21:=by kernel_rfl
 t22:=Tryz.underlying171
 a22:=Tryz.isAgg171
 z22:=Tryz.sizeOf171
 v22:=Tryz.zeroValue171
 i22:=by kernel_rfl
 t24:=Tryz.underlying220
 a24:=Tryz.isAgg220
 z24:=Tryz.sizeOf220
 v24:=Tryz.zeroValue220
 i24:=by kernel_rfl
 t25:=Tryz.underlying221
 a25:=Tryz.isAgg221
 z25:=Tryz.sizeOf221
 v25:=Tryz.zeroValue221
 i25:=by kernel_rfl
 t34:=Tryz.underlying255
 a34:=Tryz.isAgg255
 z34:=Tryz.sizeOf255
 v34:=Tryz.zeroValue255
 i34:=by kernel_rfl
 c34:=by kernel_rfl
 t36:=Tryz.underlying207
 a36:=Tryz.isAgg207
 z36:=Tryz.sizeOf207
 v36:=Tryz.zeroValue207
 i36:=by kernel_rfl
 t37:=Tryz.underlying187
 a37:=Tryz.isAgg187
 z37:=Tryz.sizeOf187
 v37:=Tryz.zeroValue187
 i37:=by kernel_rfl
 t39:=Tryz.underlying257
 a39:=Tryz.isAgg257
 z39:=Tryz.sizeOf257
 v39:=Tryz.zeroValue257
 i39:=by kernel_rfl
 t44:=Tryz.underlying269
 a44:=Tryz.isAgg269
 z44:=Tryz.sizeOf269
 v44:=Tryz.zeroValue269
 i44:=by kernel_rfl
 t47:=Tryz.underlying276
 a47:=Tryz.isAgg276
 z47:=Tryz.sizeOf276
 v47:=Tryz.zeroValue276
 i47:=by kernel_rfl
 t48:=Tryz.underlying277
 a48:=Tryz.isAgg277
 z48:=Tryz.sizeOf277
 v48:=Tryz.zeroValue277
 i48:=by kernel_rfl
 t50:=Tryz.underlying279
 a50:=Tryz.isAgg279
 z50:=Tryz.sizeOf279
 v50:=Tryz.zeroValue279
 i50:=by kernel_rfl
 t52:=Tryz.underlying271
 a52:=Tryz.isAgg271
 z52:=Tryz.sizeOf271
 v52:=Tryz.zeroValue271
 i52:=by kernel_rfl
 t55:=Tryz.underlying274
 a55:=Tryz.isAgg274
 z55:=Tryz.sizeOf274
 v55:=Tryz.zeroValue274
 i55:=by kernel_rfl
 t59:=Tryz.underlying281
 a59:=Tryz.isAgg281
 z59:=Tryz.sizeOf281
 v59:=Tryz.zeroValue281
 i59:=by kernel_rfl
 t60:=Tryz.underlying206
 a60:=Tryz.isAgg206
 z60:=Tryz.sizeOf206
 v60:=Tryz.zeroValue206
 i60:=by kernel_rfl
 t61:=Tryz.underlying282
 a61:=Tryz.isAgg282
 z61:=Tryz.sizeOf282
 t65:=Tryz.underlying289
 a65:=Tryz.isAgg289
 z65:=Tryz.sizeOf289
 v65:=Tryz.zeroValue289
 i65:=by kernel_rfl
 t66:=Tryz.underlying290
 a66:=Tryz.isAgg290
 z66:=Tryz.sizeOf290
 v66:=Tryz.zeroValue290
 i66:=by kernel_rfl
 t67:=Tryz.underlying227
 a67:=Tryz.isAgg227
 z67:=Tryz.sizeOf227
 v67:=Tryz.zeroValue227
 i67:=by kernel_rfl
 g0:=by kernel_rfl
 m0:=by kernel_rfl
 g1:=by kernel_rfl
 m1:=by kernel_rfl
 g2:=by kernel_rfl
 m2:=by kernel_rfl
 g3:=by kernel_rfl
 m3:=by kernel_rfl
 g4:=by kernel_rfl
 m4:=by kernel_rfl }
def UY:Go.Shelf.Ren:=⟨fun | 219=>209 | 217=>220 | 225=>221 | 224=>222 | 267=>223 | 266=>236 | 314=>237 | n=>n,fun | 9=>9 | 3=>3 | 4=>4 | 5=>5 | 46=>207 | 146=>240 | 51=>206 | n=>n,fun | 1=>0 | n=>n⟩
theorem alL:Go.Proofs.Lays.n219 Tryz.prog UY:={
 mixed:=by kernel_rfl
 f217:=Tryz.func220.trans (congrArg some (by kernel_rfl))
 f219:=Tryz.func209.trans (congrArg some (by kernel_rfl))
 f224:=Tryz.func222.trans (congrArg some (by kernel_rfl))
 f225:=Tryz.func221.trans (congrArg some (by kernel_rfl))
 f266:=Tryz.func236.trans (congrArg some (by kernel_rfl))
 f267:=Tryz.func223.trans (congrArg some (by kernel_rfl))
 f314:=Tryz.func237.trans (congrArg some (by kernel_rfl))
 t3:=Tryz.underlying3
 a3:=Tryz.isAgg3
 z3:=Tryz.sizeOf3
 v3:=Tryz.zeroValue3
 t4:=Tryz.underlying4
 a4:=Tryz.isAgg4
 z4:=Tryz.sizeOf4
 v4:=Tryz.zeroValue4
 t5:=Tryz.underlying5
 a5:=Tryz.isAgg5
 z5:=Tryz.sizeOf5
 v5:=Tryz.zeroValue5
 t9:=Tryz.underlying9
 a9:=Tryz.isAgg9
 z9:=Tryz.sizeOf9
 v9:=Tryz.zeroValue9
 t46:=Tryz.underlying207
 a46:=Tryz.isAgg207
 z46:=Tryz.sizeOf207
 v46:=Tryz.zeroValue207
 t51:=Tryz.underlying206
 a51:=Tryz.isAgg206
 z51:=Tryz.sizeOf206
 v51:=Tryz.zeroValue206
 t146:=Tryz.underlying240
 a146:=Tryz.isAgg240
 z146:=Tryz.sizeOf240
 v146:=Tryz.zeroValue240
 g1:=by kernel_rfl }
def KE:Go.Shelf.Ren:=⟨fun | 105=>215 | 212=>187 | 99=>231 | 165=>232 | 166=>233 | 170=>234 | 169=>235 | 263=>206 | 264=>207 | 206=>210 | 240=>245 | 241=>246 | 276=>253 | 277=>254 | n=>n,fun | 9=>9 | 3=>3 | 4=>4 | 20=>20 | 0=>0 | 46=>207 | 109=>215 | 5=>5 | 72=>262 | 76=>264 | 51=>206 | 146=>240 | 53=>171 | 148=>242 | 70=>260 | 37=>187 | 75=>220 | 127=>276 | 164=>285 | 80=>227 | n=>n,fun | n=>n⟩
theorem aoD:Go.Proofs.Lays.n105 Tryz.prog KE:={
 mixed:=by kernel_rfl
 f99:=Tryz.func231.trans (congrArg some (by kernel_rfl))
 f105:=Tryz.func215.trans (congrArg some (by kernel_rfl))
 f165:=Tryz.func232.trans (congrArg some (by kernel_rfl))
 f166:=Tryz.func233.trans (congrArg some (by kernel_rfl))
 f169:=Tryz.func235.trans (congrArg some (by kernel_rfl))
 f170:=Tryz.func234.trans (congrArg some (by kernel_rfl))
 f206:=Tryz.func210.trans (congrArg some (by kernel_rfl))
 f212:=Tryz.func187.trans (congrArg some (by kernel_rfl))
 f240:=Tryz.func245.trans (congrArg some (by kernel_rfl))
 f241:=Tryz.func246.trans (congrArg some (by kernel_rfl))
 f263:=Tryz.func206.trans (congrArg some (by kernel_rfl))
 f264:=Tryz.func207.trans (congrArg some (by kernel_rfl))
 f276:=Tryz.func253.trans (congrArg some (by kernel_rfl))
 f277:=Tryz.func254.trans (congrArg some (by kernel_rfl))
 t0:=Tryz.underlying0
 a0:=Tryz.isAgg0
 z0:=Tryz.sizeOf0
 v0:=Tryz.zeroValue0
 t3:=Tryz.underlying3
 a3:=Tryz.isAgg3
 z3:=Tryz.sizeOf3
 v3:=Tryz.zeroValue3
 t4:=Tryz.underlying4
 a4:=Tryz.isAgg4
 z4:=Tryz.sizeOf4
 v4:=Tryz.zeroValue4
 t5:=Tryz.underlying5
 a5:=Tryz.isAgg5
 z5:=Tryz.sizeOf5
 v5:=Tryz.zeroValue5
 t9:=Tryz.underlying9
 a9:=Tryz.isAgg9
 z9:=Tryz.sizeOf9
 v9:=Tryz.zeroValue9
 t20:=Tryz.underlying20
 a20:=Tryz.isAgg20
 z20:=Tryz.sizeOf20
 v20:=Tryz.zeroValue20
 t37:=Tryz.underlying187
 a37:=Tryz.isAgg187
 z37:=Tryz.sizeOf187
 v37:=Tryz.zeroValue187
 t46:=Tryz.underlying207
 a46:=Tryz.isAgg207
 z46:=Tryz.sizeOf207
 v46:=Tryz.zeroValue207
 t51:=Tryz.underlying206
 a51:=Tryz.isAgg206
 z51:=Tryz.sizeOf206
 v51:=Tryz.zeroValue206
 t53:=Tryz.underlying171
 a53:=Tryz.isAgg171
 z53:=Tryz.sizeOf171
 v53:=Tryz.zeroValue171
 t70:=Tryz.underlying260
 a70:=Tryz.isAgg260
 z70:=Tryz.sizeOf260
 v70:=Tryz.zeroValue260
 t72:=Tryz.underlying262
 a72:=Tryz.isAgg262
 z72:=Tryz.sizeOf262
 v72:=Tryz.zeroValue262
 t75:=Tryz.underlying220
 a75:=Tryz.isAgg220
 z75:=Tryz.sizeOf220
 v75:=Tryz.zeroValue220
 t76:=Tryz.underlying264
 a76:=Tryz.isAgg264
 z76:=Tryz.sizeOf264
 v76:=Tryz.zeroValue264
 t109:=Tryz.underlying215
 a109:=Tryz.isAgg215
 z109:=Tryz.sizeOf215
 v109:=Tryz.zeroValue215
 t127:=Tryz.underlying276
 a127:=Tryz.isAgg276
 z127:=Tryz.sizeOf276
 v127:=Tryz.zeroValue276
 t146:=Tryz.underlying240
 a146:=Tryz.isAgg240
 z146:=Tryz.sizeOf240
 v146:=Tryz.zeroValue240
 t148:=Tryz.underlying242
 a148:=Tryz.isAgg242
 z148:=Tryz.sizeOf242
 v148:=Tryz.zeroValue242
 t164:=Tryz.underlying285
 a164:=Tryz.isAgg285
 z164:=Tryz.sizeOf285
 v164:=Tryz.zeroValue285 }
theorem agU:Builder.Extra Tryz.prog KE:={
 sizeBuilder:=by kernel_rfl
 liesBuilder:=by kernel_rfl
 t5:=Tryz.underlying5
 a5:=Tryz.isAgg5
 z5:=Tryz.sizeOf5
 v5:=Tryz.zeroValue5
 infoByte:=by kernel_rfl
 cellsByte:=by kernel_rfl
 sizeByte:=by kernel_rfl
 neB5:=by decide }
end Go.Proofs
namespace Go.Proofs
open Go.Shelf Go.RowKit Go.Sort Go.Lib
abbrev U0:UInt8→Value:=fun b=>Value.int .u8 (b.toNat:Int)
theorem XK (w:World) (T:TypeId) (nd:Nat) (hs:nd≤24):Holds U0 (w.alloc (.cells Lib.zeros24 T)) w.heap.size 0 (Array.replicate nd (0:UInt8)):=fun j hj=>by
 have hj':j<nd:=by simpa using hj
 refine⟨?_,World.frozen?_alloc_new _ _ _ _⟩
 rw[World.cell?_alloc_new,Lib.zeros24_at _ (by omega),getElem!_pos _ j hj]
 simp
theorem DK (w:World) (o:Obj) (dk:Array UInt8) (k:Nat):Below w.heap.size w ((putRow U0 (w.alloc o) w.heap.size 0 dk).drewN k):=by
 rw[alloc_eq_grow]
 obtain⟨os',_,e⟩:=putRow_grow_new U0 w #[o] w.heap.size 0 dk (Nat.le_refl _)
 rw[e]
 refine⟨rfl,rfl,rfl,by show w.heap.size≤(w.heap++os').size;simp,fun i hi => ?_⟩
 show (w.heap++os')[i]? = _
 rw[Array.getElem?_append_left hi]
set_option maxHeartbeats 6400000 in
set_option maxRecDepth 100000 in
theorem amU (u:Nat) (Y6:u<18446744073709551616) (w:World) (anX:Lib.TabIs Tryz.prog w "internal/strconv.uint64pow10" .u64 Lib.pow10Tab) :
  Calls Tryz.prog 230 #[.int .u64 u,.int .i64 10] w fun e w'=>e = .returned (.string ⟨(Lib.decDigits u).toArray⟩)∧Below w.heap.size w w':=by
 by_cases hs:u<100
 ·go_enter Tryz.func230,Tryz.ntmps230
  go_wp2_with (go_at_call 241;refine(Any.internal_strconv_small alE u hs _).mono ?_;rintro e w' ⟨rfl,rfl⟩)
  go_ret
  exact⟨rfl,Below.refl _ _⟩
 ·have hu1:1≤u:=by omega
  have aAB:Lib.nDigits u≤20:=by have:=Lib.numDigits_eq u hu1 Y6;split at this<;>omega
  have hH0:=XK w 271 (Lib.nDigits u) (by omega)
  have arF:=Any.internal_strconv_formatBase10 anD w.heap.size 0 24 u (Array.replicate (Lib.nDigits u) 0) (w.alloc (.cells Lib.zeros24 271)) hH0 (by rw[Array.size_replicate];exact Lib.lt_pow_nDigits u) Y6 (by rw[Array.size_replicate];omega)
  rw[Array.size_replicate] at arF
  have HH0:=Lib.hid hH0
  have hal:Tryz.prog.arrayLen 271=24:=by simp[Program.arrayLen,Tryz.underlying271]
  have Qt:∀W,(Instr.sliceAt 271 (.pointer (some ⟨w.heap.size,0,none⟩)) none (some (.int .i64 (Lib.nDigits u:Int))) none).run Tryz.prog W = .ok (.slice (some ⟨w.heap.size,0,none⟩) (Lib.nDigits u) 24) W:=fun W=>by
   rw[run_sliceAt_array_h W 271 ⟨w.heap.size,0,none⟩ (by simp[Program.arrayLen,Program.elem,Tryz.underlying271]) .i64 (Lib.nDigits u:Int) (by omega) (by rw[hal];omega)]
   go_simp
  clear hH0 hal
  go_enter Tryz.func230,Tryz.ntmps230
  go_wp2_with (first
   | (go_at_call 242;refine(Any.internal_strconv_numDigits amI u hu1 Y6 _ (Lib.tabIs_alloc anX _)).mono ?_;rintro e w' ⟨rfl,rfl⟩))
  go_at_call 243
  refine arF.mono ?_
  rintro e w' ⟨rfl,k,v',dk,rfl,hF⟩
  have hcv:(convert 187 9 (.slice (some ⟨w.heap.size,0,none⟩) (Lib.nDigits u) 24)).run Tryz.prog ((putRow U0 (w.alloc (.cells Lib.zeros24 271)) w.heap.size 0 dk).drewN k) = .ok (.string ⟨(Lib.decDigits u).toArray⟩) ((putRow U0 (w.alloc (.cells Lib.zeros24 271)) w.heap.size 0 dk).drewN k):=by
   have h:=run_convert_bytes_back (P:=Tryz.prog) ((putRow U0 (w.alloc (.cells Lib.zeros24 271)) w.heap.size 0 dk).drewN k) 187 9 5 ⟨w.heap.size,0,none⟩ 24 (Lib.decDigits u) Tryz.underlying187 Tryz.underlying5 Tryz.underlying9 (fun j hj=>by
    rw[Lib.row_is_numeral hF j hj,Lib.add_plain,World.cell?_drewN]
    exact cell?_putRow U0 _ w.heap.size 0 _ dk HH0.out (by rw[hF.size,Array.size_replicate]) j (by rw[hF.size];rw[Lib.decDigits_length] at hj;exact hj))
   rw[Lib.decDigits_length] at h
   exact h
  go_wp2
  go_ret
  exact⟨rfl,DK w _ dk k⟩
theorem ZK (u:Nat) (Y6:u<18446744073709551616) (w:World) (anX:Lib.TabIs Tryz.prog w "internal/strconv.uint64pow10" .u64 Lib.pow10Tab) :
  Calls Tryz.prog 214 #[.int .u64 u,.int .i64 10] w fun e w'=>e = .returned (.string ⟨(Lib.decDigits u).toArray⟩)∧Below w.heap.size w w':=by
 go_enter Tryz.func214,Tryz.ntmps214
 go_wp2_with (go_at_call 230;refine(amU u Y6 _ anX).mono ?_;rintro e w' ⟨rfl,hb⟩)
 go_ret
 exact⟨rfl,hb⟩
end Go.Proofs
namespace Go.PM
open Go.Proofs Go.RowKit
theorem Below.Ba {w w':World} (h:Below w.heap.size w w'):w.heap.size≤w'.heap.size∧(∀rb,rb<w.heap.size→w'.heap[rb]? = w.heap[rb]?)∧w'.os=w.os∧w'.output=w.output∧w'.tape=w.tape :=
 ⟨h.size,h.block,h.os,h.output,h.tape⟩
theorem AV {w:World}:w.heap.size≤w.heap.size∧(∀rb,rb<w.heap.size→w.heap[rb]? = w.heap[rb]?)∧w.os=w.os∧w.output=w.output∧w.tape=w.tape :=
 ⟨Nat.le_refl _,fun _ _=>rfl,rfl,rfl,rfl⟩
def D5 (f:Nat) (p:List Value→aE→Option Value):Prop :=
 KP Tryz.prog f∧∀L0 args H v,p args H=some v→∀m w gQ,Rel m L0 H w→RL m args gQ →
  Calls Tryz.prog f gQ.toArray w fun e w'=>∃rv,e = .returned rv∧RV m v rv∧w.heap.size≤w'.heap.size∧(∀rb,rb<w.heap.size→w'.heap[rb]? = w.heap[rb]?)∧w'.os=w.os∧w'.output=w.output∧w'.tape=w.tape
theorem RL.one {m:dO} {x:Value} {ys:List Value} (h:RL m [x] ys):∃y,ys=[y]∧RV m x y:=by
 match ys,h with
 | [y],h=>exact⟨y,rfl,h.jU.1⟩
 | [],h=>exact absurd h.1 (by simp)
 | _::_::_,h=>exact absurd h.1 (by simp)
theorem RL.two {m:dO} {x x':Value} {ys:List Value} (h:RL m [x,x'] ys):∃y y',ys=[y,y']∧RV m x y∧RV m x' y':=by
 match ys,h with
 | [y,y'],h=>exact⟨y,y',rfl,h.jU.1,h.jU.2.jU.1⟩
 | [],h=>exact absurd h.1 (by simp)
 | [_],h=>exact absurd h.1 (by simp)
 | _::_::_::_,h=>exact absurd h.1 (by simp)
theorem RL.three {m:dO} {x x' x'':Value} {ys:List Value} (h:RL m [x,x',x''] ys):∃y y' y'',ys=[y,y',y'']∧RV m x y∧RV m x' y'∧RV m x'' y'':=by
 match ys,h with
 | [y,y',y''],h=>exact⟨y,y',y'',rfl,h.jU.1,h.jU.2.jU.1,h.jU.2.jU.2.jU.1⟩
 | [],h=>exact absurd h.1 (by simp)
 | [_],h=>exact absurd h.1 (by simp)
 | [_,_],h=>exact absurd h.1 (by simp)
 | _::_::_::_::_,h=>exact absurd h.1 (by simp)
theorem ET {m:dO}:∀ {cs rs:List Value} {xs:List ByteArray},strCells cs=some xs→RL m cs rs→rs=xs.map .string
 |
  [],rs,xs,h,hr=>by
  cases h
  match rs,hr with
  | [],_=>rfl
  | _::_,hr=>exact absurd hr.1 (by simp)
 |
  c::cs,rs,xs,h,hr=>by
  match rs,hr with
  | [],hr=>exact absurd hr.1 (by simp)
  |
   r::rs,hr =>
   obtain⟨h1,h2⟩:=hr.jU
   cases c with
   |
    string s =>
    rw[strCells] at h
    cases hc:strCells cs with
    | none=>rw[hc] at h;cases h
    |
     some ys =>
     rw[hc] at h
     cases h
     cases h1
     rw[ET hc h2]
     rfl
   | _=>cases h
theorem Ja:D5 198 Dy:=by
 refine⟨⟨_,Tryz.func198,by kernel_rfl,by kernel_rfl⟩,fun L0 args H v hp m w gQ hR hr => ?_⟩
 unfold Dy at hp
 split at hp
 case h_2=>cases hp
 rename_i x
 split at hp
 case isFalse=>cases hp
 rename_i hx
 cases hp
 obtain⟨y,rfl,h1⟩:=hr.one
 cases h1
 refine(Any.bits_LeadingZeros32 alY x w hx.1 hx.2).mono ?_
 rintro e w' ⟨rfl,rfl⟩
 exact⟨_,rfl,.int _ _,AV⟩
theorem Mk:D5 215 GO:=by
 refine⟨⟨_,Tryz.func215,by kernel_rfl,by kernel_rfl⟩,fun L0 args H v hp m w gQ hR hr => ?_⟩
 unfold GO at hp
 split at hp
 case h_2=>cases hp
 rename_i s c
 split at hp
 case isFalse=>cases hp
 rename_i hx
 cases hp
 obtain⟨y,y',rfl,h1,h2⟩:=hr.two
 cases h1
 cases h2
 obtain⟨k,rfl⟩:∃k:Nat,c=k:=⟨c.toNat,by omega⟩
 refine(Any.strings_Repeat aoD agU s k w (by omega) hx.2.2).mono ?_
 rintro e w' ⟨rfl,hb⟩
 exact⟨_,rfl,.str _,Below.Ba hb⟩
theorem Sr:D5 217 RI:=by
 refine⟨⟨_,Tryz.func217,by kernel_rfl,by kernel_rfl⟩,fun L0 args H v hp m w gQ hR hr => ?_⟩
 unfold RI at hp
 split at hp
 case h_3=>cases hp
 ·cases hp
  obtain⟨y,y',rfl,h1,h2⟩:=hr.two
  cases h1
  cases h2
  refine(Any.strings_Join_none Vb Qu none 0 _ w).mono ?_
  rintro e w' ⟨rfl,rfl⟩
  exact⟨_,rfl,.str _,AV⟩
 ·rename_i b o n c sep
  obtain⟨y,y',rfl,h1,h2⟩:=hr.two
  cases h2
  cases h1 with
  |
   slice _ _ _ _ l ra rc h hn hc hx ha =>
   split at hp
   ·rename_i hn0
    subst hn0
    cases hp
    refine(Any.strings_Join_none Vb Qu (some ra) rc _ w).mono ?_
    rintro e w' ⟨rfl,rfl⟩
    exact⟨_,rfl,.str _,AV⟩
   ·rename_i hn0
    split at hp
    case h_2=>cases hp
    rename_i xs PV
    split at hp
    case isFalse=>cases hp
    rename_i R1
    cases hp
    obtain⟨cs,W1,X3⟩:=Option.bind_eq_some_iff.1 PV
    obtain⟨rs,r1,r2,_,r4⟩:=xO hR h W1
    have KA:=ET X3 r1
    subst KA
    rcases ha with ha | ⟨rfl,ha⟩
    ·omega
    obtain⟨arr,e0,fz0,v1,_⟩:=hR.valid b l h
    have BH:l.rb<w.heap.size:=(Array.getElem?_eq_some_iff.1 v1).1
    obtain⟨c1,c2,c3,c4⟩:=R1
    subst c1
    refine(Any.strings_Join Vb Qu l.rb (l.base+o) rc xs sep w (fun j x hj => ?_) BH c3 (by omega) c4).mono ?_
    ·have:=r4 j (.string x) (by simp[hj])
     rw[Addr.add_lit] at this
     exact this
    ·rintro e w' ⟨rfl,hb⟩
     exact⟨_,rfl,.str _,Below.Ba hb⟩
theorem UM {m:dO} {L0:Nat} {H:aE} {w:World} (hR:Rel m L0 H w):Lib.TabIs Tryz.prog w "internal/strconv.uint64pow10" .u64 Lib.pow10Tab:=by
 obtain⟨e,fz,h⟩:=(hR.Dw (3,(Lib.pow10Tab.map fun z=>Value.int .u64 z).toArray) (by simp[agO])).1
 have hg:Tryz.prog.globalNamed "internal/strconv.uint64pow10"=some 3:=by kernel_rfl
 unfold Lib.TabIs World.var?
 rw[hg]
 simp only[Option.bind_some,h]
theorem Q3:D5 214 uL:=by
 refine⟨⟨_,Tryz.func214,by kernel_rfl,by kernel_rfl⟩,fun L0 args H v hp m w gQ hR hr => ?_⟩
 unfold uL at hp
 split at hp
 case h_2=>cases hp
 rename_i n b
 split at hp
 case isFalse=>cases hp
 rename_i hx
 cases hp
 obtain⟨y,y',rfl,h1,h2⟩:=hr.two
 cases h1
 cases h2
 obtain⟨rfl,h0,h1⟩:=hx
 obtain⟨u,rfl⟩:∃u:Nat,n=u:=⟨n.toNat,by omega⟩
 refine(ZK u (by omega) w (UM hR)).mono ?_
 rintro e w' ⟨rfl,hb⟩
 exact⟨_,rfl,.str _,Below.Ba hb⟩
theorem N6:D5 209 Pc:=by
 refine⟨⟨_,Tryz.func209,by kernel_rfl,by kernel_rfl⟩,fun L0 args H v hp m w gQ hR hr => ?_⟩
 unfold Pc at hp
 split at hp
 case h_2=>cases hp
 rename_i s p
 split at hp
 case h_2=>cases hp
 rename_i c hc
 cases hp
 obtain⟨y,y',rfl,h1,h2⟩:=hr.two
 cases h1
 cases h2
 have hp:p=⟨#[c]⟩:=by
  obtain⟨a⟩:=p
  obtain⟨l⟩:=a
  have:l=[c]:=hc
  rw[this]
 subst hp
 refine(Any.stringslite_Index_one alL s c w).mono ?_
 rintro e w' ⟨rfl,rfl⟩
 exact⟨_,rfl,.int _ _,AV⟩
theorem NW:D5 192 wT:=by
 refine⟨⟨_,Tryz.func192,by kernel_rfl,by kernel_rfl⟩,fun L0 args H v hp m w gQ hR hr => ?_⟩
 unfold wT at hp
 split at hp
 case h_2=>cases hp
 rename_i s b z
 split at hp
 case isFalse=>cases hp
 rename_i hx
 obtain⟨rfl,rfl,hs⟩:=hx
 split at hp
 case h_2=>cases hp
 rename_i u hu
 cases hp
 obtain⟨y,y',y'',rfl,h1,h2,h3⟩:=hr.three
 cases h1
 cases h2
 cases h3
 refine(Any.strconv_ParseUint_10_at64_ok ahS s hs u hu w).mono ?_
 have hv:∀m,RV m (.tuple #[.int .u64 (u:Int),.nilIface]) (.tuple #[.int .u64 (u:Int),.nilIface]):=fun m => .tuple _ _ rfl fun i hi=>by
  match i,hi with
  | 0,_=>exact .int _ _
  | 1,_=>exact .nilIface
  | n+2,hi=>exact absurd hi (by simp)
 rintro e w' ⟨rfl,rfl | rfl⟩
 ·exact⟨_,rfl,hv m,AV⟩
 ·exact⟨_,rfl,hv m,Below.Ba (Lib.bytesWorld_below _ _ _)⟩
theorem alS {L0:Nat}:ZB Tryz.prog cfg L0:=by
 intro f p hp
 have Cu:Jw f=some p:=hp
 unfold Jw at Cu
 split at Cu
 ·rename_i h;subst h;cases Cu;exact⟨Q3.1,Q3.2 L0⟩
 split at Cu
 ·rename_i h;subst h;cases Cu;exact⟨Mk.1,Mk.2 L0⟩
 split at Cu
 ·rename_i h;subst h;cases Cu;exact⟨Sr.1,Sr.2 L0⟩
 split at Cu
 ·rename_i h;subst h;cases Cu;exact⟨Ja.1,Ja.2 L0⟩
 split at Cu
 ·rename_i h;subst h;cases Cu;exact⟨N6.1,N6.2 L0⟩
 split at Cu
 ·rename_i h;subst h;cases Cu;exact⟨NW.1,NW.2 L0⟩
 cases Cu
end Go.PM
namespace Go.PM
open Go.ChangeShapes Go.WideShapes Go.ChangeAt Go.RowKit
open Go.Proofs
structure In (m:dO) (H:aE) (W:World):Prop where
 YV:∀b l,m b=some l→b<H.length
 valid:∀b l,m b=some l→∃arr e fz,W.heap[l.rb]? = some (.cells arr e fz)∧arr.size=l.Pw
 row:∀b l cs e p,m b=some l→H[b]? = some (.row cs e p)→l.kJ=e∧l.Sw=p∧l.base+cs.length≤l.Pw ∧
  ∀i,i<cs.length→∃rv,W.cell? ⟨l.rb,l.base+i,none⟩=some rv∧RV m (cs.getD i Go.undef) rv∧PM.fS (cs.getD i Go.undef)=true
section
variable {m:dO} {H:aE} {W:World}
theorem In.empty:In (fun _=>none) [] W:=⟨fun _ _ h=>(by cases h),fun _ _ h=>(by cases h),fun _ _ _ _ _ h=>(by cases h)⟩
theorem In.rel (h:In m H W) (hg:Ps W):Rel m H.length H W :=
 ⟨fun b l hb=>by
  obtain⟨arr,e,fz,h1,h2⟩:=h.valid b l hb
  exact⟨arr,e,fz,h1,h2,fun hl=>by have:=h.YV b l hb;omega⟩,h.row,fun b1 b2 l1 l2 hl h1 _ _ _ _=>by have:=h.YV b1 l1 h1;omega,fun x hx=>⟨hg x hx,fun b l hb hm _=>by have:=h.YV b l hm;omega⟩⟩
theorem In.acQ (h:In m H W) {b:Nat} (hb:H.length≤b):m b=none:=by
 cases hm:m b with
 | none=>rfl
 | some l=>have:=h.YV b l hm;omega
theorem In.add (h:In m H W) {rb base kJ:Nat} {arr:Array Value} {e:TypeId} {fz:Nat×Nat} {cs:List Value} (hb:W.heap[rb]? = some (.cells arr e fz)) (sZ:base+cs.length≤arr.size)
  (hc:∀i,i<cs.length→∃rv,W.cell? ⟨rb,base+i,none⟩=some rv∧RV (tW m H.length ⟨rb,base,kJ,arr.size,false⟩) (cs.getD i Go.undef) rv∧PM.fS (cs.getD i Go.undef)=true) :
  In (tW m H.length ⟨rb,base,kJ,arr.size,false⟩) (H++[.row cs kJ false]) W:=by
 have hn:=h.acQ (Nat.le_refl H.length)
 refine⟨fun b l uB => ?_,fun b l uB => ?_,fun b l ds e' p uB kC => ?_⟩
 ·by_cases he:b=H.length
  ·subst he;simp
  ·rw[cV he] at uB
   have:=h.YV b l uB
   simp;omega
 ·by_cases he:b=H.length
  ·subst he
   rw[cE] at uB
   cases uB
   exact⟨arr,e,fz,hb,rfl⟩
  ·rw[cV he] at uB
   exact h.valid b l uB
 ·by_cases he:b=H.length
  ·subst he
   rw[cE] at uB
   cases uB
   rw[WL] at kC
   cases kC
   exact⟨rfl,rfl,sZ,hc⟩
  ·rw[cV he] at uB
   have bF:=h.YV b l uB
   rw[P9 bF] at kC
   obtain⟨h1,h2,h3,h4⟩:=h.row b l ds e' p uB kC
   refine⟨h1,h2,h3,fun i hi => ?_⟩
   obtain⟨rv,g1,g2,g3⟩:=h4 i hi
   exact⟨rv,g1,g2.mono (BC hn),g3⟩
end
theorem acY {f:Nat} {args gQ:List Value} {H H':aE} {v:Value} {m:dO} {W:World} (hI:In m H W) (hr:RL m args gQ) (h:qT f args H.length H=some (v,H')) (hg:Ps W:=by first | assumption | exact fun x hx=>nomatch hx) :
  Calls Tryz.prog f gQ.toArray W fun e W'=>∃m' rv,e = .returned rv∧RV m' v rv∧Below W.heap.size W W':=by
 obtain⟨n,hn⟩:=(uM cfg fR).1 h
 refine(IG Tryz.checked.mixed alS anA n f args H.length H v H' hn m W gQ (hI.rel hg) (Nat.le_refl _) (Nat.le_refl _) hr (fun b hb _=>hI.acQ hb)).2.mono ?_
 rintro e W' ⟨m',rv,rfl,h1,_,h3⟩
 refine⟨m',rv,rfl,h1,⟨h3.same.1,h3.same.2.2,h3.same.2.1,h3.size,fun k hk=>h3.cJ k hk fun b l hb hm _ => ?_⟩⟩
 rw[hI.acQ hb] at hm
 cases hm
end Go.PM
namespace Go.PM
def U2 (c:jW):Prop:=(0≤c.t∧c.t≤10000)∧(1≤c.w∧c.w≤1000)∧(0≤c.k∧c.k≤9)
instance (c:jW):Decidable (U2 c):=by unfold U2;infer_instance
def amR (cs:List jW) (i:Nat) (c:jW):Prop:=U2 c∧∀b,0<i→cs[i-1]? = some b→b.t≤c.t
def mO (cs:List jW):Prop:=(∀i c,cs[i]? = some c→amR cs i c)∧cs.length≤24
noncomputable instance (cs:List jW):Decidable (mO cs):=Classical.propDecidable _
theorem mO.at {cs:List jW} (h:mO cs) {i:Nat} {c:jW} (hc:cs[i]? = some c):(0≤c.t∧c.t≤10000)∧(1≤c.w∧c.w≤1000)∧(0≤c.k∧c.k≤9):=(h.1 i c hc).1
def w64 (n:Int):Prop := -9223372036854775808≤n∧n≤9223372036854775807
def wl (time:Int):List jW→Int→Int→Int
 | [],l,s=>max (l-(time-s)) 0
 | c::cs,l,s=>if time<c.t then max (l-(time-s)) 0 else wl time cs (max (l-(c.t-s)) 0+c.w) c.t
def azK (cs:List jW) (time:Int):Prop:=mO cs∧(0≤time∧time≤1000000000)
noncomputable instance (cs:List jW) (time:Int):Decidable (azK cs time):=Classical.propDecidable _
def atP (cs:List jW) (ls:List Int):Prop:=mO cs∧ls.length=cs.length∧∀x∈ls,0≤x∧x≤1000000000
noncomputable instance (cs:List jW) (ls:List Int):Decidable (atP cs ls):=Classical.propDecidable _
def aqZ (cs:List jW) (ls:List Int) (time:Int):Prop:=atP cs ls∧(0≤time∧time≤1000000000)
noncomputable instance (cs:List jW) (ls:List Int) (time:Int):Decidable (aqZ cs ls time):=Classical.propDecidable _
def axL (cs:List jW) (ps:List Int):Prop:=mO cs∧ps.length=cs.length∧∀x∈ps,0≤x∧x≤10000
noncomputable instance (cs:List jW) (ps:List Int):Decidable (axL cs ps):=Classical.propDecidable _
end Go.PM
namespace Go.Proofs.YtjmflicajplclaaGreatDoor
open Go.ChangeShapes Go.WideShapes Go.ChangeAt Go.RowKit Go.PM
theorem own:ownKnob Tryz.prog.godebug=none:=by kernel_rfl
theorem aaU {n:Int} (h:(Lit.int .i64 n).wf=true):w64 n:=by
 simp only[Lit.wf,Bool.and_eq_true,decide_eq_true_eq] at h
 exact h
theorem three {α:Type} {l:List α} (h:l.length=3):∃a b c,l=[a,b,c]:=by
 rcases l with _ | ⟨a,_ | ⟨b,_ | ⟨c,_ | ⟨d,l⟩⟩⟩⟩
 ·cases h
 ·cases h
 ·cases h
 ·exact⟨a,b,c,rfl⟩
 ·simp at h
end Go.Proofs.YtjmflicajplclaaGreatDoor
namespace Go.PM
def Cy:List Nat:=[]
 ++ [34]
 ++ [36]
 ++ [37]
 ++ [17]
 ++ [20]
 ++ [21]
 ++ [26]
 ++ [28]
 ++ [29]
 ++ [22]
 ++ [46]
 ++ [48]
 ++ [18]
 ++ [16]
 ++ [27]
 ++ [25]
 ++ [41]
 ++ [40]
 ++ [43]
 ++ [42]
 ++ [31]
 ++ [30]
 ++ [39]
 ++ [38]
 ++ [35]
 ++ [33]
 ++ [182]
 ++ [199]
 ++ [200]
 ++ [204]
 ++ [205]
 ++ [162]
 ++ [216]
 ++ [147]
 ++ [181]
 ++ [71]
 ++ [138]
 ++ [61]
 ++ [99]
 ++ [76]
 ++ [133]
 ++ [149]
 ++ [94]
 ++ [95]
 ++ [90]
 ++ [118]
 ++ [134]
 ++ [179]
 ++ [103]
 ++ [119]
 ++ [72]
 ++ [62]
 ++ [78]
 ++ [70]
 ++ [60]
end Go.PM
namespace Go.PM
inductive TK where
 | op
 | cl (e:Nat)
 | nil
 deriving DecidableEq
inductive VV where
 | any
 | sc (v:Value)
 | agg (cs:List VV)
 | dT (vs:List VV)
 | tree (es:List VV) (k:TK)
 | cN (x:VV) (off:Nat)
 | ref (b g o n c:Nat)
 | ptr (b g j off:Nat)
 | uP (f:Nat) (fT:List VV)
 deriving Inhabited
inductive cO where
 | dead
 | row (g:Nat) (es:List VV) (e:Nat) (w:Bool)
 deriving Inhabited
abbrev aA:=List cO
abbrev dM:=Nat→VV
def pL:VV := .dT []
def kB:Value→Bool
 | .bool _ | .int _ _ | .string _ | .pointer none | .nilFunc | .nilIface=>true
 | _=>false
def jB:Value→VV
 | .slice none 0 0 => .tree [] .nil
 | v=>if kB v then .sc v else .any
def inj:Value→VV
 | .agg cs => .agg (cs.toList.map jB)
 | .tuple vs=>if vs.isEmpty then .dT [] else .any
 | v=>jB v
def eH (ρ:dM):Operand→VV
 | .tmp t=>ρ t
 | .const v=>inj v
 | .global _ => .any
 | .func f => .uP f []
def J7 (ρ:dM):Option Nat→VV→dM
 | none,_=>ρ
 | some d,v=>fun k=>if k=d then v else ρ k
def aB:VV→List VV
 | .agg cs=>cs
 | v=>[v]
def elemOf:List VV→VV
 | [x]=>x
 | cs => .agg cs
def bP:VV→Bool
 | .any | .agg _ | .dT _=>false
 | _=>true
def uni:List VV→Bool
 | []=>true
 | x::xs=>xs.all fun y=>(aB y).length == (aB x).length
mutual
def aN:VV→Bool
 | .any=>false
 | .sc v=>kB v
 | .agg cs=>aM cs
 | .dT vs=>aM vs
 | .tree es k=>decide (k = .op)&&aM es&&uni es
 | .cN x _=>aN x
 | .ref .. => false
 | .ptr .. => false
 | .uP _ fT=>aM fT
def aM:List VV→Bool
 | []=>true
 | x::xs=>aN x&&aM xs
end
def Ad:VV→Bool
 | .agg [_]=>false
 | _=>true
mutual
def gJ:VV→Bool
 | .any=>false
 | .sc v=>kB v
 | .agg cs=>qB cs
 | .dT vs=>qB vs
 | .tree es k=>decide (k = .op)&&qB es&&uni es&&es.all Ad
 | .cN _ _=>false
 | .ref .. => false
 | .ptr .. => false
 | .uP _ _=>false
def qB:List VV→Bool
 | []=>true
 | x::xs=>gJ x&&qB xs
end
mutual
def K5:VV→Bool
 | .sc v=>kB v
 | .agg cs=>SS cs
 | .dT vs=>SS vs
 | _=>false
def SS:List VV→Bool
 | []=>true
 | x::xs=>K5 x&&SS xs
end
mutual
def below (k:Nat):VV→Bool
 | .any=>true
 | .sc _=>true
 | .agg cs=>lK k cs
 | .dT vs=>lK k vs
 | .tree es _=>lK k es
 | .cN x _=>below k x
 | .ref b _ _ _ _=>decide (b<k)
 | .ptr b _ _ _=>decide (b<k)
 | .uP _ fT=>lK k fT
def lK (k:Nat):List VV→Bool
 | []=>true
 | x::xs=>below k x&&lK k xs
end
def I6 (k:Nat) (v:VV):VV:=if below k v then v else .any
def aI (H:aA) (b g:Nat):Option (List VV×Nat×Bool) :=
 match H[b]? with
 | some (.row g' es e w)=>if g'=g then some (es,e,w) else none
 | _=>none
def qA:List CK→List VV→List VV→Option Bool
 | [],[],[]=>some true
 |
  k::ks,.sc x::xs,.sc y::ys=>match tC k x y with
  | some true=>qA ks xs ys
  | some false=>some false
  | none=>none
 | _,_,_=>none
def cY (cs:List VV) (o:Nat) (new:List VV):List VV:=cs.take o++new++cs.drop (o+new.length)
def isAny:VV→Bool
 | .any=>true
 | _=>false
def xQ (places:List (Nat×Nat)) (cells:List VV):List (Nat×VV)→Option (List VV)
 | []=>some cells
 |
  (i,v)::rest =>
  match places[i]? with
  | none=>none
  |
   some (off,size) =>
   if (aB v).length=size∧off+size≤cells.length∧isAny v=false then
    xQ places (cells.take off++aB v++cells.drop (off+size)) rest
   else none
def uD (e:Nat) (es:List VV):List (Nat×VV)→Option (List VV)
 | []=>some es
 | (i,v)::rest=>if i<es.length∧(aB v).length=e∧(aB v).all bP then uD e (es.set i v) rest else none
def Fu:Option VV→Option (Option Value)
 | none=>some none
 | some (.sc v)=>some (some v)
 | some _=>none
def dD (agg:Bool) (size:Nat) (x:VV) (o:Nat):Option VV :=
 if agg then (if o+size≤(aB x).length then some (.agg (((aB x).drop o).take size)) else none) else (aB x)[o]?
structure Fl where
 bf:Bool
 lr:Bool
def bT (agg:Bool) (size:Nat) (p:VV) (H:aA):Option VV :=
 match p with
 | .cN x o=>dD agg size x o
 |
  .ptr b g j o=>match aI H b g with
  |
   some (es,_,_)=>match es[j]? with
   | some x=>dD agg size x o
   | none=>none
  | none=>none
 | _=>none
def bK (size:Nat) (x i:VV) (H:aA):Option VV :=
 match x,i with
 |
  .tree es _,.sc (.int _ i)=>if 0≤i then match es[i.toNat]? with
  | some x=>if (aB x).length=size then some (.cN x 0) else none
  | none=>none
  else none
 |
  .ref b g o n _,.sc (.int _ i)=>match aI H b g with
  | some (_,e,_)=>if e=size∧0≤i∧i<n then some (.ptr b g (o+i.toNat) 0) else none
  | none=>none
 | _,_=>none
def FP (size:Nat) (x:VV) (l h m:Option VV) (H:aA):Option VV :=
 match Fu l,Fu h,Fu m with
 |
  some lv,some hv,some mv =>
  match x with
  |
   .tree (y::ys) _ =>
   if (aB y).length=size then
    match eU mv (some (ys.length+1)) (ys.length+1) with
    | none=>none
    |
     some m=>match eU hv (if mv.isSome then none else some (ys.length+1)) m with
     | none=>none
     |
      some h=>match eU lv (some 0) h with
      | none=>none
      | some l=>if mv.isSome∧m=l then some (.tree [] (.cl size)) else some (.tree (((y::ys).drop l).take (h-l)) .op)
   else none
  |
   .ref b g o n c =>
   match aI H b g with
   |
    some (_,e,_) =>
    if e=size then
     match eU mv (some c) c with
     | none=>none
     |
      some m=>match eU hv (if mv.isSome then none else some n) m with
      | none=>none
      |
       some h=>match eU lv (some 0) h with
       | none=>none
       | some l=>if mv.isSome∧m=l then some (.tree [] (.cl size)) else some (.ref b g (o+l) (h-l) (m-l))
    else none
   | none=>none
  | _=>none
 | _,_,_=>none
def IP:List VV→Option (List UInt8)
 | []=>some []
 | .sc (.int .u8 n)::r=>(IP r).map (UInt8.ofNat n.toNat :: ·)
 | _=>none
def cU (size:Nat) (y:VV) (H:aA):Option (List VV) :=
 match y with
 | .tree es _=>if es.all fun x=>(aB x).length == size&&(aB x).all bP then some es else none
 |
  .ref b g o n _=>match aI H b g with
  | some (es,e,_)=>if e=size∧o+n≤es.length∧(((es.drop o).take n).all fun x=>(aB x).all bP) then some ((es.drop o).take n) else none
  | none=>none
 | .sc (.string s)=>if size=1 then some (s.data.toList.map fun b => .sc (.int .u8 b.toNat)) else none
 | _=>none
def eW (lo size bytes:Nat) (x:VV) (new:List VV) (H:aA):Option (VV×aA) :=
 if 1≤bytes∧1≤size then
  match x with
  | .tree [] .nil=>if new.length=0 then some (x,H) else if new.length*bytes≤140737488355328 then some (.ref H.length 0 0 new.length new.length,H++[.row 0 new size true]) else none
  | .tree es (.cl e)=>if e=size then (if new.length=0 then some (x,H) else if (es.length+new.length)*bytes≤140737488355328 then some (.ref H.length 0 0 (es.length+new.length) (es.length+new.length),H++[.row 0 (es++new) size true]) else none) else none
  |
   .ref b g o n c=>match aI H b g with
   |
    some (es,e,true) =>
    if e=size∧lo≤b∧o+n≤es.length then
     if n+new.length≤c then
      if new.length=0 then some (x,H)
      else if o+n+new.length≤es.length then some (.ref b g o (n+new.length) c,H.set b (.row g (cY es (o+n) new) e true))
      else none
     else if (n+new.length)*bytes≤140737488355328 then some (.ref b (g+1) 0 (n+new.length) (n+new.length),H.set b (.row (g+1) ((es.drop o).take n++new) e true))
     else none
    else none
   | _=>none
  | _=>none
 else none
def bR (lo size:Nat) (p v:VV) (H:aA):Option aA :=
 match p with
 |
  .ptr b g j o=>match aI H b g with
  |
   some (es,e,true)=>match es[j]? with
   |
    some x =>
    if (aB v).length=size∧lo≤b∧(aB v).all bP then
     if o=0∧size=e then some (H.set b (.row g (es.set j v) e true))
     else if 2≤e∧o+size≤e then some (H.set b (.row g (es.set j (.agg (cY (aB x) o (aB v)))) e true))
     else none
    else none
   | none=>none
  | _=>none
 | _=>none
def Ay (zero:List Value) (bytes:Nat) (l c:VV) (H:aA):Option (VV×aA) :=
 match l,c with
 | .sc (.int .i64 l),.sc (.int .i64 c)=>if 0≤l∧l≤c∧c*bytes≤281474976710656∧c≤9223372036854775807 then
  some (.ref H.length 0 0 l.toNat c.toNat,H++[.row 0 (List.replicate c.toNat (elemOf (zero.map jB))) zero.length true]) else none
 | _,_=>none
def jC (lr:Bool) (zero:List Value) (n:Nat) (parts:List (Nat×VV)) (H:aA):Option (VV×aA) :=
 match uD zero.length (List.replicate n (elemOf (zero.map jB))) parts with
 | some es=>if (zero.map jB).all bP then (if n=0∨lr=true then some (.ref H.length 0 0 n n,H++[.row 0 es zero.length true]) else some (.tree es (.cl zero.length),H)) else none
 | none=>none
def IZ (lo size:Nat) (x y:VV) (H:aA):Option (VV×aA) :=
 match x,cU size y H with
 | .tree [] .nil,some _=>some (.sc (.int .i64 0),H)
 |
  .ref b g o d _,some new=>match aI H b g with
  | some (es,e,true)=>if e=size∧lo≤b∧o+(new.take d).length≤es.length then some (.sc (.int .i64 (new.take d).length),H.set b (.row g (cY es o (new.take d)) e true)) else none
  | _=>none
 | _,_=>none
def PH (lo:Nat) (zero:List Value) (x:VV) (H:aA):Option aA :=
 match x with
 |
  .ref b g o n _=>match aI H b g with
  | some (es,e,true)=>if n=0 then some H else if e=zero.length∧lo≤b∧o+n≤es.length∧(zero.map jB).all bP then some (H.set b (.row g (cY es o (List.replicate n (elemOf (zero.map jB)))) e true)) else none
  | _=>none
 | _=>none
def Fk (neg:Bool) (x:VV) (H:aA):Option VV :=
 match x with
 | .tree [] .nil=>some (.sc (.bool (true != neg)))
 | .tree [] (.cl _)=>some (.sc (.bool (false != neg)))
 | .tree (_::_) _=>some (.sc (.bool (false != neg)))
 | .ref b g _ _ _=>(aI H b g).map fun _ => .sc (.bool (false != neg))
 | _=>none
def oI (x:VV) (H:aA):Option VV :=
 match x with
 | .tree es _=>some (.sc (.int .i64 es.length))
 | .ref b g _ n _=>(aI H b g).map fun _ => .sc (.int .i64 n)
 | _=>none
def Ik (off:Nat) (x:VV) (H:aA):Option VV :=
 match x with
 | .cN x o=>some (.cN x (o+off))
 | .ptr b g j o=>(aI H b g).map fun _ => .ptr b g j (o+off)
 | _=>none
def W2 (x:VV) (H:aA):Option VV :=
 match x with
 | .cN x o=>some (.cN x o)
 | .ptr b g j o=>(aI H b g).map fun _ => .ptr b g j o
 | _=>none
def uU (x:VV) (l h:Option VV):Option VV :=
 match x,Fu l,Fu h with
 |
  .sc (.string s),some lv,some hv=>match zJ lv hv s.size with
  | some (l,h)=>some (.sc (.string (s.extract l h)))
  | none=>none
 | _,_,_=>none
def ahY (agg:Bool) (off size:Nat) (x:VV):Option VV :=
 match x with
 | .agg cs=>if agg then (if off+size≤cs.length then some (.agg ((cs.drop off).take size)) else none) else cs[off]?
 | _=>none
def MN (f:Value→Option Value) (x:VV):Option VV :=
 match x with
 | .sc a=>(f a).map .sc
 | _=>none
def IJ (f:Value→Value→Option Value) (x y:VV):Option VV :=
 match x,y with
 | .sc a,.sc b=>(f a b).map .sc
 | _,_=>none
def Rm (c a b:VV):Option VV :=
 match c with
 | .sc (.bool t)=>some (if t then a else b)
 | _=>none
def aeM (i:Nat) (x:VV):Option VV :=
 match x with
 | .dT vs=>vs[i]?
 | _=>none
def T4 (neg:Bool) (ks:List CK) (x y:VV):Option VV :=
 match x,y with
 | .agg a,.agg b=>(qA ks a b).map fun t => .sc (.bool (t != neg))
 | _,_=>none
def XS:Value→Option Value
 | .string s=>some (.string s)
 | _=>none
def yU:Value→Option Value
 | .string s=>some (.int .i64 s.size)
 | _=>none
def FX:Value→Value→Option Value
 | .string s,.int _ i=>if 0≤i∧i<s.size then some (.int .u8 ((s.data.toList.getD i.toNat 0).toNat:Int)) else none
 | _,_=>none
def vop (fl:Fl) (lo:Nat) (o:nK) (ρ:dM) (H:aA):Option (VV×aA) :=
 match o with
 | .mv x=>some (eH ρ x,H)
 | .pick c a b=>(Rm (eH ρ c) (eH ρ a) (eH ρ b)).map (·,H)
 | .bin op x y=>(IJ (dI op) (eH ρ x) (eH ρ y)).map (·,H)
 | .eqb neg x y=>(IJ (Nx neg) (eH ρ x) (eH ρ y)).map (·,H)
 | .isnil neg x=>(Fk neg (eH ρ x) H).map (·,H)
 | .eqagg neg ks x y=>(T4 neg ks (eH ρ x) (eH ρ y)).map (·,H)
 | .un op x=>(MN (pun op) (eH ρ x)).map (·,H)
 | .cvt k x=>(MN (UA k) (eH ρ x)).map (·,H)
 | .cvs x=>(MN XS (eH ρ x)).map (·,H)
 | .ext x i=>(aeM i (eH ρ x)).map (·,H)
 | .fld agg off size x=>(ahY agg off size (eH ρ x)).map (·,H)
 | .build zero places parts=>(xQ places (zero.map jB) (parts.map fun(i,x)=>(i,eH ρ x))).map fun cs=>(.agg cs,H)
 | .chk x=>(W2 (eH ρ x) H).map (·,H)
 | .faddr off x=>(Ik off (eH ρ x) H).map (·,H)
 | .iaddr size x i=>(bK size (eH ρ x) (eH ρ i) H).map (·,H)
 | .sidx x i=>(IJ FX (eH ρ x) (eH ρ i)).map (·,H)
 | .ssub x l h=>(uU (eH ρ x) (l.map (eH ρ)) (h.map (eH ρ))).map (·,H)
 | .mkfn f fT=>some (.uP f (fT.map (eH ρ)),H)
 | .len x=>(oI (eH ρ x) H).map (·,H)
 | .slen x=>(MN yU (eH ρ x)).map (·,H)
 | .min x y=>(IJ Sh (eH ρ x) (eH ρ y)).map (·,H)
 | .max x y=>(IJ SA (eH ρ x) (eH ρ y)).map (·,H)
 | .load agg size p=>(bT agg size (eH ρ p) H).map (·,H)
 | .sub size x l h m=>(FP size (eH ρ x) (l.map (eH ρ)) (h.map (eH ρ)) (m.map (eH ρ)) H).map (·,H)
 |
  .b2s x=>match eH ρ x with
  | .sc _=>none
  |
   y=>match cU 1 y H with
   | some es=>(IP es).map fun bs=>(.sc (.string ⟨bs.toArray⟩),H)
   | none=>none
 | .new zero=>if (zero.map jB).all bP then some (.ptr H.length 0 0 0,H++[.row 0 [elemOf (zero.map jB)] zero.length true]) else none
 | .box x=>if (aB (eH ρ x)).all bP then (if fl.bf then some (.cN (eH ρ x) 0,H) else some (.ptr H.length 0 0 0,H++[.row 0 [eH ρ x] (aB (eH ρ x)).length true])) else none
 | .make zero bytes l c=>if (zero.map jB).all bP then Ay zero bytes (eH ρ l) (eH ρ c) H else none
 | .lit zero n parts=>jC fl.lr zero n (parts.map fun(i,x)=>(i,eH ρ x)) H
 | .store size p v=>(bR lo size (eH ρ p) (eH ρ v) H).map fun H'=>(pL,H')
 |
  .app size bytes x y=>match cU size (eH ρ y) H with
  | some new=>eW lo size bytes (eH ρ x) new H
  | none=>none
 |
  .appz zero bytes x n=>match eH ρ n with
  | .sc (.int .i64 n)=>if 0≤n∧n*bytes≤140737488355328∧(zero.map jB).all bP then eW lo zero.length bytes (eH ρ x) (List.replicate n.toNat (elemOf (zero.map jB))) H else none
  | _=>none
 | .copy size x y=>IZ lo size (eH ρ x) (eH ρ y) H
 | .clear zero x=>(PH lo zero (eH ρ x) H).map fun H'=>(pL,H')
 | _=>none
inductive VBx where
 | no
 | row (i:Nat) (w:Bool)
 | Bj (i:Nat)
 | tree
 | bad
def AO (H:aA):VV→VBx
 | .tree [] .nil => .no
 | .tree _ _ => .tree
 | .cN _ _ => .tree
 |
  .ref b g _ _ _=>match aI H b g with
  | some (_,_,w) => .row b w
  | none => .Bj b
 |
  .ptr b g _ _=>match aI H b g with
  | some (_,_,w) => .row b w
  | none => .Bj b
 | .any => .bad
 | _ => .no
def AZ (H:aA) (x y:VV):Bool :=
 match AO H x,AO H y with
 | .bad,_=>false
 | _,.bad=>false
 | .no,_=>true
 | _,.no=>true
 | .row i _,.row j _=>i != j
 | .row i _,.Bj j=>i != j
 | .Bj i,.row j _=>i != j
 | .Bj _,.Bj _=>false
 | .Bj _,.tree=>false
 | .tree,.Bj _=>false
 | .row _ w,.tree=>w
 | .tree,.row _ w=>w
 | .tree,.tree=>false
def tD (ρ:dM) (H:aA) (c:Operand×Operand):Bool:=AZ H (eH ρ c.1) (eH ρ c.2)
def Bk (g:Option (Nat×Bool)) (ρ:dM):Option Bool :=
 match g with
 | none=>some true
 |
  some (t,want)=>match ρ t with
  | .sc (.bool b)=>some (b == want)
  | .dT _=>some false
  | _=>none
def fz:Nat→aA→VV→Option VV
 | 0,_,_=>none
 |
  d+1,H,v =>
  if aN v then some v else
  match v with
  | .agg cs=>(cs.mapM (fz d H)).map .agg
  | .dT vs=>(vs.mapM (fz d H)).map .dT
  | .tree es _=>(es.mapM (fz d H)).map (.tree · .op)
  | .cN x o=>(fz d H x).map (.cN · o)
  |
   .ref b g o n c=>match aI H b g with
   | some (es,_,_)=>if o+n≤es.length∧n≤c then (((es.drop o).take n).mapM (fz d H)).map (.tree · .op) else none
   | none=>none
  |
   .ptr b g j o=>match aI H b g with
   |
    some (es,_,_)=>match es[j]? with
    | some x=>(fz d H x).map (.cN · o)
    | none=>none
   | none=>none
  | .uP f fT=>(fT.mapM (fz d H)).map (.uP f ·)
  | _=>none
def hJ:Nat→aA→VV→List Nat
 | 0,_,_=>[]
 |
  d+1,H,v =>
  if aN v then [] else
  match v with
  | .agg cs=>cs.flatMap (hJ d H)
  | .dT vs=>vs.flatMap (hJ d H)
  | .tree es _=>es.flatMap (hJ d H)
  | .cN x _=>hJ d H x
  |
   .ref b g o n _=>match aI H b g with
   | some (es,_,_)=>b::((es.drop o).take n).flatMap (hJ d H)
   | none=>[]
  |
   .ptr b g j _=>match aI H b g with
   |
    some (es,_,_)=>match es[j]? with
    | some x=>b::hJ d H x
    | none=>[]
   | none=>[]
  | .uP _ fT=>fT.flatMap (hJ d H)
  | _=>[]
def BG (H:aA) (b:Nat):aA :=
 match H[b]? with
 | some (.row g es e _)=>H.set b (.row g es e false)
 | _=>H
def dA (H:aA) (ids:List Nat):aA:=ids.foldl BG H
def depth:Nat:=8
end Go.PM