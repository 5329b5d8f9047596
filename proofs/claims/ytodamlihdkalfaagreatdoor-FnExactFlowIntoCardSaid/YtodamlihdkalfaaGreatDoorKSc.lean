/- Texts of a claim, in one: part 3. -/
import Derived.Lib.ItoaNum
import Derived.Lib.Join
import Derived.Lib.BitFns
import Derived.Lib.Repeat
import Derived.Lib.Bytealg
import Derived.Lib.ParseIntB
import Derived.Test.YtodamlihdkalfaaGreatDoorChecked
import Derived.Laws.BitsLemmas
import Derived.Shelf.Strings.OnBuilder
import Derived.Shelf.Strings.Repeat
import Derived.Shelf.Small.Bits
import Derived.Shelf.Strconv.Itoa1
import Derived.Shelf.Strconv.Itoa2
import Derived.Shelf.LaysM
import Derived.Shelf.Strings.Search2
import Derived.Shelf.Pu.ParseUintPublic10
import Derived.KernelRfl
import Derived.Test.YtodamlihdkalfaaGreatDoorProg
import Derived.Lib.Walk
import Derived.Lib.ItoaMem
import Derived.WalkKit
import Derived.BigCall
import Derived.BigGuard
import Derived.Below
import Derived.Shelf.Strings.Search2
import Derived.Shelf.Pu.ParseUintPublic10
import Derived.Shelf.Strings.OnBuilder
import Derived.Shelf.Strings.Repeat
import Derived.Shelf.Small.Bits
import Derived.ProofKit
import Derived.OpenShut
import Derived.ShutString
import Derived.ChangeOld
import Derived.Carry
import Derived.SizedLaws
import Derived.Test.YtodamlihdkalfaaGreatDoorRows
import Derived.Test.YtodamlihdkalfaaGreatDoorKSb
set_option linter.unusedSimpArgs false
set_option linter.unusedVariables false
namespace Go.PM
def anE:Ex→Exit
 | .normal => .normal
 | .exit id => .exit id
 | .ret => .ret
section
variable {P:Program} {E:AK} {n:Nat} {call:gE} {lo L0:Nat}
def N6 (P:Program) (n lo L0:Nat) (c:Code) (run:Env→aE→Option (Ex×Env×aE)):Prop :=
 ∀ρ H x aZ H',run ρ H=some (x,aZ,H')→∀m a w,G0 n L0 m ρ H a w→L0≤H.length→(∀b,H.length≤b→b<H'.length→m b=none) →
  ∀Q:Exit→Act→World→Prop,(∀m' a' w',G0 n L0 m' aZ H' a' w'→Trans lo m H w m' H' w'→Q (anE x) a' w')→c.wp P Q a w
theorem Yx {c:Code} {run:Env→aE→Option (Ex×Env×aE)} (hc:N6 P n lo L0 c run) (he:∀ρ H x aZ H',run ρ H=some (x,aZ,H')→Ext lo H H') (N:Nat):N6 P n lo L0 (.loop c) (xC run N):=by
 intro ρ H x aZ H' hr m a w h hl hf Q hQ
 apply wp_loop_rounds N
 have key:∀N ρ H,xC run N ρ H=some (x,aZ,H')→∀m a w,G0 n L0 m ρ H a w→L0≤H.length→(∀b,H.length≤b→b<H'.length→m b=none) →
   (∀m' a' w',G0 n L0 m' aZ H' a' w'→Trans lo m H w m' H' w'→Q (anE x) a' w')→Code.rounds P c Q N a w:=by
  intro N
  induction N with
  | zero=>intro ρ H h;cases h
  |
   succ N ih =>
   intro ρ H hr m a w h hl hf hQ
   rw[rounds_succ]
   rw[xC] at hr
   split at hr
   ·rename_i wO H1 h1
    have e1:=he _ _ _ _ _ h1
    have e2:=Gy he N hr
    refine hc ρ H _ wO H1 h1 m a w h hl (fun b Ao hb2=>hf b Ao (Nat.lt_of_lt_of_le hb2 e2.len)) _ fun m1 a1 w1 hh hT => ?_
    exact ih wO H1 hr m1 a1 w1 hh (Nat.le_trans hl e1.len) (hT.fresh e1.len hf) fun m2 a2 w2 h2 hT2=>hQ m2 a2 w2 h2 (Trans.trans hf e1 e2 hT hT2)
   ·rename_i fR
    refine hc ρ H _ aZ H' hr m a w h hl hf _ fun m1 a1 w1 hh hT => ?_
    have:=hQ m1 a1 w1 hh hT
    cases x with
    | normal=>exact absurd hr (fR aZ H')
    | exit id=>exact this
    | ret=>exact this
 exact key N ρ H hr m a w h hl hf hQ
theorem oJ (CM:P.follows .mixedOrders=true) (nS:wL P L0 call) (qU:qX call) (iC:L0≤lo) (N:Nat):∀(c:Code) (pc:aD),iM P E n c=some pc→N6 P n lo L0 c (dC call lo N pc)
 |
  .skip,pc,hp=>by
  cases hp
  intro ρ H x aZ H' hr m a w h hl hf Q hQ
  cases hr
  exact wp_skip (hQ m a w h (Trans.refl _ _ _ _))
 |
  .region id ops draw,pc,hp=>by
  rw[iM] at hp
  cases hpr:wZ P E n ops draw with
  | none=>rw[hpr] at hp;cases hp
  |
   some sR =>
   rw[hpr] at hp
   cases hp
   intro ρ H x aZ H' hr m a w h hl hf Q hQ
   rw[dC] at hr
   cases hs:gV call lo sR ρ H with
   | none=>rw[hs] at hr;cases hr
   |
    some q =>
    obtain⟨wO,H1⟩:=q
    rw[hs] at hr
    cases hr
    exact Ti CM nS qU hpr hs h iC hl hf hQ
 |
  .seq x y,pc,hp=>by
  rw[iM] at hp
  split at hp
  ·rename_i px py UB hpy
   cases hp
   intro ρ H e aZ H' hr m a w h hl hf Q hQ
   rw[dC] at hr
   apply wp_seq
   split at hr
   ·rename_i wO H1 h1
    have e1:=jT qU px h1
    have e2:=jT qU py hr
    refine oJ CM nS qU iC N x px UB ρ H _ wO H1 h1 m a w h hl (fun b Ao hb2=>hf b Ao (Nat.lt_of_lt_of_le hb2 e2.len)) _ fun m1 a1 w1 hh hT => ?_
    exact oJ CM nS qU iC N y py hpy wO H1 _ aZ H' hr m1 a1 w1 hh (Nat.le_trans hl e1.len) (hT.fresh e1.len hf) Q fun m2 a2 w2 h2 hT2=>hQ m2 a2 w2 h2 (Trans.trans hf e1 e2 hT hT2)
   ·rename_i fR
    refine oJ CM nS qU iC N x px UB ρ H _ aZ H' hr m a w h hl hf _ fun m1 a1 w1 hh hT => ?_
    have:=hQ m1 a1 w1 hh hT
    cases e with
    | normal=>exact absurd hr (fR aZ H')
    | exit id=>exact this
    | ret=>exact this
  ·cases hp
 |
  .cond o x y,pc,hp=>by
  rw[iM] at hp
  split at hp
  ·rename_i zR
   split at hp
   ·rename_i px py UB hpy
    cases hp
    intro ρ H e aZ H' hr m a w h hl hf Q hQ
    rw[dC] at hr
    split at hr
    ·rename_i t ht
     have S9:=Sv (a:=a) (m:=m) (ρ:=ρ) zR fun t _=>h.env t
     rw[ht] at S9
     generalize hev:a.eval o=ro at S9
     cases S9
     refine wp_cond hev ?_
     cases t with
     | true=>exact oJ CM nS qU iC N x px UB ρ H _ aZ H' hr m a w h hl hf Q hQ
     | false=>exact oJ CM nS qU iC N y py hpy ρ H _ aZ H' hr m a w h hl hf Q hQ
    ·cases hr
   ·cases hp
  ·cases hp
 |
  .block id x,pc,hp=>by
  rw[iM] at hp
  cases UB:iM P E n x with
  | none=>rw[UB] at hp;cases hp
  |
   some px =>
   rw[UB] at hp
   cases hp
   intro ρ H e aZ H' hr m a w h hl hf Q hQ
   rw[dC] at hr
   apply wp_block
   split at hr
   ·rename_i PF wO H1 h1
    split at hr
    ·rename_i hid
     cases hr
     refine oJ CM nS qU iC N x px UB ρ H _ aZ H' h1 m a w h hl hf _ fun m1 a1 w1 hh hT => ?_
     have:=hQ m1 a1 w1 hh hT
     show Exit.inBlock id Q (.exit PF) a1 w1
     simp only[Exit.inBlock,if_pos hid]
     exact this
    ·rename_i hid
     cases hr
     refine oJ CM nS qU iC N x px UB ρ H _ aZ H' h1 m a w h hl hf _ fun m1 a1 w1 hh hT => ?_
     have:=hQ m1 a1 w1 hh hT
     show Exit.inBlock id Q (.exit PF) a1 w1
     simp only[Exit.inBlock,if_neg hid]
     exact this
   ·rename_i fR
    refine oJ CM nS qU iC N x px UB ρ H _ aZ H' hr m a w h hl hf _ fun m1 a1 w1 hh hT => ?_
    have:=hQ m1 a1 w1 hh hT
    cases e with
    | normal=>exact this
    | exit PF=>exact absurd hr (fR PF aZ H')
    | ret=>exact this
 |
  .loop x,pc,hp=>by
  rw[iM] at hp
  cases UB:iM P E n x with
  | none=>rw[UB] at hp;cases hp
  |
   some px =>
   rw[UB] at hp
   cases hp
   have hx:=oJ CM nS qU iC N x px UB
   intro ρ H e aZ H' hr
   rw[dC] at hr
   exact Yx hx (fun ρ H x aZ H' h=>jT qU px h) N ρ H e aZ H' hr
 |
  .exit id,pc,hp=>by
  cases hp
  intro ρ H x aZ H' hr m a w h hl hf Q hQ
  cases hr
  exact wp_exit (hQ m a w h (Trans.refl _ _ _ _))
 |
  .ret,pc,hp=>by
  cases hp
  intro ρ H x aZ H' hr m a w h hl hf Q hQ
  cases hr
  exact wp_ret (hQ m a w h (Trans.refl _ _ _ _))
 | .rangeFunc ..,pc,hp=>by cases hp
 | .scope _,pc,hp=>by cases hp
 | .label _,pc,hp=>by cases hp
 | .goto _,pc,hp=>by cases hp
 | .refuse _,pc,hp=>by cases hp
def zV (P:Program):ResultVar→Option AX
 | .tmp t=>some (.tmp t)
 | .cell t ty=>(lZ P ty).map fun(agg,size,_,_) => .cell t agg size
def K6 (a:Act):ResultVar→Sem Value
 | .tmp t=>pure (a.tmps.getD t undef)
 | .cell x t=>do loadVar t (←asAddr (a.tmps.getD x undef))
theorem asG {m:cZ} {ρ:Env} {H:aE} {a:Act} {w:World} (h:G0 n L0 m ρ H a w) {r:ResultVar} {pr:AX} (hp:zV P r=some pr) {v:Value} (hv:TM ρ H pr=some v) :
  ∃rv,RV m v rv∧(K6 a r).run P w = .ok rv w:=by
 cases r with
 |
  tmp t =>
  cases hp
  cases hv
  exact⟨_,h.env t,rfl⟩
 |
  cell x t =>
  simp only[zV] at hp
  cases ht:lZ P t with
  | none=>rw[ht] at hp;cases hp
  |
   some q =>
   obtain⟨agg,size,z,nb⟩:=q
   rw[ht] at hp
   cases hp
   obtain⟨rv,h1,h2⟩:=M6 ht hv h.rel (h.env x)
   refine⟨rv,h1,?_⟩
   unfold K6
   have hpv:=h.env x
   simp only[TM,nO] at hv
   split at hv
   ·rename_i b o hb
    rw[hb] at hpv
    show (do loadVar t (←asAddr (a.tmps.getD x undef)):Sem Value).run P w=_
    generalize a.tmps.getD x undef=rp at h2 hpv ⊢
    cases hpv
    exact h2
   ·cases hv
theorem YV {m:cZ} {ρ:Env} {H:aE} {a:Act} {w:World} (h:G0 n L0 m ρ H a w):∀ {rs:List ResultVar} {prs:List AX} {vs:List Value},rs.mapM (zV P)=some prs→BJ ρ H prs=some vs →
  ∃W3,RL m vs W3∧(rs.mapM (K6 a)).run P w = .ok W3 w
 |
  [],prs,vs,hp,hv=>by
  simp at hp
  subst hp
  cases hv
  exact⟨[],RL.nil m,rfl⟩
 |
  r::rs,prs,vs,hp,hv=>by
  simp only[List.mapM_cons,Option.pure_def,Option.bind_eq_bind] at hp
  cases h1:zV P r with
  | none=>rw[h1] at hp;cases hp
  |
   some pr =>
   rw[h1] at hp
   cases h2:rs.mapM (zV P) with
   | none=>rw[h2] at hp;cases hp
   |
    some aAU =>
    rw[h2] at hp
    cases hp
    simp only[BJ] at hv
    split at hv
    ·rename_i v vs' hv1 hv2
     cases hv
     obtain⟨rv,g1,g2⟩:=asG h h1 hv1
     obtain⟨W3,g3,g4⟩:=YV h h2 hv2
     refine⟨rv::W3,RL.cons g1 g3,?_⟩
     rw[List.mapM_cons,Sem.run_bind,g2,Result.andThen_ok,Sem.run_bind,g4]
     rfl
    ·cases hv
theorem Il {m:cZ} {ρ:Env} {H:aE} {a:Act} {w:World} (h:G0 n L0 m ρ H a w) {fn:Func} {prs:List AX} (hp:fn.results.toList.mapM (zV P)=some prs) {v:Value} (hv:qI prs ρ H=some v) :
  ∃rv,RV m v rv∧(results fn a.tmps).run P w = .ok rv w:=by
 unfold qI at hv
 cases lP:BJ ρ H prs with
 | none=>rw[lP] at hv;cases hv
 |
  some vs =>
  obtain⟨W3,h1,h2⟩:=YV h hp lP
  rw[lP] at hv
  have oW:∀rv,(if h:W3.toArray.size=1 then W3.toArray[0] else .tuple W3.toArray)=rv→(results fn a.tmps).run P w = .ok rv w:=by
   intro rv S9
   have e:results fn a.tmps=(do let vs ←fn.results.mapM (K6 a);pure (if h:vs.size=1 then vs[0] else .tuple vs)):=by
    unfold results
    congr 2
   rw[e,Array.mapM_eq_mapM_toList,Sem.run_bind]
   have:(List.toArray <$> fn.results.toList.mapM (K6 a)).run P w = .ok W3.toArray w:=by
    rw[map_eq_pure_bind,Sem.run_bind,h2]
    rfl
   rw[this,←S9]
   rfl
  clear h2 lP
  rcases vs with _ | ⟨x,_ | ⟨y,xs⟩⟩
  ·rcases W3 with _ | ⟨x',ys⟩
   ·cases hv
    exact⟨_,h1.UF,oW _ rfl⟩
   ·cases h1.1
  ·rcases W3 with _ | ⟨x',_ | ⟨y',ys⟩⟩
   ·cases h1.1
   ·cases hv
    exact⟨x',h1.kA.1,oW x' rfl⟩
   ·cases h1.1
  ·rcases W3 with _ | ⟨x',_ | ⟨y',ys⟩⟩
   ·cases h1.1
   ·cases h1.1
   ·cases hv
    exact⟨_,h1.UF,oW _ (by simp)⟩
end
end Go.PM
namespace Go.PM
def XT (P:Program) (E:AK) (L0:Nat):Prop :=
 ∀f p,E.Ay f=some p→KJ P f∧∀args H v,p args H=some v→∀m w gP,Rel m L0 H w→RL m args gP →
  Calls P f gP.toArray w fun e w'=>∃rv,e = .returned rv∧RV m v rv∧w.heap.size≤w'.heap.size∧(∀rb,rb<w.heap.size→w'.heap[rb]? = w.heap[rb]?)∧w'.os=w.os∧w'.output=w.output∧w'.tape=w.tape
theorem Rel.more {m:cZ} {L0:Nat} {H:aE} {w w':World} (h:Rel m L0 H w) (hk:∀rb,rb<w.heap.size→w'.heap[rb]? = w.heap[rb]?):Rel m L0 H w':=by
 have hv:∀b l,m b=some l→l.rb<w.heap.size:=fun b l hb=>by
  obtain⟨arr,e,fz,h1,_⟩:=h.valid b l hb
  exact(Array.getElem?_eq_some_iff.1 h1).1
 refine⟨fun b l hb=>by rw[hk _ (hv b l hb)];exact h.valid b l hb,fun b l cs e p hm hb => ?_,h.inj,fun x hx=>⟨?_,(h.CD x hx).2⟩⟩
 ·obtain⟨h1,h2,h3,h4⟩:=h.row b l cs e p hm hb
  refine⟨h1,h2,h3,fun i hi => ?_⟩
  obtain⟨rv,g1,g2⟩:=h4 i hi
  refine⟨rv,?_,g2⟩
  rw[←g1]
  unfold World.cell?
  simp only[hk _ (hv b l hm)]
 ·obtain⟨e,fz,g1⟩:=(h.CD x hx).1
  exact⟨e,fz,by rw[hk _ (Array.getElem?_eq_some_iff.1 g1).1];exact g1⟩
theorem Zk {P:Program} {E:AK} {f:Nat} {pf:aV} (h:QA P E f=some pf):∃fn c,P.funcs[f]? = some fn∧fn.body=some c∧(fn.name == "runtime.NumGoroutine")=false∧fn.results.toList.mapM (zV P)=some pf.res∧iM P E fn.ntmps c=some pf.body∧pf.ntmps=fn.ntmps:=by
 unfold QA at h
 cases hf:P.funcs[f]? with
 | none=>rw[hf] at h;cases h
 |
  some fn =>
  rw[hf] at h
  have h':JY P E fn=some pf:=h
  unfold JY at h'
  cases hb:fn.body with
  | none=>rw[hb] at h';cases h'
  |
   some c =>
   rw[hb] at h'
   simp only at h'
   split at h'
   ·cases h'
   ·rename_i YO
    split at h'
    ·cases h'
    ·rename_i res Sg
     cases hc:iM P E fn.ntmps c with
     | none=>rw[hc] at h';cases h'
     |
      some body =>
      rw[hc] at h'
      cases h'
      refine⟨fn,c,rfl,hb,by simpa using YO,?_,hc,rfl⟩
      have e:(fun(r:ResultVar)=>match r with
       | .tmp t=>some (AX.tmp t)
       | .cell t ty=>(lZ P ty).map fun(agg,size,_,_) => .cell t agg size)=zV P:=by
       funext r
       cases r<;>rfl
      rw[←e]
      exact Sg
theorem Hz {P:Program} {E:AK} {T:Zu} {L0:Nat} (CM:P.follows .mixedOrders=true) (ZM:XT P E L0) (hT:∀f pf,T f=some pf→QA P E f=some pf):∀n,wL P L0 (lX E T n)
 | 0=>fun f args lo H v H' h=>by cases h
 |
  n+1=>fun f args lo H v H' h m w gP hR iC hlen RH hf=>by
  have qU:=Du E T n
  rw[lX] at h
  split at h
  ·rename_i p hp
   obtain⟨hco,arW⟩:=ZM f p hp
   refine⟨hco,?_⟩
   cases hpv:p args H with
   | none=>rw[hpv] at h;cases h
   |
    some u =>
    rw[hpv] at h
    cases h
    refine(arW args H v hpv m w gP hR RH).mono ?_
    rintro e w' ⟨rv,rfl,h1,h2,h3,h4⟩
    exact⟨m,rv,rfl,h1,hR.more h3,fun _ _ h=>h,fun b l hb hn=>(by rw[hb] at hn;cases hn),h2,fun rb CQ _=>h3 rb CQ,h4⟩
  ·split at h
   ·cases h
   ·rename_i pf hpf
    obtain⟨fn,c,h1,h2,h3,h4,h5,h6⟩:=Zk (hT _ _ hpf)
    split at h
    case isFalse=>cases h
    rename_i wW
    refine⟨⟨fn,h1,h3,by rw[h2];rfl⟩,calls_of_wp h1 h2 ?_⟩
    have CJ:gP.toArray.size≤fn.ntmps:=by
     have:=RH.1
     simp;omega
    have hH:G0 fn.ntmps L0 m (Wi args) H { tmps:=gP.toArray++Array.replicate (fn.ntmps-gP.toArray.size) undef,defers:=[] } w:=by
     refine⟨by simp at CJ ⊢;omega,rfl,fun t => ?_,hR⟩
     rcases Nat.lt_or_ge t args.length with ht | ht
     ·have h7:=RH.2 t ht
      have ht':t<gP.length:=by rw[←RH.1];exact ht
      have e:(gP.toArray++Array.replicate (fn.ntmps-gP.toArray.size) undef).getD t undef=gP.getD t undef:=by
       rw[Array.getD_eq_getD_getElem?,Array.getElem?_append_left (by simpa using ht')]
       simp
      show RV m (args.getD t undef) _
      rw[e]
      exact h7
     ·have e1:args.getD t undef=undef:=by simp[List.getD_eq_getElem?_getD,List.getElem?_eq_none ht]
      have ht':gP.length≤t:=by rw[←RH.1];exact ht
      have e2:(gP.toArray++Array.replicate (fn.ntmps-gP.toArray.size) undef).getD t undef=undef:=by
       rw[Array.getD_eq_getD_getElem?,Array.getElem?_append_right (by simpa using ht')]
       rw[Array.getElem?_replicate]
       split<;>rfl
      show RV m (args.getD t undef) _
      rw[e1,e2]
      exact RV.undef m
    split at h
    ·rename_i wO H1 oW
     cases hr:qI pf.res wO H1 with
     | none=>rw[hr] at h;cases h
     |
      some u =>
      rw[hr] at h
      cases h
      refine oJ CM (Hz CM ZM hT n) qU iC n c pf.body h5 _ _ _ _ _ oW m _ w hH hlen hf _ fun m' a' w' hh hTr => ?_
      obtain⟨rv,g1,g2⟩:=Il hh h4 hr
      exact⟨hh.defs,rv,g2,m',rv,rfl,g1,hh.rel,hTr⟩
    ·rename_i wO H1 oW
     cases hr:qI pf.res wO H1 with
     | none=>rw[hr] at h;cases h
     |
      some u =>
      rw[hr] at h
      cases h
      refine oJ CM (Hz CM ZM hT n) qU iC n c pf.body h5 _ _ _ _ _ oW m _ w hH hlen hf _ fun m' a' w' hh hTr => ?_
      obtain⟨rv,g1,g2⟩:=Il hh h4 hr
      exact⟨hh.defs,rv,g2,m',rv,rfl,g1,hh.rel,hTr⟩
    ·cases h
end Go.PM
namespace Go.PM
def CLe (c c':gE):Prop:=∀f args lo H r,c f args lo H=some r→c' f args lo H=some r
section
variable {c c':gE} {lo:Nat}
theorem MI (h:CLe c c') {i:PI} {ρ:Env} {H:aE} {r:Value×aE} (hr:yZ c lo i ρ H=some r):yZ c' lo i ρ H=some r:=by
 unfold yZ at hr ⊢
 split at hr
 ·cases hr
 ·exact hr
 ·split at hr
  ·rename_i OY
   rw[if_pos OY]
   split at hr
   ·exact hr
   ·exact h _ _ _ _ _ hr
   ·cases hr
  ·cases hr
theorem Tf (h:CLe c c') {i:PI} {ρ:Env} {H:aE} {r:Env×aE} (hr:yB c lo i ρ H=some r):yB c' lo i ρ H=some r:=by
 unfold yB at hr ⊢
 split at hr
 ·rename_i v H' hv
  rw[MI h hv]
  exact hr
 ·cases hr
theorem zJ (h:CLe c c'):∀ {is:List PI} {ρ:Env} {H:aE} {r:Env×aE},gV c lo is ρ H=some r→gV c' lo is ρ H=some r
 | [],_,_,_,hr=>hr
 |
  i::is,ρ,H,r,hr=>by
  rw[gV] at hr ⊢
  split at hr
  ·rename_i h1
   rw[Tf h h1]
   exact zJ h hr
  ·cases hr
theorem yR {b b':Env→aE→Option (Ex×Env×aE)} (h:∀ρ H r,b ρ H=some r→b' ρ H=some r):∀ {n n':Nat} {ρ:Env} {H:aE} {r:Ex×Env×aE},n≤n'→xC b n ρ H=some r→xC b' n' ρ H=some r
 | 0,_,_,_,_,_,hr=>by cases hr
 | n+1,0,_,_,_,hn,_=>by omega
 |
  n+1,n'+1,ρ,H,r,hn,hr=>by
  rw[xC] at hr ⊢
  split at hr
  ·rename_i h1
   rw[h _ _ _ h1]
   exact yR h (by omega) hr
  ·rename_i fR
   rw[h _ _ _ hr]
   split
   ·rename_i aZ H' he
    cases he
    exact absurd hr (fR _ _)
   ·rfl
theorem eT (h:CLe c c') {n n':Nat} (hn:n≤n'):∀(p:aD) {ρ:Env} {H:aE} {r:Ex×Env×aE},dC c lo n p ρ H=some r→dC c' lo n' p ρ H=some r
 | .skip,_,_,_,hr=>hr
 |
  .dT ops,ρ,H,r,hr=>by
  rw[dC] at hr ⊢
  cases hs:gV c lo ops ρ H with
  | none=>rw[hs] at hr;cases hr
  | some q=>rw[hs] at hr;rw[zJ h hs];exact hr
 |
  .seq a b,ρ,H,r,hr=>by
  rw[dC] at hr ⊢
  split at hr
  ·rename_i h1
   rw[eT h hn a h1]
   exact eT h hn b hr
  ·rename_i fR
   rw[eT h hn a hr]
   split
   ·rename_i he;cases he;exact absurd hr (fR _ _)
   ·rfl
 |
  .cond x a b,ρ,H,r,hr=>by
  rw[dC] at hr ⊢
  split at hr
  ·split at hr
   ·rename_i ht;rw[if_pos ht];exact eT h hn a hr
   ·rename_i ht;rw[if_neg ht];exact eT h hn b hr
  ·cases hr
 |
  .block id a,ρ,H,r,hr=>by
  rw[dC] at hr ⊢
  split at hr
  ·rename_i h1
   rw[eT h hn a h1]
   exact hr
  ·rename_i fR
   rw[eT h hn a hr]
   split
   ·rename_i he;cases he;exact absurd hr (fR _ _ _)
   ·rfl
 |
  .loop a,ρ,H,r,hr=>by
  rw[dC] at hr ⊢
  exact yR (fun ρ H r hr=>eT h hn a hr) hn hr
 | .exit id,_,_,_,hr=>hr
 | .ret,_,_,_,hr=>hr
theorem Bq (E:AK) (T:Zu):∀n,CLe (lX E T n) (lX E T (n+1))
 | 0,_,_,_,_,_,hr=>by cases hr
 |
  n+1,f,args,lo,H,r,hr=>by
  rw[lX] at hr ⊢
  split at hr
  ·exact hr
  ·split at hr
   ·cases hr
   ·split at hr
    ·rename_i pf _ ha
     rw[if_pos ha]
     split at hr
     ·rename_i h1
      rw[eT (Bq E T n) (Nat.le_succ n) pf.body h1]
      exact hr
     ·rename_i h1
      rw[eT (Bq E T n) (Nat.le_succ n) pf.body h1]
      exact hr
     ·cases hr
    ·cases hr
theorem oA (E:AK) (T:Zu) {n n':Nat} (h:n≤n'):CLe (lX E T n) (lX E T n'):=by
 induction h with
 | refl=>exact fun _ _ _ _ _ h=>h
 | step _ ih=>exact fun f args lo H r hr=>Bq E T _ f args lo H r (ih f args lo H r hr)
end
section
variable (E:AK) (T:Zu)
open Classical in
noncomputable def lim {α:Type} (run:Nat→Option α):Option α:=if h:∃r,∃n,run n=some r then some (Classical.choose h) else none
theorem TR {α:Type} {run:Nat→Option α} (hm:∀n n' r,n≤n'→run n=some r→run n'=some r) {r:α}:lim run=some r↔∃n,run n=some r:=by
 unfold lim
 constructor
 ·intro h
  split at h
  ·rename_i hx
   cases h
   exact Classical.choose_spec hx
  ·cases h
 ·rintro⟨n,hn⟩
  have hx:∃r,∃n,run n=some r:=⟨r,n,hn⟩
  rw[dif_pos hx]
  obtain⟨n',RE⟩:=Classical.choose_spec hx
  have h1:=hm n (max n n') r (Nat.le_max_left _ _) hn
  have h2:=hm n' (max n n') _ (Nat.le_max_right _ _) RE
  rw[h1] at h2
  injection h2 with h2
  rw[←h2]
noncomputable def call:gE:=fun f args lo H=>lim fun n=>lX E T n f args lo H
noncomputable def code (lo:Nat) (c:aD) (ρ:Env) (H:aE):Option (Ex×Env×aE):=lim fun n=>dC (lX E T n) lo n c ρ H
theorem uZ {f:Nat} {args:List Value} {lo:Nat} {H:aE} {r:Value×aE}:call E T f args lo H=some r↔∃n,lX E T n f args lo H=some r :=
 TR fun _ _ r h hr=>oA E T h f args lo H r hr
theorem cD {lo:Nat} {c:aD} {ρ:Env} {H:aE} {r:Ex×Env×aE}:code E T lo c ρ H=some r↔∃n,dC (lX E T n) lo n c ρ H=some r :=
 TR fun _ _ _ h hr=>eT (oA E T h) h c hr
theorem Lg {lo:Nat}:∀ {is:List PI} {ρ:Env} {H:aE} {r:Env×aE},gV (call E T) lo is ρ H=some r↔∃n,gV (lX E T n) lo is ρ H=some r:=by
 have le:∀n,CLe (lX E T n) (call E T):=fun n f args lo H r hr=>(uZ E T).2 ⟨n,hr⟩
 have val:∀ {i:PI} {ρ:Env} {H:aE} {r:Value×aE},yZ (call E T) lo i ρ H=some r→∃n,yZ (lX E T n) lo i ρ H=some r:=by
  intro i ρ H r hr
  unfold yZ at hr ⊢
  split at hr
  ·cases hr
  ·exact⟨0,hr⟩
  ·split at hr
   ·rename_i OY
    split at hr
    ·exact⟨0,by rw[if_pos OY];exact hr⟩
    ·obtain⟨n,hn⟩:=(uZ E T).1 hr
     exact⟨n,by rw[if_pos OY];exact hn⟩
    ·cases hr
   ·cases hr
 intro is
 induction is with
 | nil=>exact fun {ρ H r}=>⟨fun h=>⟨0,h⟩,fun⟨_,h⟩=>h⟩
 |
  cons i is ih =>
  intro ρ H r
  constructor
  ·intro h
   rw[gV] at h
   split at h
   ·rename_i wO H1 h1
    obtain⟨v,hv,rfl⟩:=xM h1
    obtain⟨n1,hn1⟩:=val hv
    obtain⟨n2,hn2⟩:=ih.1 h
    refine⟨max n1 n2,?_⟩
    rw[gV]
    have e:yB (lX E T (max n1 n2)) lo i ρ H=some (put ρ i.dst v,H1):=by
     unfold yB
     rw[MI (oA E T (Nat.le_max_left n1 n2)) hn1]
    rw[e]
    exact zJ (oA E T (Nat.le_max_right n1 n2)) hn2
   ·cases h
  ·rintro⟨n,h⟩
   exact zJ (le n) h
theorem BG {α:Type} {a b:Option α} (h:∀r,a=some r↔b=some r):a=b:=by
 cases a with
 |
  none =>
  cases b with
  | none=>rfl
  | some y=>exact((h y).2 rfl)
 | some x=>exact((h x).1 rfl).symm
variable {lo:Nat} {ρ:Env} {H:aE}
theorem Vk:code E T lo .skip ρ H=some (.normal,ρ,H):=(cD E T).2 ⟨0,rfl⟩
theorem WM {id:Nat}:code E T lo (.exit id) ρ H=some (.exit id,ρ,H):=(cD E T).2 ⟨0,rfl⟩
theorem Zj:code E T lo .ret ρ H=some (.ret,ρ,H):=(cD E T).2 ⟨0,rfl⟩
theorem Xs {ops:List PI}:code E T lo (.dT ops) ρ H=(gV (call E T) lo ops ρ H).map fun(aZ,H')=>(.normal,aZ,H'):=by
 refine BG fun r => ?_
 rw[cD]
 constructor
 ·rintro⟨n,h⟩
  rw[dC] at h
  cases hs:gV (lX E T n) lo ops ρ H with
  | none=>rw[hs] at h;cases h
  |
   some q =>
   rw[hs] at h
   rw[(Lg E T).2 ⟨n,hs⟩]
   exact h
 ·intro h
  cases hs:gV (call E T) lo ops ρ H with
  | none=>rw[hs] at h;cases h
  |
   some q =>
   rw[hs] at h
   obtain⟨n,hn⟩:=(Lg E T).1 hs
   exact⟨n,by rw[dC,hn];exact h⟩
theorem ZA {a b:aD}:code E T lo (.seq a b) ρ H=match code E T lo a ρ H with
  | some (.normal,aZ,H')=>code E T lo b aZ H'
  | r=>r:=by
 refine BG fun r => ?_
 rw[cD]
 constructor
 ·rintro⟨n,h⟩
  rw[dC] at h
  split at h
  ·rename_i h1
   rw[(cD E T).2 ⟨n,h1⟩]
   exact(cD E T).2 ⟨n,h⟩
  ·rename_i fR
   rw[(cD E T).2 ⟨n,h⟩]
   split
   ·rename_i he;cases he;exact absurd h (fR _ _)
   ·rfl
 ·intro h
  split at h
  ·rename_i h1
   obtain⟨n1,h1⟩:=(cD E T).1 h1
   obtain⟨n2,h2⟩:=(cD E T).1 h
   refine⟨max n1 n2,?_⟩
   rw[dC,eT (oA E T (Nat.le_max_left n1 n2)) (Nat.le_max_left n1 n2) a h1]
   exact eT (oA E T (Nat.le_max_right n1 n2)) (Nat.le_max_right n1 n2) b h2
  ·rename_i fR
   obtain⟨n,h1⟩:=(cD E T).1 h
   refine⟨n,?_⟩
   rw[dC,h1]
   split
   ·rename_i he;cases he;exact absurd h (fR _ _)
   ·rfl
theorem Vx {x:Operand} {a b:aD}:code E T lo (.cond x a b) ρ H=match ev ρ x with
  | .bool t=>if t then code E T lo a ρ H else code E T lo b ρ H
  | _=>none:=by
 refine BG fun r => ?_
 rw[cD]
 constructor
 ·rintro⟨n,h⟩
  rw[dC] at h
  split at h
  ·rename_i t he
   rw[he]
   show (if t=true then code E T lo a ρ H else code E T lo b ρ H)=some r
   split at h
   ·rename_i ht;rw[if_pos ht];exact(cD E T).2 ⟨n,h⟩
   ·rename_i ht;rw[if_neg ht];exact(cD E T).2 ⟨n,h⟩
  ·cases h
 ·intro h
  split at h
  ·rename_i t he
   split at h
   ·rename_i ht
    obtain⟨n,h⟩:=(cD E T).1 h
    refine⟨n,?_⟩
    rw[dC,he]
    show (if t=true then _ else _)=_
    rw[if_pos ht]
    exact h
   ·rename_i ht
    obtain⟨n,h⟩:=(cD E T).1 h
    refine⟨n,?_⟩
    rw[dC,he]
    show (if t=true then _ else _)=_
    rw[if_neg ht]
    exact h
  ·cases h
theorem Sq {id:Nat} {a:aD}:code E T lo (.block id a) ρ H=match code E T lo a ρ H with
  | some (.exit PF,aZ,H')=>if PF=id then some (.normal,aZ,H') else some (.exit PF,aZ,H')
  | r=>r:=by
 refine BG fun r => ?_
 rw[cD]
 constructor
 ·rintro⟨n,h⟩
  rw[dC] at h
  split at h
  ·rename_i h1
   rw[(cD E T).2 ⟨n,h1⟩]
   exact h
  ·rename_i fR
   rw[(cD E T).2 ⟨n,h⟩]
   split
   ·rename_i he;cases he;exact absurd h (fR _ _ _)
   ·rfl
 ·intro h
  split at h
  ·rename_i h1
   obtain⟨n,h1⟩:=(cD E T).1 h1
   exact⟨n,by rw[dC,h1];exact h⟩
  ·rename_i fR
   obtain⟨n,h1⟩:=(cD E T).1 h
   refine⟨n,?_⟩
   rw[dC,h1]
   split
   ·rename_i he;cases he;exact absurd h (fR _ _ _)
   ·rfl
theorem Wd {a:aD}:code E T lo (.loop a) ρ H=match code E T lo a ρ H with
  | some (.normal,aZ,H')=>code E T lo (.loop a) aZ H'
  | r=>r:=by
 refine BG fun r => ?_
 rw[cD]
 constructor
 ·rintro⟨n,h⟩
  rw[dC] at h
  cases n with
  | zero=>cases h
  |
   succ n =>
   rw[xC] at h
   split at h
   ·rename_i h1
    rw[(cD E T).2 ⟨n+1,h1⟩]
    refine(cD E T).2 ⟨n+1,?_⟩
    rw[dC]
    exact yR (fun _ _ _ h=>h) (Nat.le_succ n) h
   ·rename_i fR
    rw[(cD E T).2 ⟨n+1,h⟩]
    split
    ·rename_i he;cases he;exact absurd h (fR _ _)
    ·rfl
 ·intro h
  split at h
  ·rename_i h1
   obtain⟨n1,h1⟩:=(cD E T).1 h1
   obtain⟨n2,h2⟩:=(cD E T).1 h
   refine⟨max n1 n2+1,?_⟩
   have g1:=eT (oA E T (show n1≤max n1 n2+1 by omega)) (show n1≤max n1 n2+1 by omega) a h1
   rw[dC,xC,g1]
   rw[dC] at h2
   exact yR (fun _ _ _ h=>eT (oA E T (show n2≤max n1 n2+1 by omega)) (show n2≤max n1 n2+1 by omega) a h) (show n2≤max n1 n2 by omega) h2
  ·rename_i fR
   obtain⟨n,h1⟩:=(cD E T).1 h
   refine⟨n+1,?_⟩
   rw[dC,xC,eT (Bq E T n) (Nat.le_succ n) a h1]
   split
   ·rename_i he;cases he;exact absurd h (fR _ _)
   ·rfl
noncomputable def ahF (lo:Nat) (pf:aV) (args:List Value) (H:aE):Option (Value×aE) :=
 if args.length≤pf.ntmps then
  match code E T lo pf.body (Wi args) H with
  | some (.normal,ρ,H') | some (.ret,ρ,H')=>(qI pf.res ρ H').map (·,H')
  | _=>none
 else none
theorem WI {f:Nat} {p:List Value→aE→Option Value} (h:E.Ay f=some p) {args:List Value}:call E T f args lo H=(p args H).map (·,H):=by
 refine BG fun r => ?_
 rw[uZ]
 constructor
 ·rintro⟨n,hr⟩
  cases n with
  | zero=>cases hr
  | succ n=>rw[lX,h] at hr;exact hr
 ·intro hr
  exact⟨1,by rw[lX,h];exact hr⟩
theorem adG {f:Nat} {pf:aV} (hp:E.Ay f=none) (h:T f=some pf) {args:List Value}:call E T f args lo H=ahF E T lo pf args H:=by
 refine BG fun r => ?_
 rw[uZ]
 unfold ahF
 constructor
 ·rintro⟨n,hr⟩
  cases n with
  | zero=>cases hr
  |
   succ n =>
   rw[lX,hp,h] at hr
   simp only at hr
   split at hr
   ·rename_i ha
    rw[if_pos ha]
    split at hr
    ·rename_i h1
     rw[(cD E T).2 ⟨n,h1⟩]
     exact hr
    ·rename_i h1
     rw[(cD E T).2 ⟨n,h1⟩]
     exact hr
    ·cases hr
   ·cases hr
 ·intro hr
  split at hr
  ·rename_i ha
   split at hr
   ·rename_i h1
    obtain⟨n,h1⟩:=(cD E T).1 h1
    exact⟨n+1,by rw[lX,hp,h];simp only;rw[if_pos ha,h1];exact hr⟩
   ·rename_i h1
    obtain⟨n,h1⟩:=(cD E T).1 h1
    exact⟨n+1,by rw[lX,hp,h];simp only;rw[if_pos ha,h1];exact hr⟩
   ·cases hr
  ·cases hr
end
end Go.PM
namespace Go.PM
theorem Dt {H H':aE} {lo BF b o:Nat} {new:List Value} (hl:BF≤lo) (h:H.write lo b o new=some H'):H.write BF b o new=some H':=by
 unfold aE.write at h ⊢
 split at h
 ·split at h
  ·rename_i hc
   rw[if_pos ⟨by omega,hc.2⟩]
   exact h
  ·cases h
 ·cases h
theorem By {α β:Type} {a b:Option α} {f:α→β} {r:β} (E6:∀x,a=some x→b=some x) (h:a.map f=some r):b.map f=some r:=by
 cases a with
 | none=>cases h
 | some x=>rw[E6 x rfl];exact h
theorem IC {lo BF size bytes add:Nat} {x:Value} {new:List Value} {H:aE} {r:Value×aE} (hl:BF≤lo) (h:eH lo size bytes x add new H=some r):eH BF size bytes x add new H=some r:=by
 unfold eH at h ⊢
 split at h
 case isFalse=>cases h
 rename_i hc
 rw[if_pos hc]
 split at h
 ·exact h
 ·split at h
  ·split at h
   ·rename_i h1
    skip
    rw[if_pos h1]
    split at h
    ·rename_i h2
     rw[if_pos h2]
     split at h
     ·rename_i h3;rw[if_pos h3];exact h
     ·rename_i h3
      rw[if_neg h3]
      exact By (fun H' hw=>Dt hl hw) h
    ·rename_i h2
     rw[if_neg h2]
     split at h
     ·rename_i h3
      rw[if_pos h3]
      split at h
      ·rename_i h4
       rw[if_pos h4]
       split at h
       ·rename_i h5;rw[if_pos (by omega)];exact h
       ·cases h
      ·rename_i h4;rw[if_neg h4];exact h
     ·cases h
   ·cases h
  ·cases h
 ·cases h
theorem UO {lo BF:Nat} {p:nE} {ρ:Env} {H:aE} {o:Out} (hl:BF≤lo) (h:pop lo p ρ H=some o):pop BF p ρ H=some o:=by
 cases p<;>first | exact h | skip
 case store size q v =>
  simp only[pop] at h ⊢
  split at h
  ·split at h
   ·rename_i h1
    skip
    rw[if_pos h1]
    exact By (fun H' hw=>Dt hl hw) h
   ·cases h
  ·cases h
 case app size bytes x y =>
  simp only[pop] at h ⊢
  split at h
  ·split at h
   ·skip
    exact By (fun H' hw=>IC hl hw) h
   ·cases h
  ·cases h
 case appz z bytes x n =>
  simp only[pop] at h ⊢
  split at h
  ·split at h
   ·rename_i h1
    skip
    rw[if_pos h1]
    exact By (fun H' hw=>IC hl hw) h
   ·cases h
  ·cases h
 case copy size x y =>
  simp only[pop] at h ⊢
  split at h
  ·exact h
  ·split at h
   ·skip
    exact By (fun H' hw=>Dt hl hw) h
   ·cases h
  ·cases h
 case clear z x =>
  simp only[pop] at h ⊢
  split at h
  ·exact h
  ·skip
   split at h
   ·rename_i h1;rw[if_pos h1];exact h
   ·rename_i h1
    rw[if_neg h1]
    exact By (fun H' hw=>Dt hl hw) h
  ·cases h
def Zf (c:gE):Prop:=∀f args lo BF H r,BF≤lo→c f args lo H=some r→c f args BF H=some r
section
variable {c:gE} {lo BF:Nat}
theorem Ll (hc:Zf c) (hl:BF≤lo):∀ {is:List PI} {ρ:Env} {H:aE} {r:Env×aE},gV c lo is ρ H=some r→gV c BF is ρ H=some r
 | [],_,_,_,h=>h
 |
  i::is,ρ,H,r,h=>by
  rw[gV] at h ⊢
  split at h
  ·rename_i wO H1 h1
   have e:yB c BF i ρ H=some (wO,H1):=by
    unfold yB at h1 ⊢
    split at h1
    ·rename_i v H2 hv
     have:yZ c BF i ρ H=some (v,H2):=by
      unfold yZ at hv ⊢
      split at hv
      ·cases hv
      ·exact hv
      ·split at hv
       ·rename_i OY
        rw[if_pos OY]
        split at hv
        ·rename_i hp;rw[UO hl hp];exact hv
        ·rename_i hp
         rw[UO hl hp]
         show c _ _ (if i.quiet=true then H.length else BF) H=_
         cases hq:i.quiet with
         | true=>rw[hq] at hv;exact hv
         | false=>rw[hq] at hv;exact hc _ _ _ _ _ _ hl hv
        ·cases hv
       ·cases hv
     rw[this]
     exact h1
    ·cases h1
   rw[e]
   exact Ll hc hl h
  ·cases h
theorem U4 {b b':Env→aE→Option (Ex×Env×aE)} (h:∀ρ H r,b ρ H=some r→b' ρ H=some r):∀ {n:Nat} {ρ:Env} {H:aE} {r:Ex×Env×aE},xC b n ρ H=some r→xC b' n ρ H=some r :=
 fun hr=>yR h (Nat.le_refl _) hr
theorem nA (hc:Zf c) (hl:BF≤lo) {n:Nat}:∀(p:aD) {ρ:Env} {H:aE} {r:Ex×Env×aE},dC c lo n p ρ H=some r→dC c BF n p ρ H=some r
 | .skip,_,_,_,hr=>hr
 |
  .dT ops,ρ,H,r,hr=>by
  rw[dC] at hr ⊢
  exact By (fun _ h=>Ll hc hl h) hr
 |
  .seq a b,ρ,H,r,hr=>by
  rw[dC] at hr ⊢
  split at hr
  ·rename_i h1
   rw[nA hc hl a h1]
   exact nA hc hl b hr
  ·rename_i fR
   rw[nA hc hl a hr]
   split
   ·rename_i he;cases he;exact absurd hr (fR _ _)
   ·rfl
 |
  .cond x a b,ρ,H,r,hr=>by
  rw[dC] at hr ⊢
  split at hr
  ·split at hr
   ·rename_i ht;rw[if_pos ht];exact nA hc hl a hr
   ·rename_i ht;rw[if_neg ht];exact nA hc hl b hr
  ·cases hr
 |
  .block id a,ρ,H,r,hr=>by
  rw[dC] at hr ⊢
  split at hr
  ·rename_i h1
   rw[nA hc hl a h1]
   exact hr
  ·rename_i fR
   rw[nA hc hl a hr]
   split
   ·rename_i he;cases he;exact absurd hr (fR _ _ _)
   ·rfl
 |
  .loop a,ρ,H,r,hr=>by
  rw[dC] at hr ⊢
  exact U4 (fun ρ H r hr=>nA hc hl a hr) hr
 | .exit id,_,_,_,hr=>hr
 | .ret,_,_,_,hr=>hr
end
theorem Gw (E:AK) (T:Zu):∀n,Zf (lX E T n)
 | 0,_,_,_,_,_,_,_,h=>by cases h
 |
  n+1,f,args,lo,BF,H,r,hl,h=>by
  rw[lX] at h ⊢
  split at h
  ·exact h
  ·split at h
   ·cases h
   ·split at h
    ·rename_i pf _ ha
     rw[if_pos ha]
     split at h
     ·rename_i h1;rw[nA (Gw E T n) hl pf.body h1];exact h
     ·rename_i h1;rw[nA (Gw E T n) hl pf.body h1];exact h
     ·cases h
    ·cases h
section
variable {E:AK} {T:Zu}
theorem YE {f:Nat} {args:List Value} {lo BF:Nat} {H:aE} {r:Value×aE} (hl:BF≤lo) (h:call E T f args lo H=some r):call E T f args BF H=some r:=by
 obtain⟨n,hn⟩:=(uZ E T).1 h
 exact(uZ E T).2 ⟨n,Gw E T n f args lo BF H r hl hn⟩
theorem XR {f:Nat} {args:List Value} {lo:Nat} {H H':aE} {v:Value} (h:call E T f args lo H=some (v,H')):Ext lo H H':=by
 obtain⟨n,hn⟩:=(uZ E T).1 h
 exact Du E T n f args lo H v H' hn
theorem Ext.more {H H':aE} (h:Ext H.length H H'):∃K,H'=H++K:=by
 refine⟨H'.drop H.length,?_⟩
 apply List.ext_getElem?
 intro i
 rcases Nat.lt_or_ge i H.length with hi | hi
 ·rw[List.getElem?_append_left hi]
  exact h.low i hi hi
 ·rw[List.getElem?_append_right hi,List.getElem?_drop,show H.length+(i-H.length)=i by omega]
def Uu (E:AK) (T:Zu) (f:Nat) (args:List Value) (H:aE) (R:Value→aE→Prop):Prop :=
 ∃v K,call E T f args H.length H=some (v,H++K)∧R v (H++K)
theorem Uu.at {f:Nat} {args:List Value} {H:aE} {R:Value→aE→Prop} (h:Uu E T f args H R) {lo:Nat} (hl:lo≤H.length):∃v K,call E T f args lo H=some (v,H++K)∧R v (H++K):=by
 obtain⟨v,K,h1,h2⟩:=h
 exact⟨v,K,YE hl h1,h2⟩
theorem Uu.mk {f:Nat} {args:List Value} {H H':aE} {v:Value} {R:Value→aE→Prop} (h:call E T f args H.length H=some (v,H')) (hr:R v H'):Uu E T f args H R:=by
 obtain⟨K,rfl⟩:=(XR h).more
 exact⟨v,K,h,hr⟩
end
end Go.PM
namespace Go.PM
def strCells:List Value→Option (List ByteArray)
 | []=>some []
 | .string s::r=>(strCells r).map (s :: ·)
 | _=>none
def uM:List Value→aE→Option Value
 | [.int .u64 n,.int .i64 b],_=>if b=10∧0≤n∧n<18446744073709551616 then some (.string ⟨(Lib.decDigits n.toNat).toArray⟩) else none
 | _,_=>none
def F6:List Value→aE→Option Value
 | [.string s,.int .i64 c],_=>if 0≤c∧c≤9223372036854775807∧s.size*c.toNat≤140737488355328 then some (.string ⟨(Lib.repeatL s.data.toList c.toNat).toArray⟩) else none
 | _,_=>none
def Cy:List Value→aE→Option Value
 | [.int .u32 x],_=>if 0≤x∧x≤4294967295 then some (.int .i64 (32-(Lib.bitLen x.toNat:Int))) else none
 | _,_=>none
def Po:List Value→aE→Option Value
 | [.slice none 0 0,.string _],_=>some (.string ⟨#[]⟩)
 |
  [.slice (some ⟨b,o,none⟩) n c,.string sep],H =>
  if n=0 then some (.string ⟨#[]⟩) else
  match (H.read b o n).bind strCells with
  | some xs=>if xs.length=n∧n≤c∧n≤140737488355328∧(Lib.join (xs.map (·.data.toList)) sep.data.toList).length≤140737488355328 then some (.string ⟨(Lib.join (xs.map (·.data.toList)) sep.data.toList).toArray⟩) else none
  | none=>none
 | _,_=>none
def Of:List Value→aE→Option Value
 |
  [.string s,.string p],_=>match p.data.toList with
  | [c]=>some (.int .i64 (Lib.indexByte s.data.toList c))
  | _=>none
 | _,_=>none
def yT:List Value→aE→Option Value
 |
  [.string s,.int .i64 b,.int .i64 z],_=>if b=10∧z=64∧s.size≤9223372036854775806 then
   match Lib.parseUintB 64 s.data.toList with
   | .ok u=>some (.tuple #[.int .u64 (u:Int),.nilIface])
   | _=>none
  else none
 | _,_=>none
end Go.PM
namespace Go.PM
open Go.Proofs
def asJ:List Nat:=[]
 ++ [56]
 ++ [221]
 ++ [239]
 ++ [240]
def Iw (f:Nat):Option (List Value→aE→Option Value) :=
 if f=184 then some uM else
 if f=103 then some F6 else
 if f=186 then some Po else
 if f=219 then some Cy else
 if f=241 then some Of else
 if f=217 then some yT else
 (fun _=>none) f
def cfg:AK:={ Ay:=Iw,eff:=fun f=>asJ.contains f }
noncomputable def gT:Zu:=fun f=>if (Iw f).isSome then none else QA Tryz.prog cfg f
theorem aiR (f:Nat) (pf:aV) (h:gT f=some pf):QA Tryz.prog cfg f=some pf:=by
 unfold gT at h
 split at h
 ·cases h
 ·exact h
theorem R1 {f:Nat} {pf:aV} (h:gT f=some pf):cfg.Ay f=none:=by
 unfold gT at h
 split at h
 ·cases h
 ·rename_i h1
  show Iw f=none
  cases hp:Iw f with
  | none=>rfl
  | some p=>rw[hp] at h1;exact absurd rfl h1
end Go.PM
namespace Go.PM
noncomputable abbrev qP:gE:=call cfg gT
def W (lo:Nat) (c:aD) (Q:Ex→Env→aE→Prop) (ρ:Env) (H:aE):Prop:=∃x aZ H',code cfg gT lo c ρ H=some (x,aZ,H')∧Q x aZ H'
def WS (lo:Nat) (is:List PI) (K:Env→aE→Prop) (ρ:Env) (H:aE):Prop:=∃aZ H',gV qP lo is ρ H=some (aZ,H')∧K aZ H'
def atS (lo:Nat) (b:aD) (Q:Ex→Env→aE→Prop):Ex→Env→aE→Prop
 | .normal,ρ,H=>W lo b Q ρ H
 | x,ρ,H=>Q x ρ H
def akR (id:Nat) (Q:Ex→Env→aE→Prop):Ex→Env→aE→Prop
 | .exit PF,ρ,H=>if PF=id then Q .normal ρ H else Q (.exit PF) ρ H
 | x,ρ,H=>Q x ρ H
def avF (res:List AX) (R:Value→aE→Prop):Ex→Env→aE→Prop
 | .exit _,_,_=>False
 | _,ρ,H=>∃v,qI res ρ H=some v∧R v H
def akQ (J:Env→aE→Prop) (Q:Ex→Env→aE→Prop):Ex→Env→aE→Prop
 | .normal,ρ,H=>J ρ H
 | x,ρ,H=>Q x ρ H
section
variable {lo:Nat} {Q:Ex→Env→aE→Prop} {K:Env→aE→Prop} {ρ:Env} {H:aE} {b:aD} {id:Nat} {R:Value→aE→Prop} {res:List AX} {J:Env→aE→Prop}
theorem Gx {i:Nat}:akR id Q (.exit i) ρ H=if i=id then Q .normal ρ H else Q (.exit i) ρ H:=rfl
theorem agW:W lo .skip Q ρ H=Q .normal ρ H:=by
 unfold W
 rw[Vk]
 exact propext ⟨fun⟨_,_,_,h,hq⟩=>(by cases h;exact hq),fun h=>⟨_,_,_,rfl,h⟩⟩
theorem ahP {i:Nat}:W lo (.exit i) Q ρ H=Q (.exit i) ρ H:=by
 unfold W
 rw[WM]
 exact propext ⟨fun⟨_,_,_,h,hq⟩=>(by cases h;exact hq),fun h=>⟨_,_,_,rfl,h⟩⟩
theorem alE:W lo .ret Q ρ H=Q .ret ρ H:=by
 unfold W
 rw[Zj]
 exact propext ⟨fun⟨_,_,_,h,hq⟩=>(by cases h;exact hq),fun h=>⟨_,_,_,rfl,h⟩⟩
theorem alC {ops:List PI}:W lo (.dT ops) Q ρ H=WS lo ops (Q .normal) ρ H:=by
 unfold W WS
 rw[Xs]
 apply propext
 constructor
 ·rintro⟨x,aZ,H',h,hq⟩
  cases hs:gV (call cfg gT) lo ops ρ H with
  | none=>rw[hs] at h;cases h
  |
   some q =>
   rw[hs] at h
   cases h
   exact⟨_,_,rfl,hq⟩
 ·rintro⟨aZ,H',h,hq⟩
  exact⟨_,_,_,by rw[h];rfl,hq⟩
theorem akY {a:aD}:W lo (.seq a b) Q ρ H=W lo a (atS lo b Q) ρ H:=by
 unfold W
 rw[ZA]
 apply propext
 constructor
 ·rintro⟨x,aZ,H',h,hq⟩
  split at h
  ·rename_i wO H1 h1
   exact⟨_,_,_,h1,x,aZ,H',h,hq⟩
  ·rename_i fR
   refine⟨x,aZ,H',h,?_⟩
   cases x with
   | normal=>exact absurd h (fR _ _)
   | exit i=>exact hq
   | ret=>exact hq
 ·rintro⟨x,aZ,H',h,hq⟩
  rw[h]
  cases x with
  | normal=>exact hq
  | exit i=>exact⟨_,_,_,rfl,hq⟩
  | ret=>exact⟨_,_,_,rfl,hq⟩
theorem adP {a:aD}:W lo (.block id a) Q ρ H=W lo a (akR id Q) ρ H:=by
 unfold W
 rw[Sq]
 apply propext
 constructor
 ·rintro⟨x,aZ,H',h,hq⟩
  split at h
  ·rename_i PF wO H1 h1
   refine⟨_,_,_,h1,?_⟩
   rw[Gx]
   split at h
   ·rename_i he;cases h;rw[if_pos he];exact hq
   ·rename_i he;cases h;rw[if_neg he];exact hq
  ·rename_i fR
   refine⟨x,aZ,H',h,?_⟩
   cases x with
   | normal=>exact hq
   | exit i=>exact absurd h (fR _ _ _)
   | ret=>exact hq
 ·rintro⟨x,aZ,H',h,hq⟩
  rw[h]
  cases x with
  | normal=>exact⟨_,_,_,rfl,hq⟩
  |
   exit i =>
   rw[Gx] at hq
   show ∃x zC H'',(if i=id then some (Ex.normal,aZ,H') else some (Ex.exit i,aZ,H'))=some (x,zC,H'')∧Q x zC H''
   split at hq
   ·rename_i he;rw[if_pos he];exact⟨_,_,_,rfl,hq⟩
   ·rename_i he;rw[if_neg he];exact⟨_,_,_,rfl,hq⟩
  | ret=>exact⟨_,_,_,rfl,hq⟩
theorem agY {x:Operand} {a:aD}:W lo (.cond x a b) Q ρ H=∃t,ev ρ x = .bool t∧((t=true→W lo a Q ρ H)∧(t=false→W lo b Q ρ H)):=by
 unfold W
 rw[Vx]
 apply propext
 constructor
 ·rintro⟨y,aZ,H',h,hq⟩
  split at h
  ·rename_i t ht
   cases t with
   | true=>exact⟨true,ht,fun _=>⟨y,aZ,H',h,hq⟩,fun h=>by cases h⟩
   | false=>exact⟨false,ht,fun h=>(by cases h),fun _=>⟨y,aZ,H',h,hq⟩⟩
  ·cases h
 ·rintro⟨t,ht,h1,h2⟩
  rw[ht]
  cases t with
  | true=>exact h1 rfl
  | false=>exact h2 rfl
theorem W.mono {Q':Ex→Env→aE→Prop} {c:aD} (h:W lo c Q ρ H) (hq:∀x ρ H,Q x ρ H→Q' x ρ H):W lo c Q' ρ H:=by
 obtain⟨x,aZ,H',h1,h2⟩:=h
 exact⟨x,aZ,H',h1,hq _ _ _ h2⟩
noncomputable def jU (lo:Nat) (q:Bool) (op:nE) (ρ:Env) (H:aE):Option (Value×aE) :=
 match pop lo op ρ H with
 | some (.val v H')=>some (v,H')
 | some (.call f args)=>qP f args (if q then H.length else lo) H
 | none=>none
theorem aiS:WS lo [] K ρ H=K ρ H:=by
 unfold WS
 apply propext
 constructor
 ·rintro⟨aZ,H',h,hk⟩;cases h;exact hk
 ·intro h;exact⟨ρ,H,rfl,h⟩
theorem amX {i:PI} {is:List PI}:WS lo (i::is) K ρ H=∃v H',yZ qP lo i ρ H=some (v,H')∧WS lo is K (put ρ i.dst v) H':=by
 unfold WS
 apply propext
 constructor
 ·rintro⟨aZ,H',h,hk⟩
  rw[gV] at h
  split at h
  ·rename_i wO H1 h1
   obtain⟨v,hv,rfl⟩:=xM h1
   exact⟨v,H1,hv,aZ,H',h,hk⟩
  ·cases h
 ·rintro⟨v,H1,hv,aZ,H',h,hk⟩
  refine⟨aZ,H',?_,hk⟩
  rw[gV]
  unfold yB
  rw[hv]
  exact h
variable {q:Bool}
theorem dD {op:nE} (h:tC op=true):jU lo q op ρ H=(iN op ρ).map (·,H):=by
 unfold jU
 rw[yX h]
 cases iN op ρ<;>rfl
theorem adJ {x:Operand}:jU lo q (.mv x) ρ H=some (ev ρ x,H):=rfl
theorem WV {c a b:Operand}:jU lo q (.pick c a b) ρ H=(match ev ρ c with | .bool t=>some ((if t=true then ev ρ a else ev ρ b),H) | _=>none):=by
 rw[dD rfl]
 simp only[iN]
 cases ev ρ c<;>rfl
theorem XI {op:BinOp} {x y:Operand}:jU lo q (.bin op x y) ρ H=(dF op (ev ρ x) (ev ρ y)).map (·,H):=dD rfl
theorem adH {op:UnOp} {x:Operand}:jU lo q (.un op x) ρ H=(Y5 op (ev ρ x)).map (·,H):=dD rfl
theorem VC {f:Nat} {args:List Operand}:jU lo q (.call f args) ρ H=qP f (args.map (ev ρ)) (if q then H.length else lo) H:=rfl
end
theorem ZX {f lo:Nat} {pf:aV} {args:List Value} {H:aE} {R:Value→aE→Prop} (ht:gT f=some pf) (ha:args.length≤pf.ntmps) (h:W lo pf.body (avF pf.res R) (Wi args) H):∃v H',qP f args lo H=some (v,H')∧R v H':=by
 obtain⟨x,aZ,H',h1,h2⟩:=h
 show ∃v H',call cfg gT f args lo H=some (v,H')∧R v H'
 rw[adG cfg gT (R1 ht) ht]
 unfold ahF
 rw[if_pos ha,h1]
 cases x with
 | exit i=>exact h2.elim
 |
  normal =>
  obtain⟨v,h3,h4⟩:=h2
  exact⟨v,H',by simp only;rw[h3];rfl,h4⟩
 |
  ret =>
  obtain⟨v,h3,h4⟩:=h2
  exact⟨v,H',by simp only;rw[h3];rfl,h4⟩
end Go.PM
namespace Go.PM
theorem wrap64 {x:Int} (h1 : -9223372036854775808≤x) (h2:x≤9223372036854775807):IntKind.i64.wrap x=x:=by
 rw[IntKind.wrap_i64]
 omega
section
variable {k:IntKind} {a b:Int}
theorem Qg:dF .add (.int k a) (.int k b)=some (.int k (k.wrap (a+b))):=by simp[dF]
theorem Rm:dF .sub (.int k a) (.int k b)=some (.int k (k.wrap (a-b))):=by simp[dF]
theorem P0:dF .mul (.int k a) (.int k b)=some (.int k (k.wrap (a*b))):=by simp[dF]
theorem O9 (h:b≠0):dF .rem (.int k a) (.int k b)=some (.int k (a.tmod b)):=by simp[dF,h]
theorem Qq:dF .lss (.int k a) (.int k b)=some (.bool (decide (a<b))):=by simp[dF]
theorem Qo:dF .leq (.int k a) (.int k b)=some (.bool (decide (a≤b))):=by simp[dF]
theorem Ro:dF .gtr (.int k a) (.int k b)=some (.bool (decide (b<a))):=by simp[dF]
theorem QJ:dF .geq (.int k a) (.int k b)=some (.bool (decide (b≤a))):=by simp[dF]
theorem Q8:dF .eql (.int k a) (.int k b)=some (.bool (decide (a=b))):=by
 simp only[dF,if_true]
 rfl
theorem P5:dF .neq (.int k a) (.int k b)=some (.bool (!decide (a=b))):=by
 simp only[dF,if_true]
 rfl
theorem T8:Y5 .neg (.int k a)=some (.int k (k.wrap (0-a))):=rfl
theorem T6 {t:Bool}:Y5 .not (.bool t)=some (.bool (!t)):=rfl
end
def akZ:Value→Option Value
 | .slice _ n _=>some (.int .i64 n)
 | _=>none
def Oy (neg:Bool):Value→Value→Option Value
 | .bool a,.bool b=>some (.bool ((a == b) != neg))
 | _,_=>none
def XN (neg:Bool):Value→Option Value
 | .slice none _ _=>some (.bool (true != neg))
 | .slice (some _) _ _=>some (.bool (false != neg))
 | _=>none
def ZJ (neg:Bool) (ks:List CK):Value→Value→Option Value
 | .agg a,.agg b=>(pB ks a.toList b.toList).map fun t => .bool (t != neg)
 | _,_=>none
def SN (k:IntKind):Value→Option Value
 | .int _ n=>some (.int k (k.wrap n))
 | _=>none
def agX (i:Nat):Value→Option Value
 | .tuple vs=>vs[i]?
 | _=>none
def acR (agg:Bool) (off size:Nat):Value→Option Value
 | .agg cs=>if agg then (if off+size≤cs.size then some (.agg (cs.extract off (off+size))) else none) else cs[off]?
 | _=>none
def akJ:Value→Option Value
 | .pointer (some a)=>some (.pointer (some a))
 | _=>none
def Zm (off:Nat):Value→Option Value
 | .pointer (some ⟨b,o,none⟩)=>some (.pointer (some ⟨b,o+off,none⟩))
 | _=>none
def NP (size:Nat):Value→Value→Option Value
 | .slice (some ⟨b,o,none⟩) n _,.int _ i=>if 0≤i∧i<n then some (.pointer (some ⟨b,o+i.toNat*size,none⟩)) else none
 | _,_=>none
def Ri:Value→Value→Option Value
 | .int k a,.int _ b=>some (.int k (if b<a then b else a))
 | _,_=>none
def Qv:Value→Value→Option Value
 | .int k a,.int _ b=>some (.int k (if b>a then b else a))
 | _,_=>none
section
variable {lo:Nat} {ρ:Env} {H:aE} {q:Bool}
theorem pA {op:nE} {r:Option (Value×aE)} (h:pop lo op ρ H=r.map fun(v,H') => .val v H'):jU lo q op ρ H=r:=by
 unfold jU
 rw[h]
 cases r<;>rfl
theorem XJ {x:Operand}:jU lo q (.len x) ρ H=(akZ (ev ρ x)).map (·,H):=dD rfl
theorem Zn {neg:Bool} {x y:Operand}:jU lo q (.eqb neg x y) ρ H=(Oy neg (ev ρ x) (ev ρ y)).map (·,H):=dD rfl
theorem Sm {neg:Bool} {x:Operand}:jU lo q (.isnil neg x) ρ H=(XN neg (ev ρ x)).map (·,H):=dD rfl
theorem Sl {neg:Bool} {ks:List CK} {x y:Operand}:jU lo q (.eqagg neg ks x y) ρ H=(ZJ neg ks (ev ρ x) (ev ρ y)).map (·,H):=dD rfl
theorem X4 {k:IntKind} {x:Operand}:jU lo q (.cvt k x) ρ H=(SN k (ev ρ x)).map (·,H):=dD rfl
theorem XU {i:Nat} {x:Operand}:jU lo q (.ext x i) ρ H=(agX i (ev ρ x)).map (·,H):=dD rfl
theorem XO {agg:Bool} {off size:Nat} {x:Operand}:jU lo q (.fld agg off size x) ρ H=(acR agg off size (ev ρ x)).map (·,H):=dD rfl
theorem Tq {z:List Value} {places:List (Nat×Nat)} {parts:List (Nat×Operand)}:jU lo q (.build z places parts) ρ H=((vP places z (parts.map fun(i,x)=>(i,ev ρ x))).map fun cs=>Value.agg cs.toArray).map (·,H):=dD rfl
theorem Xq {x:Operand}:jU lo q (.chk x) ρ H=(akJ (ev ρ x)).map (·,H):=dD rfl
theorem Tp {off:Nat} {x:Operand}:jU lo q (.faddr off x) ρ H=(Zm off (ev ρ x)).map (·,H):=dD rfl
theorem Tl {size:Nat} {x i:Operand}:jU lo q (.iaddr size x i) ρ H=(NP size (ev ρ x) (ev ρ i)).map (·,H):=dD rfl
theorem We {f:Nat} {fS:List Operand}:jU lo q (.mkfn f fS) ρ H=some (.func (.func f) #[] (fS.map (ev ρ)).toArray,H):=dD rfl
theorem Yu {x y:Operand}:jU lo q (.min x y) ρ H=(Ri (ev ρ x) (ev ρ y)).map (·,H):=dD rfl
theorem Zg {x y:Operand}:jU lo q (.max x y) ρ H=(Qv (ev ρ x) (ev ρ y)).map (·,H):=dD rfl
theorem Vi {agg:Bool} {size:Nat} {p:Operand}:jU lo q (.load agg size p) ρ H=(nO agg size (ev ρ p) H).map (·,H):=by
 unfold jU
 simp only[pop]
 cases nO agg size (ev ρ p) H<;>rfl
theorem XP {size:Nat} {x:Operand} {l h m:Option Operand}:jU lo q (.sub size x l h m) ρ H=Cb size (ev ρ x) (l.map (ev ρ)) (h.map (ev ρ)) (m.map (ev ρ)) H:=by
 unfold jU
 simp only[pop]
 cases Cb size (ev ρ x) (l.map (ev ρ)) (h.map (ev ρ)) (m.map (ev ρ)) H<;>rfl
theorem ZK {z:List Value}:jU lo q (.new z) ρ H=some (.pointer (some ⟨H.length,0,none⟩),H++[.row z z.length false]):=rfl
theorem Zz {x:Operand}:jU lo q (.box x) ρ H=if (aO (ev ρ x)).all gS then some (.pointer (some ⟨H.length,0,none⟩),H++[.row (aO (ev ρ x)) (aO (ev ρ x)).length false]) else none:=by
 apply pA
 simp only[pop]
 by_cases h:(aO (ev ρ x)).all gS=true
 ·rw[if_pos h,if_pos h];rfl
 ·rw[if_neg h,if_neg h];rfl
def Uq (z:List Value) (bytes:Nat) (l c:Value) (H:aE):Option (Value×aE) :=
 match l,c with
 | .int .i64 l,.int .i64 c=>if 0≤l∧l≤c∧c*bytes≤281474976710656∧c≤9223372036854775807 then
  some (.slice (some ⟨H.length,0,none⟩) l.toNat c.toNat,H++[.row (cL c.toNat z) z.length false]) else none
 | _,_=>none
theorem Wp {z:List Value} {bytes:Nat} {l c:Operand}:jU lo q (.make z bytes l c) ρ H=Uq z bytes (ev ρ l) (ev ρ c) H:=by
 apply pA
 simp only[pop]
 unfold Uq
 split
 ·rename_i l c h1 h2
  simp only[h1,h2]
  split<;>rfl
 ·rename_i h1
  split
  ·rename_i h2 h3
   exact(h1 _ _ h2 h3).elim
  ·rfl
def acX (z:List Value) (n:Nat) (parts:List (Nat×Value)) (H:aE):Option (Value×aE) :=
 match vP ((List.range n).map fun i=>(i*z.length,z.length)) (cL n z) parts with
 | some cs=>if cs.all gS then some (.slice (some ⟨H.length,0,none⟩) n n,H++[.row cs z.length false]) else none
 | none=>none
theorem ZV {z:List Value} {n:Nat} {parts:List (Nat×Operand)}:jU lo q (.lit z n parts) ρ H=acX z n (parts.map fun(i,x)=>(i,ev ρ x)) H:=by
 apply pA
 simp only[pop]
 unfold acX
 split
 ·rename_i cs h1
  simp only[h1]
  split<;>rfl
 ·rename_i h1
  simp only[h1]
  rfl
def EY (lo size:Nat) (p v:Value) (H:aE):Option (Value×aE) :=
 match p with
 | .pointer (some ⟨b,o,none⟩)=>if (aO v).length=size then (H.write lo b o (aO v)).map fun H'=>(undef,H') else none
 | _=>none
theorem Sf {size:Nat} {p v:Operand}:jU lo q (.store size p v) ρ H=EY lo size (ev ρ p) (ev ρ v) H:=by
 apply pA
 simp only[pop]
 unfold EY
 split
 ·rename_i b o h1
  simp only[h1]
  split
  ·cases H.write lo b o (aO (ev ρ v))<;>rfl
  ·rfl
 ·rename_i h1
  split
  ·rename_i h2
   exact(h1 _ _ h2).elim
  ·rfl
def ajI (lo size bytes:Nat) (x y:Value) (H:aE):Option (Value×aE) :=
 match rQ y with
 |
  some n=>match jL H size n y with
  | some new=>eH lo size bytes x n new H
  | none=>none
 | none=>none
theorem Xx {size bytes:Nat} {x y:Operand}:jU lo q (.app size bytes x y) ρ H=ajI lo size bytes (ev ρ x) (ev ρ y) H:=by
 apply pA
 simp only[pop]
 unfold ajI
 cases rQ (ev ρ y) with
 | none=>rfl
 |
  some n =>
  cases hs:jL H size n (ev ρ y) with
  | none=>simp only[hs];rfl
  | some new=>simp only[hs]
def XB (lo:Nat) (z:List Value) (bytes:Nat) (x n:Value) (H:aE):Option (Value×aE) :=
 match n with
 | .int .i64 n=>if 0≤n∧n*bytes≤140737488355328 then eH lo z.length bytes x n.toNat (cL n.toNat z) H else none
 | _=>none
theorem Vd {z:List Value} {bytes:Nat} {x n:Operand}:jU lo q (.appz z bytes x n) ρ H=XB lo z bytes (ev ρ x) (ev ρ n) H:=by
 apply pA
 simp only[pop]
 unfold XB
 split
 ·rename_i n h1
  simp only[h1]
  split<;>rfl
 ·rename_i h1
  split
  ·rename_i h2
   exact(h1 _ h2).elim
  ·rfl
def copyV (lo size:Nat) (x y:Value) (H:aE):Option (Value×aE) :=
 match x,rQ y with
 | .slice none _ _,some _=>some (.int .i64 0,H)
 |
  .slice (some ⟨b,o,none⟩) d _,some s=>match jL H size (Nat.min s d) y with
  | some new=>(H.write lo b o new).map fun H'=>(.int .i64 (Nat.min s d),H')
  | none=>none
 | _,_=>none
theorem Vp {size:Nat} {x y:Operand}:jU lo q (.copy size x y) ρ H=copyV lo size (ev ρ x) (ev ρ y) H:=by
 apply pA
 simp only[pop]
 unfold copyV
 split
 ·rename_i h1 h2
  simp only[h1,h2]
  rfl
 ·rename_i b o d _ s h1 h2
  simp only[h1,h2]
  cases hs:jL H size (Nat.min s d) (ev ρ y) with
  | none=>rfl
  |
   some new =>
   simp only
   cases H.write lo b o new<;>rfl
 ·rename_i h1 h2
  split
  ·rename_i h3 h4
   exact(h1 _ _ _ h3 h4).elim
  ·rename_i h3 h4
   exact(h2 _ _ _ _ _ h3 h4).elim
  ·rfl
def OT (lo:Nat) (z:List Value) (x:Value) (H:aE):Option (Value×aE) :=
 match x with
 | .slice none _ _=>some (undef,H)
 | .slice (some ⟨b,o,none⟩) n _=>if n=0 then some (undef,H) else (H.write lo b o (cL n z)).map fun H'=>(undef,H')
 | _=>none
theorem SF {z:List Value} {x:Operand}:jU lo q (.clear z x) ρ H=OT lo z (ev ρ x) H:=by
 apply pA
 simp only[pop]
 unfold OT
 split
 ·rename_i h1
  simp only[h1]
  rfl
 ·rename_i b o n _ h1
  simp only[h1]
  split
  ·rfl
  ·cases H.write lo b o (cL n z)<;>rfl
 ·rename_i h1 h2
  split
  ·rename_i h3
   exact(h1 _ _ h3).elim
  ·rename_i h3
   exact(h2 _ _ _ _ h3).elim
  ·rfl
noncomputable def X9 (lo:Nat) (fv:Value) (args:List Value) (H:aE):Option (Value×aE) :=
 match fv with
 | .func (.func f) first fS=>qP f (first.toList++args++fS.toList) lo H
 | _=>none
theorem Sa {fv:Operand} {args:List Operand}:jU lo q (.callv fv args) ρ H=X9 (if q then H.length else lo) (ev ρ fv) (args.map (ev ρ)) H:=by
 unfold jU
 simp only[pop]
 unfold X9
 generalize ev ρ fv=v
 cases v with
 | func fn f c=>cases fn<;>rfl
 | _=>rfl
end
end Go.PM
namespace Go.PM
section
variable {lo:Nat} {Q:Ex→Env→aE→Prop} {K:Env→aE→Prop} {ρ:Env} {H:aE} {q:Bool}
def amT (u v:Value):Bool:=match jG u,jG v with
 | some a,some b=>a != b
 | _,_=>true
end
theorem T2 {k:IntKind} {a b:Int}:Qv (.int k a) (.int k b)=some (.int k (max a b)):=by
 simp only[Qv]
 congr 2
 split<;>omega
theorem TQ {k:IntKind} {a b:Int}:Ri (.int k a) (.int k b)=some (.int k (min a b)):=by
 simp only[Ri]
 congr 2
 split<;>omega
end Go.PM
namespace Go.PM
abbrev ptr (b o:Nat):Value := .pointer (some ⟨b,o,none⟩)
abbrev I (n:Int):Value := .int .i64 n
section
variable {H H':aE} {lo b o n size:Nat} {cs r:List Value} {L K:aE} {v:Value}
theorem Ob (hb:b<H.length):(H++L)[b]? = H[b]? := List.getElem?_append_left hb
theorem Uk {x:LU}:(H++x::L)[H.length]? = some x:=by simp
theorem YT (hb:b<H.length):(H++L).read b o n=H.read b o n:=EW (Ob hb)
theorem A6 {e:Nat} {p:Bool} (h:H[b]? = some (.row r e p)) (hn:o+n≤r.length):H.read b o n=some ((r.drop o).take n):=by
 unfold aE.read
 rw[h]
 simp only[hn,if_true]
structure Cs (H:aE) (b o:Nat) (cs:List Value):Prop where
 lt:b<H.length
 rd:H.read b o cs.length=some cs
theorem Cs.app (h:Cs H b o cs):Cs (H++L) b o cs:=⟨by have:=h.lt;simp;omega,by rw[YT h.lt];exact h.rd⟩
theorem Cs.pre (h:Cs H b o cs) (hp:H <+: H'):Cs H' b o cs:=by
 obtain⟨L,rfl⟩:=hp
 exact h.app
theorem Cs.all (h:Cs H b o cs) (hs:cs.length=size):nO true size (.pointer (some ⟨b,o,none⟩)) H=some (.agg cs.toArray):=by
 subst hs
 simp only[nO,if_true,h.rd]
 rfl
theorem Cs.one {u:Value} (h:Cs H b o [u]):nO false size (.pointer (some ⟨b,o,none⟩)) H=some u:=by
 have:=h.rd
 simp only[List.length_cons,List.length_nil] at this
 simp only[nO,this]
 rfl
theorem Cs.sub {k:Nat} {u:Value} (h:Cs H b o cs) (hk:cs[k]? = some u):Cs H b (o+k) [u]:=by
 refine⟨h.lt,?_⟩
 have h1:=h.rd
 unfold aE.read at h1 ⊢
 split at h1
 ·rename_i r e p hb
  split at h1
  ·rename_i hl
   have hk':=(List.getElem?_eq_some_iff.1 hk).1
   simp only[List.length_cons,List.length_nil]
   rw[if_pos (by simp;omega)]
   injection h1 with h1
   rw[←h1] at hk
   rw[List.getElem?_take,if_pos (by omega),List.getElem?_drop] at hk
   have bD:=(List.getElem?_eq_some_iff.1 hk).1
   rw[List.drop_eq_getElem_cons bD]
   simp only[List.take_succ_cons,List.take_zero]
   rw[List.getElem?_eq_getElem bD] at hk
   injection hk with hk
   rw[hk]
  ·cases h1
 ·cases h1
theorem Cs.fld {k:Nat} {u:Value} (h:Cs H b o cs) (hk:cs[k]? = some u):nO false size (.pointer (some ⟨b,o+k,none⟩)) H=some u:=(h.sub hk).one
theorem QU {a:Nat} {c:Nat} {i:Int} {k:IntKind} (h0:0≤i) (h1:i<n):NP size (.slice (some ⟨b,a,none⟩) n c) (.int k i)=some (.pointer (some ⟨b,a+i.toNat*size,none⟩)):=by
 simp only[NP]
 rw[if_pos ⟨h0,h1⟩]
structure Arr {α:Type} (enc:α→List Value) (fL:Nat) (H:aE) (a:Option Addr) (n:Nat) (xs:List α):Prop where
 len:n=xs.length
 el:∀(i:Nat) x,xs[i]? = some x→∃b o,a=some ⟨b,o,none⟩∧Cs H b (o+i*fL) (enc x)
theorem Arr.pre {α:Type} {enc:α→List Value} {fL:Nat} {a:Option Addr} {xs:List α} (h:Arr enc fL H a n xs) (hp:H <+: H'):Arr enc fL H' a n xs :=
 ⟨h.len,fun i x hx=>by obtain⟨b,o,h1,h2⟩:=h.el i x hx;exact⟨b,o,h1,h2.pre hp⟩⟩
end
structure fO where
 t:Int
 w:Int
 k:Int
 deriving DecidableEq
def cc (c:fO):List Value:=[I c.t,I c.w,I c.k]
def ci (n:Int):List Value:=[I n]
end Go.PM
namespace Go.PM
structure Ic {α:Type} (enc:α→List Value) (fL:Nat):Prop where
 len:∀x,(enc x).length=fL
 sc:∀x,(enc x).all gS=true
 pos:1≤fL
section
variable {α:Type} {enc:α→List Value} {fL:Nat} {H H':aE} {lo b:Nat} {xs ys:List α} {p:Bool}
theorem JU (e:Ic enc fL):(xs.flatMap enc).length=xs.length*fL:=by
 induction xs with
 | nil=>simp
 | cons x xs ih=>simp only[List.flatMap_cons,List.length_append,e.len,ih,List.length_cons,Nat.succ_mul];omega
theorem Hk (e:Ic enc fL) (i:Nat):(xs.flatMap enc).drop (i*fL)=(xs.drop i).flatMap enc:=by
 induction i generalizing xs with
 | zero=>simp
 |
  succ i ih =>
  cases xs with
  | nil=>simp
  |
   cons x xs =>
   rw[List.flatMap_cons,List.drop_succ_cons,←ih,show (i+1)*fL=(enc x).length+i*fL by rw[e.len,Nat.succ_mul];omega,List.drop_append]
   simp
theorem Mv (e:Ic enc fL) (i:Nat):(xs.flatMap enc).take (i*fL)=(xs.take i).flatMap enc:=by
 induction i generalizing xs with
 | zero=>simp
 |
  succ i ih =>
  cases xs with
  | nil=>simp
  |
   cons x xs =>
   rw[List.flatMap_cons,List.take_succ_cons,List.flatMap_cons,←ih,show (i+1)*fL=(enc x).length+i*fL by rw[e.len,Nat.succ_mul];omega,List.take_append]
   simp
   exact List.take_of_length_le (by omega)
theorem PV (e:Ic enc fL) {i:Nat} (x:α) (hi:i<xs.length):iZ (xs.flatMap enc) (i*fL) (enc x)=(xs.set i x).flatMap enc:=by
 unfold iZ
 rw[Mv e,e.len,show i*fL+fL=(i+1)*fL by rw[Nat.succ_mul],Hk e,List.set_eq_take_append_cons_drop,if_pos hi]
 simp
def Row (enc:α→List Value) (fL:Nat) (H:aE) (b:Nat) (p:Bool) (xs:List α):Prop:=H[b]? = some (.row (xs.flatMap enc) fL p)
theorem Row.lt (h:Row enc fL H b p xs):b<H.length:=(List.getElem?_eq_some_iff.1 h).1
theorem Row.pre (h:Row enc fL H b p xs) (hp:H <+: H'):Row enc fL H' b p xs:=by
 obtain⟨L,rfl⟩:=hp
 unfold Row
 rw[Ob h.lt]
 exact h
theorem Row.elem (h:Row enc fL H b p xs) (e:Ic enc fL) {i:Nat} {x:α} (hx:xs[i]? = some x):Cs H b (i*fL) (enc x):=by
 refine⟨h.lt,?_⟩
 have hi:=(List.getElem?_eq_some_iff.1 hx).1
 have hm:(i+1)*fL≤xs.length*fL:=Nat.mul_le_mul_right _ hi
 rw[Nat.succ_mul] at hm
 rw[A6 h (by rw[e.len,JU e];omega),Hk e,e.len]
 have:=Mv (xs:=xs.drop i) e 1
 rw[Nat.one_mul] at this
 rw[this,List.drop_eq_getElem_cons hi]
 rw[List.getElem?_eq_getElem hi] at hx
 injection hx with hx
 simp[hx]
theorem Row.arr (h:Row enc fL H b p xs) (e:Ic enc fL) {n:Nat} (hn:n≤xs.length):Arr enc fL H (some ⟨b,0,none⟩) n (xs.take n):=by
 refine⟨by simp;omega,fun i x hx=>⟨b,0,rfl,?_⟩⟩
 rw[Nat.zero_add]
 refine h.elem e ?_
 rw[List.getElem?_take] at hx
 split at hx
 ·exact hx
 ·cases hx
theorem Row.store (h:Row enc fL H b p xs) (e:Ic enc fL) {i:Nat} {x:α} {u:Value} (hu:aO u=enc x) (hi:i<xs.length) (hl:lo≤b):EY lo fL (.pointer (some ⟨b,i*fL,none⟩)) u H=some (undef,H.set b (.row ((xs.set i x).flatMap enc) fL p)):=by
 simp only[EY,aE.write,hu,e.len,if_true]
 have h':H[b]? = some (.row (xs.flatMap enc) fL p):=h
 have hm:(i+1)*fL≤xs.length*fL:=Nat.mul_le_mul_right _ hi
 rw[Nat.succ_mul] at hm
 simp only[h']
 rw[if_pos ⟨hl,by rw[JU e];omega,e.sc x⟩,PV e x hi]
 rfl
theorem Row.set (h:Row enc fL H b p xs) (ys:List α):Row enc fL (H.set b (.row (ys.flatMap enc) fL p)) b p ys:=by
 unfold Row
 rw[List.getElem?_set_self h.lt]
theorem PO (e:Ic enc fL) {n:Nat} {x:α}:cL n (enc x)=(List.replicate n x).flatMap enc:=by
 have lA:=e.pos
 have hlen:=e.len x
 apply List.ext_getElem?
 intro i
 unfold cL
 rw[List.getElem?_map,hlen]
 rcases Nat.lt_or_ge i (n*fL) with hi | hi
 ·rw[List.getElem?_range hi]
  have hq:i / fL<n:=Nat.div_lt_of_lt_mul (by rw[Nat.mul_comm];exact hi)
  have h1:((List.replicate n x).flatMap enc)[i]? = (((List.replicate n x).flatMap enc).drop (i / fL*fL))[i % fL]? := by
   rw[List.getElem?_drop]
   congr 1
   rw[Nat.mul_comm]
   exact(Nat.div_add_mod i fL).symm
  have hr:i % fL<(enc x).length:=by rw[hlen];exact Nat.mod_lt _ (by omega)
  rw[h1,Hk e,List.drop_replicate,show n-i / fL=(n-i / fL-1)+1 by omega,List.replicate_succ,List.flatMap_cons,List.getElem?_append_left hr]
  simp[List.getD_eq_getElem?_getD,List.getElem?_eq_getElem hr]
 ·rw[List.getElem?_eq_none (by simpa using hi),List.getElem?_eq_none (by rw[JU e];simpa using hi)]
  rfl
theorem Row.top {K:aE}:Row enc fL (H ++ .row (xs.flatMap enc) fL p::K) H.length p xs:=Uk
end
end Go.PM
namespace Go.PM
section
variable {H L:aE} {lo k o size:Nat} {agg:Bool} {u:Value}
end
end Go.PM
namespace Go.Proofs
open Go.Shelf
def KP:Go.Shelf.Ren:=⟨fun | 156=>186 | 165=>189 | 166=>190 | 169=>192 | 240=>230 | 241=>231 | 276=>249 | 277=>250 | n=>n,fun | 31=>22 | 9=>9 | 3=>3 | 4=>4 | 0=>0 | 20=>20 | 72=>230 | 76=>234 | 70=>228 | 37=>36 | 75=>233 | 127=>266 | 164=>281 | 5=>5 | 80=>129 | n=>n,fun | n=>n⟩
theorem Su:Go.Proofs.Lays.n156 Tryz.prog KP:={
 mixed:=by kernel_rfl
 f156:=Tryz.func186.trans (congrArg some (by kernel_rfl))
 f165:=Tryz.func189.trans (congrArg some (by kernel_rfl))
 f166:=Tryz.func190.trans (congrArg some (by kernel_rfl))
 f169:=Tryz.func192.trans (congrArg some (by kernel_rfl))
 f240:=Tryz.func230.trans (congrArg some (by kernel_rfl))
 f241:=Tryz.func231.trans (congrArg some (by kernel_rfl))
 f276:=Tryz.func249.trans (congrArg some (by kernel_rfl))
 f277:=Tryz.func250.trans (congrArg some (by kernel_rfl))
 t0:=Tryz.underlying0
 a0:=Tryz.isAgg0
 z0:=Tryz.sizeOf0
 v0:=Tryz.zeroValue0
 t3:=Tryz.underlying3
 a3:=Tryz.isAgg3
 z3:=Tryz.sizeOf3
 v3:=Tryz.zeroValue3
 t4:=Tryz.underlying4
 a4:=Tryz.isAgg4
 z4:=Tryz.sizeOf4
 v4:=Tryz.zeroValue4
 t9:=Tryz.underlying9
 a9:=Tryz.isAgg9
 z9:=Tryz.sizeOf9
 v9:=Tryz.zeroValue9
 t20:=Tryz.underlying20
 a20:=Tryz.isAgg20
 z20:=Tryz.sizeOf20
 v20:=Tryz.zeroValue20
 t31:=Tryz.underlying22
 a31:=Tryz.isAgg22
 z31:=Tryz.sizeOf22
 v31:=Tryz.zeroValue22
 t37:=Tryz.underlying36
 a37:=Tryz.isAgg36
 z37:=Tryz.sizeOf36
 v37:=Tryz.zeroValue36
 t70:=Tryz.underlying228
 a70:=Tryz.isAgg228
 z70:=Tryz.sizeOf228
 v70:=Tryz.zeroValue228
 t72:=Tryz.underlying230
 a72:=Tryz.isAgg230
 z72:=Tryz.sizeOf230
 v72:=Tryz.zeroValue230
 t75:=Tryz.underlying233
 a75:=Tryz.isAgg233
 z75:=Tryz.sizeOf233
 v75:=Tryz.zeroValue233
 t76:=Tryz.underlying234
 a76:=Tryz.isAgg234
 z76:=Tryz.sizeOf234
 v76:=Tryz.zeroValue234
 t127:=Tryz.underlying266
 a127:=Tryz.isAgg266
 z127:=Tryz.sizeOf266
 v127:=Tryz.zeroValue266
 t164:=Tryz.underlying281
 a164:=Tryz.isAgg281
 z164:=Tryz.sizeOf281
 v164:=Tryz.zeroValue281 }
theorem Oi:Builder.Extra Tryz.prog KP:={
 sizeBuilder:=by kernel_rfl
 liesBuilder:=by kernel_rfl
 t5:=Tryz.underlying5
 a5:=Tryz.isAgg5
 z5:=Tryz.sizeOf5
 v5:=Tryz.zeroValue5
 infoByte:=by kernel_rfl
 cellsByte:=by kernel_rfl
 sizeByte:=by kernel_rfl
 neB5:=by decide }
def Sd:Go.Shelf.Ren:=⟨fun | 133=>219 | 128=>244 | n=>n,fun | 51=>218 | 3=>3 | 4=>4 | 46=>219 | 5=>5 | 9=>9 | n=>n,fun | n=>n⟩
theorem ahX:Go.Proofs.Lays.n133 Tryz.prog Sd:={
 mixed:=by kernel_rfl
 f128:=Tryz.func244.trans (congrArg some (by kernel_rfl))
 f133:=Tryz.func219.trans (congrArg some (by kernel_rfl))
 t3:=Tryz.underlying3
 a3:=Tryz.isAgg3
 z3:=Tryz.sizeOf3
 v3:=Tryz.zeroValue3
 t4:=Tryz.underlying4
 a4:=Tryz.isAgg4
 z4:=Tryz.sizeOf4
 v4:=Tryz.zeroValue4
 t5:=Tryz.underlying5
 a5:=Tryz.isAgg5
 z5:=Tryz.sizeOf5
 v5:=Tryz.zeroValue5
 t9:=Tryz.underlying9
 a9:=Tryz.isAgg9
 z9:=Tryz.sizeOf9
 v9:=Tryz.zeroValue9
 t46:=Tryz.underlying219
 a46:=Tryz.isAgg219
 z46:=Tryz.sizeOf219
 v46:=Tryz.zeroValue219
 t51:=Tryz.underlying218
 a51:=Tryz.isAgg218
 z51:=Tryz.sizeOf218
 v51:=Tryz.zeroValue218 }
def R7:Go.Shelf.Ren:=⟨fun | 283=>245 | n=>n,fun | 3=>3 | 9=>9 | 4=>4 | n=>n,fun | n=>n⟩
theorem agZ:Go.Proofs.Lays.n283 Tryz.prog R7:={
 mixed:=by kernel_rfl
 f283:=Tryz.func245.trans (congrArg some (by kernel_rfl))
 t3:=Tryz.underlying3
 a3:=Tryz.isAgg3
 z3:=Tryz.sizeOf3
 v3:=Tryz.zeroValue3
 t4:=Tryz.underlying4
 a4:=Tryz.isAgg4
 z4:=Tryz.sizeOf4
 v4:=Tryz.zeroValue4
 t9:=Tryz.underlying9
 a9:=Tryz.isAgg9
 z9:=Tryz.sizeOf9
 v9:=Tryz.zeroValue9 }
def Td:Go.Shelf.Ren:=⟨fun | 284=>246 | 129=>262 | 317=>261 | 318=>263 | n=>n,fun | 53=>128 | 3=>3 | 212=>291 | 0=>0 | 4=>4 | 46=>219 | 5=>5 | 9=>9 | n=>n,fun | 17=>1 | n=>n⟩
theorem agU:Go.Proofs.LaysM.n284 Tryz.prog Td:={
 mixed:=by kernel_rfl
 f129:=Tryz.func262.trans (congrArg some (by kernel_rfl))
 f284:=Tryz.func246.trans (congrArg some (by kernel_rfl))
 f317:=Tryz.func261.trans (congrArg some (by kernel_rfl))
 f318:=Tryz.func263.trans (congrArg some (by kernel_rfl))
 t0:=Tryz.underlying0
 a0:=Tryz.isAgg0
 z0:=Tryz.sizeOf0
 v0:=Tryz.zeroValue0
 t3:=Tryz.underlying3
 a3:=Tryz.isAgg3
 z3:=Tryz.sizeOf3
 v3:=Tryz.zeroValue3
 t4:=Tryz.underlying4
 a4:=Tryz.isAgg4
 z4:=Tryz.sizeOf4
 v4:=Tryz.zeroValue4
 t5:=Tryz.underlying5
 a5:=Tryz.isAgg5
 z5:=Tryz.sizeOf5
 v5:=Tryz.zeroValue5
 t9:=Tryz.underlying9
 a9:=Tryz.isAgg9
 z9:=Tryz.sizeOf9
 v9:=Tryz.zeroValue9
 t46:=Tryz.underlying219
 a46:=Tryz.isAgg219
 z46:=Tryz.sizeOf219
 v46:=Tryz.zeroValue219
 t53:=Tryz.underlying128
 a53:=Tryz.isAgg128
 z53:=Tryz.sizeOf128
 v53:=Tryz.zeroValue128
 t212:=Tryz.underlying291
 a212:=Tryz.isAgg291
 z212:=Tryz.sizeOf291
 v212:=Tryz.zeroValue291
 g17:=by kernel_rfl
 i0:=by kernel_rfl
 i3:=by kernel_rfl
 i4:=by kernel_rfl
 i5:=by kernel_rfl
 i9:=by kernel_rfl
 i46:=by kernel_rfl
 i53:=by kernel_rfl
 i212:=by kernel_rfl
 m17:=by kernel_rfl }
def SG:Go.Shelf.Ren:=⟨fun | 285=>247 | n=>n,fun | 37=>36 | 53=>128 | 3=>3 | 4=>4 | 51=>218 | 9=>9 | 5=>5 | 0=>0 | n=>n,fun | n=>n⟩
theorem ahI:Go.Proofs.Lays.n285 Tryz.prog SG:={
 mixed:=by kernel_rfl
 f285:=Tryz.func247.trans (congrArg some (by kernel_rfl))
 t0:=Tryz.underlying0
 a0:=Tryz.isAgg0
 z0:=Tryz.sizeOf0
 v0:=Tryz.zeroValue0
 t3:=Tryz.underlying3
 a3:=Tryz.isAgg3
 z3:=Tryz.sizeOf3
 v3:=Tryz.zeroValue3
 t4:=Tryz.underlying4
 a4:=Tryz.isAgg4
 z4:=Tryz.sizeOf4
 v4:=Tryz.zeroValue4
 t5:=Tryz.underlying5
 a5:=Tryz.isAgg5
 z5:=Tryz.sizeOf5
 v5:=Tryz.zeroValue5
 t9:=Tryz.underlying9
 a9:=Tryz.isAgg9
 z9:=Tryz.sizeOf9
 v9:=Tryz.zeroValue9
 t37:=Tryz.underlying36
 a37:=Tryz.isAgg36
 z37:=Tryz.sizeOf36
 v37:=Tryz.zeroValue36
 t51:=Tryz.underlying218
 a51:=Tryz.isAgg218
 z51:=Tryz.sizeOf218
 v51:=Tryz.zeroValue218
 t53:=Tryz.underlying128
 a53:=Tryz.isAgg128
 z53:=Tryz.sizeOf128
 v53:=Tryz.zeroValue128 }
def QR:Go.Shelf.Ren:=⟨fun | 14=>217 | 16=>242 | 17=>243 | 19=>255 | 20=>256 | 21=>257 | 22=>258 | 23=>259 | 24=>260 | 25=>268 | 27=>270 | 26=>269 | 28=>273 | 29=>274 | 30=>245 | 31=>246 | 32=>247 | 33=>248 | 35=>262 | 34=>261 | 36=>263 | 37=>264 | 38=>265 | 39=>271 | 40=>272 | n=>n,fun | 9=>9 | 3=>3 | 22=>128 | 24=>233 | 25=>252 | 4=>4 | 34=>285 | 5=>5 | 36=>219 | 37=>36 | 0=>0 | 39=>287 | 21=>21 | 44=>298 | 47=>266 | 50=>302 | 48=>300 | 2=>2 | 52=>276 | 55=>279 | 59=>291 | 60=>218 | 20=>20 | 61=>292 | 65=>303 | 66=>304 | 67=>129 | n=>n,fun | 0=>2 | 1=>3 | 2=>1 | 3=>4 | 4=>5 | n=>n⟩
theorem acE:Go.Proofs.LaysPu.n14 Tryz.prog QR:={
 mixed:=by kernel_rfl
 f14:=Tryz.func217.trans (congrArg some (by kernel_rfl))
 f16:=Tryz.func242.trans (congrArg some (by kernel_rfl))
 f17:=Tryz.func243.trans (congrArg some (by kernel_rfl))
 f19:=Tryz.func255.trans (congrArg some (by kernel_rfl))
 f20:=Tryz.func256.trans (congrArg some (by kernel_rfl))
 f21:=Tryz.func257.trans (congrArg some (by kernel_rfl))
 f22:=Tryz.func258.trans (congrArg some (by kernel_rfl))
 f23:=Tryz.func259.trans (congrArg some (by kernel_rfl))
 f24:=Tryz.func260.trans (congrArg some (by kernel_rfl))
 f25:=Tryz.func268.trans (congrArg some (by kernel_rfl))
 f26:=Tryz.func269.trans (congrArg some (by kernel_rfl))
 f27:=Tryz.func270.trans (congrArg some (by kernel_rfl))
 f28:=Tryz.func273.trans (congrArg some (by kernel_rfl))
 f29:=Tryz.func274.trans (congrArg some (by kernel_rfl))
 f30:=Tryz.func245.trans (congrArg some (by kernel_rfl))
 f31:=Tryz.func246.trans (congrArg some (by kernel_rfl))
 f32:=Tryz.func247.trans (congrArg some (by kernel_rfl))
 f33:=Tryz.func248.trans (congrArg some (by kernel_rfl))
 f34:=Tryz.func261.trans (congrArg some (by kernel_rfl))
 f35:=Tryz.func262.trans (congrArg some (by kernel_rfl))
 f36:=Tryz.func263.trans (congrArg some (by kernel_rfl))
 f37:=Tryz.func264.trans (congrArg some (by kernel_rfl))
 f38:=Tryz.func265.trans (congrArg some (by kernel_rfl))
 f39:=Tryz.func271.trans (congrArg some (by kernel_rfl))
 f40:=Tryz.func272.trans (congrArg some (by kernel_rfl))
 t0:=Tryz.underlying0
 a0:=Tryz.isAgg0
 z0:=Tryz.sizeOf0
 v0:=Tryz.zeroValue0
 i0:=by kernel_rfl
 t2:=Tryz.underlying2
 a2:=Tryz.isAgg2
 z2:=Tryz.sizeOf2
 v2:=Tryz.zeroValue2
 i2:=by kernel_rfl
 t3:=Tryz.underlying3
 a3:=Tryz.isAgg3
 z3:=Tryz.sizeOf3
 v3:=Tryz.zeroValue3
 i3:=by kernel_rfl
 t4:=Tryz.underlying4
 a4:=Tryz.isAgg4
 z4:=Tryz.sizeOf4
 v4:=Tryz.zeroValue4
 i4:=by kernel_rfl
 t5:=Tryz.underlying5
 a5:=Tryz.isAgg5
 z5:=Tryz.sizeOf5
 v5:=Tryz.zeroValue5
 i5:=by kernel_rfl
 t9:=Tryz.underlying9
 a9:=Tryz.isAgg9
 z9:=Tryz.sizeOf9
 v9:=Tryz.zeroValue9
 i9:=by kernel_rfl
 t20:=Tryz.underlying20
 a20:=Tryz.isAgg20
 z20:=Tryz.sizeOf20
 v20:=Tryz.zeroValue20
 i20:=by kernel_rfl
 t21:=Tryz.underlying21
 a21:=Tryz.isAgg21
 z21:=Tryz.sizeOf21
 v21:=Tryz.zeroValue21
 i21:=by kernel_rfl
 t22:=Tryz.underlying128
 a22:=Tryz.isAgg128
 z22:=Tryz.sizeOf128
 v22:=Tryz.zeroValue128
 i22:=by kernel_rfl
 t24:=Tryz.underlying233
 a24:=Tryz.isAgg233
 z24:=Tryz.sizeOf233
 v24:=Tryz.zeroValue233
 i24:=by kernel_rfl
 t25:=Tryz.underlying252
 a25:=Tryz.isAgg252
 z25:=Tryz.sizeOf252
 v25:=Tryz.zeroValue252
 i25:=by kernel_rfl
 t34:=Tryz.underlying285
 a34:=Tryz.isAgg285
 z34:=Tryz.sizeOf285
 v34:=Tryz.zeroValue285
 i34:=by kernel_rfl
 c34:=by kernel_rfl
 t36:=Tryz.underlying219
 a36:=Tryz.isAgg219
 z36:=Tryz.sizeOf219
 v36:=Tryz.zeroValue219
 i36:=by kernel_rfl
 t37:=Tryz.underlying36
 a37:=Tryz.isAgg36
 z37:=Tryz.sizeOf36
 v37:=Tryz.zeroValue36
 i37:=by kernel_rfl
 t39:=Tryz.underlying287
 a39:=Tryz.isAgg287
 z39:=Tryz.sizeOf287
 v39:=Tryz.zeroValue287
 i39:=by kernel_rfl
 t44:=Tryz.underlying298
 a44:=Tryz.isAgg298
 z44:=Tryz.sizeOf298
 v44:=Tryz.zeroValue298
 i44:=by kernel_rfl
 t47:=Tryz.underlying266
 a47:=Tryz.isAgg266
 z47:=Tryz.sizeOf266
 v47:=Tryz.zeroValue266
 i47:=by kernel_rfl
 t48:=Tryz.underlying300
 a48:=Tryz.isAgg300
 z48:=Tryz.sizeOf300
 v48:=Tryz.zeroValue300
 i48:=by kernel_rfl
 t50:=Tryz.underlying302
 a50:=Tryz.isAgg302
 z50:=Tryz.sizeOf302
 v50:=Tryz.zeroValue302
 i50:=by kernel_rfl
 t52:=Tryz.underlying276
 a52:=Tryz.isAgg276
 z52:=Tryz.sizeOf276
 v52:=Tryz.zeroValue276
 i52:=by kernel_rfl
 t55:=Tryz.underlying279
 a55:=Tryz.isAgg279
 z55:=Tryz.sizeOf279
 v55:=Tryz.zeroValue279
 i55:=by kernel_rfl
 t59:=Tryz.underlying291
 a59:=Tryz.isAgg291
 z59:=Tryz.sizeOf291
 v59:=Tryz.zeroValue291
 i59:=by kernel_rfl
 t60:=Tryz.underlying218
 a60:=Tryz.isAgg218
 z60:=Tryz.sizeOf218
 v60:=Tryz.zeroValue218
 i60:=by kernel_rfl
 t61:=Tryz.underlying292
 a61:=Tryz.isAgg292
 z61:=Tryz.sizeOf292
 t65:=Tryz.underlying303
 a65:=Tryz.isAgg303
 z65:=Tryz.sizeOf303
 v65:=Tryz.zeroValue303
 i65:=by kernel_rfl
 t66:=Tryz.underlying304
 a66:=Tryz.isAgg304
 z66:=Tryz.sizeOf304
 v66:=Tryz.zeroValue304
 i66:=by kernel_rfl
 t67:=Tryz.underlying129
 a67:=Tryz.isAgg129
 z67:=Tryz.sizeOf129
 v67:=Tryz.zeroValue129
 i67:=by kernel_rfl
 g0:=by kernel_rfl
 m0:=by kernel_rfl
 g1:=by kernel_rfl
 m1:=by kernel_rfl
 g2:=by kernel_rfl
 m2:=by kernel_rfl
 g3:=by kernel_rfl
 m3:=by kernel_rfl
 g4:=by kernel_rfl
 m4:=by kernel_rfl }
def R3:Go.Shelf.Ren:=⟨fun | 219=>241 | 217=>251 | 225=>252 | 224=>253 | 267=>254 | 266=>266 | 314=>267 | n=>n,fun | 9=>9 | 3=>3 | 4=>4 | 5=>5 | 46=>219 | 146=>262 | 51=>218 | n=>n,fun | 1=>0 | n=>n⟩
theorem afN:Go.Proofs.Lays.n219 Tryz.prog R3:={
 mixed:=by kernel_rfl
 f217:=Tryz.func251.trans (congrArg some (by kernel_rfl))
 f219:=Tryz.func241.trans (congrArg some (by kernel_rfl))
 f224:=Tryz.func253.trans (congrArg some (by kernel_rfl))
 f225:=Tryz.func252.trans (congrArg some (by kernel_rfl))
 f266:=Tryz.func266.trans (congrArg some (by kernel_rfl))
 f267:=Tryz.func254.trans (congrArg some (by kernel_rfl))
 f314:=Tryz.func267.trans (congrArg some (by kernel_rfl))
 t3:=Tryz.underlying3
 a3:=Tryz.isAgg3
 z3:=Tryz.sizeOf3
 v3:=Tryz.zeroValue3
 t4:=Tryz.underlying4
 a4:=Tryz.isAgg4
 z4:=Tryz.sizeOf4
 v4:=Tryz.zeroValue4
 t5:=Tryz.underlying5
 a5:=Tryz.isAgg5
 z5:=Tryz.sizeOf5
 v5:=Tryz.zeroValue5
 t9:=Tryz.underlying9
 a9:=Tryz.isAgg9
 z9:=Tryz.sizeOf9
 v9:=Tryz.zeroValue9
 t46:=Tryz.underlying219
 a46:=Tryz.isAgg219
 z46:=Tryz.sizeOf219
 v46:=Tryz.zeroValue219
 t51:=Tryz.underlying218
 a51:=Tryz.isAgg218
 z51:=Tryz.sizeOf218
 v51:=Tryz.zeroValue218
 t146:=Tryz.underlying262
 a146:=Tryz.isAgg262
 z146:=Tryz.sizeOf262
 v146:=Tryz.zeroValue262
 g1:=by kernel_rfl }
def JV:Go.Shelf.Ren:=⟨fun | 105=>103 | 212=>187 | 99=>188 | 165=>189 | 166=>190 | 170=>191 | 169=>192 | 263=>227 | 264=>228 | 206=>229 | 240=>230 | 241=>231 | 276=>249 | 277=>250 | n=>n,fun | 9=>9 | 3=>3 | 4=>4 | 20=>20 | 0=>0 | 46=>219 | 109=>226 | 5=>5 | 72=>230 | 76=>234 | 51=>218 | 146=>262 | 53=>128 | 148=>264 | 70=>228 | 37=>36 | 75=>233 | 127=>266 | 164=>281 | 80=>129 | n=>n,fun | n=>n⟩
theorem afS:Go.Proofs.Lays.n105 Tryz.prog JV:={
 mixed:=by kernel_rfl
 f99:=Tryz.func188.trans (congrArg some (by kernel_rfl))
 f105:=Tryz.func103.trans (congrArg some (by kernel_rfl))
 f165:=Tryz.func189.trans (congrArg some (by kernel_rfl))
 f166:=Tryz.func190.trans (congrArg some (by kernel_rfl))
 f169:=Tryz.func192.trans (congrArg some (by kernel_rfl))
 f170:=Tryz.func191.trans (congrArg some (by kernel_rfl))
 f206:=Tryz.func229.trans (congrArg some (by kernel_rfl))
 f212:=Tryz.func187.trans (congrArg some (by kernel_rfl))
 f240:=Tryz.func230.trans (congrArg some (by kernel_rfl))
 f241:=Tryz.func231.trans (congrArg some (by kernel_rfl))
 f263:=Tryz.func227.trans (congrArg some (by kernel_rfl))
 f264:=Tryz.func228.trans (congrArg some (by kernel_rfl))
 f276:=Tryz.func249.trans (congrArg some (by kernel_rfl))
 f277:=Tryz.func250.trans (congrArg some (by kernel_rfl))
 t0:=Tryz.underlying0
 a0:=Tryz.isAgg0
 z0:=Tryz.sizeOf0
 v0:=Tryz.zeroValue0
 t3:=Tryz.underlying3
 a3:=Tryz.isAgg3
 z3:=Tryz.sizeOf3
 v3:=Tryz.zeroValue3
 t4:=Tryz.underlying4
 a4:=Tryz.isAgg4
 z4:=Tryz.sizeOf4
 v4:=Tryz.zeroValue4
 t5:=Tryz.underlying5
 a5:=Tryz.isAgg5
 z5:=Tryz.sizeOf5
 v5:=Tryz.zeroValue5
 t9:=Tryz.underlying9
 a9:=Tryz.isAgg9
 z9:=Tryz.sizeOf9
 v9:=Tryz.zeroValue9
 t20:=Tryz.underlying20
 a20:=Tryz.isAgg20
 z20:=Tryz.sizeOf20
 v20:=Tryz.zeroValue20
 t37:=Tryz.underlying36
 a37:=Tryz.isAgg36
 z37:=Tryz.sizeOf36
 v37:=Tryz.zeroValue36
 t46:=Tryz.underlying219
 a46:=Tryz.isAgg219
 z46:=Tryz.sizeOf219
 v46:=Tryz.zeroValue219
 t51:=Tryz.underlying218
 a51:=Tryz.isAgg218
 z51:=Tryz.sizeOf218
 v51:=Tryz.zeroValue218
 t53:=Tryz.underlying128
 a53:=Tryz.isAgg128
 z53:=Tryz.sizeOf128
 v53:=Tryz.zeroValue128
 t70:=Tryz.underlying228
 a70:=Tryz.isAgg228
 z70:=Tryz.sizeOf228
 v70:=Tryz.zeroValue228
 t72:=Tryz.underlying230
 a72:=Tryz.isAgg230
 z72:=Tryz.sizeOf230
 v72:=Tryz.zeroValue230
 t75:=Tryz.underlying233
 a75:=Tryz.isAgg233
 z75:=Tryz.sizeOf233
 v75:=Tryz.zeroValue233
 t76:=Tryz.underlying234
 a76:=Tryz.isAgg234
 z76:=Tryz.sizeOf234
 v76:=Tryz.zeroValue234
 t109:=Tryz.underlying226
 a109:=Tryz.isAgg226
 z109:=Tryz.sizeOf226
 v109:=Tryz.zeroValue226
 t127:=Tryz.underlying266
 a127:=Tryz.isAgg266
 z127:=Tryz.sizeOf266
 v127:=Tryz.zeroValue266
 t146:=Tryz.underlying262
 a146:=Tryz.isAgg262
 z146:=Tryz.sizeOf262
 v146:=Tryz.zeroValue262
 t148:=Tryz.underlying264
 a148:=Tryz.isAgg264
 z148:=Tryz.sizeOf264
 v148:=Tryz.zeroValue264
 t164:=Tryz.underlying281
 a164:=Tryz.isAgg281
 z164:=Tryz.sizeOf281
 v164:=Tryz.zeroValue281 }
theorem abK:Builder.Extra Tryz.prog JV:={
 sizeBuilder:=by kernel_rfl
 liesBuilder:=by kernel_rfl
 t5:=Tryz.underlying5
 a5:=Tryz.isAgg5
 z5:=Tryz.sizeOf5
 v5:=Tryz.zeroValue5
 infoByte:=by kernel_rfl
 cellsByte:=by kernel_rfl
 sizeByte:=by kernel_rfl
 neB5:=by decide }
end Go.Proofs
namespace Go.Proofs
open Go.Shelf Go.RowKit Go.Sort Go.Lib
abbrev Tn:UInt8→Value:=fun b=>Value.int .u8 (b.toNat:Int)
theorem Wg (w:World) (T:TypeId) (nd:Nat) (hs:nd≤24):Holds Tn (w.alloc (.cells Lib.zeros24 T)) w.heap.size 0 (Array.replicate nd (0:UInt8)):=fun j hj=>by
 have hj':j<nd:=by simpa using hj
 refine⟨?_,World.frozen?_alloc_new _ _ _ _⟩
 rw[World.cell?_alloc_new,Lib.zeros24_at _ (by omega),getElem!_pos _ j hj]
 simp
theorem Aw (w:World) (o:Obj) (dk:Array UInt8) (k:Nat):Below w.heap.size w ((putRow Tn (w.alloc o) w.heap.size 0 dk).drewN k):=by
 rw[alloc_eq_grow]
 obtain⟨os',_,e⟩:=putRow_grow_new Tn w #[o] w.heap.size 0 dk (Nat.le_refl _)
 rw[e]
 refine⟨rfl,rfl,rfl,by show w.heap.size≤(w.heap++os').size;simp,fun i hi => ?_⟩
 show (w.heap++os')[i]? = _
 rw[Array.getElem?_append_left hi]
set_option maxHeartbeats 6400000 in
set_option maxRecDepth 100000 in
theorem agE (u:Nat) (Z3:u<18446744073709551616) (w:World) (aiG:Lib.TabIs Tryz.prog w "internal/strconv.uint64pow10" .u64 Lib.pow10Tab) :
  Calls Tryz.prog 226 #[.int .u64 u,.int .i64 10] w fun e w'=>e = .returned (.string ⟨(Lib.decDigits u).toArray⟩)∧Below w.heap.size w w':=by
 by_cases hs:u<100
 ·go_enter Tryz.func226,Tryz.ntmps226
  go_wp2_with (go_at_call 245;refine(Any.internal_strconv_small agZ u hs _).mono ?_;rintro e w' ⟨rfl,rfl⟩)
  go_ret
  exact⟨rfl,Below.refl _ _⟩
 ·have Z7:1≤u:=by omega
  have awP:Lib.nDigits u≤20:=by have:=Lib.numDigits_eq u Z7 Z3;split at this<;>omega
  have hH0:=Wg w 276 (Lib.nDigits u) (by omega)
  have anY:=Any.internal_strconv_formatBase10 ahI w.heap.size 0 24 u (Array.replicate (Lib.nDigits u) 0) (w.alloc (.cells Lib.zeros24 276)) hH0 (by rw[Array.size_replicate];exact Lib.lt_pow_nDigits u) Z3 (by rw[Array.size_replicate];omega)
  rw[Array.size_replicate] at anY
  have HH0:=Lib.hid hH0
  have hal:Tryz.prog.arrayLen 276=24:=by simp[Program.arrayLen,Tryz.underlying276]
  have Oh:∀W,(Instr.sliceAt 276 (.pointer (some ⟨w.heap.size,0,none⟩)) none (some (.int .i64 (Lib.nDigits u:Int))) none).run Tryz.prog W = .ok (.slice (some ⟨w.heap.size,0,none⟩) (Lib.nDigits u) 24) W:=fun W=>by
   rw[run_sliceAt_array_h W 276 ⟨w.heap.size,0,none⟩ (by simp[Program.arrayLen,Program.elem,Tryz.underlying276]) .i64 (Lib.nDigits u:Int) (by omega) (by rw[hal];omega)]
   go_simp
  clear hH0 hal
  go_enter Tryz.func226,Tryz.ntmps226
  go_wp2_with (first
   | (go_at_call 246;refine(Any.internal_strconv_numDigits agU u Z7 Z3 _ (Lib.tabIs_alloc aiG _)).mono ?_;rintro e w' ⟨rfl,rfl⟩))
  go_at_call 247
  refine anY.mono ?_
  rintro e w' ⟨rfl,k,v',dk,rfl,hF⟩
  have hcv:(convert 36 9 (.slice (some ⟨w.heap.size,0,none⟩) (Lib.nDigits u) 24)).run Tryz.prog ((putRow Tn (w.alloc (.cells Lib.zeros24 276)) w.heap.size 0 dk).drewN k) = .ok (.string ⟨(Lib.decDigits u).toArray⟩) ((putRow Tn (w.alloc (.cells Lib.zeros24 276)) w.heap.size 0 dk).drewN k):=by
   have h:=run_convert_bytes_back (P:=Tryz.prog) ((putRow Tn (w.alloc (.cells Lib.zeros24 276)) w.heap.size 0 dk).drewN k) 36 9 5 ⟨w.heap.size,0,none⟩ 24 (Lib.decDigits u) Tryz.underlying36 Tryz.underlying5 Tryz.underlying9 (fun j hj=>by
    rw[Lib.row_is_numeral hF j hj,Lib.add_plain,World.cell?_drewN]
    exact cell?_putRow Tn _ w.heap.size 0 _ dk HH0.out (by rw[hF.size,Array.size_replicate]) j (by rw[hF.size];rw[Lib.decDigits_length] at hj;exact hj))
   rw[Lib.decDigits_length] at h
   exact h
  go_wp2
  go_ret
  exact⟨rfl,Aw w _ dk k⟩
theorem Ze (u:Nat) (Z3:u<18446744073709551616) (w:World) (aiG:Lib.TabIs Tryz.prog w "internal/strconv.uint64pow10" .u64 Lib.pow10Tab) :
  Calls Tryz.prog 184 #[.int .u64 u,.int .i64 10] w fun e w'=>e = .returned (.string ⟨(Lib.decDigits u).toArray⟩)∧Below w.heap.size w w':=by
 go_enter Tryz.func184,Tryz.ntmps184
 go_wp2_with (go_at_call 226;refine(agE u Z3 _ aiG).mono ?_;rintro e w' ⟨rfl,hb⟩)
 go_ret
 exact⟨rfl,hb⟩
end Go.Proofs
namespace Go.PM
open Go.Proofs Go.RowKit
theorem Below.Ay {w w':World} (h:Below w.heap.size w w'):w.heap.size≤w'.heap.size∧(∀rb,rb<w.heap.size→w'.heap[rb]? = w.heap[rb]?)∧w'.os=w.os∧w'.output=w.output∧w'.tape=w.tape :=
 ⟨h.size,h.block,h.os,h.output,h.tape⟩
theorem A5 {w:World}:w.heap.size≤w.heap.size∧(∀rb,rb<w.heap.size→w.heap[rb]? = w.heap[rb]?)∧w.os=w.os∧w.output=w.output∧w.tape=w.tape :=
 ⟨Nat.le_refl _,fun _ _=>rfl,rfl,rfl,rfl⟩
def DH (f:Nat) (p:List Value→aE→Option Value):Prop :=
 KJ Tryz.prog f∧∀L0 args H v,p args H=some v→∀m w gP,Rel m L0 H w→RL m args gP →
  Calls Tryz.prog f gP.toArray w fun e w'=>∃rv,e = .returned rv∧RV m v rv∧w.heap.size≤w'.heap.size∧(∀rb,rb<w.heap.size→w'.heap[rb]? = w.heap[rb]?)∧w'.os=w.os∧w'.output=w.output∧w'.tape=w.tape
theorem RL.one {m:cZ} {x:Value} {ys:List Value} (h:RL m [x] ys):∃y,ys=[y]∧RV m x y:=by
 match ys,h with
 | [y],h=>exact⟨y,rfl,h.kA.1⟩
 | [],h=>exact absurd h.1 (by simp)
 | _::_::_,h=>exact absurd h.1 (by simp)
theorem RL.two {m:cZ} {x x':Value} {ys:List Value} (h:RL m [x,x'] ys):∃y y',ys=[y,y']∧RV m x y∧RV m x' y':=by
 match ys,h with
 | [y,y'],h=>exact⟨y,y',rfl,h.kA.1,h.kA.2.kA.1⟩
 | [],h=>exact absurd h.1 (by simp)
 | [_],h=>exact absurd h.1 (by simp)
 | _::_::_::_,h=>exact absurd h.1 (by simp)
theorem RL.three {m:cZ} {x x' x'':Value} {ys:List Value} (h:RL m [x,x',x''] ys):∃y y' y'',ys=[y,y',y'']∧RV m x y∧RV m x' y'∧RV m x'' y'':=by
 match ys,h with
 | [y,y',y''],h=>exact⟨y,y',y'',rfl,h.kA.1,h.kA.2.kA.1,h.kA.2.kA.2.kA.1⟩
 | [],h=>exact absurd h.1 (by simp)
 | [_],h=>exact absurd h.1 (by simp)
 | [_,_],h=>exact absurd h.1 (by simp)
 | _::_::_::_::_,h=>exact absurd h.1 (by simp)
theorem El {m:cZ}:∀ {cs rs:List Value} {xs:List ByteArray},strCells cs=some xs→RL m cs rs→rs=xs.map .string
 |
  [],rs,xs,h,hr=>by
  cases h
  match rs,hr with
  | [],_=>rfl
  | _::_,hr=>exact absurd hr.1 (by simp)
 |
  c::cs,rs,xs,h,hr=>by
  match rs,hr with
  | [],hr=>exact absurd hr.1 (by simp)
  |
   r::rs,hr =>
   obtain⟨h1,h2⟩:=hr.kA
   cases c with
   |
    string s =>
    rw[strCells] at h
    cases hc:strCells cs with
    | none=>rw[hc] at h;cases h
    |
     some ys =>
     rw[hc] at h
     cases h
     cases h1
     rw[El hc h2]
     rfl
   | _=>cases h
theorem HW:DH 219 Cy:=by
 refine⟨⟨_,Tryz.func219,by kernel_rfl,by kernel_rfl⟩,fun L0 args H v hp m w gP hR hr => ?_⟩
 unfold Cy at hp
 split at hp
 case h_2=>cases hp
 rename_i x
 split at hp
 case isFalse=>cases hp
 rename_i hx
 cases hp
 obtain⟨y,rfl,h1⟩:=hr.one
 cases h1
 refine(Any.bits_LeadingZeros32 ahX x w hx.1 hx.2).mono ?_
 rintro e w' ⟨rfl,rfl⟩
 exact⟨_,rfl,.int _ _,A5⟩
theorem Ln:DH 103 F6:=by
 refine⟨⟨_,Tryz.func103,by kernel_rfl,by kernel_rfl⟩,fun L0 args H v hp m w gP hR hr => ?_⟩
 unfold F6 at hp
 split at hp
 case h_2=>cases hp
 rename_i s c
 split at hp
 case isFalse=>cases hp
 rename_i hx
 cases hp
 obtain⟨y,y',rfl,h1,h2⟩:=hr.two
 cases h1
 cases h2
 obtain⟨k,rfl⟩:∃k:Nat,c=k:=⟨c.toNat,by omega⟩
 refine(Any.strings_Repeat afS abK s k w (by omega) hx.2.2).mono ?_
 rintro e w' ⟨rfl,hb⟩
 exact⟨_,rfl,.str _,Below.Ay hb⟩
theorem Ps:DH 186 Po:=by
 refine⟨⟨_,Tryz.func186,by kernel_rfl,by kernel_rfl⟩,fun L0 args H v hp m w gP hR hr => ?_⟩
 unfold Po at hp
 split at hp
 case h_3=>cases hp
 ·cases hp
  obtain⟨y,y',rfl,h1,h2⟩:=hr.two
  cases h1
  cases h2
  refine(Any.strings_Join_none Su Oi none 0 _ w).mono ?_
  rintro e w' ⟨rfl,rfl⟩
  exact⟨_,rfl,.str _,A5⟩
 ·rename_i b o n c sep
  obtain⟨y,y',rfl,h1,h2⟩:=hr.two
  cases h2
  cases h1 with
  |
   slice _ _ _ _ l ra rc h hn hc hx ha =>
   split at hp
   ·rename_i Xf
    subst Xf
    cases hp
    refine(Any.strings_Join_none Su Oi (some ra) rc _ w).mono ?_
    rintro e w' ⟨rfl,rfl⟩
    exact⟨_,rfl,.str _,A5⟩
   ·rename_i Xf
    split at hp
    case h_2=>cases hp
    rename_i xs O0
    split at hp
    case isFalse=>cases hp
    rename_i Q0
    cases hp
    obtain⟨cs,TX,KM⟩:=Option.bind_eq_some_iff.1 O0
    obtain⟨rs,r1,r2,_,r4⟩:=yI hR h TX
    have hrs:=El KM r1
    subst hrs
    rcases ha with ha | ⟨rfl,ha⟩
    ·omega
    obtain⟨arr,e0,fz0,v1,_⟩:=hR.valid b l h
    have CJ:l.rb<w.heap.size:=(Array.getElem?_eq_some_iff.1 v1).1
    obtain⟨c1,c2,c3,c4⟩:=Q0
    subst c1
    refine(Any.strings_Join Su Oi l.rb (l.base+o) rc xs sep w (fun j x hj => ?_) CJ c3 (by omega) c4).mono ?_
    ·have:=r4 j (.string x) (by simp[hj])
     rw[Addr.add_lit] at this
     exact this
    ·rintro e w' ⟨rfl,hb⟩
     exact⟨_,rfl,.str _,Below.Ay hb⟩
theorem S3 {m:cZ} {L0:Nat} {H:aE} {w:World} (hR:Rel m L0 H w):Lib.TabIs Tryz.prog w "internal/strconv.uint64pow10" .u64 Lib.pow10Tab:=by
 obtain⟨e,fz,h⟩:=(hR.CD (1,(Lib.pow10Tab.map fun z=>Value.int .u64 z).toArray) (by simp[adM])).1
 have hg:Tryz.prog.globalNamed "internal/strconv.uint64pow10"=some 1:=by kernel_rfl
 unfold Lib.TabIs World.var?
 rw[hg]
 simp only[Option.bind_some,h]
theorem Qm:DH 184 uM:=by
 refine⟨⟨_,Tryz.func184,by kernel_rfl,by kernel_rfl⟩,fun L0 args H v hp m w gP hR hr => ?_⟩
 unfold uM at hp
 split at hp
 case h_2=>cases hp
 rename_i n b
 split at hp
 case isFalse=>cases hp
 rename_i hx
 cases hp
 obtain⟨y,y',rfl,h1,h2⟩:=hr.two
 cases h1
 cases h2
 obtain⟨rfl,h0,h1⟩:=hx
 obtain⟨u,rfl⟩:∃u:Nat,n=u:=⟨n.toNat,by omega⟩
 refine(Ze u (by omega) w (S3 hR)).mono ?_
 rintro e w' ⟨rfl,hb⟩
 exact⟨_,rfl,.str _,Below.Ay hb⟩
theorem NA:DH 241 Of:=by
 refine⟨⟨_,Tryz.func241,by kernel_rfl,by kernel_rfl⟩,fun L0 args H v hp m w gP hR hr => ?_⟩
 unfold Of at hp
 split at hp
 case h_2=>cases hp
 rename_i s p
 split at hp
 case h_2=>cases hp
 rename_i c hc
 cases hp
 obtain⟨y,y',rfl,h1,h2⟩:=hr.two
 cases h1
 cases h2
 have hp:p=⟨#[c]⟩:=by
  obtain⟨a⟩:=p
  obtain⟨l⟩:=a
  have:l=[c]:=hc
  rw[this]
 subst hp
 refine(Any.stringslite_Index_one afN s c w).mono ?_
 rintro e w' ⟨rfl,rfl⟩
 exact⟨_,rfl,.int _ _,A5⟩
theorem Mk:DH 217 yT:=by
 refine⟨⟨_,Tryz.func217,by kernel_rfl,by kernel_rfl⟩,fun L0 args H v hp m w gP hR hr => ?_⟩
 unfold yT at hp
 split at hp
 case h_2=>cases hp
 rename_i s b z
 split at hp
 case isFalse=>cases hp
 rename_i hx
 obtain⟨rfl,rfl,hs⟩:=hx
 split at hp
 case h_2=>cases hp
 rename_i u hu
 cases hp
 obtain⟨y,y',y'',rfl,h1,h2,h3⟩:=hr.three
 cases h1
 cases h2
 cases h3
 refine(Any.strconv_ParseUint_10_at64_ok acE s hs u hu w).mono ?_
 have hv:∀m,RV m (.tuple #[.int .u64 (u:Int),.nilIface]) (.tuple #[.int .u64 (u:Int),.nilIface]):=fun m => .tuple _ _ rfl fun i hi=>by
  match i,hi with
  | 0,_=>exact .int _ _
  | 1,_=>exact .nilIface
  | n+2,hi=>exact absurd hi (by simp)
 rintro e w' ⟨rfl,rfl | rfl⟩
 ·exact⟨_,rfl,hv m,A5⟩
 ·exact⟨_,rfl,hv m,Below.Ay (Lib.bytesWorld_below _ _ _)⟩
theorem ahG {L0:Nat}:XT Tryz.prog cfg L0:=by
 intro f p hp
 have CL:Iw f=some p:=hp
 unfold Iw at CL
 split at CL
 ·rename_i h;subst h;cases CL;exact⟨Qm.1,Qm.2 L0⟩
 split at CL
 ·rename_i h;subst h;cases CL;exact⟨Ln.1,Ln.2 L0⟩
 split at CL
 ·rename_i h;subst h;cases CL;exact⟨Ps.1,Ps.2 L0⟩
 split at CL
 ·rename_i h;subst h;cases CL;exact⟨HW.1,HW.2 L0⟩
 split at CL
 ·rename_i h;subst h;cases CL;exact⟨NA.1,NA.2 L0⟩
 split at CL
 ·rename_i h;subst h;cases CL;exact⟨Mk.1,Mk.2 L0⟩
 cases CL
end Go.PM
namespace Go.PM
open Go.ChangeShapes Go.WideShapes Go.ChangeAt Go.RowKit
open Go.Proofs
structure In (m:cZ) (H:aE) (W:World):Prop where
 W7:∀b l,m b=some l→b<H.length
 valid:∀b l,m b=some l→∃arr e fz,W.heap[l.rb]? = some (.cells arr e fz)∧arr.size=l.Od
 row:∀b l cs e p,m b=some l→H[b]? = some (.row cs e p)→l.fL=e∧l.Ra=p∧l.base+cs.length≤l.Od ∧
  ∀i,i<cs.length→∃rv,W.cell? ⟨l.rb,l.base+i,none⟩=some rv∧RV m (cs.getD i Go.undef) rv∧PM.gS (cs.getD i Go.undef)=true
section
variable {m:cZ} {H:aE} {W:World}
theorem In.empty:In (fun _=>none) [] W:=⟨fun _ _ h=>(by cases h),fun _ _ h=>(by cases h),fun _ _ _ _ _ h=>(by cases h)⟩
theorem In.rel (h:In m H W) (hg:OB W):Rel m H.length H W :=
 ⟨fun b l hb=>by
  obtain⟨arr,e,fz,h1,h2⟩:=h.valid b l hb
  exact⟨arr,e,fz,h1,h2,fun hl=>by have:=h.W7 b l hb;omega⟩,h.row,fun b1 b2 l1 l2 hl h1 _ _ _ _=>by have:=h.W7 b1 l1 h1;omega,fun x hx=>⟨hg x hx,fun b l hb hm _=>by have:=h.W7 b l hm;omega⟩⟩
theorem In.PG (h:In m H W) {b:Nat} (hb:H.length≤b):m b=none:=by
 cases hm:m b with
 | none=>rfl
 | some l=>have:=h.W7 b l hm;omega
theorem In.add (h:In m H W) {rb base fL:Nat} {arr:Array Value} {e:TypeId} {fz:Nat×Nat} {cs:List Value} (hb:W.heap[rb]? = some (.cells arr e fz)) (xB:base+cs.length≤arr.size)
  (hc:∀i,i<cs.length→∃rv,W.cell? ⟨rb,base+i,none⟩=some rv∧RV (tW m H.length ⟨rb,base,fL,arr.size,false⟩) (cs.getD i Go.undef) rv∧PM.gS (cs.getD i Go.undef)=true) :
  In (tW m H.length ⟨rb,base,fL,arr.size,false⟩) (H++[.row cs fL false]) W:=by
 have hn:=h.PG (Nat.le_refl H.length)
 refine⟨fun b l vB => ?_,fun b l vB => ?_,fun b l ds e' p vB pP => ?_⟩
 ·by_cases he:b=H.length
  ·subst he;simp
  ·rw[cJ he] at vB
   have:=h.W7 b l vB
   simp;omega
 ·by_cases he:b=H.length
  ·subst he
   rw[bT] at vB
   cases vB
   exact⟨arr,e,fz,hb,rfl⟩
  ·rw[cJ he] at vB
   exact h.valid b l vB
 ·by_cases he:b=H.length
  ·subst he
   rw[bT] at vB
   cases vB
   rw[Uk] at pP
   cases pP
   exact⟨rfl,rfl,xB,hc⟩
  ·rw[cJ he] at vB
   have bD:=h.W7 b l vB
   rw[Ob bD] at pP
   obtain⟨h1,h2,h3,h4⟩:=h.row b l ds e' p vB pP
   refine⟨h1,h2,h3,fun i hi => ?_⟩
   obtain⟨rv,g1,g2,g3⟩:=h4 i hi
   exact⟨rv,g1,g2.mono (tL hn),g3⟩
end
theorem Uz {α:Type} (p:Nat→α→Prop):∀c,(∀i,i<c→∃x,p i x)→∃xs:List α,xs.length=c∧∀i x,xs[i]? = some x→p i x
 | 0,_=>⟨[],rfl,fun i x hx=>by simp at hx⟩
 |
  c+1,h=>by
  obtain⟨xs,h1,h2⟩:=Uz p c fun i hi=>h i (by omega)
  obtain⟨x,h3⟩:=h c (by omega)
  refine⟨xs++[x],by simp[h1],fun i y hy => ?_⟩
  rcases Nat.lt_or_ge i xs.length with hi | hi
  ·rw[List.getElem?_append_left hi] at hy
   exact h2 i y hy
  ·rw[List.getElem?_append_right hi] at hy
   have YF:i-xs.length=0:=by
    rcases Nat.eq_zero_or_pos (i-xs.length) with h | h
    ·exact h
    ·rw[List.getElem?_eq_none (by simp;omega)] at hy;cases hy
   rw[YF] at hy
   cases hy
   have:i=c:=by omega
   subst this
   exact h3
theorem Xu {f:Nat} {args gP:List Value} {H H':aE} {v:Value} {m:cZ} {W:World} (hI:In m H W) (hr:RL m args gP) (h:qP f args H.length H=some (v,H')) (hg:OB W:=by first | assumption | exact fun x hx=>nomatch hx) :
  Calls Tryz.prog f gP.toArray W fun e W'=>∃m' rv,e = .returned rv∧RV m' v rv∧Below W.heap.size W W':=by
 obtain⟨n,hn⟩:=(uZ cfg gT).1 h
 refine(Hz Tryz.checked.mixed ahG aiR n f args H.length H v H' hn m W gP (hI.rel hg) (Nat.le_refl _) (Nat.le_refl _) hr (fun b hb _=>hI.PG hb)).2.mono ?_
 rintro e W' ⟨m',rv,rfl,h1,_,h3⟩
 refine⟨m',rv,rfl,h1,⟨h3.same.1,h3.same.2.2,h3.same.2.1,h3.size,fun k hk=>h3.eI k hk fun b l hb hm _ => ?_⟩⟩
 rw[hI.PG hb] at hm
 cases hm
end Go.PM
namespace Go.PM
def Sh (c:fO):Prop:=(0≤c.t∧c.t≤10000)∧(1≤c.w∧c.w≤1000)∧(0≤c.k∧c.k≤9)
instance (c:fO):Decidable (Sh c):=by unfold Sh;infer_instance
def agO (cs:List fO) (i:Nat) (c:fO):Prop:=Sh c∧∀b,0<i→cs[i-1]? = some b→b.t≤c.t
def kC (cs:List fO):Prop:=(∀i c,cs[i]? = some c→agO cs i c)∧cs.length≤24
noncomputable instance (cs:List fO):Decidable (kC cs):=Classical.propDecidable _
theorem kC.at {cs:List fO} (h:kC cs) {i:Nat} {c:fO} (hc:cs[i]? = some c):(0≤c.t∧c.t≤10000)∧(1≤c.w∧c.w≤1000)∧(0≤c.k∧c.k≤9):=(h.1 i c hc).1
def w64 (n:Int):Prop := -9223372036854775808≤n∧n≤9223372036854775807
def wl (time:Int):List fO→Int→Int→Int
 | [],l,s=>max (l-(time-s)) 0
 | c::cs,l,s=>if time<c.t then max (l-(time-s)) 0 else wl time cs (max (l-(c.t-s)) 0+c.w) c.t
def auE (cs:List fO) (time:Int):Prop:=kC cs∧(0≤time∧time≤1000000000)
noncomputable instance (cs:List fO) (time:Int):Decidable (auE cs time):=Classical.propDecidable _
def aoH (cs:List fO) (ls:List Int):Prop:=kC cs∧ls.length=cs.length∧∀x∈ls,0≤x∧x≤1000000000
noncomputable instance (cs:List fO) (ls:List Int):Decidable (aoH cs ls):=Classical.propDecidable _
def alO (cs:List fO) (ls:List Int) (time:Int):Prop:=aoH cs ls∧(0≤time∧time≤1000000000)
noncomputable instance (cs:List fO) (ls:List Int) (time:Int):Decidable (alO cs ls time):=Classical.propDecidable _
def arI (cs:List fO) (ps:List Int):Prop:=kC cs∧ps.length=cs.length∧∀x∈ps,0≤x∧x≤10000
noncomputable instance (cs:List fO) (ps:List Int):Decidable (arI cs ps):=Classical.propDecidable _
end Go.PM
namespace Go.Proofs.YtodamlihdkalfaaGreatDoor
open Go.ChangeShapes Go.WideShapes Go.ChangeAt Go.RowKit Go.PM
theorem own:ownKnob Tryz.prog.godebug=none:=by kernel_rfl
theorem laidOut:laidOutB Tryz.prog=true:=by kernel_rfl
theorem agH {n:Int} (h:(Lit.int .i64 n).wf=true):w64 n:=by
 simp only[Lit.wf,Bool.and_eq_true,decide_eq_true_eq] at h
 exact h
theorem three {α:Type} {l:List α} (h:l.length=3):∃a b c,l=[a,b,c]:=by
 rcases l with _ | ⟨a,_ | ⟨b,_ | ⟨c,_ | ⟨d,l⟩⟩⟩⟩
 ·cases h
 ·cases h
 ·cases h
 ·exact⟨a,b,c,rfl⟩
 ·simp at h
end Go.Proofs.YtodamlihdkalfaaGreatDoor
namespace Go.PM
def C0:List Nat:=[]
 ++ [52]
 ++ [55]
 ++ [56]
 ++ [43]
 ++ [45]
 ++ [50]
 ++ [67]
 ++ [70]
 ++ [71]
 ++ [76]
 ++ [78]
 ++ [79]
 ++ [60]
 ++ [62]
 ++ [72]
 ++ [17]
 ++ [19]
 ++ [23]
 ++ [53]
 ++ [51]
 ++ [21]
 ++ [20]
 ++ [49]
 ++ [48]
 ++ [64]
 ++ [63]
 ++ [68]
 ++ [66]
 ++ [77]
 ++ [75]
 ++ [182]
 ++ [220]
 ++ [221]
 ++ [239]
 ++ [240]
 ++ [202]
 ++ [185]
 ++ [84]
 ++ [87]
 ++ [165]
 ++ [85]
 ++ [85]
 ++ [86]
 ++ [26]
 ++ [111]
 ++ [200]
 ++ [132]
 ++ [149]
 ++ [204]
 ++ [143]
 ++ [129]
 ++ [125]
 ++ [128]
 ++ [123]
 ++ [127]
 ++ [122]
 ++ [207]
 ++ [150]
 ++ [144]
 ++ [131]
 ++ [148]
 ++ [142]
end Go.PM
namespace Go.PM
inductive TK where
 | op
 | cl (e:Nat)
 | nil
 deriving DecidableEq
inductive VV where
 | any
 | sc (v:Value)
 | agg (cs:List VV)
 | dL (vs:List VV)
 | tree (es:List VV) (k:TK)
 | cK (x:VV) (off:Nat)
 | ref (b g o n c:Nat)
 | ptr (b g j off:Nat)
 | uG (f:Nat) (fS:List VV)
 deriving Inhabited
inductive fU where
 | dead
 | row (g:Nat) (es:List VV) (e:Nat) (w:Bool)
 deriving Inhabited
abbrev aA:=List fU
abbrev cP:=Nat→VV
def pI:VV := .dL []
def nF:Value→Bool
 | .bool _ | .int _ _ | .string _ | .pointer none | .nilFunc | .nilIface=>true
 | _=>false
def jI:Value→VV
 | .slice none 0 0 => .tree [] .nil
 | v=>if nF v then .sc v else .any
def inj:Value→VV
 | .agg cs => .agg (cs.toList.map jI)
 | .tuple vs=>if vs.isEmpty then .dL [] else .any
 | v=>jI v
def eG (ρ:cP):Operand→VV
 | .tmp t=>ρ t
 | .const v=>inj v
 | .global _ => .any
 | .func f => .uG f []
def I2 (ρ:cP):Option Nat→VV→cP
 | none,_=>ρ
 | some d,v=>fun k=>if k=d then v else ρ k
def aB:VV→List VV
 | .agg cs=>cs
 | v=>[v]
def elemOf:List VV→VV
 | [x]=>x
 | cs => .agg cs
def cI:VV→Bool
 | .any | .agg _ | .dL _=>false
 | _=>true
def uni:List VV→Bool
 | []=>true
 | x::xs=>xs.all fun y=>(aB y).length == (aB x).length
mutual
def aM:VV→Bool
 | .any=>false
 | .sc v=>nF v
 | .agg cs=>aJ cs
 | .dL vs=>aJ vs
 | .tree es k=>decide (k = .op)&&aJ es&&uni es
 | .cK x _=>aM x
 | .ref .. => false
 | .ptr .. => false
 | .uG _ fS=>aJ fS
def aJ:List VV→Bool
 | []=>true
 | x::xs=>aM x&&aJ xs
end
def yH:VV→Bool
 | .agg [_]=>false
 | _=>true
mutual
def eQ:VV→Bool
 | .any=>false
 | .sc v=>nF v
 | .agg cs=>pR cs
 | .dL vs=>pR vs
 | .tree es k=>decide (k = .op)&&pR es&&uni es&&es.all yH
 | .cK _ _=>false
 | .ref .. => false
 | .ptr .. => false
 | .uG _ _=>false
def pR:List VV→Bool
 | []=>true
 | x::xs=>eQ x&&pR xs
end
mutual
def Ix:VV→Bool
 | .sc v=>nF v
 | .agg cs=>PX cs
 | .dL vs=>PX vs
 | _=>false
def PX:List VV→Bool
 | []=>true
 | x::xs=>Ix x&&PX xs
end
mutual
def below (k:Nat):VV→Bool
 | .any=>true
 | .sc _=>true
 | .agg cs=>lH k cs
 | .dL vs=>lH k vs
 | .tree es _=>lH k es
 | .cK x _=>below k x
 | .ref b _ _ _ _=>decide (b<k)
 | .ptr b _ _ _=>decide (b<k)
 | .uG _ fS=>lH k fS
def lH (k:Nat):List VV→Bool
 | []=>true
 | x::xs=>below k x&&lH k xs
end
def Eg (k:Nat) (v:VV):VV:=if below k v then v else .any
def aP (H:aA) (b g:Nat):Option (List VV×Nat×Bool) :=
 match H[b]? with
 | some (.row g' es e w)=>if g'=g then some (es,e,w) else none
 | _=>none
def pK:List CK→List VV→List VV→Option Bool
 | [],[],[]=>some true
 |
  k::ks,.sc x::xs,.sc y::ys=>match tE k x y with
  | some true=>pK ks xs ys
  | some false=>some false
  | none=>none
 | _,_,_=>none
def cS (cs:List VV) (o:Nat) (new:List VV):List VV:=cs.take o++new++cs.drop (o+new.length)
def isAny:VV→Bool
 | .any=>true
 | _=>false
def yC (places:List (Nat×Nat)) (cells:List VV):List (Nat×VV)→Option (List VV)
 | []=>some cells
 |
  (i,v)::rest =>
  match places[i]? with
  | none=>none
  |
   some (off,size) =>
   if (aB v).length=size∧off+size≤cells.length∧isAny v=false then
    yC places (cells.take off++aB v++cells.drop (off+size)) rest
   else none
def uF (e:Nat) (es:List VV):List (Nat×VV)→Option (List VV)
 | []=>some es
 | (i,v)::rest=>if i<es.length∧(aB v).length=e∧(aB v).all cI then uF e (es.set i v) rest else none
def FB:Option VV→Option (Option Value)
 | none=>some none
 | some (.sc v)=>some (some v)
 | some _=>none
def dA (agg:Bool) (size:Nat) (x:VV) (o:Nat):Option VV :=
 if agg then (if o+size≤(aB x).length then some (.agg (((aB x).drop o).take size)) else none) else (aB x)[o]?
structure Fl where
 bf:Bool
 lr:Bool
def dN (agg:Bool) (size:Nat) (p:VV) (H:aA):Option VV :=
 match p with
 | .cK x o=>dA agg size x o
 |
  .ptr b g j o=>match aP H b g with
  |
   some (es,_,_)=>match es[j]? with
   | some x=>dA agg size x o
   | none=>none
  | none=>none
 | _=>none
def bJ (size:Nat) (x i:VV) (H:aA):Option VV :=
 match x,i with
 |
  .tree es _,.sc (.int _ i)=>if 0≤i then match es[i.toNat]? with
  | some x=>if (aB x).length=size then some (.cK x 0) else none
  | none=>none
  else none
 |
  .ref b g o n _,.sc (.int _ i)=>match aP H b g with
  | some (_,e,_)=>if e=size∧0≤i∧i<n then some (.ptr b g (o+i.toNat) 0) else none
  | none=>none
 | _,_=>none
def Fs (size:Nat) (x:VV) (l h m:Option VV) (H:aA):Option VV :=
 match FB l,FB h,FB m with
 |
  some lv,some hv,some mv =>
  match x with
  |
   .tree (y::ys) _ =>
   if (aB y).length=size then
    match eV mv (some (ys.length+1)) (ys.length+1) with
    | none=>none
    |
     some m=>match eV hv (if mv.isSome then none else some (ys.length+1)) m with
     | none=>none
     |
      some h=>match eV lv (some 0) h with
      | none=>none
      | some l=>if mv.isSome∧m=l then some (.tree [] (.cl size)) else some (.tree (((y::ys).drop l).take (h-l)) .op)
   else none
  |
   .ref b g o n c =>
   match aP H b g with
   |
    some (_,e,_) =>
    if e=size then
     match eV mv (some c) c with
     | none=>none
     |
      some m=>match eV hv (if mv.isSome then none else some n) m with
      | none=>none
      |
       some h=>match eV lv (some 0) h with
       | none=>none
       | some l=>if mv.isSome∧m=l then some (.tree [] (.cl size)) else some (.ref b g (o+l) (h-l) (m-l))
    else none
   | none=>none
  | _=>none
 | _,_,_=>none
def Hl:List VV→Option (List UInt8)
 | []=>some []
 | .sc (.int .u8 n)::r=>(Hl r).map (UInt8.ofNat n.toNat :: ·)
 | _=>none
def eW (size:Nat) (y:VV) (H:aA):Option (List VV) :=
 match y with
 | .tree es _=>if es.all fun x=>(aB x).length == size&&(aB x).all cI then some es else none
 |
  .ref b g o n _=>match aP H b g with
  | some (es,e,_)=>if e=size∧o+n≤es.length∧(((es.drop o).take n).all fun x=>(aB x).all cI) then some ((es.drop o).take n) else none
  | none=>none
 | .sc (.string s)=>if size=1 then some (s.data.toList.map fun b => .sc (.int .u8 b.toNat)) else none
 | _=>none
def fE (lo size bytes:Nat) (x:VV) (new:List VV) (H:aA):Option (VV×aA) :=
 if 1≤bytes∧1≤size then
  match x with
  | .tree [] .nil=>if new.length=0 then some (x,H) else if new.length*bytes≤140737488355328 then some (.ref H.length 0 0 new.length new.length,H++[.row 0 new size true]) else none
  | .tree es (.cl e)=>if e=size then (if new.length=0 then some (x,H) else if (es.length+new.length)*bytes≤140737488355328 then some (.ref H.length 0 0 (es.length+new.length) (es.length+new.length),H++[.row 0 (es++new) size true]) else none) else none
  |
   .ref b g o n c=>match aP H b g with
   |
    some (es,e,true) =>
    if e=size∧lo≤b∧o+n≤es.length then
     if n+new.length≤c then
      if new.length=0 then some (x,H)
      else if o+n+new.length≤es.length then some (.ref b g o (n+new.length) c,H.set b (.row g (cS es (o+n) new) e true))
      else none
     else if (n+new.length)*bytes≤140737488355328 then some (.ref b (g+1) 0 (n+new.length) (n+new.length),H.set b (.row (g+1) ((es.drop o).take n++new) e true))
     else none
    else none
   | _=>none
  | _=>none
 else none
def cR (lo size:Nat) (p v:VV) (H:aA):Option aA :=
 match p with
 |
  .ptr b g j o=>match aP H b g with
  |
   some (es,e,true)=>match es[j]? with
   |
    some x =>
    if (aB v).length=size∧lo≤b∧(aB v).all cI then
     if o=0∧size=e then some (H.set b (.row g (es.set j v) e true))
     else if 2≤e∧o+size≤e then some (H.set b (.row g (es.set j (.agg (cS (aB x) o (aB v)))) e true))
     else none
    else none
   | none=>none
  | _=>none
 | _=>none
def AQ (zero:List Value) (bytes:Nat) (l c:VV) (H:aA):Option (VV×aA) :=
 match l,c with
 | .sc (.int .i64 l),.sc (.int .i64 c)=>if 0≤l∧l≤c∧c*bytes≤281474976710656∧c≤9223372036854775807 then
  some (.ref H.length 0 0 l.toNat c.toNat,H++[.row 0 (List.replicate c.toNat (elemOf (zero.map jI))) zero.length true]) else none
 | _,_=>none
def pT (lr:Bool) (zero:List Value) (n:Nat) (parts:List (Nat×VV)) (H:aA):Option (VV×aA) :=
 match uF zero.length (List.replicate n (elemOf (zero.map jI))) parts with
 | some es=>if (zero.map jI).all cI then (if n=0∨lr=true then some (.ref H.length 0 0 n n,H++[.row 0 es zero.length true]) else some (.tree es (.cl zero.length),H)) else none
 | none=>none
def MU (lo size:Nat) (x y:VV) (H:aA):Option (VV×aA) :=
 match x,eW size y H with
 | .tree [] .nil,some _=>some (.sc (.int .i64 0),H)
 |
  .ref b g o d _,some new=>match aP H b g with
  | some (es,e,true)=>if e=size∧lo≤b∧o+(new.take d).length≤es.length then some (.sc (.int .i64 (new.take d).length),H.set b (.row g (cS es o (new.take d)) e true)) else none
  | _=>none
 | _,_=>none
def OH (lo:Nat) (zero:List Value) (x:VV) (H:aA):Option aA :=
 match x with
 |
  .ref b g o n _=>match aP H b g with
  | some (es,e,true)=>if n=0 then some H else if e=zero.length∧lo≤b∧o+n≤es.length∧(zero.map jI).all cI then some (H.set b (.row g (cS es o (List.replicate n (elemOf (zero.map jI)))) e true)) else none
  | _=>none
 | _=>none
def E4 (neg:Bool) (x:VV) (H:aA):Option VV :=
 match x with
 | .tree [] .nil=>some (.sc (.bool (true != neg)))
 | .tree [] (.cl _)=>some (.sc (.bool (false != neg)))
 | .tree (_::_) _=>some (.sc (.bool (false != neg)))
 | .ref b g _ _ _=>(aP H b g).map fun _ => .sc (.bool (false != neg))
 | _=>none
def pV (x:VV) (H:aA):Option VV :=
 match x with
 | .tree es _=>some (.sc (.int .i64 es.length))
 | .ref b g _ n _=>(aP H b g).map fun _ => .sc (.int .i64 n)
 | _=>none
def GI (off:Nat) (x:VV) (H:aA):Option VV :=
 match x with
 | .cK x o=>some (.cK x (o+off))
 | .ptr b g j o=>(aP H b g).map fun _ => .ptr b g j (o+off)
 | _=>none
def Wo (x:VV) (H:aA):Option VV :=
 match x with
 | .cK x o=>some (.cK x o)
 | .ptr b g j o=>(aP H b g).map fun _ => .ptr b g j o
 | _=>none
def vA (x:VV) (l h:Option VV):Option VV :=
 match x,FB l,FB h with
 |
  .sc (.string s),some lv,some hv=>match zS lv hv s.size with
  | some (l,h)=>some (.sc (.string (s.extract l h)))
  | none=>none
 | _,_,_=>none
def adX (agg:Bool) (off size:Nat) (x:VV):Option VV :=
 match x with
 | .agg cs=>if agg then (if off+size≤cs.length then some (.agg ((cs.drop off).take size)) else none) else cs[off]?
 | _=>none
def KT (f:Value→Option Value) (x:VV):Option VV :=
 match x with
 | .sc a=>(f a).map .sc
 | _=>none
def Gr (f:Value→Value→Option Value) (x y:VV):Option VV :=
 match x,y with
 | .sc a,.sc b=>(f a b).map .sc
 | _,_=>none
def QD (c a b:VV):Option VV :=
 match c with
 | .sc (.bool t)=>some (if t then a else b)
 | _=>none
def XS (i:Nat) (x:VV):Option VV :=
 match x with
 | .dL vs=>vs[i]?
 | _=>none
def S7 (neg:Bool) (ks:List CK) (x y:VV):Option VV :=
 match x,y with
 | .agg a,.agg b=>(pK ks a b).map fun t => .sc (.bool (t != neg))
 | _,_=>none
def U8:Value→Option Value
 | .string s=>some (.string s)
 | _=>none
def A2:Value→Option Value
 | .string s=>some (.int .i64 s.size)
 | _=>none
def Gb:Value→Value→Option Value
 | .string s,.int _ i=>if 0≤i∧i<s.size then some (.int .u8 ((s.data.toList.getD i.toNat 0).toNat:Int)) else none
 | _,_=>none
def vop (fl:Fl) (lo:Nat) (o:nE) (ρ:cP) (H:aA):Option (VV×aA) :=
 match o with
 | .mv x=>some (eG ρ x,H)
 | .pick c a b=>(QD (eG ρ c) (eG ρ a) (eG ρ b)).map (·,H)
 | .bin op x y=>(Gr (dF op) (eG ρ x) (eG ρ y)).map (·,H)
 | .eqb neg x y=>(Gr (Oy neg) (eG ρ x) (eG ρ y)).map (·,H)
 | .isnil neg x=>(E4 neg (eG ρ x) H).map (·,H)
 | .eqagg neg ks x y=>(S7 neg ks (eG ρ x) (eG ρ y)).map (·,H)
 | .un op x=>(KT (Y5 op) (eG ρ x)).map (·,H)
 | .cvt k x=>(KT (SN k) (eG ρ x)).map (·,H)
 | .cvs x=>(KT U8 (eG ρ x)).map (·,H)
 | .ext x i=>(XS i (eG ρ x)).map (·,H)
 | .fld agg off size x=>(adX agg off size (eG ρ x)).map (·,H)
 | .build zero places parts=>(yC places (zero.map jI) (parts.map fun(i,x)=>(i,eG ρ x))).map fun cs=>(.agg cs,H)
 | .chk x=>(Wo (eG ρ x) H).map (·,H)
 | .faddr off x=>(GI off (eG ρ x) H).map (·,H)
 | .iaddr size x i=>(bJ size (eG ρ x) (eG ρ i) H).map (·,H)
 | .sidx x i=>(Gr Gb (eG ρ x) (eG ρ i)).map (·,H)
 | .ssub x l h=>(vA (eG ρ x) (l.map (eG ρ)) (h.map (eG ρ))).map (·,H)
 | .mkfn f fS=>some (.uG f (fS.map (eG ρ)),H)
 | .len x=>(pV (eG ρ x) H).map (·,H)
 | .slen x=>(KT A2 (eG ρ x)).map (·,H)
 | .min x y=>(Gr Ri (eG ρ x) (eG ρ y)).map (·,H)
 | .max x y=>(Gr Qv (eG ρ x) (eG ρ y)).map (·,H)
 | .load agg size p=>(dN agg size (eG ρ p) H).map (·,H)
 | .sub size x l h m=>(Fs size (eG ρ x) (l.map (eG ρ)) (h.map (eG ρ)) (m.map (eG ρ)) H).map (·,H)
 |
  .b2s x=>match eG ρ x with
  | .sc _=>none
  |
   y=>match eW 1 y H with
   | some es=>(Hl es).map fun bs=>(.sc (.string ⟨bs.toArray⟩),H)
   | none=>none
 | .new zero=>if (zero.map jI).all cI then some (.ptr H.length 0 0 0,H++[.row 0 [elemOf (zero.map jI)] zero.length true]) else none
 | .box x=>if (aB (eG ρ x)).all cI then (if fl.bf then some (.cK (eG ρ x) 0,H) else some (.ptr H.length 0 0 0,H++[.row 0 [eG ρ x] (aB (eG ρ x)).length true])) else none
 | .make zero bytes l c=>if (zero.map jI).all cI then AQ zero bytes (eG ρ l) (eG ρ c) H else none
 | .lit zero n parts=>pT fl.lr zero n (parts.map fun(i,x)=>(i,eG ρ x)) H
 | .store size p v=>(cR lo size (eG ρ p) (eG ρ v) H).map fun H'=>(pI,H')
 |
  .app size bytes x y=>match eW size (eG ρ y) H with
  | some new=>fE lo size bytes (eG ρ x) new H
  | none=>none
 |
  .appz zero bytes x n=>match eG ρ n with
  | .sc (.int .i64 n)=>if 0≤n∧n*bytes≤140737488355328∧(zero.map jI).all cI then fE lo zero.length bytes (eG ρ x) (List.replicate n.toNat (elemOf (zero.map jI))) H else none
  | _=>none
 | .copy size x y=>MU lo size (eG ρ x) (eG ρ y) H
 | .clear zero x=>(OH lo zero (eG ρ x) H).map fun H'=>(pI,H')
 | _=>none
inductive VBx where
 | no
 | row (i:Nat) (w:Bool)
 | BB (i:Nat)
 | tree
 | bad
def gR (H:aA):VV→VBx
 | .tree [] .nil => .no
 | .tree _ _ => .tree
 | .cK _ _ => .tree
 |
  .ref b g _ _ _=>match aP H b g with
  | some (_,_,w) => .row b w
  | none => .BB b
 |
  .ptr b g _ _=>match aP H b g with
  | some (_,_,w) => .row b w
  | none => .BB b
 | .any => .bad
 | _ => .no
def dJ (H:aA) (x y:VV):Bool :=
 match gR H x,gR H y with
 | .bad,_=>false
 | _,.bad=>false
 | .no,_=>true
 | _,.no=>true
 | .row i _,.row j _=>i != j
 | .row i _,.BB j=>i != j
 | .BB i,.row j _=>i != j
 | .BB _,.BB _=>false
 | .BB _,.tree=>false
 | .tree,.BB _=>false
 | .row _ w,.tree=>w
 | .tree,.row _ w=>w
 | .tree,.tree=>false
def cC (ρ:cP) (H:aA) (c:Operand×Operand):Bool:=dJ H (eG ρ c.1) (eG ρ c.2)
def BH (g:Option (Nat×Bool)) (ρ:cP):Option Bool :=
 match g with
 | none=>some true
 |
  some (t,want)=>match ρ t with
  | .sc (.bool b)=>some (b == want)
  | .dL _=>some false
  | _=>none
def fz:Nat→aA→VV→Option VV
 | 0,_,_=>none
 |
  d+1,H,v =>
  if aM v then some v else
  match v with
  | .agg cs=>(cs.mapM (fz d H)).map .agg
  | .dL vs=>(vs.mapM (fz d H)).map .dL
  | .tree es _=>(es.mapM (fz d H)).map (.tree · .op)
  | .cK x o=>(fz d H x).map (.cK · o)
  |
   .ref b g o n c=>match aP H b g with
   | some (es,_,_)=>if o+n≤es.length∧n≤c then (((es.drop o).take n).mapM (fz d H)).map (.tree · .op) else none
   | none=>none
  |
   .ptr b g j o=>match aP H b g with
   |
    some (es,_,_)=>match es[j]? with
    | some x=>(fz d H x).map (.cK · o)
    | none=>none
   | none=>none
  | .uG f fS=>(fS.mapM (fz d H)).map (.uG f ·)
  | _=>none
def jE:Nat→aA→VV→List Nat
 | 0,_,_=>[]
 |
  d+1,H,v =>
  if aM v then [] else
  match v with
  | .agg cs=>cs.flatMap (jE d H)
  | .dL vs=>vs.flatMap (jE d H)
  | .tree es _=>es.flatMap (jE d H)
  | .cK x _=>jE d H x
  |
   .ref b g o n _=>match aP H b g with
   | some (es,_,_)=>b::((es.drop o).take n).flatMap (jE d H)
   | none=>[]
  |
   .ptr b g j _=>match aP H b g with
   |
    some (es,_,_)=>match es[j]? with
    | some x=>b::jE d H x
    | none=>[]
   | none=>[]
  | .uG _ fS=>fS.flatMap (jE d H)
  | _=>[]
def Bd (H:aA) (b:Nat):aA :=
 match H[b]? with
 | some (.row g es e _)=>H.set b (.row g es e false)
 | _=>H
def cM (H:aA) (ids:List Nat):aA:=ids.foldl Bd H
def depth:Nat:=8
end Go.PM