/- Texts of a claim, in one: part 3. -/
import Derived.Lib.ItoaNum
import Derived.Lib.Join
import Derived.Lib.BitFns
import Derived.Lib.Repeat
import Derived.Lib.Bytealg
import Derived.Lib.ParseIntB
import Derived.Test.YtodamlihdkalfaaGreatDoorChecked
import Derived.Laws.BitsLemmas
import Derived.Shelf.Strings.OnBuilder
import Derived.Shelf.Strings.Repeat
import Derived.Shelf.Small.Bits
import Derived.Shelf.Strconv.Itoa1
import Derived.Shelf.Strconv.Itoa2
import Derived.Shelf.LaysM
import Derived.Shelf.Strings.Search2
import Derived.Shelf.Pu.ParseUintPublic10
import Derived.KernelRfl
import Derived.Test.YtodamlihdkalfaaGreatDoorProg
import Derived.Lib.Walk
import Derived.Lib.ItoaMem
import Derived.WalkKit
import Derived.BigCall
import Derived.BigGuard
import Derived.Below
import Derived.Shelf.Strings.Search2
import Derived.Shelf.Pu.ParseUintPublic10
import Derived.Shelf.Strings.OnBuilder
import Derived.Shelf.Strings.Repeat
import Derived.Shelf.Small.Bits
import Derived.ProofKit
import Derived.OpenShut
import Derived.ShutString
import Derived.ChangeOld
import Derived.Carry
import Derived.SizedLaws
import Derived.Test.YtodamlihdkalfaaGreatDoorRows
import Derived.Test.YtodamlihdkalfaaGreatDoorKYb
set_option linter.unusedSimpArgs false
set_option linter.unusedVariables false
namespace Go.PM
def akB:Ex→Exit
 | .normal => .normal
 | .exit id => .exit id
 | .ret => .ret
section
variable {P:Program} {E:zI} {n:Nat} {call:fC} {lo L0:Nat}
def NM (P:Program) (n lo L0:Nat) (c:Code) (run:Env→aE→Option (Ex×Env×aE)):Prop :=
 ∀ρ H x aU H',run ρ H=some (x,aU,H')→∀m a w,F0 n L0 m ρ H a w→L0≤H.length→(∀b,H.length≤b→b<H'.length→m b=none) →
  ∀Q:Exit→Act→World→Prop,(∀m' a' w',F0 n L0 m' aU H' a' w'→Trans lo m H w m' H' w'→Q (akB x) a' w')→c.wp P Q a w
theorem YD {c:Code} {run:Env→aE→Option (Ex×Env×aE)} (hc:NM P n lo L0 c run) (he:∀ρ H x aU H',run ρ H=some (x,aU,H')→Ext lo H H') (N:Nat):NM P n lo L0 (.loop c) (wV run N):=by
 intro ρ H x aU H' hr m a w h hl hf Q hQ
 apply wp_loop_rounds N
 have key:∀N ρ H,wV run N ρ H=some (x,aU,H')→∀m a w,F0 n L0 m ρ H a w→L0≤H.length→(∀b,H.length≤b→b<H'.length→m b=none) →
   (∀m' a' w',F0 n L0 m' aU H' a' w'→Trans lo m H w m' H' w'→Q (akB x) a' w')→Code.rounds P c Q N a w:=by
  intro N
  induction N with
  | zero=>intro ρ H h;cases h
  |
   succ N ih =>
   intro ρ H hr m a w h hl hf hQ
   rw[rounds_succ]
   rw[wV] at hr
   split at hr
   ·rename_i vI H1 h1
    have e1:=he _ _ _ _ _ h1
    have e2:=G5 he N hr
    refine hc ρ H _ vI H1 h1 m a w h hl (fun b Di hb2=>hf b Di (Nat.lt_of_lt_of_le hb2 e2.len)) _ fun m1 a1 w1 hh hT => ?_
    exact ih vI H1 hr m1 a1 w1 hh (Nat.le_trans hl e1.len) (hT.fresh e1.len hf) fun m2 a2 w2 h2 hT2=>hQ m2 a2 w2 h2 (Trans.trans hf e1 e2 hT hT2)
   ·rename_i eW
    refine hc ρ H _ aU H' hr m a w h hl hf _ fun m1 a1 w1 hh hT => ?_
    have:=hQ m1 a1 w1 hh hT
    cases x with
    | normal=>exact absurd hr (eW aU H')
    | exit id=>exact this
    | ret=>exact this
 exact key N ρ H hr m a w h hl hf hQ
theorem nN (Ca:P.follows .mixedOrders=true) (mF:vH P L0 call) (pV:qF call) (eX:L0≤lo) (N:Nat):∀(c:Code) (pc:aD),gF P E n c=some pc→NM P n lo L0 c (cS call lo N pc)
 |
  .skip,pc,hp=>by
  cases hp
  intro ρ H x aU H' hr m a w h hl hf Q hQ
  cases hr
  exact wp_skip (hQ m a w h (Trans.refl _ _ _ _))
 |
  .region id ops draw,pc,hp=>by
  rw[gF] at hp
  cases hpr:vO P E n ops draw with
  | none=>rw[hpr] at hp;cases hp
  |
   some rV =>
   rw[hpr] at hp
   cases hp
   intro ρ H x aU H' hr m a w h hl hf Q hQ
   rw[cS] at hr
   cases hs:fU call lo rV ρ H with
   | none=>rw[hs] at hr;cases hr
   |
    some q =>
    obtain⟨vI,H1⟩:=q
    rw[hs] at hr
    cases hr
    exact R9 Ca mF pV hpr hs h eX hl hf hQ
 |
  .seq x y,pc,hp=>by
  rw[gF] at hp
  split at hp
  ·rename_i px py SZ hpy
   cases hp
   intro ρ H e aU H' hr m a w h hl hf Q hQ
   rw[cS] at hr
   apply wp_seq
   split at hr
   ·rename_i vI H1 h1
    have e1:=iJ pV px h1
    have e2:=iJ pV py hr
    refine nN Ca mF pV eX N x px SZ ρ H _ vI H1 h1 m a w h hl (fun b Di hb2=>hf b Di (Nat.lt_of_lt_of_le hb2 e2.len)) _ fun m1 a1 w1 hh hT => ?_
    exact nN Ca mF pV eX N y py hpy vI H1 _ aU H' hr m1 a1 w1 hh (Nat.le_trans hl e1.len) (hT.fresh e1.len hf) Q fun m2 a2 w2 h2 hT2=>hQ m2 a2 w2 h2 (Trans.trans hf e1 e2 hT hT2)
   ·rename_i eW
    refine nN Ca mF pV eX N x px SZ ρ H _ aU H' hr m a w h hl hf _ fun m1 a1 w1 hh hT => ?_
    have:=hQ m1 a1 w1 hh hT
    cases e with
    | normal=>exact absurd hr (eW aU H')
    | exit id=>exact this
    | ret=>exact this
  ·cases hp
 |
  .cond o x y,pc,hp=>by
  rw[gF] at hp
  split at hp
  ·rename_i CV
   split at hp
   ·rename_i px py SZ hpy
    cases hp
    intro ρ H e aU H' hr m a w h hl hf Q hQ
    rw[cS] at hr
    split at hr
    ·rename_i t ht
     have Rh:=Rx (a:=a) (m:=m) (ρ:=ρ) CV fun t _=>h.env t
     rw[ht] at Rh
     generalize hev:a.eval o=ro at Rh
     cases Rh
     refine wp_cond hev ?_
     cases t with
     | true=>exact nN Ca mF pV eX N x px SZ ρ H _ aU H' hr m a w h hl hf Q hQ
     | false=>exact nN Ca mF pV eX N y py hpy ρ H _ aU H' hr m a w h hl hf Q hQ
    ·cases hr
   ·cases hp
  ·cases hp
 |
  .block id x,pc,hp=>by
  rw[gF] at hp
  cases SZ:gF P E n x with
  | none=>rw[SZ] at hp;cases hp
  |
   some px =>
   rw[SZ] at hp
   cases hp
   intro ρ H e aU H' hr m a w h hl hf Q hQ
   rw[cS] at hr
   apply wp_block
   split at hr
   ·rename_i O6 vI H1 h1
    split at hr
    ·rename_i hid
     cases hr
     refine nN Ca mF pV eX N x px SZ ρ H _ aU H' h1 m a w h hl hf _ fun m1 a1 w1 hh hT => ?_
     have:=hQ m1 a1 w1 hh hT
     show Exit.inBlock id Q (.exit O6) a1 w1
     simp only[Exit.inBlock,if_pos hid]
     exact this
    ·rename_i hid
     cases hr
     refine nN Ca mF pV eX N x px SZ ρ H _ aU H' h1 m a w h hl hf _ fun m1 a1 w1 hh hT => ?_
     have:=hQ m1 a1 w1 hh hT
     show Exit.inBlock id Q (.exit O6) a1 w1
     simp only[Exit.inBlock,if_neg hid]
     exact this
   ·rename_i eW
    refine nN Ca mF pV eX N x px SZ ρ H _ aU H' hr m a w h hl hf _ fun m1 a1 w1 hh hT => ?_
    have:=hQ m1 a1 w1 hh hT
    cases e with
    | normal=>exact this
    | exit O6=>exact absurd hr (eW O6 aU H')
    | ret=>exact this
 |
  .loop x,pc,hp=>by
  rw[gF] at hp
  cases SZ:gF P E n x with
  | none=>rw[SZ] at hp;cases hp
  |
   some px =>
   rw[SZ] at hp
   cases hp
   have hx:=nN Ca mF pV eX N x px SZ
   intro ρ H e aU H' hr
   rw[cS] at hr
   exact YD hx (fun ρ H x aU H' h=>iJ pV px h) N ρ H e aU H' hr
 |
  .exit id,pc,hp=>by
  cases hp
  intro ρ H x aU H' hr m a w h hl hf Q hQ
  cases hr
  exact wp_exit (hQ m a w h (Trans.refl _ _ _ _))
 |
  .ret,pc,hp=>by
  cases hp
  intro ρ H x aU H' hr m a w h hl hf Q hQ
  cases hr
  exact wp_ret (hQ m a w h (Trans.refl _ _ _ _))
 | .rangeFunc ..,pc,hp=>by cases hp
 | .scope _,pc,hp=>by cases hp
 | .label _,pc,hp=>by cases hp
 | .goto _,pc,hp=>by cases hp
 | .refuse _,pc,hp=>by cases hp
def yD (P:Program):ResultVar→Option zP
 | .tmp t=>some (.tmp t)
 | .cell t ty=>(kT P ty).map fun(agg,size,_,_) => .cell t agg size
def Ky (a:Act):ResultVar→Sem Value
 | .tmp t=>pure (a.tmps.getD t undef)
 | .cell x t=>do loadVar t (←asAddr (a.tmps.getD x undef))
theorem atL {m:cD} {ρ:Env} {H:aE} {a:Act} {w:World} (h:F0 n L0 m ρ H a w) {r:ResultVar} {pr:zP} (hp:yD P r=some pr) {v:Value} (hv:Uj ρ H pr=some v) :
  ∃rv,RV m v rv∧(Ky a r).run P w = .ok rv w:=by
 cases r with
 |
  tmp t =>
  cases hp
  cases hv
  exact⟨_,h.env t,rfl⟩
 |
  cell x t =>
  simp only[yD] at hp
  cases ht:kT P t with
  | none=>rw[ht] at hp;cases hp
  |
   some q =>
   obtain⟨agg,size,z,nb⟩:=q
   rw[ht] at hp
   cases hp
   obtain⟨rv,h1,h2⟩:=M5 ht hv h.rel (h.env x)
   refine⟨rv,h1,?_⟩
   unfold Ky
   have hpv:=h.env x
   simp only[Uj,mT] at hv
   split at hv
   ·rename_i b o hb
    rw[hb] at hpv
    show (do loadVar t (←asAddr (a.tmps.getD x undef)):Sem Value).run P w=_
    generalize a.tmps.getD x undef=rp at h2 hpv ⊢
    cases hpv
    exact h2
   ·cases hv
theorem Zr {m:cD} {ρ:Env} {H:aE} {a:Act} {w:World} (h:F0 n L0 m ρ H a w):∀ {rs:List ResultVar} {prs:List zP} {vs:List Value},rs.mapM (yD P)=some prs→Bb ρ H prs=some vs →
  ∃WD,RL m vs WD∧(rs.mapM (Ky a)).run P w = .ok WD w
 |
  [],prs,vs,hp,hv=>by
  simp at hp
  subst hp
  cases hv
  exact⟨[],RL.nil m,rfl⟩
 |
  r::rs,prs,vs,hp,hv=>by
  simp only[List.mapM_cons,Option.pure_def,Option.bind_eq_bind] at hp
  cases h1:yD P r with
  | none=>rw[h1] at hp;cases hp
  |
   some pr =>
   rw[h1] at hp
   cases h2:rs.mapM (yD P) with
   | none=>rw[h2] at hp;cases hp
   |
    some axY =>
    rw[h2] at hp
    cases hp
    simp only[Bb] at hv
    split at hv
    ·rename_i v vs' hv1 hv2
     cases hv
     obtain⟨rv,g1,g2⟩:=atL h h1 hv1
     obtain⟨WD,g3,g4⟩:=Zr h h2 hv2
     refine⟨rv::WD,RL.cons g1 g3,?_⟩
     rw[List.mapM_cons,Sem.run_bind,g2,Result.andThen_ok,Sem.run_bind,g4]
     rfl
    ·cases hv
theorem Hb {m:cD} {ρ:Env} {H:aE} {a:Act} {w:World} (h:F0 n L0 m ρ H a w) {fn:Func} {prs:List zP} (hp:fn.results.toList.mapM (yD P)=some prs) {v:Value} (hv:pK prs ρ H=some v) :
  ∃rv,RV m v rv∧(results fn a.tmps).run P w = .ok rv w:=by
 unfold pK at hv
 cases kB:Bb ρ H prs with
 | none=>rw[kB] at hv;cases hv
 |
  some vs =>
  obtain⟨WD,h1,h2⟩:=Zr h hp kB
  rw[kB] at hv
  have nZ:∀rv,(if h:WD.toArray.size=1 then WD.toArray[0] else .tuple WD.toArray)=rv→(results fn a.tmps).run P w = .ok rv w:=by
   intro rv Rh
   have e:results fn a.tmps=(do let vs ←fn.results.mapM (Ky a);pure (if h:vs.size=1 then vs[0] else .tuple vs)):=by
    unfold results
    congr 2
   rw[e,Array.mapM_eq_mapM_toList,Sem.run_bind]
   have:(List.toArray <$> fn.results.toList.mapM (Ky a)).run P w = .ok WD.toArray w:=by
    rw[map_eq_pure_bind,Sem.run_bind,h2]
    rfl
   rw[this,←Rh]
   rfl
  clear h2 kB
  rcases vs with _ | ⟨x,_ | ⟨y,xs⟩⟩
  ·rcases WD with _ | ⟨x',ys⟩
   ·cases hv
    exact⟨_,h1.Tl,nZ _ rfl⟩
   ·cases h1.1
  ·rcases WD with _ | ⟨x',_ | ⟨y',ys⟩⟩
   ·cases h1.1
   ·cases hv
    exact⟨x',h1.iR.1,nZ x' rfl⟩
   ·cases h1.1
  ·rcases WD with _ | ⟨x',_ | ⟨y',ys⟩⟩
   ·cases h1.1
   ·cases h1.1
   ·cases hv
    exact⟨_,h1.Tl,nZ _ (by simp)⟩
end
end Go.PM
namespace Go.PM
def Ys (P:Program) (E:zI) (L0:Nat):Prop :=
 ∀f p,E.zN f=some p→Jo P f∧∀args H v,p args H=some v→∀m w fR,Rel m L0 H w→RL m args fR →
  Calls P f fR.toArray w fun e w'=>∃rv,e = .returned rv∧RV m v rv∧w.heap.size≤w'.heap.size∧(∀rb,rb<w.heap.size→w'.heap[rb]? = w.heap[rb]?)∧w'.os=w.os∧w'.output=w.output∧w'.tape=w.tape
theorem Rel.more {m:cD} {L0:Nat} {H:aE} {w w':World} (h:Rel m L0 H w) (hk:∀rb,rb<w.heap.size→w'.heap[rb]? = w.heap[rb]?):Rel m L0 H w':=by
 have hv:∀b l,m b=some l→l.rb<w.heap.size:=fun b l hb=>by
  obtain⟨arr,e,fz,h1,_⟩:=h.valid b l hb
  exact(Array.getElem?_eq_some_iff.1 h1).1
 refine⟨fun b l hb=>by rw[hk _ (hv b l hb)];exact h.valid b l hb,fun b l cs e p hm hb => ?_,h.inj,fun x hx=>⟨?_,(h.Cy x hx).2⟩⟩
 ·obtain⟨h1,h2,h3,h4⟩:=h.row b l cs e p hm hb
  refine⟨h1,h2,h3,fun i hi => ?_⟩
  obtain⟨rv,g1,g2⟩:=h4 i hi
  refine⟨rv,?_,g2⟩
  rw[←g1]
  unfold World.cell?
  simp only[hk _ (hv b l hm)]
 ·obtain⟨e,fz,g1⟩:=(h.Cy x hx).1
  exact⟨e,fz,by rw[hk _ (Array.getElem?_eq_some_iff.1 g1).1];exact g1⟩
theorem YK {P:Program} {E:zI} {f:Nat} {pf:aT} (h:Pd P E f=some pf):∃fn c,P.funcs[f]? = some fn∧fn.body=some c∧(fn.name == "runtime.NumGoroutine")=false∧fn.results.toList.mapM (yD P)=some pf.res∧gF P E fn.ntmps c=some pf.body∧pf.ntmps=fn.ntmps:=by
 unfold Pd at h
 cases hf:P.funcs[f]? with
 | none=>rw[hf] at h;cases h
 |
  some fn =>
  rw[hf] at h
  have h':Jd P E fn=some pf:=h
  unfold Jd at h'
  cases hb:fn.body with
  | none=>rw[hb] at h';cases h'
  |
   some c =>
   rw[hb] at h'
   simp only at h'
   split at h'
   ·cases h'
   ·rename_i XA
    split at h'
    ·cases h'
    ·rename_i res RC
     cases hc:gF P E fn.ntmps c with
     | none=>rw[hc] at h';cases h'
     |
      some body =>
      rw[hc] at h'
      cases h'
      refine⟨fn,c,rfl,hb,by simpa using XA,?_,hc,rfl⟩
      have e:(fun(r:ResultVar)=>match r with
       | .tmp t=>some (zP.tmp t)
       | .cell t ty=>(kT P ty).map fun(agg,size,_,_) => .cell t agg size)=yD P:=by
       funext r
       cases r<;>rfl
      rw[←e]
      exact RC
theorem F7 {P:Program} {E:zI} {T:YG} {L0:Nat} (Ca:P.follows .mixedOrders=true) (Yc:Ys P E L0) (hT:∀f pf,T f=some pf→Pd P E f=some pf):∀n,vH P L0 (kV E T n)
 | 0=>fun f args lo H v H' h=>by cases h
 |
  n+1=>fun f args lo H v H' h m w fR hR eX hlen Q1 hf=>by
  have pV:=CT E T n
  rw[kV] at h
  split at h
  ·rename_i p hp
   obtain⟨hco,atF⟩:=Yc f p hp
   refine⟨hco,?_⟩
   cases hpv:p args H with
   | none=>rw[hpv] at h;cases h
   |
    some u =>
    rw[hpv] at h
    cases h
    refine(atF args H v hpv m w fR hR Q1).mono ?_
    rintro e w' ⟨rv,rfl,h1,h2,h3,h4⟩
    exact⟨m,rv,rfl,h1,hR.more h3,fun _ _ h=>h,fun b l hb hn=>(by rw[hb] at hn;cases hn),h2,fun rb Cn _=>h3 rb Cn,h4⟩
  ·split at h
   ·cases h
   ·rename_i pf hpf
    obtain⟨fn,c,h1,h2,h3,h4,h5,h6⟩:=YK (hT _ _ hpf)
    split at h
    case isFalse=>cases h
    rename_i xA
    refine⟨⟨fn,h1,h3,by rw[h2];rfl⟩,calls_of_wp h1 h2 ?_⟩
    have A3:fR.toArray.size≤fn.ntmps:=by
     have:=Q1.1
     simp;omega
    have hH:F0 fn.ntmps L0 m (Vr args) H { tmps:=fR.toArray++Array.replicate (fn.ntmps-fR.toArray.size) undef,defers:=[] } w:=by
     refine⟨by simp at A3 ⊢;omega,rfl,fun t => ?_,hR⟩
     rcases Nat.lt_or_ge t args.length with ht | ht
     ·have h7:=Q1.2 t ht
      have ht':t<fR.length:=by rw[←Q1.1];exact ht
      have e:(fR.toArray++Array.replicate (fn.ntmps-fR.toArray.size) undef).getD t undef=fR.getD t undef:=by
       rw[Array.getD_eq_getD_getElem?,Array.getElem?_append_left (by simpa using ht')]
       simp
      show RV m (args.getD t undef) _
      rw[e]
      exact h7
     ·have e1:args.getD t undef=undef:=by simp[List.getD_eq_getElem?_getD,List.getElem?_eq_none ht]
      have ht':fR.length≤t:=by rw[←Q1.1];exact ht
      have e2:(fR.toArray++Array.replicate (fn.ntmps-fR.toArray.size) undef).getD t undef=undef:=by
       rw[Array.getD_eq_getD_getElem?,Array.getElem?_append_right (by simpa using ht')]
       rw[Array.getElem?_replicate]
       split<;>rfl
      show RV m (args.getD t undef) _
      rw[e1,e2]
      exact RV.undef m
    split at h
    ·rename_i vI H1 nZ
     cases hr:pK pf.res vI H1 with
     | none=>rw[hr] at h;cases h
     |
      some u =>
      rw[hr] at h
      cases h
      refine nN Ca (F7 Ca Yc hT n) pV eX n c pf.body h5 _ _ _ _ _ nZ m _ w hH hlen hf _ fun m' a' w' hh hTr => ?_
      obtain⟨rv,g1,g2⟩:=Hb hh h4 hr
      exact⟨hh.defs,rv,g2,m',rv,rfl,g1,hh.rel,hTr⟩
    ·rename_i vI H1 nZ
     cases hr:pK pf.res vI H1 with
     | none=>rw[hr] at h;cases h
     |
      some u =>
      rw[hr] at h
      cases h
      refine nN Ca (F7 Ca Yc hT n) pV eX n c pf.body h5 _ _ _ _ _ nZ m _ w hH hlen hf _ fun m' a' w' hh hTr => ?_
      obtain⟨rv,g1,g2⟩:=Hb hh h4 hr
      exact⟨hh.defs,rv,g2,m',rv,rfl,g1,hh.rel,hTr⟩
    ·cases h
end Go.PM
namespace Go.PM
def CLe (c c':fC):Prop:=∀f args lo H r,c f args lo H=some r→c' f args lo H=some r
section
variable {c c':fC} {lo:Nat}
theorem M4 (h:CLe c c') {i:PI} {ρ:Env} {H:aE} {r:Value×aE} (hr:xM c lo i ρ H=some r):xM c' lo i ρ H=some r:=by
 unfold xM at hr ⊢
 split at hr
 ·cases hr
 ·exact hr
 ·split at hr
  ·rename_i Oo
   rw[if_pos Oo]
   split at hr
   ·exact hr
   ·exact h _ _ _ _ _ hr
   ·cases hr
  ·cases hr
theorem Sy (h:CLe c c') {i:PI} {ρ:Env} {H:aE} {r:Env×aE} (hr:wK c lo i ρ H=some r):wK c' lo i ρ H=some r:=by
 unfold wK at hr ⊢
 split at hr
 ·rename_i v H' hv
  rw[M4 h hv]
  exact hr
 ·cases hr
theorem xX (h:CLe c c'):∀ {is:List PI} {ρ:Env} {H:aE} {r:Env×aE},fU c lo is ρ H=some r→fU c' lo is ρ H=some r
 | [],_,_,_,hr=>hr
 |
  i::is,ρ,H,r,hr=>by
  rw[fU] at hr ⊢
  split at hr
  ·rename_i h1
   rw[Sy h h1]
   exact xX h hr
  ·cases hr
theorem xC {b b':Env→aE→Option (Ex×Env×aE)} (h:∀ρ H r,b ρ H=some r→b' ρ H=some r):∀ {n n':Nat} {ρ:Env} {H:aE} {r:Ex×Env×aE},n≤n'→wV b n ρ H=some r→wV b' n' ρ H=some r
 | 0,_,_,_,_,_,hr=>by cases hr
 | n+1,0,_,_,_,hn,_=>by omega
 |
  n+1,n'+1,ρ,H,r,hn,hr=>by
  rw[wV] at hr ⊢
  split at hr
  ·rename_i h1
   rw[h _ _ _ h1]
   exact xC h (by omega) hr
  ·rename_i eW
   rw[h _ _ _ hr]
   split
   ·rename_i aU H' he
    cases he
    exact absurd hr (eW _ _)
   ·rfl
theorem dU (h:CLe c c') {n n':Nat} (hn:n≤n'):∀(p:aD) {ρ:Env} {H:aE} {r:Ex×Env×aE},cS c lo n p ρ H=some r→cS c' lo n' p ρ H=some r
 | .skip,_,_,_,hr=>hr
 |
  .cX ops,ρ,H,r,hr=>by
  rw[cS] at hr ⊢
  cases hs:fU c lo ops ρ H with
  | none=>rw[hs] at hr;cases hr
  | some q=>rw[hs] at hr;rw[xX h hs];exact hr
 |
  .seq a b,ρ,H,r,hr=>by
  rw[cS] at hr ⊢
  split at hr
  ·rename_i h1
   rw[dU h hn a h1]
   exact dU h hn b hr
  ·rename_i eW
   rw[dU h hn a hr]
   split
   ·rename_i he;cases he;exact absurd hr (eW _ _)
   ·rfl
 |
  .cond x a b,ρ,H,r,hr=>by
  rw[cS] at hr ⊢
  split at hr
  ·split at hr
   ·rename_i ht;rw[if_pos ht];exact dU h hn a hr
   ·rename_i ht;rw[if_neg ht];exact dU h hn b hr
  ·cases hr
 |
  .block id a,ρ,H,r,hr=>by
  rw[cS] at hr ⊢
  split at hr
  ·rename_i h1
   rw[dU h hn a h1]
   exact hr
  ·rename_i eW
   rw[dU h hn a hr]
   split
   ·rename_i he;cases he;exact absurd hr (eW _ _ _)
   ·rfl
 |
  .loop a,ρ,H,r,hr=>by
  rw[cS] at hr ⊢
  exact xC (fun ρ H r hr=>dU h hn a hr) hn hr
 | .exit id,_,_,_,hr=>hr
 | .ret,_,_,_,hr=>hr
theorem AY (E:zI) (T:YG):∀n,CLe (kV E T n) (kV E T (n+1))
 | 0,_,_,_,_,_,hr=>by cases hr
 |
  n+1,f,args,lo,H,r,hr=>by
  rw[kV] at hr ⊢
  split at hr
  ·exact hr
  ·split at hr
   ·cases hr
   ·split at hr
    ·rename_i pf _ ha
     rw[if_pos ha]
     split at hr
     ·rename_i h1
      rw[dU (AY E T n) (Nat.le_succ n) pf.body h1]
      exact hr
     ·rename_i h1
      rw[dU (AY E T n) (Nat.le_succ n) pf.body h1]
      exact hr
     ·cases hr
    ·cases hr
theorem nL (E:zI) (T:YG) {n n':Nat} (h:n≤n'):CLe (kV E T n) (kV E T n'):=by
 induction h with
 | refl=>exact fun _ _ _ _ _ h=>h
 | step _ ih=>exact fun f args lo H r hr=>AY E T _ f args lo H r (ih f args lo H r hr)
end
section
variable (E:zI) (T:YG)
open Classical in
noncomputable def lim {α:Type} (run:Nat→Option α):Option α:=if h:∃r,∃n,run n=some r then some (Classical.choose h) else none
theorem Tm {α:Type} {run:Nat→Option α} (hm:∀n n' r,n≤n'→run n=some r→run n'=some r) {r:α}:lim run=some r↔∃n,run n=some r:=by
 unfold lim
 constructor
 ·intro h
  split at h
  ·rename_i hx
   cases h
   exact Classical.choose_spec hx
  ·cases h
 ·rintro⟨n,hn⟩
  have hx:∃r,∃n,run n=some r:=⟨r,n,hn⟩
  rw[dif_pos hx]
  obtain⟨n',Ok⟩:=Classical.choose_spec hx
  have h1:=hm n (max n n') r (Nat.le_max_left _ _) hn
  have h2:=hm n' (max n n') _ (Nat.le_max_right _ _) Ok
  rw[h1] at h2
  injection h2 with h2
  rw[←h2]
noncomputable def call:fC:=fun f args lo H=>lim fun n=>kV E T n f args lo H
noncomputable def code (lo:Nat) (c:aD) (ρ:Env) (H:aE):Option (Ex×Env×aE):=lim fun n=>cS (kV E T n) lo n c ρ H
theorem tM {f:Nat} {args:List Value} {lo:Nat} {H:aE} {r:Value×aE}:call E T f args lo H=some r↔∃n,kV E T n f args lo H=some r :=
 Tm fun _ _ r h hr=>nL E T h f args lo H r hr
theorem bW {lo:Nat} {c:aD} {ρ:Env} {H:aE} {r:Ex×Env×aE}:code E T lo c ρ H=some r↔∃n,cS (kV E T n) lo n c ρ H=some r :=
 Tm fun _ _ _ h hr=>dU (nL E T h) h c hr
theorem J3 {lo:Nat}:∀ {is:List PI} {ρ:Env} {H:aE} {r:Env×aE},fU (call E T) lo is ρ H=some r↔∃n,fU (kV E T n) lo is ρ H=some r:=by
 have le:∀n,CLe (kV E T n) (call E T):=fun n f args lo H r hr=>(tM E T).2 ⟨n,hr⟩
 have val:∀ {i:PI} {ρ:Env} {H:aE} {r:Value×aE},xM (call E T) lo i ρ H=some r→∃n,xM (kV E T n) lo i ρ H=some r:=by
  intro i ρ H r hr
  unfold xM at hr ⊢
  split at hr
  ·cases hr
  ·exact⟨0,hr⟩
  ·split at hr
   ·rename_i Oo
    split at hr
    ·exact⟨0,by rw[if_pos Oo];exact hr⟩
    ·obtain⟨n,hn⟩:=(tM E T).1 hr
     exact⟨n,by rw[if_pos Oo];exact hn⟩
    ·cases hr
   ·cases hr
 intro is
 induction is with
 | nil=>exact fun {ρ H r}=>⟨fun h=>⟨0,h⟩,fun⟨_,h⟩=>h⟩
 |
  cons i is ih =>
  intro ρ H r
  constructor
  ·intro h
   rw[fU] at h
   split at h
   ·rename_i vI H1 h1
    obtain⟨v,hv,rfl⟩:=vS h1
    obtain⟨n1,hn1⟩:=val hv
    obtain⟨n2,hn2⟩:=ih.1 h
    refine⟨max n1 n2,?_⟩
    rw[fU]
    have e:wK (kV E T (max n1 n2)) lo i ρ H=some (put ρ i.dst v,H1):=by
     unfold wK
     rw[M4 (nL E T (Nat.le_max_left n1 n2)) hn1]
    rw[e]
    exact xX (nL E T (Nat.le_max_right n1 n2)) hn2
   ·cases h
  ·rintro⟨n,h⟩
   exact xX (le n) h
theorem AG {α:Type} {a b:Option α} (h:∀r,a=some r↔b=some r):a=b:=by
 cases a with
 |
  none =>
  cases b with
  | none=>rfl
  | some y=>exact((h y).2 rfl)
 | some x=>exact((h x).1 rfl).symm
variable {lo:Nat} {ρ:Env} {H:aE}
theorem VN:code E T lo .skip ρ H=some (.normal,ρ,H):=(bW E T).2 ⟨0,rfl⟩
theorem Ut {id:Nat}:code E T lo (.exit id) ρ H=some (.exit id,ρ,H):=(bW E T).2 ⟨0,rfl⟩
theorem YJ:code E T lo .ret ρ H=some (.ret,ρ,H):=(bW E T).2 ⟨0,rfl⟩
theorem Xb {ops:List PI}:code E T lo (.cX ops) ρ H=(fU (call E T) lo ops ρ H).map fun(aU,H')=>(.normal,aU,H'):=by
 refine AG fun r => ?_
 rw[bW]
 constructor
 ·rintro⟨n,h⟩
  rw[cS] at h
  cases hs:fU (kV E T n) lo ops ρ H with
  | none=>rw[hs] at h;cases h
  |
   some q =>
   rw[hs] at h
   rw[(J3 E T).2 ⟨n,hs⟩]
   exact h
 ·intro h
  cases hs:fU (call E T) lo ops ρ H with
  | none=>rw[hs] at h;cases h
  |
   some q =>
   rw[hs] at h
   obtain⟨n,hn⟩:=(J3 E T).1 hs
   exact⟨n,by rw[cS,hn];exact h⟩
theorem Zk {a b:aD}:code E T lo (.seq a b) ρ H=match code E T lo a ρ H with
  | some (.normal,aU,H')=>code E T lo b aU H'
  | r=>r:=by
 refine AG fun r => ?_
 rw[bW]
 constructor
 ·rintro⟨n,h⟩
  rw[cS] at h
  split at h
  ·rename_i h1
   rw[(bW E T).2 ⟨n,h1⟩]
   exact(bW E T).2 ⟨n,h⟩
  ·rename_i eW
   rw[(bW E T).2 ⟨n,h⟩]
   split
   ·rename_i he;cases he;exact absurd h (eW _ _)
   ·rfl
 ·intro h
  split at h
  ·rename_i h1
   obtain⟨n1,h1⟩:=(bW E T).1 h1
   obtain⟨n2,h2⟩:=(bW E T).1 h
   refine⟨max n1 n2,?_⟩
   rw[cS,dU (nL E T (Nat.le_max_left n1 n2)) (Nat.le_max_left n1 n2) a h1]
   exact dU (nL E T (Nat.le_max_right n1 n2)) (Nat.le_max_right n1 n2) b h2
  ·rename_i eW
   obtain⟨n,h1⟩:=(bW E T).1 h
   refine⟨n,?_⟩
   rw[cS,h1]
   split
   ·rename_i he;cases he;exact absurd h (eW _ _)
   ·rfl
theorem Wh {x:Operand} {a b:aD}:code E T lo (.cond x a b) ρ H=match ev ρ x with
  | .bool t=>if t then code E T lo a ρ H else code E T lo b ρ H
  | _=>none:=by
 refine AG fun r => ?_
 rw[bW]
 constructor
 ·rintro⟨n,h⟩
  rw[cS] at h
  split at h
  ·rename_i t he
   rw[he]
   show (if t=true then code E T lo a ρ H else code E T lo b ρ H)=some r
   split at h
   ·rename_i ht;rw[if_pos ht];exact(bW E T).2 ⟨n,h⟩
   ·rename_i ht;rw[if_neg ht];exact(bW E T).2 ⟨n,h⟩
  ·cases h
 ·intro h
  split at h
  ·rename_i t he
   split at h
   ·rename_i ht
    obtain⟨n,h⟩:=(bW E T).1 h
    refine⟨n,?_⟩
    rw[cS,he]
    show (if t=true then _ else _)=_
    rw[if_pos ht]
    exact h
   ·rename_i ht
    obtain⟨n,h⟩:=(bW E T).1 h
    refine⟨n,?_⟩
    rw[cS,he]
    show (if t=true then _ else _)=_
    rw[if_neg ht]
    exact h
  ·cases h
theorem SS {id:Nat} {a:aD}:code E T lo (.block id a) ρ H=match code E T lo a ρ H with
  | some (.exit O6,aU,H')=>if O6=id then some (.normal,aU,H') else some (.exit O6,aU,H')
  | r=>r:=by
 refine AG fun r => ?_
 rw[bW]
 constructor
 ·rintro⟨n,h⟩
  rw[cS] at h
  split at h
  ·rename_i h1
   rw[(bW E T).2 ⟨n,h1⟩]
   exact h
  ·rename_i eW
   rw[(bW E T).2 ⟨n,h⟩]
   split
   ·rename_i he;cases he;exact absurd h (eW _ _ _)
   ·rfl
 ·intro h
  split at h
  ·rename_i h1
   obtain⟨n,h1⟩:=(bW E T).1 h1
   exact⟨n,by rw[cS,h1];exact h⟩
  ·rename_i eW
   obtain⟨n,h1⟩:=(bW E T).1 h
   refine⟨n,?_⟩
   rw[cS,h1]
   split
   ·rename_i he;cases he;exact absurd h (eW _ _ _)
   ·rfl
theorem UK {a:aD}:code E T lo (.loop a) ρ H=match code E T lo a ρ H with
  | some (.normal,aU,H')=>code E T lo (.loop a) aU H'
  | r=>r:=by
 refine AG fun r => ?_
 rw[bW]
 constructor
 ·rintro⟨n,h⟩
  rw[cS] at h
  cases n with
  | zero=>cases h
  |
   succ n =>
   rw[wV] at h
   split at h
   ·rename_i h1
    rw[(bW E T).2 ⟨n+1,h1⟩]
    refine(bW E T).2 ⟨n+1,?_⟩
    rw[cS]
    exact xC (fun _ _ _ h=>h) (Nat.le_succ n) h
   ·rename_i eW
    rw[(bW E T).2 ⟨n+1,h⟩]
    split
    ·rename_i he;cases he;exact absurd h (eW _ _)
    ·rfl
 ·intro h
  split at h
  ·rename_i h1
   obtain⟨n1,h1⟩:=(bW E T).1 h1
   obtain⟨n2,h2⟩:=(bW E T).1 h
   refine⟨max n1 n2+1,?_⟩
   have g1:=dU (nL E T (show n1≤max n1 n2+1 by omega)) (show n1≤max n1 n2+1 by omega) a h1
   rw[cS,wV,g1]
   rw[cS] at h2
   exact xC (fun _ _ _ h=>dU (nL E T (show n2≤max n1 n2+1 by omega)) (show n2≤max n1 n2+1 by omega) a h) (show n2≤max n1 n2 by omega) h2
  ·rename_i eW
   obtain⟨n,h1⟩:=(bW E T).1 h
   refine⟨n+1,?_⟩
   rw[cS,wV,dU (AY E T n) (Nat.le_succ n) a h1]
   split
   ·rename_i he;cases he;exact absurd h (eW _ _)
   ·rfl
noncomputable def aeB (lo:Nat) (pf:aT) (args:List Value) (H:aE):Option (Value×aE) :=
 if args.length≤pf.ntmps then
  match code E T lo pf.body (Vr args) H with
  | some (.normal,ρ,H') | some (.ret,ρ,H')=>(pK pf.res ρ H').map (·,H')
  | _=>none
 else none
theorem Vg {f:Nat} {p:List Value→aE→Option Value} (h:E.zN f=some p) {args:List Value}:call E T f args lo H=(p args H).map (·,H):=by
 refine AG fun r => ?_
 rw[tM]
 constructor
 ·rintro⟨n,hr⟩
  cases n with
  | zero=>cases hr
  | succ n=>rw[kV,h] at hr;exact hr
 ·intro hr
  exact⟨1,by rw[kV,h];exact hr⟩
theorem abP {f:Nat} {pf:aT} (hp:E.zN f=none) (h:T f=some pf) {args:List Value}:call E T f args lo H=aeB E T lo pf args H:=by
 refine AG fun r => ?_
 rw[tM]
 unfold aeB
 constructor
 ·rintro⟨n,hr⟩
  cases n with
  | zero=>cases hr
  |
   succ n =>
   rw[kV,hp,h] at hr
   simp only at hr
   split at hr
   ·rename_i ha
    rw[if_pos ha]
    split at hr
    ·rename_i h1
     rw[(bW E T).2 ⟨n,h1⟩]
     exact hr
    ·rename_i h1
     rw[(bW E T).2 ⟨n,h1⟩]
     exact hr
    ·cases hr
   ·cases hr
 ·intro hr
  split at hr
  ·rename_i ha
   split at hr
   ·rename_i h1
    obtain⟨n,h1⟩:=(bW E T).1 h1
    exact⟨n+1,by rw[kV,hp,h];simp only;rw[if_pos ha,h1];exact hr⟩
   ·rename_i h1
    obtain⟨n,h1⟩:=(bW E T).1 h1
    exact⟨n+1,by rw[kV,hp,h];simp only;rw[if_pos ha,h1];exact hr⟩
   ·cases hr
  ·cases hr
end
end Go.PM
namespace Go.PM
theorem CO {H H':aE} {lo mU b o:Nat} {new:List Value} (hl:mU≤lo) (h:H.write lo b o new=some H'):H.write mU b o new=some H':=by
 unfold aE.write at h ⊢
 split at h
 ·split at h
  ·rename_i hc
   rw[if_pos ⟨by omega,hc.2⟩]
   exact h
  ·cases h
 ·cases h
theorem AK {α β:Type} {a b:Option α} {f:α→β} {r:β} (Gz:∀x,a=some x→b=some x) (h:a.map f=some r):b.map f=some r:=by
 cases a with
 | none=>cases h
 | some x=>rw[Gz x rfl];exact h
theorem HA {lo mU size bytes add:Nat} {x:Value} {new:List Value} {H:aE} {r:Value×aE} (hl:mU≤lo) (h:dO lo size bytes x add new H=some r):dO mU size bytes x add new H=some r:=by
 unfold dO at h ⊢
 split at h
 case isFalse=>cases h
 rename_i hc
 rw[if_pos hc]
 split at h
 ·exact h
 ·split at h
  ·split at h
   ·rename_i h1
    skip
    rw[if_pos h1]
    split at h
    ·rename_i h2
     rw[if_pos h2]
     split at h
     ·rename_i h3;rw[if_pos h3];exact h
     ·rename_i h3
      rw[if_neg h3]
      exact AK (fun H' hw=>CO hl hw) h
    ·rename_i h2
     rw[if_neg h2]
     split at h
     ·rename_i h3
      rw[if_pos h3]
      split at h
      ·rename_i h4
       rw[if_pos h4]
       split at h
       ·rename_i h5;rw[if_pos (by omega)];exact h
       ·cases h
      ·rename_i h4;rw[if_neg h4];exact h
     ·cases h
   ·cases h
  ·cases h
 ·cases h
theorem Ub {lo mU:Nat} {p:mB} {ρ:Env} {H:aE} {o:Out} (hl:mU≤lo) (h:pop lo p ρ H=some o):pop mU p ρ H=some o:=by
 cases p<;>first | exact h | skip
 case store size q v =>
  simp only[pop] at h ⊢
  split at h
  ·split at h
   ·rename_i h1
    skip
    rw[if_pos h1]
    exact AK (fun H' hw=>CO hl hw) h
   ·cases h
  ·cases h
 case app size bytes x y =>
  simp only[pop] at h ⊢
  split at h
  ·split at h
   ·skip
    exact AK (fun H' hw=>HA hl hw) h
   ·cases h
  ·cases h
 case appz z bytes x n =>
  simp only[pop] at h ⊢
  split at h
  ·split at h
   ·rename_i h1
    skip
    rw[if_pos h1]
    exact AK (fun H' hw=>HA hl hw) h
   ·cases h
  ·cases h
 case copy size x y =>
  simp only[pop] at h ⊢
  split at h
  ·exact h
  ·split at h
   ·skip
    exact AK (fun H' hw=>CO hl hw) h
   ·cases h
  ·cases h
 case clear z x =>
  simp only[pop] at h ⊢
  split at h
  ·exact h
  ·skip
   split at h
   ·rename_i h1;rw[if_pos h1];exact h
   ·rename_i h1
    rw[if_neg h1]
    exact AK (fun H' hw=>CO hl hw) h
  ·cases h
def XG (c:fC):Prop:=∀f args lo mU H r,mU≤lo→c f args lo H=some r→c f args mU H=some r
section
variable {c:fC} {lo mU:Nat}
theorem JJ (hc:XG c) (hl:mU≤lo):∀ {is:List PI} {ρ:Env} {H:aE} {r:Env×aE},fU c lo is ρ H=some r→fU c mU is ρ H=some r
 | [],_,_,_,h=>h
 |
  i::is,ρ,H,r,h=>by
  rw[fU] at h ⊢
  split at h
  ·rename_i vI H1 h1
   have e:wK c mU i ρ H=some (vI,H1):=by
    unfold wK at h1 ⊢
    split at h1
    ·rename_i v H2 hv
     have:xM c mU i ρ H=some (v,H2):=by
      unfold xM at hv ⊢
      split at hv
      ·cases hv
      ·exact hv
      ·split at hv
       ·rename_i Oo
        rw[if_pos Oo]
        split at hv
        ·rename_i hp;rw[Ub hl hp];exact hv
        ·rename_i hp
         rw[Ub hl hp]
         show c _ _ (if i.quiet=true then H.length else mU) H=_
         cases hq:i.quiet with
         | true=>rw[hq] at hv;exact hv
         | false=>rw[hq] at hv;exact hc _ _ _ _ _ _ hl hv
        ·cases hv
       ·cases hv
     rw[this]
     exact h1
    ·cases h1
   rw[e]
   exact JJ hc hl h
  ·cases h
theorem Uu {b b':Env→aE→Option (Ex×Env×aE)} (h:∀ρ H r,b ρ H=some r→b' ρ H=some r):∀ {n:Nat} {ρ:Env} {H:aE} {r:Ex×Env×aE},wV b n ρ H=some r→wV b' n ρ H=some r :=
 fun hr=>xC h (Nat.le_refl _) hr
theorem lU (hc:XG c) (hl:mU≤lo) {n:Nat}:∀(p:aD) {ρ:Env} {H:aE} {r:Ex×Env×aE},cS c lo n p ρ H=some r→cS c mU n p ρ H=some r
 | .skip,_,_,_,hr=>hr
 |
  .cX ops,ρ,H,r,hr=>by
  rw[cS] at hr ⊢
  exact AK (fun _ h=>JJ hc hl h) hr
 |
  .seq a b,ρ,H,r,hr=>by
  rw[cS] at hr ⊢
  split at hr
  ·rename_i h1
   rw[lU hc hl a h1]
   exact lU hc hl b hr
  ·rename_i eW
   rw[lU hc hl a hr]
   split
   ·rename_i he;cases he;exact absurd hr (eW _ _)
   ·rfl
 |
  .cond x a b,ρ,H,r,hr=>by
  rw[cS] at hr ⊢
  split at hr
  ·split at hr
   ·rename_i ht;rw[if_pos ht];exact lU hc hl a hr
   ·rename_i ht;rw[if_neg ht];exact lU hc hl b hr
  ·cases hr
 |
  .block id a,ρ,H,r,hr=>by
  rw[cS] at hr ⊢
  split at hr
  ·rename_i h1
   rw[lU hc hl a h1]
   exact hr
  ·rename_i eW
   rw[lU hc hl a hr]
   split
   ·rename_i he;cases he;exact absurd hr (eW _ _ _)
   ·rfl
 |
  .loop a,ρ,H,r,hr=>by
  rw[cS] at hr ⊢
  exact Uu (fun ρ H r hr=>lU hc hl a hr) hr
 | .exit id,_,_,_,hr=>hr
 | .ret,_,_,_,hr=>hr
end
theorem G2 (E:zI) (T:YG):∀n,XG (kV E T n)
 | 0,_,_,_,_,_,_,_,h=>by cases h
 |
  n+1,f,args,lo,mU,H,r,hl,h=>by
  rw[kV] at h ⊢
  split at h
  ·exact h
  ·split at h
   ·cases h
   ·split at h
    ·rename_i pf _ ha
     rw[if_pos ha]
     split at h
     ·rename_i h1;rw[lU (G2 E T n) hl pf.body h1];exact h
     ·rename_i h1;rw[lU (G2 E T n) hl pf.body h1];exact h
     ·cases h
    ·cases h
section
variable {E:zI} {T:YG}
theorem Yq {f:Nat} {args:List Value} {lo mU:Nat} {H:aE} {r:Value×aE} (hl:mU≤lo) (h:call E T f args lo H=some r):call E T f args mU H=some r:=by
 obtain⟨n,hn⟩:=(tM E T).1 h
 exact(tM E T).2 ⟨n,G2 E T n f args lo mU H r hl hn⟩
theorem YE {f:Nat} {args:List Value} {lo:Nat} {H H':aE} {v:Value} (h:call E T f args lo H=some (v,H')):Ext lo H H':=by
 obtain⟨n,hn⟩:=(tM E T).1 h
 exact CT E T n f args lo H v H' hn
theorem Ext.more {H H':aE} (h:Ext H.length H H'):∃K,H'=H++K:=by
 refine⟨H'.drop H.length,?_⟩
 apply List.ext_getElem?
 intro i
 rcases Nat.lt_or_ge i H.length with hi | hi
 ·rw[List.getElem?_append_left hi]
  exact h.low i hi hi
 ·rw[List.getElem?_append_right hi,List.getElem?_drop,show H.length+(i-H.length)=i by omega]
def Ta (E:zI) (T:YG) (f:Nat) (args:List Value) (H:aE) (R:Value→aE→Prop):Prop :=
 ∃v K,call E T f args H.length H=some (v,H++K)∧R v (H++K)
theorem Ta.at {f:Nat} {args:List Value} {H:aE} {R:Value→aE→Prop} (h:Ta E T f args H R) {lo:Nat} (hl:lo≤H.length):∃v K,call E T f args lo H=some (v,H++K)∧R v (H++K):=by
 obtain⟨v,K,h1,h2⟩:=h
 exact⟨v,K,Yq hl h1,h2⟩
theorem Ta.mk {f:Nat} {args:List Value} {H H':aE} {v:Value} {R:Value→aE→Prop} (h:call E T f args H.length H=some (v,H')) (hr:R v H'):Ta E T f args H R:=by
 obtain⟨K,rfl⟩:=(YE h).more
 exact⟨v,K,h,hr⟩
end
end Go.PM
namespace Go.PM
def strCells:List Value→Option (List ByteArray)
 | []=>some []
 | .string s::r=>(strCells r).map (s :: ·)
 | _=>none
def tR:List Value→aE→Option Value
 | [.int .u64 n,.int .i64 b],_=>if b=10∧0≤n∧n<18446744073709551616 then some (.string ⟨(Lib.decDigits n.toNat).toArray⟩) else none
 | _,_=>none
def EK:List Value→aE→Option Value
 | [.string s,.int .i64 c],_=>if 0≤c∧c≤9223372036854775807∧s.size*c.toNat≤140737488355328 then some (.string ⟨(Lib.repeatL s.data.toList c.toNat).toArray⟩) else none
 | _,_=>none
def Cj:List Value→aE→Option Value
 | [.int .u32 x],_=>if 0≤x∧x≤4294967295 then some (.int .i64 (32-(Lib.bitLen x.toNat:Int))) else none
 | _,_=>none
def Pc:List Value→aE→Option Value
 | [.slice none 0 0,.string _],_=>some (.string ⟨#[]⟩)
 |
  [.slice (some ⟨b,o,none⟩) n c,.string sep],H =>
  if n=0 then some (.string ⟨#[]⟩) else
  match (H.read b o n).bind strCells with
  | some xs=>if xs.length=n∧n≤c∧n≤140737488355328∧(Lib.join (xs.map (·.data.toList)) sep.data.toList).length≤140737488355328 then some (.string ⟨(Lib.join (xs.map (·.data.toList)) sep.data.toList).toArray⟩) else none
  | none=>none
 | _,_=>none
def N7:List Value→aE→Option Value
 |
  [.string s,.string p],_=>match p.data.toList with
  | [c]=>some (.int .i64 (Lib.indexByte s.data.toList c))
  | _=>none
 | _,_=>none
def xE:List Value→aE→Option Value
 |
  [.string s,.int .i64 b,.int .i64 z],_=>if b=10∧z=64∧s.size≤9223372036854775806 then
   match Lib.parseUintB 64 s.data.toList with
   | .ok u=>some (.tuple #[.int .u64 (u:Int),.nilIface])
   | _=>none
  else none
 | _,_=>none
end Go.PM
namespace Go.PM
open Go.Proofs
def asI:List Nat:=[]
 ++ [56]
 ++ [221]
 ++ [239]
 ++ [240]
def Hc (f:Nat):Option (List Value→aE→Option Value) :=
 if f=184 then some tR else
 if f=103 then some EK else
 if f=186 then some Pc else
 if f=219 then some Cj else
 if f=241 then some N7 else
 if f=217 then some xE else
 (fun _=>none) f
def cfg:zI:={ zN:=Hc,eff:=fun f=>asI.contains f }
noncomputable def gE:YG:=fun f=>if (Hc f).isSome then none else Pd Tryz.prog cfg f
theorem agH (f:Nat) (pf:aT) (h:gE f=some pf):Pd Tryz.prog cfg f=some pf:=by
 unfold gE at h
 split at h
 ·cases h
 ·exact h
theorem RX {f:Nat} {pf:aT} (h:gE f=some pf):cfg.zN f=none:=by
 unfold gE at h
 split at h
 ·cases h
 ·rename_i h1
  show Hc f=none
  cases hp:Hc f with
  | none=>rfl
  | some p=>rw[hp] at h1;exact absurd rfl h1
end Go.PM
namespace Go.PM
noncomputable abbrev pS:fC:=call cfg gE
def W (lo:Nat) (c:aD) (Q:Ex→Env→aE→Prop) (ρ:Env) (H:aE):Prop:=∃x aU H',code cfg gE lo c ρ H=some (x,aU,H')∧Q x aU H'
def WS (lo:Nat) (is:List PI) (K:Env→aE→Prop) (ρ:Env) (H:aE):Prop:=∃aU H',fU pS lo is ρ H=some (aU,H')∧K aU H'
def aqL (lo:Nat) (b:aD) (Q:Ex→Env→aE→Prop):Ex→Env→aE→Prop
 | .normal,ρ,H=>W lo b Q ρ H
 | x,ρ,H=>Q x ρ H
def akR (id:Nat) (Q:Ex→Env→aE→Prop):Ex→Env→aE→Prop
 | .exit O6,ρ,H=>if O6=id then Q .normal ρ H else Q (.exit O6) ρ H
 | x,ρ,H=>Q x ρ H
def arG (res:List zP) (R:Value→aE→Prop):Ex→Env→aE→Prop
 | .exit _,_,_=>False
 | _,ρ,H=>∃v,pK res ρ H=some v∧R v H
def amW (J:Env→aE→Prop) (Q:Ex→Env→aE→Prop):Ex→Env→aE→Prop
 | .normal,ρ,H=>J ρ H
 | x,ρ,H=>Q x ρ H
section
variable {lo:Nat} {Q:Ex→Env→aE→Prop} {K:Env→aE→Prop} {ρ:Env} {H:aE} {b:aD} {id:Nat} {R:Value→aE→Prop} {res:List zP} {J:Env→aE→Prop}
theorem FZ {i:Nat}:akR id Q (.exit i) ρ H=if i=id then Q .normal ρ H else Q (.exit i) ρ H:=rfl
theorem agN:W lo .skip Q ρ H=Q .normal ρ H:=by
 unfold W
 rw[VN]
 exact propext ⟨fun⟨_,_,_,h,hq⟩=>(by cases h;exact hq),fun h=>⟨_,_,_,rfl,h⟩⟩
theorem agU {i:Nat}:W lo (.exit i) Q ρ H=Q (.exit i) ρ H:=by
 unfold W
 rw[Ut]
 exact propext ⟨fun⟨_,_,_,h,hq⟩=>(by cases h;exact hq),fun h=>⟨_,_,_,rfl,h⟩⟩
theorem alI:W lo .ret Q ρ H=Q .ret ρ H:=by
 unfold W
 rw[YJ]
 exact propext ⟨fun⟨_,_,_,h,hq⟩=>(by cases h;exact hq),fun h=>⟨_,_,_,rfl,h⟩⟩
theorem alW {ops:List PI}:W lo (.cX ops) Q ρ H=WS lo ops (Q .normal) ρ H:=by
 unfold W WS
 rw[Xb]
 apply propext
 constructor
 ·rintro⟨x,aU,H',h,hq⟩
  cases hs:fU (call cfg gE) lo ops ρ H with
  | none=>rw[hs] at h;cases h
  |
   some q =>
   rw[hs] at h
   cases h
   exact⟨_,_,rfl,hq⟩
 ·rintro⟨aU,H',h,hq⟩
  exact⟨_,_,_,by rw[h];rfl,hq⟩
theorem amC {a:aD}:W lo (.seq a b) Q ρ H=W lo a (aqL lo b Q) ρ H:=by
 unfold W
 rw[Zk]
 apply propext
 constructor
 ·rintro⟨x,aU,H',h,hq⟩
  split at h
  ·rename_i vI H1 h1
   exact⟨_,_,_,h1,x,aU,H',h,hq⟩
  ·rename_i eW
   refine⟨x,aU,H',h,?_⟩
   cases x with
   | normal=>exact absurd h (eW _ _)
   | exit i=>exact hq
   | ret=>exact hq
 ·rintro⟨x,aU,H',h,hq⟩
  rw[h]
  cases x with
  | normal=>exact hq
  | exit i=>exact⟨_,_,_,rfl,hq⟩
  | ret=>exact⟨_,_,_,rfl,hq⟩
theorem Z0 {a:aD}:W lo (.block id a) Q ρ H=W lo a (akR id Q) ρ H:=by
 unfold W
 rw[SS]
 apply propext
 constructor
 ·rintro⟨x,aU,H',h,hq⟩
  split at h
  ·rename_i O6 vI H1 h1
   refine⟨_,_,_,h1,?_⟩
   rw[FZ]
   split at h
   ·rename_i he;cases h;rw[if_pos he];exact hq
   ·rename_i he;cases h;rw[if_neg he];exact hq
  ·rename_i eW
   refine⟨x,aU,H',h,?_⟩
   cases x with
   | normal=>exact hq
   | exit i=>exact absurd h (eW _ _ _)
   | ret=>exact hq
 ·rintro⟨x,aU,H',h,hq⟩
  rw[h]
  cases x with
  | normal=>exact⟨_,_,_,rfl,hq⟩
  |
   exit i =>
   rw[FZ] at hq
   show ∃x vD Z7,(if i=id then some (Ex.normal,aU,H') else some (Ex.exit i,aU,H'))=some (x,vD,Z7)∧Q x vD Z7
   split at hq
   ·rename_i he;rw[if_pos he];exact⟨_,_,_,rfl,hq⟩
   ·rename_i he;rw[if_neg he];exact⟨_,_,_,rfl,hq⟩
  | ret=>exact⟨_,_,_,rfl,hq⟩
theorem agB {x:Operand} {a:aD}:W lo (.cond x a b) Q ρ H=∃t,ev ρ x = .bool t∧((t=true→W lo a Q ρ H)∧(t=false→W lo b Q ρ H)):=by
 unfold W
 rw[Wh]
 apply propext
 constructor
 ·rintro⟨y,aU,H',h,hq⟩
  split at h
  ·rename_i t ht
   cases t with
   | true=>exact⟨true,ht,fun _=>⟨y,aU,H',h,hq⟩,fun h=>by cases h⟩
   | false=>exact⟨false,ht,fun h=>(by cases h),fun _=>⟨y,aU,H',h,hq⟩⟩
  ·cases h
 ·rintro⟨t,ht,h1,h2⟩
  rw[ht]
  cases t with
  | true=>exact h1 rfl
  | false=>exact h2 rfl
theorem W.mono {Q':Ex→Env→aE→Prop} {c:aD} (h:W lo c Q ρ H) (hq:∀x ρ H,Q x ρ H→Q' x ρ H):W lo c Q' ρ H:=by
 obtain⟨x,aU,H',h1,h2⟩:=h
 exact⟨x,aU,H',h1,hq _ _ _ h2⟩
noncomputable def iL (lo:Nat) (q:Bool) (op:mB) (ρ:Env) (H:aE):Option (Value×aE) :=
 match pop lo op ρ H with
 | some (.val v H')=>some (v,H')
 | some (.call f args)=>pS f args (if q then H.length else lo) H
 | none=>none
theorem ahD:WS lo [] K ρ H=K ρ H:=by
 unfold WS
 apply propext
 constructor
 ·rintro⟨aU,H',h,hk⟩;cases h;exact hk
 ·intro h;exact⟨ρ,H,rfl,h⟩
theorem akS {i:PI} {is:List PI}:WS lo (i::is) K ρ H=∃v H',xM pS lo i ρ H=some (v,H')∧WS lo is K (put ρ i.dst v) H':=by
 unfold WS
 apply propext
 constructor
 ·rintro⟨aU,H',h,hk⟩
  rw[fU] at h
  split at h
  ·rename_i vI H1 h1
   obtain⟨v,hv,rfl⟩:=vS h1
   exact⟨v,H1,hv,aU,H',h,hk⟩
  ·cases h
 ·rintro⟨v,H1,hv,aU,H',h,hk⟩
  refine⟨aU,H',?_,hk⟩
  rw[fU]
  unfold wK
  rw[hv]
  exact h
variable {q:Bool}
theorem cW {op:mB} (h:sL op=true):iL lo q op ρ H=(gJ op ρ).map (·,H):=by
 unfold iL
 rw[xF h]
 cases gJ op ρ<;>rfl
theorem abK {x:Operand}:iL lo q (.mv x) ρ H=some (ev ρ x,H):=rfl
theorem U0 {c a b:Operand}:iL lo q (.pick c a b) ρ H=(match ev ρ c with | .bool t=>some ((if t=true then ev ρ a else ev ρ b),H) | _=>none):=by
 rw[cW rfl]
 simp only[gJ]
 cases ev ρ c<;>rfl
theorem XL {op:BinOp} {x y:Operand}:iL lo q (.bin op x y) ρ H=(cU op (ev ρ x) (ev ρ y)).map (·,H):=cW rfl
theorem abT {op:UnOp} {x:Operand}:iL lo q (.un op x) ρ H=(Yj op (ev ρ x)).map (·,H):=cW rfl
theorem VU {f:Nat} {args:List Operand}:iL lo q (.call f args) ρ H=pS f (args.map (ev ρ)) (if q then H.length else lo) H:=rfl
end
theorem Ya {f lo:Nat} {pf:aT} {args:List Value} {H:aE} {R:Value→aE→Prop} (ht:gE f=some pf) (ha:args.length≤pf.ntmps) (h:W lo pf.body (arG pf.res R) (Vr args) H):∃v H',pS f args lo H=some (v,H')∧R v H':=by
 obtain⟨x,aU,H',h1,h2⟩:=h
 show ∃v H',call cfg gE f args lo H=some (v,H')∧R v H'
 rw[abP cfg gE (RX ht) ht]
 unfold aeB
 rw[if_pos ha,h1]
 cases x with
 | exit i=>exact h2.elim
 |
  normal =>
  obtain⟨v,h3,h4⟩:=h2
  exact⟨v,H',by simp only;rw[h3];rfl,h4⟩
 |
  ret =>
  obtain⟨v,h3,h4⟩:=h2
  exact⟨v,H',by simp only;rw[h3];rfl,h4⟩
end Go.PM
namespace Go.PM
theorem wrap64 {x:Int} (h1 : -9223372036854775808≤x) (h2:x≤9223372036854775807):IntKind.i64.wrap x=x:=by
 rw[IntKind.wrap_i64]
 omega
section
variable {k:IntKind} {a b:Int}
theorem OP:cU .add (.int k a) (.int k b)=some (.int k (k.wrap (a+b))):=by simp[cU]
theorem Pt:cU .sub (.int k a) (.int k b)=some (.int k (k.wrap (a-b))):=by simp[cU]
theorem O5:cU .mul (.int k a) (.int k b)=some (.int k (k.wrap (a*b))):=by simp[cU]
theorem O0 (h:b≠0):cU .rem (.int k a) (.int k b)=some (.int k (a.tmod b)):=by simp[cU,h]
theorem Qv:cU .lss (.int k a) (.int k b)=some (.bool (decide (a<b))):=by simp[cU]
theorem PA:cU .leq (.int k a) (.int k b)=some (.bool (decide (a≤b))):=by simp[cU]
theorem OT:cU .gtr (.int k a) (.int k b)=some (.bool (decide (b<a))):=by simp[cU]
theorem OM:cU .geq (.int k a) (.int k b)=some (.bool (decide (b≤a))):=by simp[cU]
theorem P6:cU .eql (.int k a) (.int k b)=some (.bool (decide (a=b))):=by
 simp only[cU,if_true]
 rfl
theorem OV:cU .neq (.int k a) (.int k b)=some (.bool (!decide (a=b))):=by
 simp only[cU,if_true]
 rfl
theorem T8:Yj .neg (.int k a)=some (.int k (k.wrap (0-a))):=rfl
theorem Ua {t:Bool}:Yj .not (.bool t)=some (.bool (!t)):=rfl
end
def aeT:Value→Option Value
 | .slice _ n _=>some (.int .i64 n)
 | _=>none
def Lm (neg:Bool):Value→Value→Option Value
 | .bool a,.bool b=>some (.bool ((a == b) != neg))
 | _,_=>none
def XC (neg:Bool):Value→Option Value
 | .slice none _ _=>some (.bool (true != neg))
 | .slice (some _) _ _=>some (.bool (false != neg))
 | _=>none
def XJ (neg:Bool) (ks:List CK):Value→Value→Option Value
 | .agg a,.agg b=>(nU ks a.toList b.toList).map fun t => .bool (t != neg)
 | _,_=>none
def R7 (k:IntKind):Value→Option Value
 | .int _ n=>some (.int k (k.wrap n))
 | _=>none
def aeZ (i:Nat):Value→Option Value
 | .tuple vs=>vs[i]?
 | _=>none
def abZ (agg:Bool) (off size:Nat):Value→Option Value
 | .agg cs=>if agg then (if off+size≤cs.size then some (.agg (cs.extract off (off+size))) else none) else cs[off]?
 | _=>none
def akI:Value→Option Value
 | .pointer (some a)=>some (.pointer (some a))
 | _=>none
def YH (off:Nat):Value→Option Value
 | .pointer (some ⟨b,o,none⟩)=>some (.pointer (some ⟨b,o+off,none⟩))
 | _=>none
def Nv (size:Nat):Value→Value→Option Value
 | .slice (some ⟨b,o,none⟩) n _,.int _ i=>if 0≤i∧i<n then some (.pointer (some ⟨b,o+i.toNat*size,none⟩)) else none
 | _,_=>none
def QD:Value→Value→Option Value
 | .int k a,.int _ b=>some (.int k (if b<a then b else a))
 | _,_=>none
def PK:Value→Value→Option Value
 | .int k a,.int _ b=>some (.int k (if b>a then b else a))
 | _,_=>none
section
variable {lo:Nat} {ρ:Env} {H:aE} {q:Bool}
theorem oB {op:mB} {r:Option (Value×aE)} (h:pop lo op ρ H=r.map fun(v,H') => .val v H'):iL lo q op ρ H=r:=by
 unfold iL
 rw[h]
 cases r<;>rfl
theorem Xr {x:Operand}:iL lo q (.len x) ρ H=(aeT (ev ρ x)).map (·,H):=cW rfl
theorem Yg {neg:Bool} {x y:Operand}:iL lo q (.eqb neg x y) ρ H=(Lm neg (ev ρ x) (ev ρ y)).map (·,H):=cW rfl
theorem SG {neg:Bool} {x:Operand}:iL lo q (.isnil neg x) ρ H=(XC neg (ev ρ x)).map (·,H):=cW rfl
theorem R5 {neg:Bool} {ks:List CK} {x y:Operand}:iL lo q (.eqagg neg ks x y) ρ H=(XJ neg ks (ev ρ x) (ev ρ y)).map (·,H):=cW rfl
theorem X9 {k:IntKind} {x:Operand}:iL lo q (.cvt k x) ρ H=(R7 k (ev ρ x)).map (·,H):=cW rfl
theorem Xm {i:Nat} {x:Operand}:iL lo q (.ext x i) ρ H=(aeZ i (ev ρ x)).map (·,H):=cW rfl
theorem XD {agg:Bool} {off size:Nat} {x:Operand}:iL lo q (.fld agg off size x) ρ H=(abZ agg off size (ev ρ x)).map (·,H):=cW rfl
theorem SI {z:List Value} {places:List (Nat×Nat)} {parts:List (Nat×Operand)}:iL lo q (.build z places parts) ρ H=((uI places z (parts.map fun(i,x)=>(i,ev ρ x))).map fun cs=>Value.agg cs.toArray).map (·,H):=cW rfl
theorem Zh {x:Operand}:iL lo q (.chk x) ρ H=(akI (ev ρ x)).map (·,H):=cW rfl
theorem Sq {off:Nat} {x:Operand}:iL lo q (.faddr off x) ρ H=(YH off (ev ρ x)).map (·,H):=cW rfl
theorem SV {size:Nat} {x i:Operand}:iL lo q (.iaddr size x i) ρ H=(Nv size (ev ρ x) (ev ρ i)).map (·,H):=cW rfl
theorem Uw {f:Nat} {eY:List Operand}:iL lo q (.mkfn f eY) ρ H=some (.func (.func f) #[] (eY.map (ev ρ)).toArray,H):=cW rfl
theorem XB {x y:Operand}:iL lo q (.min x y) ρ H=(QD (ev ρ x) (ev ρ y)).map (·,H):=cW rfl
theorem YB {x y:Operand}:iL lo q (.max x y) ρ H=(PK (ev ρ x) (ev ρ y)).map (·,H):=cW rfl
theorem UF {agg:Bool} {size:Nat} {p:Operand}:iL lo q (.load agg size p) ρ H=(mT agg size (ev ρ p) H).map (·,H):=by
 unfold iL
 simp only[pop]
 cases mT agg size (ev ρ p) H<;>rfl
theorem WL {size:Nat} {x:Operand} {l h m:Option Operand}:iL lo q (.sub size x l h m) ρ H=BN size (ev ρ x) (l.map (ev ρ)) (h.map (ev ρ)) (m.map (ev ρ)) H:=by
 unfold iL
 simp only[pop]
 cases BN size (ev ρ x) (l.map (ev ρ)) (h.map (ev ρ)) (m.map (ev ρ)) H<;>rfl
theorem Zd {z:List Value}:iL lo q (.new z) ρ H=some (.pointer (some ⟨H.length,0,none⟩),H++[.row z z.length false]):=rfl
theorem Zg {x:Operand}:iL lo q (.box x) ρ H=if (aJ (ev ρ x)).all fP then some (.pointer (some ⟨H.length,0,none⟩),H++[.row (aJ (ev ρ x)) (aJ (ev ρ x)).length false]) else none:=by
 apply oB
 simp only[pop]
 by_cases h:(aJ (ev ρ x)).all fP=true
 ·rw[if_pos h,if_pos h];rfl
 ·rw[if_neg h,if_neg h];rfl
def Tx (z:List Value) (bytes:Nat) (l c:Value) (H:aE):Option (Value×aE) :=
 match l,c with
 | .int .i64 l,.int .i64 c=>if 0≤l∧l≤c∧c*bytes≤281474976710656∧c≤9223372036854775807 then
  some (.slice (some ⟨H.length,0,none⟩) l.toNat c.toNat,H++[.row (cE c.toNat z) z.length false]) else none
 | _,_=>none
theorem UO {z:List Value} {bytes:Nat} {l c:Operand}:iL lo q (.make z bytes l c) ρ H=Tx z bytes (ev ρ l) (ev ρ c) H:=by
 apply oB
 simp only[pop]
 unfold Tx
 split
 ·rename_i l c h1 h2
  simp only[h1,h2]
  split<;>rfl
 ·rename_i h1
  split
  ·rename_i h2 h3
   exact(h1 _ _ h2 h3).elim
  ·rfl
def abI (z:List Value) (n:Nat) (parts:List (Nat×Value)) (H:aE):Option (Value×aE) :=
 match uI ((List.range n).map fun i=>(i*z.length,z.length)) (cE n z) parts with
 | some cs=>if cs.all fP then some (.slice (some ⟨H.length,0,none⟩) n n,H++[.row cs z.length false]) else none
 | none=>none
theorem YT {z:List Value} {n:Nat} {parts:List (Nat×Operand)}:iL lo q (.lit z n parts) ρ H=abI z n (parts.map fun(i,x)=>(i,ev ρ x)) H:=by
 apply oB
 simp only[pop]
 unfold abI
 split
 ·rename_i cs h1
  simp only[h1]
  split<;>rfl
 ·rename_i h1
  simp only[h1]
  rfl
def Eo (lo size:Nat) (p v:Value) (H:aE):Option (Value×aE) :=
 match p with
 | .pointer (some ⟨b,o,none⟩)=>if (aJ v).length=size then (H.write lo b o (aJ v)).map fun H'=>(undef,H') else none
 | _=>none
theorem SO {size:Nat} {p v:Operand}:iL lo q (.store size p v) ρ H=Eo lo size (ev ρ p) (ev ρ v) H:=by
 apply oB
 simp only[pop]
 unfold Eo
 split
 ·rename_i b o h1
  simp only[h1]
  split
  ·cases H.write lo b o (aJ (ev ρ v))<;>rfl
  ·rfl
 ·rename_i h1
  split
  ·rename_i h2
   exact(h1 _ _ h2).elim
  ·rfl
def ahF (lo size bytes:Nat) (x y:Value) (H:aE):Option (Value×aE) :=
 match qT y with
 |
  some n=>match hC H size n y with
  | some new=>dO lo size bytes x n new H
  | none=>none
 | none=>none
theorem Y5 {size bytes:Nat} {x y:Operand}:iL lo q (.app size bytes x y) ρ H=ahF lo size bytes (ev ρ x) (ev ρ y) H:=by
 apply oB
 simp only[pop]
 unfold ahF
 cases qT (ev ρ y) with
 | none=>rfl
 |
  some n =>
  cases hs:hC H size n (ev ρ y) with
  | none=>simp only[hs];rfl
  | some new=>simp only[hs]
def Xp (lo:Nat) (z:List Value) (bytes:Nat) (x n:Value) (H:aE):Option (Value×aE) :=
 match n with
 | .int .i64 n=>if 0≤n∧n*bytes≤140737488355328 then dO lo z.length bytes x n.toNat (cE n.toNat z) H else none
 | _=>none
theorem Wb {z:List Value} {bytes:Nat} {x n:Operand}:iL lo q (.appz z bytes x n) ρ H=Xp lo z bytes (ev ρ x) (ev ρ n) H:=by
 apply oB
 simp only[pop]
 unfold Xp
 split
 ·rename_i n h1
  simp only[h1]
  split<;>rfl
 ·rename_i h1
  split
  ·rename_i h2
   exact(h1 _ h2).elim
  ·rfl
def copyV (lo size:Nat) (x y:Value) (H:aE):Option (Value×aE) :=
 match x,qT y with
 | .slice none _ _,some _=>some (.int .i64 0,H)
 |
  .slice (some ⟨b,o,none⟩) d _,some s=>match hC H size (Nat.min s d) y with
  | some new=>(H.write lo b o new).map fun H'=>(.int .i64 (Nat.min s d),H')
  | none=>none
 | _,_=>none
theorem VJ {size:Nat} {x y:Operand}:iL lo q (.copy size x y) ρ H=copyV lo size (ev ρ x) (ev ρ y) H:=by
 apply oB
 simp only[pop]
 unfold copyV
 split
 ·rename_i h1 h2
  simp only[h1,h2]
  rfl
 ·rename_i b o d _ s h1 h2
  simp only[h1,h2]
  cases hs:hC H size (Nat.min s d) (ev ρ y) with
  | none=>rfl
  |
   some new =>
   simp only
   cases H.write lo b o new<;>rfl
 ·rename_i h1 h2
  split
  ·rename_i h3 h4
   exact(h1 _ _ _ h3 h4).elim
  ·rename_i h3 h4
   exact(h2 _ _ _ _ _ h3 h4).elim
  ·rfl
def Nx (lo:Nat) (z:List Value) (x:Value) (H:aE):Option (Value×aE) :=
 match x with
 | .slice none _ _=>some (undef,H)
 | .slice (some ⟨b,o,none⟩) n _=>if n=0 then some (undef,H) else (H.write lo b o (cE n z)).map fun H'=>(undef,H')
 | _=>none
theorem Si {z:List Value} {x:Operand}:iL lo q (.clear z x) ρ H=Nx lo z (ev ρ x) H:=by
 apply oB
 simp only[pop]
 unfold Nx
 split
 ·rename_i h1
  simp only[h1]
  rfl
 ·rename_i b o n _ h1
  simp only[h1]
  split
  ·rfl
  ·cases H.write lo b o (cE n z)<;>rfl
 ·rename_i h1 h2
  split
  ·rename_i h3
   exact(h1 _ _ h3).elim
  ·rename_i h3
   exact(h2 _ _ _ _ h3).elim
  ·rfl
noncomputable def Xo (lo:Nat) (fv:Value) (args:List Value) (H:aE):Option (Value×aE) :=
 match fv with
 | .func (.func f) first eY=>pS f (first.toList++args++eY.toList) lo H
 | _=>none
theorem R4 {fv:Operand} {args:List Operand}:iL lo q (.callv fv args) ρ H=Xo (if q then H.length else lo) (ev ρ fv) (args.map (ev ρ)) H:=by
 unfold iL
 simp only[pop]
 unfold Xo
 generalize ev ρ fv=v
 cases v with
 | func fn f c=>cases fn<;>rfl
 | _=>rfl
end
end Go.PM
namespace Go.PM
section
variable {lo:Nat} {Q:Ex→Env→aE→Prop} {K:Env→aE→Prop} {ρ:Env} {H:aE} {q:Bool}
def akV (u v:Value):Bool:=match gX u,gX v with
 | some a,some b=>a != b
 | _,_=>true
end
theorem Ur {k:IntKind} {a b:Int}:PK (.int k a) (.int k b)=some (.int k (max a b)):=by
 simp only[PK]
 congr 2
 split<;>omega
theorem S4 {k:IntKind} {a b:Int}:QD (.int k a) (.int k b)=some (.int k (min a b)):=by
 simp only[QD]
 congr 2
 split<;>omega
end Go.PM
namespace Go.PM
abbrev ptr (b o:Nat):Value := .pointer (some ⟨b,o,none⟩)
abbrev I (n:Int):Value := .int .i64 n
section
variable {H H':aE} {lo b o n size:Nat} {cs r:List Value} {L K:aE} {v:Value}
theorem Nl (hb:b<H.length):(H++L)[b]? = H[b]? := List.getElem?_append_left hb
theorem Tq {x:Lb}:(H++x::L)[H.length]? = some x:=by simp
theorem Yd (hb:b<H.length):(H++L).read b o n=H.read b o n:=D4 (Nl hb)
theorem zU {e:Nat} {p:Bool} (h:H[b]? = some (.row r e p)) (hn:o+n≤r.length):H.read b o n=some ((r.drop o).take n):=by
 unfold aE.read
 rw[h]
 simp only[hn,if_true]
structure B7 (H:aE) (b o:Nat) (cs:List Value):Prop where
 lt:b<H.length
 rd:H.read b o cs.length=some cs
theorem B7.app (h:B7 H b o cs):B7 (H++L) b o cs:=⟨by have:=h.lt;simp;omega,by rw[Yd h.lt];exact h.rd⟩
theorem B7.pre (h:B7 H b o cs) (hp:H <+: H'):B7 H' b o cs:=by
 obtain⟨L,rfl⟩:=hp
 exact h.app
theorem B7.all (h:B7 H b o cs) (hs:cs.length=size):mT true size (.pointer (some ⟨b,o,none⟩)) H=some (.agg cs.toArray):=by
 subst hs
 simp only[mT,if_true,h.rd]
 rfl
theorem B7.one {u:Value} (h:B7 H b o [u]):mT false size (.pointer (some ⟨b,o,none⟩)) H=some u:=by
 have:=h.rd
 simp only[List.length_cons,List.length_nil] at this
 simp only[mT,this]
 rfl
theorem B7.sub {k:Nat} {u:Value} (h:B7 H b o cs) (hk:cs[k]? = some u):B7 H b (o+k) [u]:=by
 refine⟨h.lt,?_⟩
 have h1:=h.rd
 unfold aE.read at h1 ⊢
 split at h1
 ·rename_i r e p hb
  split at h1
  ·rename_i hl
   have hk':=(List.getElem?_eq_some_iff.1 hk).1
   simp only[List.length_cons,List.length_nil]
   rw[if_pos (by simp;omega)]
   injection h1 with h1
   rw[←h1] at hk
   rw[List.getElem?_take,if_pos (by omega),List.getElem?_drop] at hk
   have aV:=(List.getElem?_eq_some_iff.1 hk).1
   rw[List.drop_eq_getElem_cons aV]
   simp only[List.take_succ_cons,List.take_zero]
   rw[List.getElem?_eq_getElem aV] at hk
   injection hk with hk
   rw[hk]
  ·cases h1
 ·cases h1
theorem B7.fld {k:Nat} {u:Value} (h:B7 H b o cs) (hk:cs[k]? = some u):mT false size (.pointer (some ⟨b,o+k,none⟩)) H=some u:=(h.sub hk).one
theorem QI {a:Nat} {c:Nat} {i:Int} {k:IntKind} (h0:0≤i) (h1:i<n):Nv size (.slice (some ⟨b,a,none⟩) n c) (.int k i)=some (.pointer (some ⟨b,a+i.toNat*size,none⟩)):=by
 simp only[Nv]
 rw[if_pos ⟨h0,h1⟩]
structure Arr {α:Type} (enc:α→List Value) (cF:Nat) (H:aE) (a:Option Addr) (n:Nat) (xs:List α):Prop where
 len:n=xs.length
 el:∀(i:Nat) x,xs[i]? = some x→∃b o,a=some ⟨b,o,none⟩∧B7 H b (o+i*cF) (enc x)
theorem Arr.pre {α:Type} {enc:α→List Value} {cF:Nat} {a:Option Addr} {xs:List α} (h:Arr enc cF H a n xs) (hp:H <+: H'):Arr enc cF H' a n xs :=
 ⟨h.len,fun i x hx=>by obtain⟨b,o,h1,h2⟩:=h.el i x hx;exact⟨b,o,h1,h2.pre hp⟩⟩
end
structure iT where
 t:Int
 w:Int
 k:Int
 deriving DecidableEq
def cc (c:iT):List Value:=[I c.t,I c.w,I c.k]
def ci (n:Int):List Value:=[I n]
end Go.PM
namespace Go.PM
structure DN {α:Type} (enc:α→List Value) (cF:Nat):Prop where
 len:∀x,(enc x).length=cF
 sc:∀x,(enc x).all fP=true
 pos:1≤cF
theorem alN:DN ci 1:=⟨fun _=>rfl,fun _=>rfl,by decide⟩
section
variable {α:Type} {enc:α→List Value} {cF:Nat} {H H':aE} {lo b:Nat} {xs ys:List α} {p:Bool}
theorem Fz (e:DN enc cF):(xs.flatMap enc).length=xs.length*cF:=by
 induction xs with
 | nil=>simp
 | cons x xs ih=>simp only[List.flatMap_cons,List.length_append,e.len,ih,List.length_cons,Nat.succ_mul];omega
theorem CW (e:DN enc cF) (i:Nat):(xs.flatMap enc).drop (i*cF)=(xs.drop i).flatMap enc:=by
 induction i generalizing xs with
 | zero=>simp
 |
  succ i ih =>
  cases xs with
  | nil=>simp
  |
   cons x xs =>
   rw[List.flatMap_cons,List.drop_succ_cons,←ih,show (i+1)*cF=(enc x).length+i*cF by rw[e.len,Nat.succ_mul];omega,List.drop_append]
   simp
theorem G0 (e:DN enc cF) (i:Nat):(xs.flatMap enc).take (i*cF)=(xs.take i).flatMap enc:=by
 induction i generalizing xs with
 | zero=>simp
 |
  succ i ih =>
  cases xs with
  | nil=>simp
  |
   cons x xs =>
   rw[List.flatMap_cons,List.take_succ_cons,List.flatMap_cons,←ih,show (i+1)*cF=(enc x).length+i*cF by rw[e.len,Nat.succ_mul];omega,List.take_append]
   simp
   exact List.take_of_length_le (by omega)
theorem Qd (e:DN enc cF) {i:Nat} (x:α) (hi:i<xs.length):gU (xs.flatMap enc) (i*cF) (enc x)=(xs.set i x).flatMap enc:=by
 unfold gU
 rw[G0 e,e.len,show i*cF+cF=(i+1)*cF by rw[Nat.succ_mul],CW e,List.set_eq_take_append_cons_drop,if_pos hi]
 simp
def Row (enc:α→List Value) (cF:Nat) (H:aE) (b:Nat) (p:Bool) (xs:List α):Prop:=H[b]? = some (.row (xs.flatMap enc) cF p)
theorem Row.lt (h:Row enc cF H b p xs):b<H.length:=(List.getElem?_eq_some_iff.1 h).1
theorem Row.pre (h:Row enc cF H b p xs) (hp:H <+: H'):Row enc cF H' b p xs:=by
 obtain⟨L,rfl⟩:=hp
 unfold Row
 rw[Nl h.lt]
 exact h
theorem Row.elem (h:Row enc cF H b p xs) (e:DN enc cF) {i:Nat} {x:α} (hx:xs[i]? = some x):B7 H b (i*cF) (enc x):=by
 refine⟨h.lt,?_⟩
 have hi:=(List.getElem?_eq_some_iff.1 hx).1
 have hm:(i+1)*cF≤xs.length*cF:=Nat.mul_le_mul_right _ hi
 rw[Nat.succ_mul] at hm
 rw[zU h (by rw[e.len,Fz e];omega),CW e,e.len]
 have:=G0 (xs:=xs.drop i) e 1
 rw[Nat.one_mul] at this
 rw[this,List.drop_eq_getElem_cons hi]
 rw[List.getElem?_eq_getElem hi] at hx
 injection hx with hx
 simp[hx]
theorem Row.arr (h:Row enc cF H b p xs) (e:DN enc cF) {n:Nat} (hn:n≤xs.length):Arr enc cF H (some ⟨b,0,none⟩) n (xs.take n):=by
 refine⟨by simp;omega,fun i x hx=>⟨b,0,rfl,?_⟩⟩
 rw[Nat.zero_add]
 refine h.elem e ?_
 rw[List.getElem?_take] at hx
 split at hx
 ·exact hx
 ·cases hx
theorem Row.store (h:Row enc cF H b p xs) (e:DN enc cF) {i:Nat} {x:α} {u:Value} (hu:aJ u=enc x) (hi:i<xs.length) (hl:lo≤b):Eo lo cF (.pointer (some ⟨b,i*cF,none⟩)) u H=some (undef,H.set b (.row ((xs.set i x).flatMap enc) cF p)):=by
 simp only[Eo,aE.write,hu,e.len,if_true]
 have h':H[b]? = some (.row (xs.flatMap enc) cF p):=h
 have hm:(i+1)*cF≤xs.length*cF:=Nat.mul_le_mul_right _ hi
 rw[Nat.succ_mul] at hm
 simp only[h']
 rw[if_pos ⟨hl,by rw[Fz e];omega,e.sc x⟩,Qd e x hi]
 rfl
theorem Row.set (h:Row enc cF H b p xs) (ys:List α):Row enc cF (H.set b (.row (ys.flatMap enc) cF p)) b p ys:=by
 unfold Row
 rw[List.getElem?_set_self h.lt]
theorem QQ (e:DN enc cF) {n:Nat} {x:α}:cE n (enc x)=(List.replicate n x).flatMap enc:=by
 have iU:=e.pos
 have hlen:=e.len x
 apply List.ext_getElem?
 intro i
 unfold cE
 rw[List.getElem?_map,hlen]
 rcases Nat.lt_or_ge i (n*cF) with hi | hi
 ·rw[List.getElem?_range hi]
  have hq:i / cF<n:=Nat.div_lt_of_lt_mul (by rw[Nat.mul_comm];exact hi)
  have h1:((List.replicate n x).flatMap enc)[i]? = (((List.replicate n x).flatMap enc).drop (i / cF*cF))[i % cF]? := by
   rw[List.getElem?_drop]
   congr 1
   rw[Nat.mul_comm]
   exact(Nat.div_add_mod i cF).symm
  have hr:i % cF<(enc x).length:=by rw[hlen];exact Nat.mod_lt _ (by omega)
  rw[h1,CW e,List.drop_replicate,show n-i / cF=(n-i / cF-1)+1 by omega,List.replicate_succ,List.flatMap_cons,List.getElem?_append_left hr]
  simp[List.getD_eq_getElem?_getD,List.getElem?_eq_getElem hr]
 ·rw[List.getElem?_eq_none (by simpa using hi),List.getElem?_eq_none (by rw[Fz e];simpa using hi)]
  rfl
theorem Row.top {K:aE}:Row enc cF (H ++ .row (xs.flatMap enc) cF p::K) H.length p xs:=Tq
end
end Go.PM
namespace Go.PM
section
variable {H L:aE} {lo k o size:Nat} {agg:Bool} {u:Value}
end
end Go.PM
namespace Go.Proofs
open Go.Shelf
def KO:Go.Shelf.Ren:=⟨fun | 156=>186 | 165=>189 | 166=>190 | 169=>192 | 240=>230 | 241=>231 | 276=>249 | 277=>250 | n=>n,fun | 31=>22 | 9=>9 | 3=>3 | 4=>4 | 0=>0 | 20=>20 | 72=>230 | 76=>234 | 70=>228 | 37=>36 | 75=>233 | 127=>266 | 164=>281 | 5=>5 | 80=>129 | n=>n,fun | n=>n⟩
theorem Rz:Go.Proofs.Lays.n156 Tryz.prog KO:={
 mixed:=by kernel_rfl
 f156:=Tryz.func186.trans (congrArg some (by kernel_rfl))
 f165:=Tryz.func189.trans (congrArg some (by kernel_rfl))
 f166:=Tryz.func190.trans (congrArg some (by kernel_rfl))
 f169:=Tryz.func192.trans (congrArg some (by kernel_rfl))
 f240:=Tryz.func230.trans (congrArg some (by kernel_rfl))
 f241:=Tryz.func231.trans (congrArg some (by kernel_rfl))
 f276:=Tryz.func249.trans (congrArg some (by kernel_rfl))
 f277:=Tryz.func250.trans (congrArg some (by kernel_rfl))
 t0:=Tryz.underlying0
 a0:=Tryz.isAgg0
 z0:=Tryz.sizeOf0
 v0:=Tryz.zeroValue0
 t3:=Tryz.underlying3
 a3:=Tryz.isAgg3
 z3:=Tryz.sizeOf3
 v3:=Tryz.zeroValue3
 t4:=Tryz.underlying4
 a4:=Tryz.isAgg4
 z4:=Tryz.sizeOf4
 v4:=Tryz.zeroValue4
 t9:=Tryz.underlying9
 a9:=Tryz.isAgg9
 z9:=Tryz.sizeOf9
 v9:=Tryz.zeroValue9
 t20:=Tryz.underlying20
 a20:=Tryz.isAgg20
 z20:=Tryz.sizeOf20
 v20:=Tryz.zeroValue20
 t31:=Tryz.underlying22
 a31:=Tryz.isAgg22
 z31:=Tryz.sizeOf22
 v31:=Tryz.zeroValue22
 t37:=Tryz.underlying36
 a37:=Tryz.isAgg36
 z37:=Tryz.sizeOf36
 v37:=Tryz.zeroValue36
 t70:=Tryz.underlying228
 a70:=Tryz.isAgg228
 z70:=Tryz.sizeOf228
 v70:=Tryz.zeroValue228
 t72:=Tryz.underlying230
 a72:=Tryz.isAgg230
 z72:=Tryz.sizeOf230
 v72:=Tryz.zeroValue230
 t75:=Tryz.underlying233
 a75:=Tryz.isAgg233
 z75:=Tryz.sizeOf233
 v75:=Tryz.zeroValue233
 t76:=Tryz.underlying234
 a76:=Tryz.isAgg234
 z76:=Tryz.sizeOf234
 v76:=Tryz.zeroValue234
 t127:=Tryz.underlying266
 a127:=Tryz.isAgg266
 z127:=Tryz.sizeOf266
 v127:=Tryz.zeroValue266
 t164:=Tryz.underlying281
 a164:=Tryz.isAgg281
 z164:=Tryz.sizeOf281
 v164:=Tryz.zeroValue281 }
theorem Oc:Builder.Extra Tryz.prog KO:={
 sizeBuilder:=by kernel_rfl
 liesBuilder:=by kernel_rfl
 t5:=Tryz.underlying5
 a5:=Tryz.isAgg5
 z5:=Tryz.sizeOf5
 v5:=Tryz.zeroValue5
 infoByte:=by kernel_rfl
 cellsByte:=by kernel_rfl
 sizeByte:=by kernel_rfl
 neB5:=by decide }
def Rp:Go.Shelf.Ren:=⟨fun | 133=>219 | 128=>244 | n=>n,fun | 51=>218 | 3=>3 | 4=>4 | 46=>219 | 5=>5 | 9=>9 | n=>n,fun | n=>n⟩
theorem aeW:Go.Proofs.Lays.n133 Tryz.prog Rp:={
 mixed:=by kernel_rfl
 f128:=Tryz.func244.trans (congrArg some (by kernel_rfl))
 f133:=Tryz.func219.trans (congrArg some (by kernel_rfl))
 t3:=Tryz.underlying3
 a3:=Tryz.isAgg3
 z3:=Tryz.sizeOf3
 v3:=Tryz.zeroValue3
 t4:=Tryz.underlying4
 a4:=Tryz.isAgg4
 z4:=Tryz.sizeOf4
 v4:=Tryz.zeroValue4
 t5:=Tryz.underlying5
 a5:=Tryz.isAgg5
 z5:=Tryz.sizeOf5
 v5:=Tryz.zeroValue5
 t9:=Tryz.underlying9
 a9:=Tryz.isAgg9
 z9:=Tryz.sizeOf9
 v9:=Tryz.zeroValue9
 t46:=Tryz.underlying219
 a46:=Tryz.isAgg219
 z46:=Tryz.sizeOf219
 v46:=Tryz.zeroValue219
 t51:=Tryz.underlying218
 a51:=Tryz.isAgg218
 z51:=Tryz.sizeOf218
 v51:=Tryz.zeroValue218 }
def RZ:Go.Shelf.Ren:=⟨fun | 283=>245 | n=>n,fun | 3=>3 | 9=>9 | 4=>4 | n=>n,fun | n=>n⟩
theorem afY:Go.Proofs.Lays.n283 Tryz.prog RZ:={
 mixed:=by kernel_rfl
 f283:=Tryz.func245.trans (congrArg some (by kernel_rfl))
 t3:=Tryz.underlying3
 a3:=Tryz.isAgg3
 z3:=Tryz.sizeOf3
 v3:=Tryz.zeroValue3
 t4:=Tryz.underlying4
 a4:=Tryz.isAgg4
 z4:=Tryz.sizeOf4
 v4:=Tryz.zeroValue4
 t9:=Tryz.underlying9
 a9:=Tryz.isAgg9
 z9:=Tryz.sizeOf9
 v9:=Tryz.zeroValue9 }
def Sa:Go.Shelf.Ren:=⟨fun | 284=>246 | 129=>262 | 317=>261 | 318=>263 | n=>n,fun | 53=>128 | 3=>3 | 212=>291 | 0=>0 | 4=>4 | 46=>219 | 5=>5 | 9=>9 | n=>n,fun | 17=>1 | n=>n⟩
theorem afZ:Go.Proofs.LaysM.n284 Tryz.prog Sa:={
 mixed:=by kernel_rfl
 f129:=Tryz.func262.trans (congrArg some (by kernel_rfl))
 f284:=Tryz.func246.trans (congrArg some (by kernel_rfl))
 f317:=Tryz.func261.trans (congrArg some (by kernel_rfl))
 f318:=Tryz.func263.trans (congrArg some (by kernel_rfl))
 t0:=Tryz.underlying0
 a0:=Tryz.isAgg0
 z0:=Tryz.sizeOf0
 v0:=Tryz.zeroValue0
 t3:=Tryz.underlying3
 a3:=Tryz.isAgg3
 z3:=Tryz.sizeOf3
 v3:=Tryz.zeroValue3
 t4:=Tryz.underlying4
 a4:=Tryz.isAgg4
 z4:=Tryz.sizeOf4
 v4:=Tryz.zeroValue4
 t5:=Tryz.underlying5
 a5:=Tryz.isAgg5
 z5:=Tryz.sizeOf5
 v5:=Tryz.zeroValue5
 t9:=Tryz.underlying9
 a9:=Tryz.isAgg9
 z9:=Tryz.sizeOf9
 v9:=Tryz.zeroValue9
 t46:=Tryz.underlying219
 a46:=Tryz.isAgg219
 z46:=Tryz.sizeOf219
 v46:=Tryz.zeroValue219
 t53:=Tryz.underlying128
 a53:=Tryz.isAgg128
 z53:=Tryz.sizeOf128
 v53:=Tryz.zeroValue128
 t212:=Tryz.underlying291
 a212:=Tryz.isAgg291
 z212:=Tryz.sizeOf291
 v212:=Tryz.zeroValue291
 g17:=by kernel_rfl
 i0:=by kernel_rfl
 i3:=by kernel_rfl
 i4:=by kernel_rfl
 i5:=by kernel_rfl
 i9:=by kernel_rfl
 i46:=by kernel_rfl
 i53:=by kernel_rfl
 i212:=by kernel_rfl
 m17:=by kernel_rfl }
def SP:Go.Shelf.Ren:=⟨fun | 285=>247 | n=>n,fun | 37=>36 | 53=>128 | 3=>3 | 4=>4 | 51=>218 | 9=>9 | 5=>5 | 0=>0 | n=>n,fun | n=>n⟩
theorem aeQ:Go.Proofs.Lays.n285 Tryz.prog SP:={
 mixed:=by kernel_rfl
 f285:=Tryz.func247.trans (congrArg some (by kernel_rfl))
 t0:=Tryz.underlying0
 a0:=Tryz.isAgg0
 z0:=Tryz.sizeOf0
 v0:=Tryz.zeroValue0
 t3:=Tryz.underlying3
 a3:=Tryz.isAgg3
 z3:=Tryz.sizeOf3
 v3:=Tryz.zeroValue3
 t4:=Tryz.underlying4
 a4:=Tryz.isAgg4
 z4:=Tryz.sizeOf4
 v4:=Tryz.zeroValue4
 t5:=Tryz.underlying5
 a5:=Tryz.isAgg5
 z5:=Tryz.sizeOf5
 v5:=Tryz.zeroValue5
 t9:=Tryz.underlying9
 a9:=Tryz.isAgg9
 z9:=Tryz.sizeOf9
 v9:=Tryz.zeroValue9
 t37:=Tryz.underlying36
 a37:=Tryz.isAgg36
 z37:=Tryz.sizeOf36
 v37:=Tryz.zeroValue36
 t51:=Tryz.underlying218
 a51:=Tryz.isAgg218
 z51:=Tryz.sizeOf218
 v51:=Tryz.zeroValue218
 t53:=Tryz.underlying128
 a53:=Tryz.isAgg128
 z53:=Tryz.sizeOf128
 v53:=Tryz.zeroValue128 }
def Pq:Go.Shelf.Ren:=⟨fun | 14=>217 | 16=>242 | 17=>243 | 19=>255 | 20=>256 | 21=>257 | 22=>258 | 23=>259 | 24=>260 | 25=>268 | 27=>270 | 26=>269 | 28=>273 | 29=>274 | 30=>245 | 31=>246 | 32=>247 | 33=>248 | 35=>262 | 34=>261 | 36=>263 | 37=>264 | 38=>265 | 39=>271 | 40=>272 | n=>n,fun | 9=>9 | 3=>3 | 22=>128 | 24=>233 | 25=>252 | 4=>4 | 34=>285 | 5=>5 | 36=>219 | 37=>36 | 0=>0 | 39=>287 | 21=>21 | 44=>298 | 47=>266 | 50=>302 | 48=>300 | 2=>2 | 52=>276 | 55=>279 | 59=>291 | 60=>218 | 20=>20 | 61=>292 | 65=>303 | 66=>304 | 67=>129 | n=>n,fun | 0=>2 | 1=>3 | 2=>1 | 3=>4 | 4=>5 | n=>n⟩
theorem abO:Go.Proofs.LaysPu.n14 Tryz.prog Pq:={
 mixed:=by kernel_rfl
 f14:=Tryz.func217.trans (congrArg some (by kernel_rfl))
 f16:=Tryz.func242.trans (congrArg some (by kernel_rfl))
 f17:=Tryz.func243.trans (congrArg some (by kernel_rfl))
 f19:=Tryz.func255.trans (congrArg some (by kernel_rfl))
 f20:=Tryz.func256.trans (congrArg some (by kernel_rfl))
 f21:=Tryz.func257.trans (congrArg some (by kernel_rfl))
 f22:=Tryz.func258.trans (congrArg some (by kernel_rfl))
 f23:=Tryz.func259.trans (congrArg some (by kernel_rfl))
 f24:=Tryz.func260.trans (congrArg some (by kernel_rfl))
 f25:=Tryz.func268.trans (congrArg some (by kernel_rfl))
 f26:=Tryz.func269.trans (congrArg some (by kernel_rfl))
 f27:=Tryz.func270.trans (congrArg some (by kernel_rfl))
 f28:=Tryz.func273.trans (congrArg some (by kernel_rfl))
 f29:=Tryz.func274.trans (congrArg some (by kernel_rfl))
 f30:=Tryz.func245.trans (congrArg some (by kernel_rfl))
 f31:=Tryz.func246.trans (congrArg some (by kernel_rfl))
 f32:=Tryz.func247.trans (congrArg some (by kernel_rfl))
 f33:=Tryz.func248.trans (congrArg some (by kernel_rfl))
 f34:=Tryz.func261.trans (congrArg some (by kernel_rfl))
 f35:=Tryz.func262.trans (congrArg some (by kernel_rfl))
 f36:=Tryz.func263.trans (congrArg some (by kernel_rfl))
 f37:=Tryz.func264.trans (congrArg some (by kernel_rfl))
 f38:=Tryz.func265.trans (congrArg some (by kernel_rfl))
 f39:=Tryz.func271.trans (congrArg some (by kernel_rfl))
 f40:=Tryz.func272.trans (congrArg some (by kernel_rfl))
 t0:=Tryz.underlying0
 a0:=Tryz.isAgg0
 z0:=Tryz.sizeOf0
 v0:=Tryz.zeroValue0
 i0:=by kernel_rfl
 t2:=Tryz.underlying2
 a2:=Tryz.isAgg2
 z2:=Tryz.sizeOf2
 v2:=Tryz.zeroValue2
 i2:=by kernel_rfl
 t3:=Tryz.underlying3
 a3:=Tryz.isAgg3
 z3:=Tryz.sizeOf3
 v3:=Tryz.zeroValue3
 i3:=by kernel_rfl
 t4:=Tryz.underlying4
 a4:=Tryz.isAgg4
 z4:=Tryz.sizeOf4
 v4:=Tryz.zeroValue4
 i4:=by kernel_rfl
 t5:=Tryz.underlying5
 a5:=Tryz.isAgg5
 z5:=Tryz.sizeOf5
 v5:=Tryz.zeroValue5
 i5:=by kernel_rfl
 t9:=Tryz.underlying9
 a9:=Tryz.isAgg9
 z9:=Tryz.sizeOf9
 v9:=Tryz.zeroValue9
 i9:=by kernel_rfl
 t20:=Tryz.underlying20
 a20:=Tryz.isAgg20
 z20:=Tryz.sizeOf20
 v20:=Tryz.zeroValue20
 i20:=by kernel_rfl
 t21:=Tryz.underlying21
 a21:=Tryz.isAgg21
 z21:=Tryz.sizeOf21
 v21:=Tryz.zeroValue21
 i21:=by kernel_rfl
 t22:=Tryz.underlying128
 a22:=Tryz.isAgg128
 z22:=Tryz.sizeOf128
 v22:=Tryz.zeroValue128
 i22:=by kernel_rfl
 t24:=Tryz.underlying233
 a24:=Tryz.isAgg233
 z24:=Tryz.sizeOf233
 v24:=Tryz.zeroValue233
 i24:=by kernel_rfl
 t25:=Tryz.underlying252
 a25:=Tryz.isAgg252
 z25:=Tryz.sizeOf252
 v25:=Tryz.zeroValue252
 i25:=by kernel_rfl
 t34:=Tryz.underlying285
 a34:=Tryz.isAgg285
 z34:=Tryz.sizeOf285
 v34:=Tryz.zeroValue285
 i34:=by kernel_rfl
 c34:=by kernel_rfl
 t36:=Tryz.underlying219
 a36:=Tryz.isAgg219
 z36:=Tryz.sizeOf219
 v36:=Tryz.zeroValue219
 i36:=by kernel_rfl
 t37:=Tryz.underlying36
 a37:=Tryz.isAgg36
 z37:=Tryz.sizeOf36
 v37:=Tryz.zeroValue36
 i37:=by kernel_rfl
 t39:=Tryz.underlying287
 a39:=Tryz.isAgg287
 z39:=Tryz.sizeOf287
 v39:=Tryz.zeroValue287
 i39:=by kernel_rfl
 t44:=Tryz.underlying298
 a44:=Tryz.isAgg298
 z44:=Tryz.sizeOf298
 v44:=Tryz.zeroValue298
 i44:=by kernel_rfl
 t47:=Tryz.underlying266
 a47:=Tryz.isAgg266
 z47:=Tryz.sizeOf266
 v47:=Tryz.zeroValue266
 i47:=by kernel_rfl
 t48:=Tryz.underlying300
 a48:=Tryz.isAgg300
 z48:=Tryz.sizeOf300
 v48:=Tryz.zeroValue300
 i48:=by kernel_rfl
 t50:=Tryz.underlying302
 a50:=Tryz.isAgg302
 z50:=Tryz.sizeOf302
 v50:=Tryz.zeroValue302
 i50:=by kernel_rfl
 t52:=Tryz.underlying276
 a52:=Tryz.isAgg276
 z52:=Tryz.sizeOf276
 v52:=Tryz.zeroValue276
 i52:=by kernel_rfl
 t55:=Tryz.underlying279
 a55:=Tryz.isAgg279
 z55:=Tryz.sizeOf279
 v55:=Tryz.zeroValue279
 i55:=by kernel_rfl
 t59:=Tryz.underlying291
 a59:=Tryz.isAgg291
 z59:=Tryz.sizeOf291
 v59:=Tryz.zeroValue291
 i59:=by kernel_rfl
 t60:=Tryz.underlying218
 a60:=Tryz.isAgg218
 z60:=Tryz.sizeOf218
 v60:=Tryz.zeroValue218
 i60:=by kernel_rfl
 t61:=Tryz.underlying292
 a61:=Tryz.isAgg292
 z61:=Tryz.sizeOf292
 t65:=Tryz.underlying303
 a65:=Tryz.isAgg303
 z65:=Tryz.sizeOf303
 v65:=Tryz.zeroValue303
 i65:=by kernel_rfl
 t66:=Tryz.underlying304
 a66:=Tryz.isAgg304
 z66:=Tryz.sizeOf304
 v66:=Tryz.zeroValue304
 i66:=by kernel_rfl
 t67:=Tryz.underlying129
 a67:=Tryz.isAgg129
 z67:=Tryz.sizeOf129
 v67:=Tryz.zeroValue129
 i67:=by kernel_rfl
 g0:=by kernel_rfl
 m0:=by kernel_rfl
 g1:=by kernel_rfl
 m1:=by kernel_rfl
 g2:=by kernel_rfl
 m2:=by kernel_rfl
 g3:=by kernel_rfl
 m3:=by kernel_rfl
 g4:=by kernel_rfl
 m4:=by kernel_rfl }
def Rw:Go.Shelf.Ren:=⟨fun | 219=>241 | 217=>251 | 225=>252 | 224=>253 | 267=>254 | 266=>266 | 314=>267 | n=>n,fun | 9=>9 | 3=>3 | 4=>4 | 5=>5 | 46=>219 | 146=>262 | 51=>218 | n=>n,fun | 1=>0 | n=>n⟩
theorem afU:Go.Proofs.Lays.n219 Tryz.prog Rw:={
 mixed:=by kernel_rfl
 f217:=Tryz.func251.trans (congrArg some (by kernel_rfl))
 f219:=Tryz.func241.trans (congrArg some (by kernel_rfl))
 f224:=Tryz.func253.trans (congrArg some (by kernel_rfl))
 f225:=Tryz.func252.trans (congrArg some (by kernel_rfl))
 f266:=Tryz.func266.trans (congrArg some (by kernel_rfl))
 f267:=Tryz.func254.trans (congrArg some (by kernel_rfl))
 f314:=Tryz.func267.trans (congrArg some (by kernel_rfl))
 t3:=Tryz.underlying3
 a3:=Tryz.isAgg3
 z3:=Tryz.sizeOf3
 v3:=Tryz.zeroValue3
 t4:=Tryz.underlying4
 a4:=Tryz.isAgg4
 z4:=Tryz.sizeOf4
 v4:=Tryz.zeroValue4
 t5:=Tryz.underlying5
 a5:=Tryz.isAgg5
 z5:=Tryz.sizeOf5
 v5:=Tryz.zeroValue5
 t9:=Tryz.underlying9
 a9:=Tryz.isAgg9
 z9:=Tryz.sizeOf9
 v9:=Tryz.zeroValue9
 t46:=Tryz.underlying219
 a46:=Tryz.isAgg219
 z46:=Tryz.sizeOf219
 v46:=Tryz.zeroValue219
 t51:=Tryz.underlying218
 a51:=Tryz.isAgg218
 z51:=Tryz.sizeOf218
 v51:=Tryz.zeroValue218
 t146:=Tryz.underlying262
 a146:=Tryz.isAgg262
 z146:=Tryz.sizeOf262
 v146:=Tryz.zeroValue262
 g1:=by kernel_rfl }
def I0:Go.Shelf.Ren:=⟨fun | 105=>103 | 212=>187 | 99=>188 | 165=>189 | 166=>190 | 170=>191 | 169=>192 | 263=>227 | 264=>228 | 206=>229 | 240=>230 | 241=>231 | 276=>249 | 277=>250 | n=>n,fun | 9=>9 | 3=>3 | 4=>4 | 20=>20 | 0=>0 | 46=>219 | 109=>226 | 5=>5 | 72=>230 | 76=>234 | 51=>218 | 146=>262 | 53=>128 | 148=>264 | 70=>228 | 37=>36 | 75=>233 | 127=>266 | 164=>281 | 80=>129 | n=>n,fun | n=>n⟩
theorem afG:Go.Proofs.Lays.n105 Tryz.prog I0:={
 mixed:=by kernel_rfl
 f99:=Tryz.func188.trans (congrArg some (by kernel_rfl))
 f105:=Tryz.func103.trans (congrArg some (by kernel_rfl))
 f165:=Tryz.func189.trans (congrArg some (by kernel_rfl))
 f166:=Tryz.func190.trans (congrArg some (by kernel_rfl))
 f169:=Tryz.func192.trans (congrArg some (by kernel_rfl))
 f170:=Tryz.func191.trans (congrArg some (by kernel_rfl))
 f206:=Tryz.func229.trans (congrArg some (by kernel_rfl))
 f212:=Tryz.func187.trans (congrArg some (by kernel_rfl))
 f240:=Tryz.func230.trans (congrArg some (by kernel_rfl))
 f241:=Tryz.func231.trans (congrArg some (by kernel_rfl))
 f263:=Tryz.func227.trans (congrArg some (by kernel_rfl))
 f264:=Tryz.func228.trans (congrArg some (by kernel_rfl))
 f276:=Tryz.func249.trans (congrArg some (by kernel_rfl))
 f277:=Tryz.func250.trans (congrArg some (by kernel_rfl))
 t0:=Tryz.underlying0
 a0:=Tryz.isAgg0
 z0:=Tryz.sizeOf0
 v0:=Tryz.zeroValue0
 t3:=Tryz.underlying3
 a3:=Tryz.isAgg3
 z3:=Tryz.sizeOf3
 v3:=Tryz.zeroValue3
 t4:=Tryz.underlying4
 a4:=Tryz.isAgg4
 z4:=Tryz.sizeOf4
 v4:=Tryz.zeroValue4
 t5:=Tryz.underlying5
 a5:=Tryz.isAgg5
 z5:=Tryz.sizeOf5
 v5:=Tryz.zeroValue5
 t9:=Tryz.underlying9
 a9:=Tryz.isAgg9
 z9:=Tryz.sizeOf9
 v9:=Tryz.zeroValue9
 t20:=Tryz.underlying20
 a20:=Tryz.isAgg20
 z20:=Tryz.sizeOf20
 v20:=Tryz.zeroValue20
 t37:=Tryz.underlying36
 a37:=Tryz.isAgg36
 z37:=Tryz.sizeOf36
 v37:=Tryz.zeroValue36
 t46:=Tryz.underlying219
 a46:=Tryz.isAgg219
 z46:=Tryz.sizeOf219
 v46:=Tryz.zeroValue219
 t51:=Tryz.underlying218
 a51:=Tryz.isAgg218
 z51:=Tryz.sizeOf218
 v51:=Tryz.zeroValue218
 t53:=Tryz.underlying128
 a53:=Tryz.isAgg128
 z53:=Tryz.sizeOf128
 v53:=Tryz.zeroValue128
 t70:=Tryz.underlying228
 a70:=Tryz.isAgg228
 z70:=Tryz.sizeOf228
 v70:=Tryz.zeroValue228
 t72:=Tryz.underlying230
 a72:=Tryz.isAgg230
 z72:=Tryz.sizeOf230
 v72:=Tryz.zeroValue230
 t75:=Tryz.underlying233
 a75:=Tryz.isAgg233
 z75:=Tryz.sizeOf233
 v75:=Tryz.zeroValue233
 t76:=Tryz.underlying234
 a76:=Tryz.isAgg234
 z76:=Tryz.sizeOf234
 v76:=Tryz.zeroValue234
 t109:=Tryz.underlying226
 a109:=Tryz.isAgg226
 z109:=Tryz.sizeOf226
 v109:=Tryz.zeroValue226
 t127:=Tryz.underlying266
 a127:=Tryz.isAgg266
 z127:=Tryz.sizeOf266
 v127:=Tryz.zeroValue266
 t146:=Tryz.underlying262
 a146:=Tryz.isAgg262
 z146:=Tryz.sizeOf262
 v146:=Tryz.zeroValue262
 t148:=Tryz.underlying264
 a148:=Tryz.isAgg264
 z148:=Tryz.sizeOf264
 v148:=Tryz.zeroValue264
 t164:=Tryz.underlying281
 a164:=Tryz.isAgg281
 z164:=Tryz.sizeOf281
 v164:=Tryz.zeroValue281 }
theorem ZT:Builder.Extra Tryz.prog I0:={
 sizeBuilder:=by kernel_rfl
 liesBuilder:=by kernel_rfl
 t5:=Tryz.underlying5
 a5:=Tryz.isAgg5
 z5:=Tryz.sizeOf5
 v5:=Tryz.zeroValue5
 infoByte:=by kernel_rfl
 cellsByte:=by kernel_rfl
 sizeByte:=by kernel_rfl
 neB5:=by decide }
end Go.Proofs
namespace Go.Proofs
open Go.Shelf Go.RowKit Go.Sort Go.Lib
abbrev Q8:UInt8→Value:=fun b=>Value.int .u8 (b.toNat:Int)
theorem VO (w:World) (T:TypeId) (nd:Nat) (hs:nd≤24):Holds Q8 (w.alloc (.cells Lib.zeros24 T)) w.heap.size 0 (Array.replicate nd (0:UInt8)):=fun j hj=>by
 have hj':j<nd:=by simpa using hj
 refine⟨?_,World.frozen?_alloc_new _ _ _ _⟩
 rw[World.cell?_alloc_new,Lib.zeros24_at _ (by omega),getElem!_pos _ j hj]
 simp
theorem Az (w:World) (o:Obj) (dk:Array UInt8) (k:Nat):Below w.heap.size w ((putRow Q8 (w.alloc o) w.heap.size 0 dk).drewN k):=by
 rw[alloc_eq_grow]
 obtain⟨os',_,e⟩:=putRow_grow_new Q8 w #[o] w.heap.size 0 dk (Nat.le_refl _)
 rw[e]
 refine⟨rfl,rfl,rfl,by show w.heap.size≤(w.heap++os').size;simp,fun i hi => ?_⟩
 show (w.heap++os')[i]? = _
 rw[Array.getElem?_append_left hi]
set_option maxHeartbeats 6400000 in
set_option maxRecDepth 100000 in
theorem aeM (u:Nat) (Zq:u<18446744073709551616) (w:World) (ahO:Lib.TabIs Tryz.prog w "internal/strconv.uint64pow10" .u64 Lib.pow10Tab) :
  Calls Tryz.prog 226 #[.int .u64 u,.int .i64 10] w fun e w'=>e = .returned (.string ⟨(Lib.decDigits u).toArray⟩)∧Below w.heap.size w w':=by
 by_cases hs:u<100
 ·go_enter Tryz.func226,Tryz.ntmps226
  go_wp2_with (go_at_call 245;refine(Any.internal_strconv_small afY u hs _).mono ?_;rintro e w' ⟨rfl,rfl⟩)
  go_ret
  exact⟨rfl,Below.refl _ _⟩
 ·have ZB:1≤u:=by omega
  have auN:Lib.nDigits u≤20:=by have:=Lib.numDigits_eq u ZB Zq;split at this<;>omega
  have hH0:=VO w 276 (Lib.nDigits u) (by omega)
  have ajG:=Any.internal_strconv_formatBase10 aeQ w.heap.size 0 24 u (Array.replicate (Lib.nDigits u) 0) (w.alloc (.cells Lib.zeros24 276)) hH0 (by rw[Array.size_replicate];exact Lib.lt_pow_nDigits u) Zq (by rw[Array.size_replicate];omega)
  rw[Array.size_replicate] at ajG
  have HH0:=Lib.hid hH0
  have hal:Tryz.prog.arrayLen 276=24:=by simp[Program.arrayLen,Tryz.underlying276]
  have N2:∀W,(Instr.sliceAt 276 (.pointer (some ⟨w.heap.size,0,none⟩)) none (some (.int .i64 (Lib.nDigits u:Int))) none).run Tryz.prog W = .ok (.slice (some ⟨w.heap.size,0,none⟩) (Lib.nDigits u) 24) W:=fun W=>by
   rw[run_sliceAt_array_h W 276 ⟨w.heap.size,0,none⟩ (by simp[Program.arrayLen,Program.elem,Tryz.underlying276]) .i64 (Lib.nDigits u:Int) (by omega) (by rw[hal];omega)]
   go_simp
  clear hH0 hal
  go_enter Tryz.func226,Tryz.ntmps226
  go_wp2_with (first
   | (go_at_call 246;refine(Any.internal_strconv_numDigits afZ u ZB Zq _ (Lib.tabIs_alloc ahO _)).mono ?_;rintro e w' ⟨rfl,rfl⟩))
  go_at_call 247
  refine ajG.mono ?_
  rintro e w' ⟨rfl,k,v',dk,rfl,hF⟩
  have hcv:(convert 36 9 (.slice (some ⟨w.heap.size,0,none⟩) (Lib.nDigits u) 24)).run Tryz.prog ((putRow Q8 (w.alloc (.cells Lib.zeros24 276)) w.heap.size 0 dk).drewN k) = .ok (.string ⟨(Lib.decDigits u).toArray⟩) ((putRow Q8 (w.alloc (.cells Lib.zeros24 276)) w.heap.size 0 dk).drewN k):=by
   have h:=run_convert_bytes_back (P:=Tryz.prog) ((putRow Q8 (w.alloc (.cells Lib.zeros24 276)) w.heap.size 0 dk).drewN k) 36 9 5 ⟨w.heap.size,0,none⟩ 24 (Lib.decDigits u) Tryz.underlying36 Tryz.underlying5 Tryz.underlying9 (fun j hj=>by
    rw[Lib.row_is_numeral hF j hj,Lib.add_plain,World.cell?_drewN]
    exact cell?_putRow Q8 _ w.heap.size 0 _ dk HH0.out (by rw[hF.size,Array.size_replicate]) j (by rw[hF.size];rw[Lib.decDigits_length] at hj;exact hj))
   rw[Lib.decDigits_length] at h
   exact h
  go_wp2
  go_ret
  exact⟨rfl,Az w _ dk k⟩
theorem XS (u:Nat) (Zq:u<18446744073709551616) (w:World) (ahO:Lib.TabIs Tryz.prog w "internal/strconv.uint64pow10" .u64 Lib.pow10Tab) :
  Calls Tryz.prog 184 #[.int .u64 u,.int .i64 10] w fun e w'=>e = .returned (.string ⟨(Lib.decDigits u).toArray⟩)∧Below w.heap.size w w':=by
 go_enter Tryz.func184,Tryz.ntmps184
 go_wp2_with (go_at_call 226;refine(aeM u Zq _ ahO).mono ?_;rintro e w' ⟨rfl,hb⟩)
 go_ret
 exact⟨rfl,hb⟩
end Go.Proofs
namespace Go.PM
open Go.Proofs Go.RowKit
theorem Below.zN {w w':World} (h:Below w.heap.size w w'):w.heap.size≤w'.heap.size∧(∀rb,rb<w.heap.size→w'.heap[rb]? = w.heap[rb]?)∧w'.os=w.os∧w'.output=w.output∧w'.tape=w.tape :=
 ⟨h.size,h.block,h.os,h.output,h.tape⟩
theorem zV {w:World}:w.heap.size≤w.heap.size∧(∀rb,rb<w.heap.size→w.heap[rb]? = w.heap[rb]?)∧w.os=w.os∧w.output=w.output∧w.tape=w.tape :=
 ⟨Nat.le_refl _,fun _ _=>rfl,rfl,rfl,rfl⟩
def CY (f:Nat) (p:List Value→aE→Option Value):Prop :=
 Jo Tryz.prog f∧∀L0 args H v,p args H=some v→∀m w fR,Rel m L0 H w→RL m args fR →
  Calls Tryz.prog f fR.toArray w fun e w'=>∃rv,e = .returned rv∧RV m v rv∧w.heap.size≤w'.heap.size∧(∀rb,rb<w.heap.size→w'.heap[rb]? = w.heap[rb]?)∧w'.os=w.os∧w'.output=w.output∧w'.tape=w.tape
theorem RL.one {m:cD} {x:Value} {ys:List Value} (h:RL m [x] ys):∃y,ys=[y]∧RV m x y:=by
 match ys,h with
 | [y],h=>exact⟨y,rfl,h.iR.1⟩
 | [],h=>exact absurd h.1 (by simp)
 | _::_::_,h=>exact absurd h.1 (by simp)
theorem RL.two {m:cD} {x x':Value} {ys:List Value} (h:RL m [x,x'] ys):∃y y',ys=[y,y']∧RV m x y∧RV m x' y':=by
 match ys,h with
 | [y,y'],h=>exact⟨y,y',rfl,h.iR.1,h.iR.2.iR.1⟩
 | [],h=>exact absurd h.1 (by simp)
 | [_],h=>exact absurd h.1 (by simp)
 | _::_::_::_,h=>exact absurd h.1 (by simp)
theorem RL.three {m:cD} {x x' x'':Value} {ys:List Value} (h:RL m [x,x',x''] ys):∃y y' y'',ys=[y,y',y'']∧RV m x y∧RV m x' y'∧RV m x'' y'':=by
 match ys,h with
 | [y,y',y''],h=>exact⟨y,y',y'',rfl,h.iR.1,h.iR.2.iR.1,h.iR.2.iR.2.iR.1⟩
 | [],h=>exact absurd h.1 (by simp)
 | [_],h=>exact absurd h.1 (by simp)
 | [_,_],h=>exact absurd h.1 (by simp)
 | _::_::_::_::_,h=>exact absurd h.1 (by simp)
theorem Dw {m:cD}:∀ {cs rs:List Value} {xs:List ByteArray},strCells cs=some xs→RL m cs rs→rs=xs.map .string
 |
  [],rs,xs,h,hr=>by
  cases h
  match rs,hr with
  | [],_=>rfl
  | _::_,hr=>exact absurd hr.1 (by simp)
 |
  c::cs,rs,xs,h,hr=>by
  match rs,hr with
  | [],hr=>exact absurd hr.1 (by simp)
  |
   r::rs,hr =>
   obtain⟨h1,h2⟩:=hr.iR
   cases c with
   |
    string s =>
    rw[strCells] at h
    cases hc:strCells cs with
    | none=>rw[hc] at h;cases h
    |
     some ys =>
     rw[hc] at h
     cases h
     cases h1
     rw[Dw hc h2]
     rfl
   | _=>cases h
theorem Hm:CY 219 Cj:=by
 refine⟨⟨_,Tryz.func219,by kernel_rfl,by kernel_rfl⟩,fun L0 args H v hp m w fR hR hr => ?_⟩
 unfold Cj at hp
 split at hp
 case h_2=>cases hp
 rename_i x
 split at hp
 case isFalse=>cases hp
 rename_i hx
 cases hp
 obtain⟨y,rfl,h1⟩:=hr.one
 cases h1
 refine(Any.bits_LeadingZeros32 aeW x w hx.1 hx.2).mono ?_
 rintro e w' ⟨rfl,rfl⟩
 exact⟨_,rfl,.int _ _,zV⟩
theorem Kg:CY 103 EK:=by
 refine⟨⟨_,Tryz.func103,by kernel_rfl,by kernel_rfl⟩,fun L0 args H v hp m w fR hR hr => ?_⟩
 unfold EK at hp
 split at hp
 case h_2=>cases hp
 rename_i s c
 split at hp
 case isFalse=>cases hp
 rename_i hx
 cases hp
 obtain⟨y,y',rfl,h1,h2⟩:=hr.two
 cases h1
 cases h2
 obtain⟨k,rfl⟩:∃k:Nat,c=k:=⟨c.toNat,by omega⟩
 refine(Any.strings_Repeat afG ZT s k w (by omega) hx.2.2).mono ?_
 rintro e w' ⟨rfl,hb⟩
 exact⟨_,rfl,.str _,Below.zN hb⟩
theorem Pk:CY 186 Pc:=by
 refine⟨⟨_,Tryz.func186,by kernel_rfl,by kernel_rfl⟩,fun L0 args H v hp m w fR hR hr => ?_⟩
 unfold Pc at hp
 split at hp
 case h_3=>cases hp
 ·cases hp
  obtain⟨y,y',rfl,h1,h2⟩:=hr.two
  cases h1
  cases h2
  refine(Any.strings_Join_none Rz Oc none 0 _ w).mono ?_
  rintro e w' ⟨rfl,rfl⟩
  exact⟨_,rfl,.str _,zV⟩
 ·rename_i b o n c sep
  obtain⟨y,y',rfl,h1,h2⟩:=hr.two
  cases h2
  cases h1 with
  |
   slice _ _ _ _ l ra rc h hn hc hx ha =>
   split at hp
   ·rename_i Wy
    subst Wy
    cases hp
    refine(Any.strings_Join_none Rz Oc (some ra) rc _ w).mono ?_
    rintro e w' ⟨rfl,rfl⟩
    exact⟨_,rfl,.str _,zV⟩
   ·rename_i Wy
    split at hp
    case h_2=>cases hp
    rename_i xs Ov
    split at hp
    case isFalse=>cases hp
    rename_i P0
    cases hp
    obtain⟨cs,Ty,IN⟩:=Option.bind_eq_some_iff.1 Ov
    obtain⟨rs,r1,r2,_,r4⟩:=wD hR h Ty
    have hrs:=Dw IN r1
    subst hrs
    rcases ha with ha | ⟨rfl,ha⟩
    ·omega
    obtain⟨arr,e0,fz0,v1,_⟩:=hR.valid b l h
    have A3:l.rb<w.heap.size:=(Array.getElem?_eq_some_iff.1 v1).1
    obtain⟨c1,c2,c3,c4⟩:=P0
    subst c1
    refine(Any.strings_Join Rz Oc l.rb (l.base+o) rc xs sep w (fun j x hj => ?_) A3 c3 (by omega) c4).mono ?_
    ·have:=r4 j (.string x) (by simp[hj])
     rw[Addr.add_lit] at this
     exact this
    ·rintro e w' ⟨rfl,hb⟩
     exact⟨_,rfl,.str _,Below.zN hb⟩
theorem Q7 {m:cD} {L0:Nat} {H:aE} {w:World} (hR:Rel m L0 H w):Lib.TabIs Tryz.prog w "internal/strconv.uint64pow10" .u64 Lib.pow10Tab:=by
 obtain⟨e,fz,h⟩:=(hR.Cy (1,(Lib.pow10Tab.map fun z=>Value.int .u64 z).toArray) (by simp[aaL])).1
 have hg:Tryz.prog.globalNamed "internal/strconv.uint64pow10"=some 1:=by kernel_rfl
 unfold Lib.TabIs World.var?
 rw[hg]
 simp only[Option.bind_some,h]
theorem OK:CY 184 tR:=by
 refine⟨⟨_,Tryz.func184,by kernel_rfl,by kernel_rfl⟩,fun L0 args H v hp m w fR hR hr => ?_⟩
 unfold tR at hp
 split at hp
 case h_2=>cases hp
 rename_i n b
 split at hp
 case isFalse=>cases hp
 rename_i hx
 cases hp
 obtain⟨y,y',rfl,h1,h2⟩:=hr.two
 cases h1
 cases h2
 obtain⟨rfl,h0,h1⟩:=hx
 obtain⟨u,rfl⟩:∃u:Nat,n=u:=⟨n.toNat,by omega⟩
 refine(XS u (by omega) w (Q7 hR)).mono ?_
 rintro e w' ⟨rfl,hb⟩
 exact⟨_,rfl,.str _,Below.zN hb⟩
theorem Mr:CY 241 N7:=by
 refine⟨⟨_,Tryz.func241,by kernel_rfl,by kernel_rfl⟩,fun L0 args H v hp m w fR hR hr => ?_⟩
 unfold N7 at hp
 split at hp
 case h_2=>cases hp
 rename_i s p
 split at hp
 case h_2=>cases hp
 rename_i c hc
 cases hp
 obtain⟨y,y',rfl,h1,h2⟩:=hr.two
 cases h1
 cases h2
 have hp:p=⟨#[c]⟩:=by
  obtain⟨a⟩:=p
  obtain⟨l⟩:=a
  have:l=[c]:=hc
  rw[this]
 subst hp
 refine(Any.stringslite_Index_one afU s c w).mono ?_
 rintro e w' ⟨rfl,rfl⟩
 exact⟨_,rfl,.int _ _,zV⟩
theorem Lq:CY 217 xE:=by
 refine⟨⟨_,Tryz.func217,by kernel_rfl,by kernel_rfl⟩,fun L0 args H v hp m w fR hR hr => ?_⟩
 unfold xE at hp
 split at hp
 case h_2=>cases hp
 rename_i s b z
 split at hp
 case isFalse=>cases hp
 rename_i hx
 obtain⟨rfl,rfl,hs⟩:=hx
 split at hp
 case h_2=>cases hp
 rename_i u hu
 cases hp
 obtain⟨y,y',y'',rfl,h1,h2,h3⟩:=hr.three
 cases h1
 cases h2
 cases h3
 refine(Any.strconv_ParseUint_10_at64_ok abO s hs u hu w).mono ?_
 have hv:∀m,RV m (.tuple #[.int .u64 (u:Int),.nilIface]) (.tuple #[.int .u64 (u:Int),.nilIface]):=fun m => .tuple _ _ rfl fun i hi=>by
  match i,hi with
  | 0,_=>exact .int _ _
  | 1,_=>exact .nilIface
  | n+2,hi=>exact absurd hi (by simp)
 rintro e w' ⟨rfl,rfl | rfl⟩
 ·exact⟨_,rfl,hv m,zV⟩
 ·exact⟨_,rfl,hv m,Below.zN (Lib.bytesWorld_below _ _ _)⟩
theorem afR {L0:Nat}:Ys Tryz.prog cfg L0:=by
 intro f p hp
 have Cw:Hc f=some p:=hp
 unfold Hc at Cw
 split at Cw
 ·rename_i h;subst h;cases Cw;exact⟨OK.1,OK.2 L0⟩
 split at Cw
 ·rename_i h;subst h;cases Cw;exact⟨Kg.1,Kg.2 L0⟩
 split at Cw
 ·rename_i h;subst h;cases Cw;exact⟨Pk.1,Pk.2 L0⟩
 split at Cw
 ·rename_i h;subst h;cases Cw;exact⟨Hm.1,Hm.2 L0⟩
 split at Cw
 ·rename_i h;subst h;cases Cw;exact⟨Mr.1,Mr.2 L0⟩
 split at Cw
 ·rename_i h;subst h;cases Cw;exact⟨Lq.1,Lq.2 L0⟩
 cases Cw
end Go.PM
namespace Go.PM
open Go.ChangeShapes Go.WideShapes Go.ChangeAt Go.RowKit
open Go.Proofs
structure In (m:cD) (H:aE) (W:World):Prop where
 WB:∀b l,m b=some l→b<H.length
 valid:∀b l,m b=some l→∃arr e fz,W.heap[l.rb]? = some (.cells arr e fz)∧arr.size=l.Na
 row:∀b l cs e p,m b=some l→H[b]? = some (.row cs e p)→l.cF=e∧l.OR=p∧l.base+cs.length≤l.Na ∧
  ∀i,i<cs.length→∃rv,W.cell? ⟨l.rb,l.base+i,none⟩=some rv∧RV m (cs.getD i Go.undef) rv∧PM.fP (cs.getD i Go.undef)=true
section
variable {m:cD} {H:aE} {W:World}
theorem In.empty:In (fun _=>none) [] W:=⟨fun _ _ h=>(by cases h),fun _ _ h=>(by cases h),fun _ _ _ _ _ h=>(by cases h)⟩
theorem In.rel (h:In m H W) (hg:Nh W):Rel m H.length H W :=
 ⟨fun b l hb=>by
  obtain⟨arr,e,fz,h1,h2⟩:=h.valid b l hb
  exact⟨arr,e,fz,h1,h2,fun hl=>by have:=h.WB b l hb;omega⟩,h.row,fun b1 b2 l1 l2 hl h1 _ _ _ _=>by have:=h.WB b1 l1 h1;omega,fun x hx=>⟨hg x hx,fun b l hb hm _=>by have:=h.WB b l hm;omega⟩⟩
theorem In.MX (h:In m H W) {b:Nat} (hb:H.length≤b):m b=none:=by
 cases hm:m b with
 | none=>rfl
 | some l=>have:=h.WB b l hm;omega
theorem In.add (h:In m H W) {rb base cF:Nat} {arr:Array Value} {e:TypeId} {fz:Nat×Nat} {cs:List Value} (hb:W.heap[rb]? = some (.cells arr e fz)) (nC:base+cs.length≤arr.size)
  (hc:∀i,i<cs.length→∃rv,W.cell? ⟨rb,base+i,none⟩=some rv∧RV (sI m H.length ⟨rb,base,cF,arr.size,false⟩) (cs.getD i Go.undef) rv∧PM.fP (cs.getD i Go.undef)=true) :
  In (sI m H.length ⟨rb,base,cF,arr.size,false⟩) (H++[.row cs cF false]) W:=by
 have hn:=h.MX (Nat.le_refl H.length)
 refine⟨fun b l tG => ?_,fun b l tG => ?_,fun b l ds e' p tG qK => ?_⟩
 ·by_cases he:b=H.length
  ·subst he;simp
  ·rw[cA he] at tG
   have:=h.WB b l tG
   simp;omega
 ·by_cases he:b=H.length
  ·subst he
   rw[bI] at tG
   cases tG
   exact⟨arr,e,fz,hb,rfl⟩
  ·rw[cA he] at tG
   exact h.valid b l tG
 ·by_cases he:b=H.length
  ·subst he
   rw[bI] at tG
   cases tG
   rw[Tq] at qK
   cases qK
   exact⟨rfl,rfl,nC,hc⟩
  ·rw[cA he] at tG
   have aV:=h.WB b l tG
   rw[Nl aV] at qK
   obtain⟨h1,h2,h3,h4⟩:=h.row b l ds e' p tG qK
   refine⟨h1,h2,h3,fun i hi => ?_⟩
   obtain⟨rv,g1,g2,g3⟩:=h4 i hi
   exact⟨rv,g1,g2.mono (qC hn),g3⟩
end
theorem Nj {α:Type} (p:Nat→α→Prop):∀c,(∀i,i<c→∃x,p i x)→∃xs:List α,xs.length=c∧∀i x,xs[i]? = some x→p i x
 | 0,_=>⟨[],rfl,fun i x hx=>by simp at hx⟩
 |
  c+1,h=>by
  obtain⟨xs,h1,h2⟩:=Nj p c fun i hi=>h i (by omega)
  obtain⟨x,h3⟩:=h c (by omega)
  refine⟨xs++[x],by simp[h1],fun i y hy => ?_⟩
  rcases Nat.lt_or_ge i xs.length with hi | hi
  ·rw[List.getElem?_append_left hi] at hy
   exact h2 i y hy
  ·rw[List.getElem?_append_right hi] at hy
   have hi0:i-xs.length=0:=by
    rcases Nat.eq_zero_or_pos (i-xs.length) with h | h
    ·exact h
    ·rw[List.getElem?_eq_none (by simp;omega)] at hy;cases hy
   rw[hi0] at hy
   cases hy
   have:i=c:=by omega
   subst this
   exact h3
theorem SB {T:Type} {qL:TypeId×Value→T} {α:Type} {enc:α→List Value} {KP:α→Prop} {P:Program} {W:World} {t e:TypeId} {cF base:Nat} (ht:P.underlying t=some (.slice e)) (aeE:P.cellsOf e=cF) (Ye:DN enc cF)
  (hel:∀fuel cs y,DataW.trod qL P W 0 (fun _=>true) true fuel e cs=some y→∃x:α,cs=enc x∧KP x) (akT:∀(m:cD) x,KP x→∀i,i<cF→RV m ((enc x).getD i Go.undef) ((enc x).getD i Go.undef))
  {v:Value} {d:DataW T} {ps:List MemPlace} (h:DataW.Trod qL P W 0 (fun _=>true) true t v d ps) (hv:Value.okWide P W .any base t v) {m:cD} {H:aE} (hI:In m H W) :
  ∃(a pa:Option Addr) (n c:Nat) (xs:List α) (m':cD) (L:aE),v = .slice a n c∧In m' (H++L) W∧(∀b l,m b=some l→m' b=some l)∧RV m' (.slice pa n c) v∧Arr enc cF (H++L) pa n xs∧(∀x∈xs,KP x)∧n≤c∧(c=0∨∃el sp,d = .slice el sp∧el.length+sp.length=c)∧(pa=none↔a=none) ∧
   ((pa=none∧xs=[]∧n=0∧c=0)∨∃b r p,pa=some ⟨b,0,none⟩∧(H++L)[b]? = some (.row r cF p)∧n*cF≤r.length∧r.take (n*cF)=xs.flatMap enc):=by
 obtain⟨a,n,c,rfl⟩:=okWide_slice ht hv
 obtain⟨fuel,hf⟩:=h
 have IN:(Value.slice a n c).cells.toList=[.slice a n c]:=rfl
 rw[IN] at hf
 rcases DataW.trod_slice ht hf with⟨h1,_⟩ | ⟨a',len,cap,elems,rest,k,_,h1,hd,_,hl,hm,hlen,hE,hR,_⟩
 ·injection h1 with h1 _
  cases h1
  exact⟨none,none,0,0,[],m,[],rfl,by simpa using hI,fun _ _ h=>h,.Jg,⟨rfl,fun i x hx=>by simp at hx⟩,fun x hx=>by simp at hx,Nat.le_refl _,.inl rfl,Iff.rfl,.inl ⟨rfl,rfl,rfl,rfl⟩⟩
 ·injection h1 with h1 _
  cases h1
  obtain⟨FF,hR⟩:=hR rfl
  have Mf:∀i,i<c→∃x:α,W.cells? 0 (a'.add (i*cF)) cF=some (enc x)∧KP x:=by
   intro i hi
   have key:∃y,(W.cells? 0 (a'.add (i*P.cellsOf e)) (P.cellsOf e)).bind (DataW.trod qL P W 0 (fun _=>true) true k e)=some y:=by
    rcases Nat.lt_or_ge i n with cC | cC
    ·exact⟨elems[i]'(by omega),by rw[hE i cC];exact List.getElem?_eq_getElem _⟩
    ·have:=hR (i-n) (by omega)
     rw[show n+(i-n)=i by omega] at this
     exact⟨rest[i-n]'(by omega),by rw[this];exact List.getElem?_eq_getElem _⟩
   obtain⟨y,hy⟩:=key
   rw[Option.bind_eq_some_iff,aeE] at hy
   obtain⟨cs,h1,h2⟩:=hy
   obtain⟨x,rfl,hg⟩:=hel _ _ _ h2
   exact⟨x,h1,hg⟩
  obtain⟨xs,hxl,hx⟩:=Nj (fun i x=>W.cells? 0 (a'.add (i*cF)) cF=some (enc x)∧KP x) c Mf
  have apI:W.has P .any base a' e c:=by
   simp only[Value.okWide,ht,Cell.okWide,Cell.ok] at hv
   exact hv.2.2
  obtain⟨_,adV,row,aqX,Sg,_⟩:=apI
  obtain⟨rb,off,spot⟩:=a'
  simp only at adV
  subst adV
  obtain⟨arr,e',fz,Yw⟩:∃arr e' fz,W.heap[rb]? = some (.cells arr e' fz):=by
   unfold World.shape? at Sg
   split at Sg
   ·rename_i arr e' fz hb;exact⟨arr,e',fz,hb⟩
   ·cases Sg
  have TA:=Fz (xs:=xs) Ye
  have Ns:∀i,i<xs.length*cF→∃x,xs[i / cF]? = some x∧(xs.flatMap enc).getD i Go.undef=(enc x).getD (i % cF) Go.undef∧W.cell? ⟨rb,off+i,none⟩=some ((enc x).getD (i % cF) Go.undef)∧KP x:=by
   intro i hi
   have iU:=Ye.pos
   have hq:i / cF<xs.length:=Nat.div_lt_of_lt_mul (by rw[Nat.mul_comm];exact hi)
   have hr:i % cF<cF:=Nat.mod_lt _ (by omega)
   have hx1:xs[i / cF]? = some xs[i / cF]:=List.getElem?_eq_getElem hq
   obtain⟨h1,h2⟩:=hx _ _ hx1
   have h3:=(World.cells?_some h1).2.2 (i % cF) hr
   have VP:i / cF*cF+i % cF=i:=by rw[Nat.mul_comm];exact Nat.div_add_mod i cF
   have hre:(enc xs[i / cF])[i % cF]? = some ((enc xs[i / cF]).getD (i % cF) Go.undef):=by
    rw[List.getD_eq_getElem?_getD,List.getElem?_eq_getElem (by rw[Ye.len];exact hr)]
    rfl
   refine⟨xs[i / cF],hx1,?_,?_,h2⟩
   ·have h4:(xs.flatMap enc)[i]? = ((xs.flatMap enc).drop (i / cF*cF))[i % cF]? := by
     rw[List.getElem?_drop,VP]
    rw[List.getD_eq_getElem?_getD,h4,CW Ye,List.drop_eq_getElem_cons hq,List.flatMap_cons,List.getElem?_append_left (by rw[Ye.len];exact hr),List.getD_eq_getElem?_getD]
   ·rw[hre] at h3
    rw[←h3]
    have ha:∀o k:Nat,(⟨rb,o,none⟩:Addr).add k=⟨rb,o+k,none⟩:=by
     intro o k
     unfold Addr.add
     split
     ·rename_i h0;subst h0;rfl
     ·rfl
    rw[ha,ha,Nat.add_assoc,VP]
  have nC:(if c=0 then 0 else off)+(xs.flatMap enc).length≤arr.size:=by
   rw[TA,hxl]
   split
   ·rename_i h0;subst h0;simp
   ·rename_i h0
    have iU:=Ye.pos
    have IF:1≤c*cF:=Nat.mul_pos (by omega) iU
    obtain⟨x,_,_,h3,_⟩:=Ns (c*cF-1) (by rw[hxl];omega)
    unfold World.cell? at h3
    simp only[Yw,Option.isSome_none,Bool.false_eq_true,if_false] at h3
    have:=(Array.getElem?_eq_some_iff.1 h3).1
    omega
  have Ii:=hI.add (cF:=cF) (cs:=xs.flatMap enc) (base:=if c=0 then 0 else off) Yw nC (fun i hi=>by
   rw[TA] at hi
   obtain⟨x,_,h2,h3,h4⟩:=Ns i hi
   have h0:¬c=0:=by
    intro h0
    rw[hxl,h0] at hi
    omega
   rw[if_neg h0,h2]
   have hr:i % cF<cF:=Nat.mod_lt _ (by have:=Ye.pos;omega)
   refine⟨_,h3,akT _ x h4 _ hr,?_⟩
   have Bt:=List.all_eq_true.1 (Ye.sc x) ((enc x).getD (i % cF) Go.undef) (by
    rw[List.getD_eq_getElem?_getD,List.getElem?_eq_getElem (by rw[Ye.len];exact hr)]
    exact List.getElem_mem _)
   exact Bt)
  refine⟨some ⟨rb,off,none⟩,some ⟨H.length,0,none⟩,n,c,xs.take n,_,_,rfl,Ii,qC (hI.MX (Nat.le_refl _)),?_,?_,fun x hxm => ?_,hl,.inr ⟨_,_,congrArg Prod.fst hd,by simp[hlen,FF];omega⟩,by simp,.inr ⟨H.length,xs.flatMap enc,false,rfl,by simp,?_,G0 Ye n⟩⟩
  ·refine .slice H.length 0 n c _ _ c (bI _ _ _) hl (Nat.le_refl _) (fun _=>rfl) ?_
   rcases Nat.eq_zero_or_pos c with h0 | h0
   ·exact .inl h0
   ·right
    rw[if_neg (by omega)]
    refine⟨rfl,?_⟩
    rw[if_neg (by omega),TA,hxl] at nC
    simpa using nC
  ·have hR:Row enc cF (H++[.row (xs.flatMap enc) cF false]) H.length false xs:=Row.top
   exact hR.arr Ye (by omega)
  ·have asZ:=List.mem_of_mem_take hxm
   obtain⟨i,hi⟩:=List.getElem?_of_mem asZ
   exact(hx i x hi).2
  ·rw[TA,hxl]
   exact Nat.mul_le_mul_right _ hl
theorem YP {T:Type} {P:Program} {ts:List TypeId} {ds:List (DataW T)} (h:(DataW.weightsEach P ts ds).all (· ≤ reachBytes)=true) {j:Nat} {t e:TypeId} {d:DataW T} {c:Nat} (hc:c=0∨∃el sp,d = .slice el sp∧el.length+sp.length=c)
  (ht:ts[j]? = some t) (hd:ds[j]? = some d) (hu:P.underlying t=some (.slice e)) (hb:Nat.ble 1 (P.bytesOf e)=true):c≤140737488355328:=by
 rcases hc with rfl | ⟨el,sp,rfl,rfl⟩
 ·omega
 ·have h1:=sized_slice h ht hd hu
  have h2:reachBytes<2^47:=reachBytes_lt
  have h3:=Nat.le_of_ble_eq_true hb
  have h4:=Nat.mul_le_mul_left (el.length+sp.length) h3
  omega
theorem Zf {f:Nat} {args fR:List Value} {H H':aE} {v:Value} {m:cD} {W:World} (hI:In m H W) (hr:RL m args fR) (h:pS f args H.length H=some (v,H')) (hg:Nh W:=by first | assumption | exact fun x hx=>nomatch hx) :
  Calls Tryz.prog f fR.toArray W fun e W'=>∃m' rv,e = .returned rv∧RV m' v rv∧Below W.heap.size W W':=by
 obtain⟨n,hn⟩:=(tM cfg gE).1 h
 refine(F7 Tryz.checked.mixed afR agH n f args H.length H v H' hn m W fR (hI.rel hg) (Nat.le_refl _) (Nat.le_refl _) hr (fun b hb _=>hI.MX hb)).2.mono ?_
 rintro e W' ⟨m',rv,rfl,h1,_,h3⟩
 refine⟨m',rv,rfl,h1,⟨h3.same.1,h3.same.2.2,h3.same.2.1,h3.size,fun k hk=>h3.cL k hk fun b l hb hm _ => ?_⟩⟩
 rw[hI.MX hb] at hm
 cases hm
end Go.PM
namespace Go.PM
def Sf (c:iT):Prop:=(0≤c.t∧c.t≤10000)∧(1≤c.w∧c.w≤1000)∧(0≤c.k∧c.k≤9)
instance (c:iT):Decidable (Sf c):=by unfold Sf;infer_instance
def aeI (cs:List iT) (i:Nat) (c:iT):Prop:=Sf c∧∀b,0<i→cs[i-1]? = some b→b.t≤c.t
def lK (cs:List iT):Prop:=(∀i c,cs[i]? = some c→aeI cs i c)∧cs.length≤24
noncomputable instance (cs:List iT):Decidable (lK cs):=Classical.propDecidable _
theorem lK.at {cs:List iT} (h:lK cs) {i:Nat} {c:iT} (hc:cs[i]? = some c):(0≤c.t∧c.t≤10000)∧(1≤c.w∧c.w≤1000)∧(0≤c.k∧c.k≤9):=(h.1 i c hc).1
def w64 (n:Int):Prop := -9223372036854775808≤n∧n≤9223372036854775807
def wl (time:Int):List iT→Int→Int→Int
 | [],l,s=>max (l-(time-s)) 0
 | c::cs,l,s=>if time<c.t then max (l-(time-s)) 0 else wl time cs (max (l-(c.t-s)) 0+c.w) c.t
def aqU (cs:List iT) (time:Int):Prop:=lK cs∧(0≤time∧time≤1000000000)
noncomputable instance (cs:List iT) (time:Int):Decidable (aqU cs time):=Classical.propDecidable _
def amM (cs:List iT) (ls:List Int):Prop:=lK cs∧ls.length=cs.length∧∀x∈ls,0≤x∧x≤1000000000
noncomputable instance (cs:List iT) (ls:List Int):Decidable (amM cs ls):=Classical.propDecidable _
def ajD (cs:List iT) (ls:List Int) (time:Int):Prop:=amM cs ls∧(0≤time∧time≤1000000000)
noncomputable instance (cs:List iT) (ls:List Int) (time:Int):Decidable (ajD cs ls time):=Classical.propDecidable _
def asR (cs:List iT) (ps:List Int):Prop:=lK cs∧ps.length=cs.length∧∀x∈ps,0≤x∧x≤10000
noncomputable instance (cs:List iT) (ps:List Int):Decidable (asR cs ps):=Classical.propDecidable _
end Go.PM
namespace Go.Proofs.YtodamlihdkalfaaGreatDoor
open Go.ChangeShapes Go.WideShapes Go.ChangeAt Go.RowKit Go.PM
theorem own:ownKnob Tryz.prog.godebug=none:=by kernel_rfl
theorem laidOut:laidOutB Tryz.prog=true:=by kernel_rfl
theorem afH {n:Int} (h:(Lit.int .i64 n).wf=true):w64 n:=by
 simp only[Lit.wf,Bool.and_eq_true,decide_eq_true_eq] at h
 exact h
theorem three {α:Type} {l:List α} (h:l.length=3):∃a b c,l=[a,b,c]:=by
 rcases l with _ | ⟨a,_ | ⟨b,_ | ⟨c,_ | ⟨d,l⟩⟩⟩⟩
 ·cases h
 ·cases h
 ·cases h
 ·exact⟨a,b,c,rfl⟩
 ·simp at h
theorem Yv {T:Type} {qL:TypeId×Value→T} {W:World} (fuel:Nat) (cs:List Value) (y:DataW T×List MemPlace) (h:DataW.trod qL Tryz.prog W 0 (fun _=>true) true fuel 2 cs=some y):∃x:Int,cs=ci x∧w64 x:=by
 obtain⟨n,e,_,w⟩:=DataW.trod_int Tryz.underlying2 h
 exact⟨n,e,afH w⟩
theorem Xw (m:cD) (x:Int) (_:w64 x) (i:Nat) (hi:i<1):RV m ((ci x).getD i undef) ((ci x).getD i undef):=by
 match i,hi with
 | 0,_=>exact .int _ _
end Go.Proofs.YtodamlihdkalfaaGreatDoor
namespace Go.PM
def AQ:List Nat:=[]
 ++ [52]
 ++ [55]
 ++ [56]
 ++ [43]
 ++ [45]
 ++ [50]
 ++ [67]
 ++ [70]
 ++ [71]
 ++ [76]
 ++ [78]
 ++ [79]
 ++ [60]
 ++ [62]
 ++ [72]
 ++ [17]
 ++ [19]
 ++ [23]
 ++ [53]
 ++ [51]
 ++ [21]
 ++ [20]
 ++ [49]
 ++ [48]
 ++ [64]
 ++ [63]
 ++ [68]
 ++ [66]
 ++ [77]
 ++ [75]
 ++ [182]
 ++ [220]
 ++ [221]
 ++ [239]
 ++ [240]
 ++ [202]
 ++ [185]
 ++ [84]
 ++ [87]
 ++ [165]
 ++ [85]
 ++ [85]
 ++ [86]
 ++ [26]
 ++ [111]
 ++ [200]
 ++ [132]
 ++ [149]
 ++ [204]
 ++ [143]
 ++ [129]
 ++ [125]
 ++ [128]
 ++ [123]
 ++ [127]
 ++ [122]
 ++ [207]
 ++ [150]
 ++ [144]
 ++ [131]
 ++ [148]
 ++ [142]
end Go.PM