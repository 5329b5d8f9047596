/- Texts of a claim, in one: part 3. -/
import Derived.Lib.ItoaNum
import Derived.Lib.Join
import Derived.Lib.BitFns
import Derived.Lib.Repeat
import Derived.Lib.Bytealg
import Derived.Lib.ParseIntB
import Derived.Test.YtjmflicajplclaaGreatDoorChecked
import Derived.Laws.BitsLemmas
import Derived.Shelf.Strings.OnBuilder
import Derived.Shelf.Strings.Repeat
import Derived.Shelf.Small.Bits
import Derived.Shelf.Strconv.Itoa1
import Derived.Shelf.Strconv.Itoa2
import Derived.Shelf.LaysM
import Derived.Shelf.Strings.Search2
import Derived.Shelf.Pu.ParseUintPublic10
import Derived.KernelRfl
import Derived.Test.YtjmflicajplclaaGreatDoorProg
import Derived.Lib.Walk
import Derived.Lib.ItoaMem
import Derived.WalkKit
import Derived.BigCall
import Derived.BigGuard
import Derived.Below
import Derived.Shelf.Strings.Search2
import Derived.Shelf.Pu.ParseUintPublic10
import Derived.Shelf.Strings.OnBuilder
import Derived.Shelf.Strings.Repeat
import Derived.Shelf.Small.Bits
import Derived.ProofKit
import Derived.OpenShut
import Derived.ShutString
import Derived.ChangeOld
import Derived.Carry
import Derived.SizedLaws
import Derived.Test.YtjmflicajplclaaGreatDoorRows
import Derived.Test.YtjmflicajplclaaGreatDoorKYb
set_option linter.unusedSimpArgs false
set_option linter.unusedVariables false
namespace Go.PM
def asM:Ex→Exit
 | .normal => .normal
 | .exit id => .exit id
 | .ret => .ret
section
variable {P:Program} {E:BM} {n:Nat} {call:gJ} {lo L0:Nat}
def Qv (P:Program) (n lo L0:Nat) (c:Code) (run:Env→aE→Option (Ex×Env×aE)):Prop :=
 ∀ρ H x bL H',run ρ H=some (x,bL,H')→∀m a w,IZ n L0 m ρ H a w→L0≤H.length→(∀b,H.length≤b→b<H'.length→m b=none) →
  ∀Q:Exit→Act→World→Prop,(∀m' a' w',IZ n L0 m' bL H' a' w'→Trans lo m H w m' H' w'→Q (asM x) a' w')→c.wp P Q a w
theorem acW {c:Code} {run:Env→aE→Option (Ex×Env×aE)} (hc:Qv P n lo L0 c run) (he:∀ρ H x bL H',run ρ H=some (x,bL,H')→Ext lo H H') (N:Nat):Qv P n lo L0 (.loop c) (yR run N):=by
 intro ρ H x bL H' hr m a w h hl hf Q hQ
 apply wp_loop_rounds N
 have key:∀N ρ H,yR run N ρ H=some (x,bL,H')→∀m a w,IZ n L0 m ρ H a w→L0≤H.length→(∀b,H.length≤b→b<H'.length→m b=none) →
   (∀m' a' w',IZ n L0 m' bL H' a' w'→Trans lo m H w m' H' w'→Q (asM x) a' w')→Code.rounds P c Q N a w:=by
  intro N
  induction N with
  | zero=>intro ρ H h;cases h
  |
   succ N ih =>
   intro ρ H hr m a w h hl hf hQ
   rw[rounds_succ]
   rw[yR] at hr
   split at hr
   ·rename_i xY H1 h1
    have e1:=he _ _ _ _ _ h1
    have e2:=I0 he N hr
    refine hc ρ H _ xY H1 h1 m a w h hl (fun b Ff hb2=>hf b Ff (Nat.lt_of_lt_of_le hb2 e2.len)) _ fun m1 a1 w1 hh hT => ?_
    exact ih xY H1 hr m1 a1 w1 hh (Nat.le_trans hl e1.len) (hT.fresh e1.len hf) fun m2 a2 w2 h2 hT2=>hQ m2 a2 w2 h2 (Trans.trans hf e1 e2 hT hT2)
   ·rename_i fK
    refine hc ρ H _ bL H' hr m a w h hl hf _ fun m1 a1 w1 hh hT => ?_
    have:=hQ m1 a1 w1 hh hT
    cases x with
    | normal=>exact absurd hr (fK bL H')
    | exit id=>exact this
    | ret=>exact this
 exact key N ρ H hr m a w h hl hf hQ
theorem oX (DI:P.follows .mixedOrders=true) (oN:yA P L0 call) (rZ:sA call) (dP:L0≤lo) (N:Nat):∀(c:Code) (pc:aD),iO P E n c=some pc→Qv P n lo L0 c (dM call lo N pc)
 |
  .skip,pc,hp=>by
  cases hp
  intro ρ H x bL H' hr m a w h hl hf Q hQ
  cases hr
  exact wp_skip (hQ m a w h (Trans.refl _ _ _ _))
 |
  .region id ops draw,pc,hp=>by
  rw[iO] at hp
  cases hpr:zG P E n ops draw with
  | none=>rw[hpr] at hp;cases hp
  |
   some uB =>
   rw[hpr] at hp
   cases hp
   intro ρ H x bL H' hr m a w h hl hf Q hQ
   rw[dM] at hr
   cases hs:iB call lo uB ρ H with
   | none=>rw[hs] at hr;cases hr
   |
    some q =>
    obtain⟨xY,H1⟩:=q
    rw[hs] at hr
    cases hr
    exact UE DI oN rZ hpr hs h dP hl hf hQ
 |
  .seq x y,pc,hp=>by
  rw[iO] at hp
  split at hp
  ·rename_i px py XP hpy
   cases hp
   intro ρ H e bL H' hr m a w h hl hf Q hQ
   rw[dM] at hr
   apply wp_seq
   split at hr
   ·rename_i xY H1 h1
    have e1:=jV rZ px h1
    have e2:=jV rZ py hr
    refine oX DI oN rZ dP N x px XP ρ H _ xY H1 h1 m a w h hl (fun b Ff hb2=>hf b Ff (Nat.lt_of_lt_of_le hb2 e2.len)) _ fun m1 a1 w1 hh hT => ?_
    exact oX DI oN rZ dP N y py hpy xY H1 _ bL H' hr m1 a1 w1 hh (Nat.le_trans hl e1.len) (hT.fresh e1.len hf) Q fun m2 a2 w2 h2 hT2=>hQ m2 a2 w2 h2 (Trans.trans hf e1 e2 hT hT2)
   ·rename_i fK
    refine oX DI oN rZ dP N x px XP ρ H _ bL H' hr m a w h hl hf _ fun m1 a1 w1 hh hT => ?_
    have:=hQ m1 a1 w1 hh hT
    cases e with
    | normal=>exact absurd hr (fK bL H')
    | exit id=>exact this
    | ret=>exact this
  ·cases hp
 |
  .cond o x y,pc,hp=>by
  rw[iO] at hp
  split at hp
  ·rename_i E3
   split at hp
   ·rename_i px py XP hpy
    cases hp
    intro ρ H e bL H' hr m a w h hl hf Q hQ
    rw[dM] at hr
    split at hr
    ·rename_i t ht
     have Va:=Wd (a:=a) (m:=m) (ρ:=ρ) E3 fun t _=>h.env t
     rw[ht] at Va
     generalize hev:a.eval o=ro at Va
     cases Va
     refine wp_cond hev ?_
     cases t with
     | true=>exact oX DI oN rZ dP N x px XP ρ H _ bL H' hr m a w h hl hf Q hQ
     | false=>exact oX DI oN rZ dP N y py hpy ρ H _ bL H' hr m a w h hl hf Q hQ
    ·cases hr
   ·cases hp
  ·cases hp
 |
  .block id x,pc,hp=>by
  rw[iO] at hp
  cases XP:iO P E n x with
  | none=>rw[XP] at hp;cases hp
  |
   some px =>
   rw[XP] at hp
   cases hp
   intro ρ H e bL H' hr m a w h hl hf Q hQ
   rw[dM] at hr
   apply wp_block
   split at hr
   ·rename_i Sm xY H1 h1
    split at hr
    ·rename_i hid
     cases hr
     refine oX DI oN rZ dP N x px XP ρ H _ bL H' h1 m a w h hl hf _ fun m1 a1 w1 hh hT => ?_
     have:=hQ m1 a1 w1 hh hT
     show Exit.inBlock id Q (.exit Sm) a1 w1
     simp only[Exit.inBlock,if_pos hid]
     exact this
    ·rename_i hid
     cases hr
     refine oX DI oN rZ dP N x px XP ρ H _ bL H' h1 m a w h hl hf _ fun m1 a1 w1 hh hT => ?_
     have:=hQ m1 a1 w1 hh hT
     show Exit.inBlock id Q (.exit Sm) a1 w1
     simp only[Exit.inBlock,if_neg hid]
     exact this
   ·rename_i fK
    refine oX DI oN rZ dP N x px XP ρ H _ bL H' hr m a w h hl hf _ fun m1 a1 w1 hh hT => ?_
    have:=hQ m1 a1 w1 hh hT
    cases e with
    | normal=>exact this
    | exit Sm=>exact absurd hr (fK Sm bL H')
    | ret=>exact this
 |
  .loop x,pc,hp=>by
  rw[iO] at hp
  cases XP:iO P E n x with
  | none=>rw[XP] at hp;cases hp
  |
   some px =>
   rw[XP] at hp
   cases hp
   have hx:=oX DI oN rZ dP N x px XP
   intro ρ H e bL H' hr
   rw[dM] at hr
   exact acW hx (fun ρ H x bL H' h=>jV rZ px h) N ρ H e bL H' hr
 |
  .exit id,pc,hp=>by
  cases hp
  intro ρ H x bL H' hr m a w h hl hf Q hQ
  cases hr
  exact wp_exit (hQ m a w h (Trans.refl _ _ _ _))
 |
  .ret,pc,hp=>by
  cases hp
  intro ρ H x bL H' hr m a w h hl hf Q hQ
  cases hr
  exact wp_ret (hQ m a w h (Trans.refl _ _ _ _))
 | .rangeFunc ..,pc,hp=>by cases hp
 | .scope _,pc,hp=>by cases hp
 | .label _,pc,hp=>by cases hp
 | .goto _,pc,hp=>by cases hp
 | .refuse _,pc,hp=>by cases hp
def AM (P:Program):ResultVar→Option BE
 | .tmp t=>some (.tmp t)
 | .cell t ty=>(mI P ty).map fun(agg,size,_,_) => .cell t agg size
def MR (a:Act):ResultVar→Sem Value
 | .tmp t=>pure (a.tmps.getD t undef)
 | .cell x t=>do loadVar t (←asAddr (a.tmps.getD x undef))
theorem ayR {m:dK} {ρ:Env} {H:aE} {a:Act} {w:World} (h:IZ n L0 m ρ H a w) {r:ResultVar} {pr:BE} (hp:AM P r=some pr) {v:Value} (hv:XI ρ H pr=some v) :
  ∃rv,RV m v rv∧(MR a r).run P w = .ok rv w:=by
 cases r with
 |
  tmp t =>
  cases hp
  cases hv
  exact⟨_,h.env t,rfl⟩
 |
  cell x t =>
  simp only[AM] at hp
  cases ht:mI P t with
  | none=>rw[ht] at hp;cases hp
  |
   some q =>
   obtain⟨agg,size,z,nb⟩:=q
   rw[ht] at hp
   cases hp
   obtain⟨rv,h1,h2⟩:=Pz ht hv h.rel (h.env x)
   refine⟨rv,h1,?_⟩
   unfold MR
   have hpv:=h.env x
   simp only[XI,oK] at hv
   split at hv
   ·rename_i b o hb
    rw[hb] at hpv
    show (do loadVar t (←asAddr (a.tmps.getD x undef)):Sem Value).run P w=_
    generalize a.tmps.getD x undef=rp at h2 hpv ⊢
    cases hpv
    exact h2
   ·cases hv
theorem adN {m:dK} {ρ:Env} {H:aE} {a:Act} {w:World} (h:IZ n L0 m ρ H a w):∀ {rs:List ResultVar} {prs:List BE} {vs:List Value},rs.mapM (AM P)=some prs→Cm ρ H prs=some vs →
  ∃Z0,RL m vs Z0∧(rs.mapM (MR a)).run P w = .ok Z0 w
 |
  [],prs,vs,hp,hv=>by
  simp at hp
  subst hp
  cases hv
  exact⟨[],RL.nil m,rfl⟩
 |
  r::rs,prs,vs,hp,hv=>by
  simp only[List.mapM_cons,Option.pure_def,Option.bind_eq_bind] at hp
  cases h1:AM P r with
  | none=>rw[h1] at hp;cases hp
  |
   some pr =>
   rw[h1] at hp
   cases h2:rs.mapM (AM P) with
   | none=>rw[h2] at hp;cases hp
   |
    some aEq =>
    rw[h2] at hp
    cases hp
    simp only[Cm] at hv
    split at hv
    ·rename_i v vs' hv1 hv2
     cases hv
     obtain⟨rv,g1,g2⟩:=ayR h h1 hv1
     obtain⟨Z0,g3,g4⟩:=adN h h2 hv2
     refine⟨rv::Z0,RL.cons g1 g3,?_⟩
     rw[List.mapM_cons,Sem.run_bind,g2,Result.andThen_ok,Sem.run_bind,g4]
     rfl
    ·cases hv
theorem JT {m:dK} {ρ:Env} {H:aE} {a:Act} {w:World} (h:IZ n L0 m ρ H a w) {fn:Func} {prs:List BE} (hp:fn.results.toList.mapM (AM P)=some prs) {v:Value} (hv:rE prs ρ H=some v) :
  ∃rv,RV m v rv∧(results fn a.tmps).run P w = .ok rv w:=by
 unfold rE at hv
 cases kQ:Cm ρ H prs with
 | none=>rw[kQ] at hv;cases hv
 |
  some vs =>
  obtain⟨Z0,h1,h2⟩:=adN h hp kQ
  rw[kQ] at hv
  have pX:∀rv,(if h:Z0.toArray.size=1 then Z0.toArray[0] else .tuple Z0.toArray)=rv→(results fn a.tmps).run P w = .ok rv w:=by
   intro rv Va
   have e:results fn a.tmps=(do let vs ←fn.results.mapM (MR a);pure (if h:vs.size=1 then vs[0] else .tuple vs)):=by
    unfold results
    congr 2
   rw[e,Array.mapM_eq_mapM_toList,Sem.run_bind]
   have:(List.toArray <$> fn.results.toList.mapM (MR a)).run P w = .ok Z0.toArray w:=by
    rw[map_eq_pure_bind,Sem.run_bind,h2]
    rfl
   rw[this,←Va]
   rfl
  clear h2 kQ
  rcases vs with _ | ⟨x,_ | ⟨y,xs⟩⟩
  ·rcases Z0 with _ | ⟨x',ys⟩
   ·cases hv
    exact⟨_,h1.Xi,pX _ rfl⟩
   ·cases h1.1
  ·rcases Z0 with _ | ⟨x',_ | ⟨y',ys⟩⟩
   ·cases h1.1
   ·cases hv
    exact⟨x',h1.kI.1,pX x' rfl⟩
   ·cases h1.1
  ·rcases Z0 with _ | ⟨x',_ | ⟨y',ys⟩⟩
   ·cases h1.1
   ·cases h1.1
   ·cases hv
    exact⟨_,h1.Xi,pX _ (by simp)⟩
end
end Go.PM
namespace Go.PM
def abF (P:Program) (E:BM) (L0:Nat):Prop :=
 ∀f p,E.A9 f=some p→Nh P f∧∀args H v,p args H=some v→∀m w gV,Rel m L0 H w→RL m args gV →
  Calls P f gV.toArray w fun e w'=>∃rv,e = .returned rv∧RV m v rv∧w.heap.size≤w'.heap.size∧(∀rb,rb<w.heap.size→w'.heap[rb]? = w.heap[rb]?)∧w'.os=w.os∧w'.output=w.output∧w'.tape=w.tape
theorem Rel.more {m:dK} {L0:Nat} {H:aE} {w w':World} (h:Rel m L0 H w) (hk:∀rb,rb<w.heap.size→w'.heap[rb]? = w.heap[rb]?):Rel m L0 H w':=by
 have hv:∀b l,m b=some l→l.rb<w.heap.size:=fun b l hb=>by
  obtain⟨arr,e,fz,h1,_⟩:=h.valid b l hb
  exact(Array.getElem?_eq_some_iff.1 h1).1
 refine⟨fun b l hb=>by rw[hk _ (hv b l hb)];exact h.valid b l hb,fun b l cs e p hm hb => ?_,h.inj,fun x hx=>⟨?_,(h.Ea x hx).2⟩⟩
 ·obtain⟨h1,h2,h3,h4⟩:=h.row b l cs e p hm hb
  refine⟨h1,h2,h3,fun i hi => ?_⟩
  obtain⟨rv,g1,g2⟩:=h4 i hi
  refine⟨rv,?_,g2⟩
  rw[←g1]
  unfold World.cell?
  simp only[hk _ (hv b l hm)]
 ·obtain⟨e,fz,g1⟩:=(h.Ea x hx).1
  exact⟨e,fz,by rw[hk _ (Array.getElem?_eq_some_iff.1 g1).1];exact g1⟩
theorem acZ {P:Program} {E:BM} {f:Nat} {pf:aT} (h:S8 P E f=some pf):∃fn c,P.funcs[f]? = some fn∧fn.body=some c∧(fn.name == "runtime.NumGoroutine")=false∧fn.results.toList.mapM (AM P)=some pf.res∧iO P E fn.ntmps c=some pf.body∧pf.ntmps=fn.ntmps:=by
 unfold S8 at h
 cases hf:P.funcs[f]? with
 | none=>rw[hf] at h;cases h
 |
  some fn =>
  rw[hf] at h
  have h':Mf P E fn=some pf:=h
  unfold Mf at h'
  cases hb:fn.body with
  | none=>rw[hb] at h';cases h'
  |
   some c =>
   rw[hb] at h'
   simp only at h'
   split at h'
   ·cases h'
   ·rename_i agL
    split at h'
    ·cases h'
    ·rename_i res Vk
     cases hc:iO P E fn.ntmps c with
     | none=>rw[hc] at h';cases h'
     |
      some body =>
      rw[hc] at h'
      cases h'
      refine⟨fn,c,rfl,hb,by simpa using agL,?_,hc,rfl⟩
      have e:(fun(r:ResultVar)=>match r with
       | .tmp t=>some (BE.tmp t)
       | .cell t ty=>(mI P ty).map fun(agg,size,_,_) => .cell t agg size)=AM P:=by
       funext r
       cases r<;>rfl
      rw[←e]
      exact Vk
theorem Jg {P:Program} {E:BM} {T:Tab} {L0:Nat} (DI:P.follows .mixedOrders=true) (abE:abF P E L0) (hT:∀f pf,T f=some pf→S8 P E f=some pf):∀n,yA P L0 (mF E T n)
 | 0=>fun f args lo H v H' h=>by cases h
 |
  n+1=>fun f args lo H v H' h m w gV hR dP hlen Us hf=>by
  have rZ:=EW E T n
  rw[mF] at h
  split at h
  ·rename_i p hp
   obtain⟨hco,ayD⟩:=abE f p hp
   refine⟨hco,?_⟩
   cases hpv:p args H with
   | none=>rw[hpv] at h;cases h
   |
    some u =>
    rw[hpv] at h
    cases h
    refine(ayD args H v hpv m w gV hR Us).mono ?_
    rintro e w' ⟨rv,rfl,h1,h2,h3,h4⟩
    exact⟨m,rv,rfl,h1,hR.more h3,fun _ _ h=>h,fun b l hb hn=>(by rw[hb] at hn;cases hn),h2,fun rb DP _=>h3 rb DP,h4⟩
  ·split at h
   ·cases h
   ·rename_i pf hpf
    obtain⟨fn,c,h1,h2,h3,h4,h5,h6⟩:=acZ (hT _ _ hpf)
    split at h
    case isFalse=>cases h
    rename_i yK
    refine⟨⟨fn,h1,h3,by rw[h2];rfl⟩,calls_of_wp h1 h2 ?_⟩
    have Dj:gV.toArray.size≤fn.ntmps:=by
     have:=Us.1
     simp;omega
    have hH:IZ fn.ntmps L0 m (Yr args) H { tmps:=gV.toArray++Array.replicate (fn.ntmps-gV.toArray.size) undef,defers:=[] } w:=by
     refine⟨by simp at Dj ⊢;omega,rfl,fun t => ?_,hR⟩
     rcases Nat.lt_or_ge t args.length with ht | ht
     ·have h7:=Us.2 t ht
      have ht':t<gV.length:=by rw[←Us.1];exact ht
      have e:(gV.toArray++Array.replicate (fn.ntmps-gV.toArray.size) undef).getD t undef=gV.getD t undef:=by
       rw[Array.getD_eq_getD_getElem?,Array.getElem?_append_left (by simpa using ht')]
       simp
      show RV m (args.getD t undef) _
      rw[e]
      exact h7
     ·have e1:args.getD t undef=undef:=by simp[List.getD_eq_getElem?_getD,List.getElem?_eq_none ht]
      have ht':gV.length≤t:=by rw[←Us.1];exact ht
      have e2:(gV.toArray++Array.replicate (fn.ntmps-gV.toArray.size) undef).getD t undef=undef:=by
       rw[Array.getD_eq_getD_getElem?,Array.getElem?_append_right (by simpa using ht')]
       rw[Array.getElem?_replicate]
       split<;>rfl
      show RV m (args.getD t undef) _
      rw[e1,e2]
      exact RV.undef m
    split at h
    ·rename_i xY H1 pX
     cases hr:rE pf.res xY H1 with
     | none=>rw[hr] at h;cases h
     |
      some u =>
      rw[hr] at h
      cases h
      refine oX DI (Jg DI abE hT n) rZ dP n c pf.body h5 _ _ _ _ _ pX m _ w hH hlen hf _ fun m' a' w' hh hTr => ?_
      obtain⟨rv,g1,g2⟩:=JT hh h4 hr
      exact⟨hh.defs,rv,g2,m',rv,rfl,g1,hh.rel,hTr⟩
    ·rename_i xY H1 pX
     cases hr:rE pf.res xY H1 with
     | none=>rw[hr] at h;cases h
     |
      some u =>
      rw[hr] at h
      cases h
      refine oX DI (Jg DI abE hT n) rZ dP n c pf.body h5 _ _ _ _ _ pX m _ w hH hlen hf _ fun m' a' w' hh hTr => ?_
      obtain⟨rv,g1,g2⟩:=JT hh h4 hr
      exact⟨hh.defs,rv,g2,m',rv,rfl,g1,hh.rel,hTr⟩
    ·cases h
end Go.PM
namespace Go.PM
def CLe (c c':gJ):Prop:=∀f args lo H r,c f args lo H=some r→c' f args lo H=some r
section
variable {c c':gJ} {lo:Nat}
theorem Pn (h:CLe c c') {i:PI} {ρ:Env} {H:aE} {r:Value×aE} (hr:Ai c lo i ρ H=some r):Ai c' lo i ρ H=some r:=by
 unfold Ai at hr ⊢
 split at hr
 ·cases hr
 ·exact hr
 ·split at hr
  ·rename_i Rx
   rw[if_pos Rx]
   split at hr
   ·exact hr
   ·exact h _ _ _ _ _ hr
   ·cases hr
  ·cases hr
theorem UK (h:CLe c c') {i:PI} {ρ:Env} {H:aE} {r:Env×aE} (hr:yX c lo i ρ H=some r):yX c' lo i ρ H=some r:=by
 unfold yX at hr ⊢
 split at hr
 ·rename_i v H' hv
  rw[Pn h hv]
  exact hr
 ·cases hr
theorem AO (h:CLe c c'):∀ {is:List PI} {ρ:Env} {H:aE} {r:Env×aE},iB c lo is ρ H=some r→iB c' lo is ρ H=some r
 | [],_,_,_,hr=>hr
 |
  i::is,ρ,H,r,hr=>by
  rw[iB] at hr ⊢
  split at hr
  ·rename_i h1
   rw[UK h h1]
   exact AO h hr
  ·cases hr
theorem Aa {b b':Env→aE→Option (Ex×Env×aE)} (h:∀ρ H r,b ρ H=some r→b' ρ H=some r):∀ {n n':Nat} {ρ:Env} {H:aE} {r:Ex×Env×aE},n≤n'→yR b n ρ H=some r→yR b' n' ρ H=some r
 | 0,_,_,_,_,_,hr=>by cases hr
 | n+1,0,_,_,_,hn,_=>by omega
 |
  n+1,n'+1,ρ,H,r,hn,hr=>by
  rw[yR] at hr ⊢
  split at hr
  ·rename_i h1
   rw[h _ _ _ h1]
   exact Aa h (by omega) hr
  ·rename_i fK
   rw[h _ _ _ hr]
   split
   ·rename_i bL H' he
    cases he
    exact absurd hr (fK _ _)
   ·rfl
theorem fC (h:CLe c c') {n n':Nat} (hn:n≤n'):∀(p:aD) {ρ:Env} {H:aE} {r:Ex×Env×aE},dM c lo n p ρ H=some r→dM c' lo n' p ρ H=some r
 | .skip,_,_,_,hr=>hr
 |
  .dI ops,ρ,H,r,hr=>by
  rw[dM] at hr ⊢
  cases hs:iB c lo ops ρ H with
  | none=>rw[hs] at hr;cases hr
  | some q=>rw[hs] at hr;rw[AO h hs];exact hr
 |
  .seq a b,ρ,H,r,hr=>by
  rw[dM] at hr ⊢
  split at hr
  ·rename_i h1
   rw[fC h hn a h1]
   exact fC h hn b hr
  ·rename_i fK
   rw[fC h hn a hr]
   split
   ·rename_i he;cases he;exact absurd hr (fK _ _)
   ·rfl
 |
  .cond x a b,ρ,H,r,hr=>by
  rw[dM] at hr ⊢
  split at hr
  ·split at hr
   ·rename_i ht;rw[if_pos ht];exact fC h hn a hr
   ·rename_i ht;rw[if_neg ht];exact fC h hn b hr
  ·cases hr
 |
  .block id a,ρ,H,r,hr=>by
  rw[dM] at hr ⊢
  split at hr
  ·rename_i h1
   rw[fC h hn a h1]
   exact hr
  ·rename_i fK
   rw[fC h hn a hr]
   split
   ·rename_i he;cases he;exact absurd hr (fK _ _ _)
   ·rfl
 |
  .loop a,ρ,H,r,hr=>by
  rw[dM] at hr ⊢
  exact Aa (fun ρ H r hr=>fC h hn a hr) hn hr
 | .exit id,_,_,_,hr=>hr
 | .ret,_,_,_,hr=>hr
theorem Cu (E:BM) (T:Tab):∀n,CLe (mF E T n) (mF E T (n+1))
 | 0,_,_,_,_,_,hr=>by cases hr
 |
  n+1,f,args,lo,H,r,hr=>by
  rw[mF] at hr ⊢
  split at hr
  ·exact hr
  ·split at hr
   ·cases hr
   ·split at hr
    ·rename_i pf _ ha
     rw[if_pos ha]
     split at hr
     ·rename_i h1
      rw[fC (Cu E T n) (Nat.le_succ n) pf.body h1]
      exact hr
     ·rename_i h1
      rw[fC (Cu E T n) (Nat.le_succ n) pf.body h1]
      exact hr
     ·cases hr
    ·cases hr
theorem pD (E:BM) (T:Tab) {n n':Nat} (h:n≤n'):CLe (mF E T n) (mF E T n'):=by
 induction h with
 | refl=>exact fun _ _ _ _ _ h=>h
 | step _ ih=>exact fun f args lo H r hr=>Cu E T _ f args lo H r (ih f args lo H r hr)
end
section
variable (E:BM) (T:Tab)
open Classical in
noncomputable def lim {α:Type} (run:Nat→Option α):Option α:=if h:∃r,∃n,run n=some r then some (Classical.choose h) else none
theorem XU {α:Type} {run:Nat→Option α} (hm:∀n n' r,n≤n'→run n=some r→run n'=some r) {r:α}:lim run=some r↔∃n,run n=some r:=by
 unfold lim
 constructor
 ·intro h
  split at h
  ·rename_i hx
   cases h
   exact Classical.choose_spec hx
  ·cases h
 ·rintro⟨n,hn⟩
  have hx:∃r,∃n,run n=some r:=⟨r,n,hn⟩
  rw[dif_pos hx]
  obtain⟨n',SK⟩:=Classical.choose_spec hx
  have h1:=hm n (max n n') r (Nat.le_max_left _ _) hn
  have h2:=hm n' (max n n') _ (Nat.le_max_right _ _) SK
  rw[h1] at h2
  injection h2 with h2
  rw[←h2]
noncomputable def call:gJ:=fun f args lo H=>lim fun n=>mF E T n f args lo H
noncomputable def code (lo:Nat) (c:aD) (ρ:Env) (H:aE):Option (Ex×Env×aE):=lim fun n=>dM (mF E T n) lo n c ρ H
theorem wA {f:Nat} {args:List Value} {lo:Nat} {H:aE} {r:Value×aE}:call E T f args lo H=some r↔∃n,mF E T n f args lo H=some r :=
 XU fun _ _ r h hr=>pD E T h f args lo H r hr
theorem cP {lo:Nat} {c:aD} {ρ:Env} {H:aE} {r:Ex×Env×aE}:code E T lo c ρ H=some r↔∃n,dM (mF E T n) lo n c ρ H=some r :=
 XU fun _ _ _ h hr=>fC (pD E T h) h c hr
theorem Nk {lo:Nat}:∀ {is:List PI} {ρ:Env} {H:aE} {r:Env×aE},iB (call E T) lo is ρ H=some r↔∃n,iB (mF E T n) lo is ρ H=some r:=by
 have le:∀n,CLe (mF E T n) (call E T):=fun n f args lo H r hr=>(wA E T).2 ⟨n,hr⟩
 have val:∀ {i:PI} {ρ:Env} {H:aE} {r:Value×aE},Ai (call E T) lo i ρ H=some r→∃n,Ai (mF E T n) lo i ρ H=some r:=by
  intro i ρ H r hr
  unfold Ai at hr ⊢
  split at hr
  ·cases hr
  ·exact⟨0,hr⟩
  ·split at hr
   ·rename_i Rx
    split at hr
    ·exact⟨0,by rw[if_pos Rx];exact hr⟩
    ·obtain⟨n,hn⟩:=(wA E T).1 hr
     exact⟨n,by rw[if_pos Rx];exact hn⟩
    ·cases hr
   ·cases hr
 intro is
 induction is with
 | nil=>exact fun {ρ H r}=>⟨fun h=>⟨0,h⟩,fun⟨_,h⟩=>h⟩
 |
  cons i is ih =>
  intro ρ H r
  constructor
  ·intro h
   rw[iB] at h
   split at h
   ·rename_i xY H1 h1
    obtain⟨v,hv,rfl⟩:=yQ h1
    obtain⟨n1,hn1⟩:=val hv
    obtain⟨n2,hn2⟩:=ih.1 h
    refine⟨max n1 n2,?_⟩
    rw[iB]
    have e:yX (mF E T (max n1 n2)) lo i ρ H=some (put ρ i.dst v,H1):=by
     unfold yX
     rw[Pn (pD E T (Nat.le_max_left n1 n2)) hn1]
    rw[e]
    exact AO (pD E T (Nat.le_max_right n1 n2)) hn2
   ·cases h
  ·rintro⟨n,h⟩
   exact AO (le n) h
theorem Cp {α:Type} {a b:Option α} (h:∀r,a=some r↔b=some r):a=b:=by
 cases a with
 |
  none =>
  cases b with
  | none=>rfl
  | some y=>exact((h y).2 rfl)
 | some x=>exact((h x).1 rfl).symm
variable {lo:Nat} {ρ:Env} {H:aE}
theorem Yz:code E T lo .skip ρ H=some (.normal,ρ,H):=(cP E T).2 ⟨0,rfl⟩
theorem Zq {id:Nat}:code E T lo (.exit id) ρ H=some (.exit id,ρ,H):=(cP E T).2 ⟨0,rfl⟩
theorem afE:code E T lo .ret ρ H=some (.ret,ρ,H):=(cP E T).2 ⟨0,rfl⟩
theorem agH {ops:List PI}:code E T lo (.dI ops) ρ H=(iB (call E T) lo ops ρ H).map fun(bL,H')=>(.normal,bL,H'):=by
 refine Cp fun r => ?_
 rw[cP]
 constructor
 ·rintro⟨n,h⟩
  rw[dM] at h
  cases hs:iB (mF E T n) lo ops ρ H with
  | none=>rw[hs] at h;cases h
  |
   some q =>
   rw[hs] at h
   rw[(Nk E T).2 ⟨n,hs⟩]
   exact h
 ·intro h
  cases hs:iB (call E T) lo ops ρ H with
  | none=>rw[hs] at h;cases h
  |
   some q =>
   rw[hs] at h
   obtain⟨n,hn⟩:=(Nk E T).1 hs
   exact⟨n,by rw[dM,hn];exact h⟩
theorem agN {a b:aD}:code E T lo (.seq a b) ρ H=match code E T lo a ρ H with
  | some (.normal,bL,H')=>code E T lo b bL H'
  | r=>r:=by
 refine Cp fun r => ?_
 rw[cP]
 constructor
 ·rintro⟨n,h⟩
  rw[dM] at h
  split at h
  ·rename_i h1
   rw[(cP E T).2 ⟨n,h1⟩]
   exact(cP E T).2 ⟨n,h⟩
  ·rename_i fK
   rw[(cP E T).2 ⟨n,h⟩]
   split
   ·rename_i he;cases he;exact absurd h (fK _ _)
   ·rfl
 ·intro h
  split at h
  ·rename_i h1
   obtain⟨n1,h1⟩:=(cP E T).1 h1
   obtain⟨n2,h2⟩:=(cP E T).1 h
   refine⟨max n1 n2,?_⟩
   rw[dM,fC (pD E T (Nat.le_max_left n1 n2)) (Nat.le_max_left n1 n2) a h1]
   exact fC (pD E T (Nat.le_max_right n1 n2)) (Nat.le_max_right n1 n2) b h2
  ·rename_i fK
   obtain⟨n,h1⟩:=(cP E T).1 h
   refine⟨n,?_⟩
   rw[dM,h1]
   split
   ·rename_i he;cases he;exact absurd h (fK _ _)
   ·rfl
theorem YA {x:Operand} {a b:aD}:code E T lo (.cond x a b) ρ H=match ev ρ x with
  | .bool t=>if t then code E T lo a ρ H else code E T lo b ρ H
  | _=>none:=by
 refine Cp fun r => ?_
 rw[cP]
 constructor
 ·rintro⟨n,h⟩
  rw[dM] at h
  split at h
  ·rename_i t he
   rw[he]
   show (if t=true then code E T lo a ρ H else code E T lo b ρ H)=some r
   split at h
   ·rename_i ht;rw[if_pos ht];exact(cP E T).2 ⟨n,h⟩
   ·rename_i ht;rw[if_neg ht];exact(cP E T).2 ⟨n,h⟩
  ·cases h
 ·intro h
  split at h
  ·rename_i t he
   split at h
   ·rename_i ht
    obtain⟨n,h⟩:=(cP E T).1 h
    refine⟨n,?_⟩
    rw[dM,he]
    show (if t=true then _ else _)=_
    rw[if_pos ht]
    exact h
   ·rename_i ht
    obtain⟨n,h⟩:=(cP E T).1 h
    refine⟨n,?_⟩
    rw[dM,he]
    show (if t=true then _ else _)=_
    rw[if_neg ht]
    exact h
  ·cases h
theorem Vv {id:Nat} {a:aD}:code E T lo (.block id a) ρ H=match code E T lo a ρ H with
  | some (.exit Sm,bL,H')=>if Sm=id then some (.normal,bL,H') else some (.exit Sm,bL,H')
  | r=>r:=by
 refine Cp fun r => ?_
 rw[cP]
 constructor
 ·rintro⟨n,h⟩
  rw[dM] at h
  split at h
  ·rename_i h1
   rw[(cP E T).2 ⟨n,h1⟩]
   exact h
  ·rename_i fK
   rw[(cP E T).2 ⟨n,h⟩]
   split
   ·rename_i he;cases he;exact absurd h (fK _ _ _)
   ·rfl
 ·intro h
  split at h
  ·rename_i h1
   obtain⟨n,h1⟩:=(cP E T).1 h1
   exact⟨n,by rw[dM,h1];exact h⟩
  ·rename_i fK
   obtain⟨n,h1⟩:=(cP E T).1 h
   refine⟨n,?_⟩
   rw[dM,h1]
   split
   ·rename_i he;cases he;exact absurd h (fK _ _ _)
   ·rfl
theorem Yw {a:aD}:code E T lo (.loop a) ρ H=match code E T lo a ρ H with
  | some (.normal,bL,H')=>code E T lo (.loop a) bL H'
  | r=>r:=by
 refine Cp fun r => ?_
 rw[cP]
 constructor
 ·rintro⟨n,h⟩
  rw[dM] at h
  cases n with
  | zero=>cases h
  |
   succ n =>
   rw[yR] at h
   split at h
   ·rename_i h1
    rw[(cP E T).2 ⟨n+1,h1⟩]
    refine(cP E T).2 ⟨n+1,?_⟩
    rw[dM]
    exact Aa (fun _ _ _ h=>h) (Nat.le_succ n) h
   ·rename_i fK
    rw[(cP E T).2 ⟨n+1,h⟩]
    split
    ·rename_i he;cases he;exact absurd h (fK _ _)
    ·rfl
 ·intro h
  split at h
  ·rename_i h1
   obtain⟨n1,h1⟩:=(cP E T).1 h1
   obtain⟨n2,h2⟩:=(cP E T).1 h
   refine⟨max n1 n2+1,?_⟩
   have g1:=fC (pD E T (show n1≤max n1 n2+1 by omega)) (show n1≤max n1 n2+1 by omega) a h1
   rw[dM,yR,g1]
   rw[dM] at h2
   exact Aa (fun _ _ _ h=>fC (pD E T (show n2≤max n1 n2+1 by omega)) (show n2≤max n1 n2+1 by omega) a h) (show n2≤max n1 n2 by omega) h2
  ·rename_i fK
   obtain⟨n,h1⟩:=(cP E T).1 h
   refine⟨n+1,?_⟩
   rw[dM,yR,fC (Cu E T n) (Nat.le_succ n) a h1]
   split
   ·rename_i he;cases he;exact absurd h (fK _ _)
   ·rfl
noncomputable def anA (lo:Nat) (pf:aT) (args:List Value) (H:aE):Option (Value×aE) :=
 if args.length≤pf.ntmps then
  match code E T lo pf.body (Yr args) H with
  | some (.normal,ρ,H') | some (.ret,ρ,H')=>(rE pf.res ρ H').map (·,H')
  | _=>none
 else none
theorem Yj {f:Nat} {p:List Value→aE→Option Value} (h:E.A9 f=some p) {args:List Value}:call E T f args lo H=(p args H).map (·,H):=by
 refine Cp fun r => ?_
 rw[wA]
 constructor
 ·rintro⟨n,hr⟩
  cases n with
  | zero=>cases hr
  | succ n=>rw[mF,h] at hr;exact hr
 ·intro hr
  exact⟨1,by rw[mF,h];exact hr⟩
theorem ahS {f:Nat} {pf:aT} (hp:E.A9 f=none) (h:T f=some pf) {args:List Value}:call E T f args lo H=anA E T lo pf args H:=by
 refine Cp fun r => ?_
 rw[wA]
 unfold anA
 constructor
 ·rintro⟨n,hr⟩
  cases n with
  | zero=>cases hr
  |
   succ n =>
   rw[mF,hp,h] at hr
   simp only at hr
   split at hr
   ·rename_i ha
    rw[if_pos ha]
    split at hr
    ·rename_i h1
     rw[(cP E T).2 ⟨n,h1⟩]
     exact hr
    ·rename_i h1
     rw[(cP E T).2 ⟨n,h1⟩]
     exact hr
    ·cases hr
   ·cases hr
 ·intro hr
  split at hr
  ·rename_i ha
   split at hr
   ·rename_i h1
    obtain⟨n,h1⟩:=(cP E T).1 h1
    exact⟨n+1,by rw[mF,hp,h];simp only;rw[if_pos ha,h1];exact hr⟩
   ·rename_i h1
    obtain⟨n,h1⟩:=(cP E T).1 h1
    exact⟨n+1,by rw[mF,hp,h];simp only;rw[if_pos ha,h1];exact hr⟩
   ·cases hr
  ·cases hr
end
end Go.PM
namespace Go.PM
theorem EH {H H':aE} {lo kE b o:Nat} {new:List Value} (hl:kE≤lo) (h:H.write lo b o new=some H'):H.write kE b o new=some H':=by
 unfold aE.write at h ⊢
 split at h
 ·split at h
  ·rename_i hc
   rw[if_pos ⟨by omega,hc.2⟩]
   exact h
  ·cases h
 ·cases h
theorem Cy {α β:Type} {a b:Option α} {f:α→β} {r:β} (GH:∀x,a=some x→b=some x) (h:a.map f=some r):b.map f=some r:=by
 cases a with
 | none=>cases h
 | some x=>rw[GH x rfl];exact h
theorem Kb {lo kE size bytes add:Nat} {x:Value} {new:List Value} {H:aE} {r:Value×aE} (hl:kE≤lo) (h:eR lo size bytes x add new H=some r):eR kE size bytes x add new H=some r:=by
 unfold eR at h ⊢
 split at h
 case isFalse=>cases h
 rename_i hc
 rw[if_pos hc]
 split at h
 ·exact h
 ·split at h
  ·split at h
   ·rename_i h1
    skip
    rw[if_pos h1]
    split at h
    ·rename_i h2
     rw[if_pos h2]
     split at h
     ·rename_i h3;rw[if_pos h3];exact h
     ·rename_i h3
      rw[if_neg h3]
      exact Cy (fun H' hw=>EH hl hw) h
    ·rename_i h2
     rw[if_neg h2]
     split at h
     ·rename_i h3
      rw[if_pos h3]
      split at h
      ·rename_i h4
       rw[if_pos h4]
       split at h
       ·rename_i h5;rw[if_pos (by omega)];exact h
       ·cases h
      ·rename_i h4;rw[if_neg h4];exact h
     ·cases h
   ·cases h
  ·cases h
 ·cases h
theorem XW {lo kE:Nat} {p:nS} {ρ:Env} {H:aE} {o:Out} (hl:kE≤lo) (h:pop lo p ρ H=some o):pop kE p ρ H=some o:=by
 cases p<;>first | exact h | skip
 case store size q v =>
  simp only[pop] at h ⊢
  split at h
  ·split at h
   ·rename_i h1
    skip
    rw[if_pos h1]
    exact Cy (fun H' hw=>EH hl hw) h
   ·cases h
  ·cases h
 case app size bytes x y =>
  simp only[pop] at h ⊢
  split at h
  ·split at h
   ·skip
    exact Cy (fun H' hw=>Kb hl hw) h
   ·cases h
  ·cases h
 case appz z bytes x n =>
  simp only[pop] at h ⊢
  split at h
  ·split at h
   ·rename_i h1
    skip
    rw[if_pos h1]
    exact Cy (fun H' hw=>Kb hl hw) h
   ·cases h
  ·cases h
 case copy size x y =>
  simp only[pop] at h ⊢
  split at h
  ·exact h
  ·split at h
   ·skip
    exact Cy (fun H' hw=>EH hl hw) h
   ·cases h
  ·cases h
 case clear z x =>
  simp only[pop] at h ⊢
  split at h
  ·exact h
  ·skip
   split at h
   ·rename_i h1;rw[if_pos h1];exact h
   ·rename_i h1
    rw[if_neg h1]
    exact Cy (fun H' hw=>EH hl hw) h
  ·cases h
def aaV (c:gJ):Prop:=∀f args lo kE H r,kE≤lo→c f args lo H=some r→c f args kE H=some r
section
variable {c:gJ} {lo kE:Nat}
theorem Lp (hc:aaV c) (hl:kE≤lo):∀ {is:List PI} {ρ:Env} {H:aE} {r:Env×aE},iB c lo is ρ H=some r→iB c kE is ρ H=some r
 | [],_,_,_,h=>h
 |
  i::is,ρ,H,r,h=>by
  rw[iB] at h ⊢
  split at h
  ·rename_i xY H1 h1
   have e:yX c kE i ρ H=some (xY,H1):=by
    unfold yX at h1 ⊢
    split at h1
    ·rename_i v H2 hv
     have:Ai c kE i ρ H=some (v,H2):=by
      unfold Ai at hv ⊢
      split at hv
      ·cases hv
      ·exact hv
      ·split at hv
       ·rename_i Rx
        rw[if_pos Rx]
        split at hv
        ·rename_i hp;rw[XW hl hp];exact hv
        ·rename_i hp
         rw[XW hl hp]
         show c _ _ (if i.quiet=true then H.length else kE) H=_
         cases hq:i.quiet with
         | true=>rw[hq] at hv;exact hv
         | false=>rw[hq] at hv;exact hc _ _ _ _ _ _ hl hv
        ·cases hv
       ·cases hv
     rw[this]
     exact h1
    ·cases h1
   rw[e]
   exact Lp hc hl h
  ·cases h
theorem Zz {b b':Env→aE→Option (Ex×Env×aE)} (h:∀ρ H r,b ρ H=some r→b' ρ H=some r):∀ {n:Nat} {ρ:Env} {H:aE} {r:Ex×Env×aE},yR b n ρ H=some r→yR b' n ρ H=some r :=
 fun hr=>Aa h (Nat.le_refl _) hr
theorem nP (hc:aaV c) (hl:kE≤lo) {n:Nat}:∀(p:aD) {ρ:Env} {H:aE} {r:Ex×Env×aE},dM c lo n p ρ H=some r→dM c kE n p ρ H=some r
 | .skip,_,_,_,hr=>hr
 |
  .dI ops,ρ,H,r,hr=>by
  rw[dM] at hr ⊢
  exact Cy (fun _ h=>Lp hc hl h) hr
 |
  .seq a b,ρ,H,r,hr=>by
  rw[dM] at hr ⊢
  split at hr
  ·rename_i h1
   rw[nP hc hl a h1]
   exact nP hc hl b hr
  ·rename_i fK
   rw[nP hc hl a hr]
   split
   ·rename_i he;cases he;exact absurd hr (fK _ _)
   ·rfl
 |
  .cond x a b,ρ,H,r,hr=>by
  rw[dM] at hr ⊢
  split at hr
  ·split at hr
   ·rename_i ht;rw[if_pos ht];exact nP hc hl a hr
   ·rename_i ht;rw[if_neg ht];exact nP hc hl b hr
  ·cases hr
 |
  .block id a,ρ,H,r,hr=>by
  rw[dM] at hr ⊢
  split at hr
  ·rename_i h1
   rw[nP hc hl a h1]
   exact hr
  ·rename_i fK
   rw[nP hc hl a hr]
   split
   ·rename_i he;cases he;exact absurd hr (fK _ _ _)
   ·rfl
 |
  .loop a,ρ,H,r,hr=>by
  rw[dM] at hr ⊢
  exact Zz (fun ρ H r hr=>nP hc hl a hr) hr
 | .exit id,_,_,_,hr=>hr
 | .ret,_,_,_,hr=>hr
end
theorem IX (E:BM) (T:Tab):∀n,aaV (mF E T n)
 | 0,_,_,_,_,_,_,_,h=>by cases h
 |
  n+1,f,args,lo,kE,H,r,hl,h=>by
  rw[mF] at h ⊢
  split at h
  ·exact h
  ·split at h
   ·cases h
   ·split at h
    ·rename_i pf _ ha
     rw[if_pos ha]
     split at h
     ·rename_i h1;rw[nP (IX E T n) hl pf.body h1];exact h
     ·rename_i h1;rw[nP (IX E T n) hl pf.body h1];exact h
     ·cases h
    ·cases h
section
variable {E:BM} {T:Tab}
theorem aeO {f:Nat} {args:List Value} {lo kE:Nat} {H:aE} {r:Value×aE} (hl:kE≤lo) (h:call E T f args lo H=some r):call E T f args kE H=some r:=by
 obtain⟨n,hn⟩:=(wA E T).1 h
 exact(wA E T).2 ⟨n,IX E T n f args lo kE H r hl hn⟩
theorem abJ {f:Nat} {args:List Value} {lo:Nat} {H H':aE} {v:Value} (h:call E T f args lo H=some (v,H')):Ext lo H H':=by
 obtain⟨n,hn⟩:=(wA E T).1 h
 exact EW E T n f args lo H v H' hn
theorem Ext.more {H H':aE} (h:Ext H.length H H'):∃K,H'=H++K:=by
 refine⟨H'.drop H.length,?_⟩
 apply List.ext_getElem?
 intro i
 rcases Nat.lt_or_ge i H.length with hi | hi
 ·rw[List.getElem?_append_left hi]
  exact h.low i hi hi
 ·rw[List.getElem?_append_right hi,List.getElem?_drop,show H.length+(i-H.length)=i by omega]
def Xt (E:BM) (T:Tab) (f:Nat) (args:List Value) (H:aE) (R:Value→aE→Prop):Prop :=
 ∃v K,call E T f args H.length H=some (v,H++K)∧R v (H++K)
theorem Xt.at {f:Nat} {args:List Value} {H:aE} {R:Value→aE→Prop} (h:Xt E T f args H R) {lo:Nat} (hl:lo≤H.length):∃v K,call E T f args lo H=some (v,H++K)∧R v (H++K):=by
 obtain⟨v,K,h1,h2⟩:=h
 exact⟨v,K,aeO hl h1,h2⟩
theorem Xt.mk {f:Nat} {args:List Value} {H H':aE} {v:Value} {R:Value→aE→Prop} (h:call E T f args H.length H=some (v,H')) (hr:R v H'):Xt E T f args H R:=by
 obtain⟨K,rfl⟩:=(abJ h).more
 exact⟨v,K,h,hr⟩
end
end Go.PM
namespace Go.PM
def strCells:List Value→Option (List ByteArray)
 | []=>some []
 | .string s::r=>(strCells r).map (s :: ·)
 | _=>none
def vR:List Value→aE→Option Value
 | [.int .u64 n,.int .i64 b],_=>if b=10∧0≤n∧n<18446744073709551616 then some (.string ⟨(Lib.decDigits n.toNat).toArray⟩) else none
 | _,_=>none
def HX:List Value→aE→Option Value
 | [.string s,.int .i64 c],_=>if 0≤c∧c≤9223372036854775807∧s.size*c.toNat≤140737488355328 then some (.string ⟨(Lib.repeatL s.data.toList c.toNat).toArray⟩) else none
 | _,_=>none
def Dw:List Value→aE→Option Value
 | [.int .u32 x],_=>if 0≤x∧x≤4294967295 then some (.int .i64 (32-(Lib.bitLen x.toNat:Int))) else none
 | _,_=>none
def Tr:List Value→aE→Option Value
 | [.slice none 0 0,.string _],_=>some (.string ⟨#[]⟩)
 |
  [.slice (some ⟨b,o,none⟩) n c,.string sep],H =>
  if n=0 then some (.string ⟨#[]⟩) else
  match (H.read b o n).bind strCells with
  | some xs=>if xs.length=n∧n≤c∧n≤140737488355328∧(Lib.join (xs.map (·.data.toList)) sep.data.toList).length≤140737488355328 then some (.string ⟨(Lib.join (xs.map (·.data.toList)) sep.data.toList).toArray⟩) else none
  | none=>none
 | _,_=>none
def QG:List Value→aE→Option Value
 |
  [.string s,.string p],_=>match p.data.toList with
  | [c]=>some (.int .i64 (Lib.indexByte s.data.toList c))
  | _=>none
 | _,_=>none
def yP:List Value→aE→Option Value
 |
  [.string s,.int .i64 b,.int .i64 z],_=>if b=10∧z=64∧s.size≤9223372036854775806 then
   match Lib.parseUintB 64 s.data.toList with
   | .ok u=>some (.tuple #[.int .u64 (u:Int),.nilIface])
   | _=>none
  else none
 | _,_=>none
end Go.PM
namespace Go.PM
open Go.Proofs
def ayW:List Nat:=[]
 ++ [200]
 ++ [204]
 ++ [205]
 ++ [95]
 ++ [90]
 ++ [118]
 ++ [134]
 ++ [179]
def JO (f:Nat):Option (List Value→aE→Option Value) :=
 if f=214 then some vR else
 if f=215 then some HX else
 if f=217 then some Tr else
 if f=198 then some Dw else
 if f=209 then some QG else
 if f=192 then some yP else
 (fun _=>none) f
def cfg:BM:={ A9:=JO,eff:=fun f=>ayW.contains f }
noncomputable def fM:Tab:=fun f=>if (JO f).isSome then none else S8 Tryz.prog cfg f
theorem aqO (f:Nat) (pf:aT) (h:fM f=some pf):S8 Tryz.prog cfg f=some pf:=by
 unfold fM at h
 split at h
 ·cases h
 ·exact h
theorem U1 {f:Nat} {pf:aT} (h:fM f=some pf):cfg.A9 f=none:=by
 unfold fM at h
 split at h
 ·cases h
 ·rename_i h1
  show JO f=none
  cases hp:JO f with
  | none=>rfl
  | some p=>rw[hp] at h1;exact absurd rfl h1
end Go.PM
namespace Go.PM
noncomputable abbrev rS:gJ:=call cfg fM
def W (lo:Nat) (c:aD) (Q:Ex→Env→aE→Prop) (ρ:Env) (H:aE):Prop:=∃x bL H',code cfg fM lo c ρ H=some (x,bL,H')∧Q x bL H'
def WS (lo:Nat) (is:List PI) (K:Env→aE→Prop) (ρ:Env) (H:aE):Prop:=∃bL H',iB rS lo is ρ H=some (bL,H')∧K bL H'
def aAH (lo:Nat) (b:aD) (Q:Ex→Env→aE→Prop):Ex→Env→aE→Prop
 | .normal,ρ,H=>W lo b Q ρ H
 | x,ρ,H=>Q x ρ H
def avE (id:Nat) (Q:Ex→Env→aE→Prop):Ex→Env→aE→Prop
 | .exit Sm,ρ,H=>if Sm=id then Q .normal ρ H else Q (.exit Sm) ρ H
 | x,ρ,H=>Q x ρ H
def aAI (res:List BE) (R:Value→aE→Prop):Ex→Env→aE→Prop
 | .exit _,_,_=>False
 | _,ρ,H=>∃v,rE res ρ H=some v∧R v H
def asZ (J:Env→aE→Prop) (Q:Ex→Env→aE→Prop):Ex→Env→aE→Prop
 | .normal,ρ,H=>J ρ H
 | x,ρ,H=>Q x ρ H
section
variable {lo:Nat} {Q:Ex→Env→aE→Prop} {K:Env→aE→Prop} {ρ:Env} {H:aE} {b:aD} {id:Nat} {R:Value→aE→Prop} {res:List BE} {J:Env→aE→Prop}
theorem IF {i:Nat}:avE id Q (.exit i) ρ H=if i=id then Q .normal ρ H else Q (.exit i) ρ H:=rfl
theorem aoS:W lo .skip Q ρ H=Q .normal ρ H:=by
 unfold W
 rw[Yz]
 exact propext ⟨fun⟨_,_,_,h,hq⟩=>(by cases h;exact hq),fun h=>⟨_,_,_,rfl,h⟩⟩
theorem apX {i:Nat}:W lo (.exit i) Q ρ H=Q (.exit i) ρ H:=by
 unfold W
 rw[Zq]
 exact propext ⟨fun⟨_,_,_,h,hq⟩=>(by cases h;exact hq),fun h=>⟨_,_,_,rfl,h⟩⟩
theorem arZ:W lo .ret Q ρ H=Q .ret ρ H:=by
 unfold W
 rw[afE]
 exact propext ⟨fun⟨_,_,_,h,hq⟩=>(by cases h;exact hq),fun h=>⟨_,_,_,rfl,h⟩⟩
theorem asB {ops:List PI}:W lo (.dI ops) Q ρ H=WS lo ops (Q .normal) ρ H:=by
 unfold W WS
 rw[agH]
 apply propext
 constructor
 ·rintro⟨x,bL,H',h,hq⟩
  cases hs:iB (call cfg fM) lo ops ρ H with
  | none=>rw[hs] at h;cases h
  |
   some q =>
   rw[hs] at h
   cases h
   exact⟨_,_,rfl,hq⟩
 ·rintro⟨bL,H',h,hq⟩
  exact⟨_,_,_,by rw[h];rfl,hq⟩
theorem avG {a:aD}:W lo (.seq a b) Q ρ H=W lo a (aAH lo b Q) ρ H:=by
 unfold W
 rw[agN]
 apply propext
 constructor
 ·rintro⟨x,bL,H',h,hq⟩
  split at h
  ·rename_i xY H1 h1
   exact⟨_,_,_,h1,x,bL,H',h,hq⟩
  ·rename_i fK
   refine⟨x,bL,H',h,?_⟩
   cases x with
   | normal=>exact absurd h (fK _ _)
   | exit i=>exact hq
   | ret=>exact hq
 ·rintro⟨x,bL,H',h,hq⟩
  rw[h]
  cases x with
  | normal=>exact hq
  | exit i=>exact⟨_,_,_,rfl,hq⟩
  | ret=>exact⟨_,_,_,rfl,hq⟩
theorem akV {a:aD}:W lo (.block id a) Q ρ H=W lo a (avE id Q) ρ H:=by
 unfold W
 rw[Vv]
 apply propext
 constructor
 ·rintro⟨x,bL,H',h,hq⟩
  split at h
  ·rename_i Sm xY H1 h1
   refine⟨_,_,_,h1,?_⟩
   rw[IF]
   split at h
   ·rename_i he;cases h;rw[if_pos he];exact hq
   ·rename_i he;cases h;rw[if_neg he];exact hq
  ·rename_i fK
   refine⟨x,bL,H',h,?_⟩
   cases x with
   | normal=>exact hq
   | exit i=>exact absurd h (fK _ _ _)
   | ret=>exact hq
 ·rintro⟨x,bL,H',h,hq⟩
  rw[h]
  cases x with
  | normal=>exact⟨_,_,_,rfl,hq⟩
  |
   exit i =>
   rw[IF] at hq
   show ∃x BB H'',(if i=id then some (Ex.normal,bL,H') else some (Ex.exit i,bL,H'))=some (x,BB,H'')∧Q x BB H''
   split at hq
   ·rename_i he;rw[if_pos he];exact⟨_,_,_,rfl,hq⟩
   ·rename_i he;rw[if_neg he];exact⟨_,_,_,rfl,hq⟩
  | ret=>exact⟨_,_,_,rfl,hq⟩
theorem apT {x:Operand} {a:aD}:W lo (.cond x a b) Q ρ H=∃t,ev ρ x = .bool t∧((t=true→W lo a Q ρ H)∧(t=false→W lo b Q ρ H)):=by
 unfold W
 rw[YA]
 apply propext
 constructor
 ·rintro⟨y,bL,H',h,hq⟩
  split at h
  ·rename_i t ht
   cases t with
   | true=>exact⟨true,ht,fun _=>⟨y,bL,H',h,hq⟩,fun h=>by cases h⟩
   | false=>exact⟨false,ht,fun h=>(by cases h),fun _=>⟨y,bL,H',h,hq⟩⟩
  ·cases h
 ·rintro⟨t,ht,h1,h2⟩
  rw[ht]
  cases t with
  | true=>exact h1 rfl
  | false=>exact h2 rfl
theorem W.mono {Q':Ex→Env→aE→Prop} {c:aD} (h:W lo c Q ρ H) (hq:∀x ρ H,Q x ρ H→Q' x ρ H):W lo c Q' ρ H:=by
 obtain⟨x,bL,H',h1,h2⟩:=h
 exact⟨x,bL,H',h1,hq _ _ _ h2⟩
noncomputable def jZ (lo:Nat) (q:Bool) (op:nS) (ρ:Env) (H:aE):Option (Value×aE) :=
 match pop lo op ρ H with
 | some (.val v H')=>some (v,H')
 | some (.call f args)=>rS f args (if q then H.length else lo) H
 | none=>none
theorem anE:WS lo [] K ρ H=K ρ H:=by
 unfold WS
 apply propext
 constructor
 ·rintro⟨bL,H',h,hk⟩;cases h;exact hk
 ·intro h;exact⟨ρ,H,rfl,h⟩
theorem avR {i:PI} {is:List PI}:WS lo (i::is) K ρ H=∃v H',Ai rS lo i ρ H=some (v,H')∧WS lo is K (put ρ i.dst v) H':=by
 unfold WS
 apply propext
 constructor
 ·rintro⟨bL,H',h,hk⟩
  rw[iB] at h
  split at h
  ·rename_i xY H1 h1
   obtain⟨v,hv,rfl⟩:=yQ h1
   exact⟨v,H1,hv,bL,H',h,hk⟩
  ·cases h
 ·rintro⟨v,H1,hv,bL,H',h,hk⟩
  refine⟨bL,H',?_,hk⟩
  rw[iB]
  unfold yX
  rw[hv]
  exact h
variable {q:Bool}
theorem dN {op:nS} (h:uO op=true):jZ lo q op ρ H=(iX op ρ).map (·,H):=by
 unfold jZ
 rw[yB h]
 cases iX op ρ<;>rfl
theorem akP {x:Operand}:jZ lo q (.mv x) ρ H=some (ev ρ x,H):=rfl
theorem YT {c a b:Operand}:jZ lo q (.pick c a b) ρ H=(match ev ρ c with | .bool t=>some ((if t=true then ev ρ a else ev ρ b),H) | _=>none):=by
 rw[dN rfl]
 simp only[iX]
 cases ev ρ c<;>rfl
theorem aaQ {op:BinOp} {x y:Operand}:jZ lo q (.bin op x y) ρ H=(dG op (ev ρ x) (ev ρ y)).map (·,H):=dN rfl
theorem aiX {op:UnOp} {x:Operand}:jZ lo q (.un op x) ρ H=(pun op (ev ρ x)).map (·,H):=dN rfl
theorem ZM {f:Nat} {args:List Operand}:jZ lo q (.call f args) ρ H=rS f (args.map (ev ρ)) (if q then H.length else lo) H:=rfl
end
theorem aeA {f lo:Nat} {pf:aT} {args:List Value} {H:aE} {R:Value→aE→Prop} (ht:fM f=some pf) (ha:args.length≤pf.ntmps) (h:W lo pf.body (aAI pf.res R) (Yr args) H):∃v H',rS f args lo H=some (v,H')∧R v H':=by
 obtain⟨x,bL,H',h1,h2⟩:=h
 show ∃v H',call cfg fM f args lo H=some (v,H')∧R v H'
 rw[ahS cfg fM (U1 ht) ht]
 unfold anA
 rw[if_pos ha,h1]
 cases x with
 | exit i=>exact h2.elim
 |
  normal =>
  obtain⟨v,h3,h4⟩:=h2
  exact⟨v,H',by simp only;rw[h3];rfl,h4⟩
 |
  ret =>
  obtain⟨v,h3,h4⟩:=h2
  exact⟨v,H',by simp only;rw[h3];rfl,h4⟩
end Go.PM
namespace Go.PM
theorem wrap64 {x:Int} (h1 : -9223372036854775808≤x) (h2:x≤9223372036854775807):IntKind.i64.wrap x=x:=by
 rw[IntKind.wrap_i64]
 omega
section
variable {k:IntKind} {a b:Int}
theorem S9:dG .add (.int k a) (.int k b)=some (.int k (k.wrap (a+b))):=by simp[dG]
theorem TV:dG .sub (.int k a) (.int k b)=some (.int k (k.wrap (a-b))):=by simp[dG]
theorem T6:dG .mul (.int k a) (.int k b)=some (.int k (k.wrap (a*b))):=by simp[dG]
theorem TB (h:b≠0):dG .rem (.int k a) (.int k b)=some (.int k (a.tmod b)):=by simp[dG,h]
theorem Sv:dG .lss (.int k a) (.int k b)=some (.bool (decide (a<b))):=by simp[dG]
theorem RW:dG .leq (.int k a) (.int k b)=some (.bool (decide (a≤b))):=by simp[dG]
theorem Sz:dG .gtr (.int k a) (.int k b)=some (.bool (decide (b<a))):=by simp[dG]
theorem Sw:dG .geq (.int k a) (.int k b)=some (.bool (decide (b≤a))):=by simp[dG]
theorem TN:dG .eql (.int k a) (.int k b)=some (.bool (decide (a=b))):=by
 simp only[dG,if_true]
 rfl
theorem Ub:dG .neq (.int k a) (.int k b)=some (.bool (!decide (a=b))):=by
 simp only[dG,if_true]
 rfl
theorem XB:pun .neg (.int k a)=some (.int k (k.wrap (0-a))):=rfl
theorem Xr {t:Bool}:pun .not (.bool t)=some (.bool (!t)):=rfl
end
def apJ:Value→Option Value
 | .slice _ n _=>some (.int .i64 n)
 | _=>none
def N9 (neg:Bool):Value→Value→Option Value
 | .bool a,.bool b=>some (.bool ((a == b) != neg))
 | _,_=>none
def aaF (neg:Bool):Value→Option Value
 | .slice none _ _=>some (.bool (true != neg))
 | .slice (some _) _ _=>some (.bool (false != neg))
 | _=>none
def adD (neg:Bool) (ks:List CK):Value→Value→Option Value
 | .agg a,.agg b=>(pU ks a.toList b.toList).map fun t => .bool (t != neg)
 | _,_=>none
def UB (k:IntKind):Value→Option Value
 | .int _ n=>some (.int k (k.wrap n))
 | _=>none
def anS (i:Nat):Value→Option Value
 | .tuple vs=>vs[i]?
 | _=>none
def akJ (agg:Bool) (off size:Nat):Value→Option Value
 | .agg cs=>if agg then (if off+size≤cs.size then some (.agg (cs.extract off (off+size))) else none) else cs[off]?
 | _=>none
def asN:Value→Option Value
 | .pointer (some a)=>some (.pointer (some a))
 | _=>none
def abA (off:Nat):Value→Option Value
 | .pointer (some ⟨b,o,none⟩)=>some (.pointer (some ⟨b,o+off,none⟩))
 | _=>none
def Ra (size:Nat):Value→Value→Option Value
 | .slice (some ⟨b,o,none⟩) n _,.int _ i=>if 0≤i∧i<n then some (.pointer (some ⟨b,o+i.toNat*size,none⟩)) else none
 | _,_=>none
def Si:Value→Value→Option Value
 | .int k a,.int _ b=>some (.int k (if b<a then b else a))
 | _,_=>none
def SN:Value→Value→Option Value
 | .int k a,.int _ b=>some (.int k (if b>a then b else a))
 | _,_=>none
section
variable {lo:Nat} {ρ:Env} {H:aE} {q:Bool}
theorem pL {op:nS} {r:Option (Value×aE)} (h:pop lo op ρ H=r.map fun(v,H') => .val v H'):jZ lo q op ρ H=r:=by
 unfold jZ
 rw[h]
 cases r<;>rfl
theorem aaB {x:Operand}:jZ lo q (.len x) ρ H=(apJ (ev ρ x)).map (·,H):=dN rfl
theorem abQ {neg:Bool} {x y:Operand}:jZ lo q (.eqb neg x y) ρ H=(N9 neg (ev ρ x) (ev ρ y)).map (·,H):=dN rfl
theorem Wc {neg:Bool} {x:Operand}:jZ lo q (.isnil neg x) ρ H=(aaF neg (ev ρ x)).map (·,H):=dN rfl
theorem VJ {neg:Bool} {ks:List CK} {x y:Operand}:jZ lo q (.eqagg neg ks x y) ρ H=(adD neg ks (ev ρ x) (ev ρ y)).map (·,H):=dN rfl
theorem abT {k:IntKind} {x:Operand}:jZ lo q (.cvt k x) ρ H=(UB k (ev ρ x)).map (·,H):=dN rfl
theorem acP {i:Nat} {x:Operand}:jZ lo q (.ext x i) ρ H=(anS i (ev ρ x)).map (·,H):=dN rfl
theorem afK {agg:Bool} {off size:Nat} {x:Operand}:jZ lo q (.fld agg off size x) ρ H=(akJ agg off size (ev ρ x)).map (·,H):=dN rfl
theorem Wz {z:List Value} {places:List (Nat×Nat)} {parts:List (Nat×Operand)}:jZ lo q (.build z places parts) ρ H=((wT places z (parts.map fun(i,x)=>(i,ev ρ x))).map fun cs=>Value.agg cs.toArray).map (·,H):=dN rfl
theorem acA {x:Operand}:jZ lo q (.chk x) ρ H=(asN (ev ρ x)).map (·,H):=dN rfl
theorem U0 {off:Nat} {x:Operand}:jZ lo q (.faddr off x) ρ H=(abA off (ev ρ x)).map (·,H):=dN rfl
theorem UH {size:Nat} {x i:Operand}:jZ lo q (.iaddr size x i) ρ H=(Ra size (ev ρ x) (ev ρ i)).map (·,H):=dN rfl
theorem Zs {f:Nat} {fY:List Operand}:jZ lo q (.mkfn f fY) ρ H=some (.func (.func f) #[] (fY.map (ev ρ)).toArray,H):=dN rfl
theorem aaY {x y:Operand}:jZ lo q (.min x y) ρ H=(Si (ev ρ x) (ev ρ y)).map (·,H):=dN rfl
theorem aaG {x y:Operand}:jZ lo q (.max x y) ρ H=(SN (ev ρ x) (ev ρ y)).map (·,H):=dN rfl
theorem Zu {agg:Bool} {size:Nat} {p:Operand}:jZ lo q (.load agg size p) ρ H=(oK agg size (ev ρ p) H).map (·,H):=by
 unfold jZ
 simp only[pop]
 cases oK agg size (ev ρ p) H<;>rfl
theorem aeR {size:Nat} {x:Operand} {l h m:Option Operand}:jZ lo q (.sub size x l h m) ρ H=Dk size (ev ρ x) (l.map (ev ρ)) (h.map (ev ρ)) (m.map (ev ρ)) H:=by
 unfold jZ
 simp only[pop]
 cases Dk size (ev ρ x) (l.map (ev ρ)) (h.map (ev ρ)) (m.map (ev ρ)) H<;>rfl
theorem aeC {z:List Value}:jZ lo q (.new z) ρ H=some (.pointer (some ⟨H.length,0,none⟩),H++[.row z z.length false]):=rfl
theorem afU {x:Operand}:jZ lo q (.box x) ρ H=if (aR (ev ρ x)).all fZ then some (.pointer (some ⟨H.length,0,none⟩),H++[.row (aR (ev ρ x)) (aR (ev ρ x)).length false]) else none:=by
 apply pL
 simp only[pop]
 by_cases h:(aR (ev ρ x)).all fZ=true
 ·rw[if_pos h,if_pos h];rfl
 ·rw[if_neg h,if_neg h];rfl
def Xl (z:List Value) (bytes:Nat) (l c:Value) (H:aE):Option (Value×aE) :=
 match l,c with
 | .int .i64 l,.int .i64 c=>if 0≤l∧l≤c∧c*bytes≤281474976710656∧c≤9223372036854775807 then
  some (.slice (some ⟨H.length,0,none⟩) l.toNat c.toNat,H++[.row (dA c.toNat z) z.length false]) else none
 | _,_=>none
theorem Y4 {z:List Value} {bytes:Nat} {l c:Operand}:jZ lo q (.make z bytes l c) ρ H=Xl z bytes (ev ρ l) (ev ρ c) H:=by
 apply pL
 simp only[pop]
 unfold Xl
 split
 ·rename_i l c h1 h2
  simp only[h1,h2]
  split<;>rfl
 ·rename_i h1
  split
  ·rename_i h2 h3
   exact(h1 _ _ h2 h3).elim
  ·rfl
def ajH (z:List Value) (n:Nat) (parts:List (Nat×Value)) (H:aE):Option (Value×aE) :=
 match wT ((List.range n).map fun i=>(i*z.length,z.length)) (dA n z) parts with
 | some cs=>if cs.all fZ then some (.slice (some ⟨H.length,0,none⟩) n n,H++[.row cs z.length false]) else none
 | none=>none
theorem agM {z:List Value} {n:Nat} {parts:List (Nat×Operand)}:jZ lo q (.lit z n parts) ρ H=ajH z n (parts.map fun(i,x)=>(i,ev ρ x)) H:=by
 apply pL
 simp only[pop]
 unfold ajH
 split
 ·rename_i cs h1
  simp only[h1]
  split<;>rfl
 ·rename_i h1
  simp only[h1]
  rfl
def Gq (lo size:Nat) (p v:Value) (H:aE):Option (Value×aE) :=
 match p with
 | .pointer (some ⟨b,o,none⟩)=>if (aR v).length=size then (H.write lo b o (aR v)).map fun H'=>(undef,H') else none
 | _=>none
theorem VD {size:Nat} {p v:Operand}:jZ lo q (.store size p v) ρ H=Gq lo size (ev ρ p) (ev ρ v) H:=by
 apply pL
 simp only[pop]
 unfold Gq
 split
 ·rename_i b o h1
  simp only[h1]
  split
  ·cases H.write lo b o (aR (ev ρ v))<;>rfl
  ·rfl
 ·rename_i h1
  split
  ·rename_i h2
   exact(h1 _ _ h2).elim
  ·rfl
def apB (lo size bytes:Nat) (x y:Value) (H:aE):Option (Value×aE) :=
 match sJ y with
 |
  some n=>match jP H size n y with
  | some new=>eR lo size bytes x n new H
  | none=>none
 | none=>none
theorem aaD {size bytes:Nat} {x y:Operand}:jZ lo q (.app size bytes x y) ρ H=apB lo size bytes (ev ρ x) (ev ρ y) H:=by
 apply pL
 simp only[pop]
 unfold apB
 cases sJ (ev ρ y) with
 | none=>rfl
 |
  some n =>
  cases hs:jP H size n (ev ρ y) with
  | none=>simp only[hs];rfl
  | some new=>simp only[hs]
def acI (lo:Nat) (z:List Value) (bytes:Nat) (x n:Value) (H:aE):Option (Value×aE) :=
 match n with
 | .int .i64 n=>if 0≤n∧n*bytes≤140737488355328 then eR lo z.length bytes x n.toNat (dA n.toNat z) H else none
 | _=>none
theorem Zh {z:List Value} {bytes:Nat} {x n:Operand}:jZ lo q (.appz z bytes x n) ρ H=acI lo z bytes (ev ρ x) (ev ρ n) H:=by
 apply pL
 simp only[pop]
 unfold acI
 split
 ·rename_i n h1
  simp only[h1]
  split<;>rfl
 ·rename_i h1
  split
  ·rename_i h2
   exact(h1 _ h2).elim
  ·rfl
def copyV (lo size:Nat) (x y:Value) (H:aE):Option (Value×aE) :=
 match x,sJ y with
 | .slice none _ _,some _=>some (.int .i64 0,H)
 |
  .slice (some ⟨b,o,none⟩) d _,some s=>match jP H size (Nat.min s d) y with
  | some new=>(H.write lo b o new).map fun H'=>(.int .i64 (Nat.min s d),H')
  | none=>none
 | _,_=>none
theorem ZA {size:Nat} {x y:Operand}:jZ lo q (.copy size x y) ρ H=copyV lo size (ev ρ x) (ev ρ y) H:=by
 apply pL
 simp only[pop]
 unfold copyV
 split
 ·rename_i h1 h2
  simp only[h1,h2]
  rfl
 ·rename_i b o d _ s h1 h2
  simp only[h1,h2]
  cases hs:jP H size (Nat.min s d) (ev ρ y) with
  | none=>rfl
  |
   some new =>
   simp only
   cases H.write lo b o new<;>rfl
 ·rename_i h1 h2
  split
  ·rename_i h3 h4
   exact(h1 _ _ _ h3 h4).elim
  ·rename_i h3 h4
   exact(h2 _ _ _ _ _ h3 h4).elim
  ·rfl
def Ro (lo:Nat) (z:List Value) (x:Value) (H:aE):Option (Value×aE) :=
 match x with
 | .slice none _ _=>some (undef,H)
 | .slice (some ⟨b,o,none⟩) n _=>if n=0 then some (undef,H) else (H.write lo b o (dA n z)).map fun H'=>(undef,H')
 | _=>none
theorem U4 {z:List Value} {x:Operand}:jZ lo q (.clear z x) ρ H=Ro lo z (ev ρ x) H:=by
 apply pL
 simp only[pop]
 unfold Ro
 split
 ·rename_i h1
  simp only[h1]
  rfl
 ·rename_i b o n _ h1
  simp only[h1]
  split
  ·rfl
  ·cases H.write lo b o (dA n z)<;>rfl
 ·rename_i h1 h2
  split
  ·rename_i h3
   exact(h1 _ _ h3).elim
  ·rename_i h3
   exact(h2 _ _ _ _ h3).elim
  ·rfl
noncomputable def aeE (lo:Nat) (fv:Value) (args:List Value) (H:aE):Option (Value×aE) :=
 match fv with
 | .func (.func f) first fY=>rS f (first.toList++args++fY.toList) lo H
 | _=>none
theorem UZ {fv:Operand} {args:List Operand}:jZ lo q (.callv fv args) ρ H=aeE (if q then H.length else lo) (ev ρ fv) (args.map (ev ρ)) H:=by
 unfold jZ
 simp only[pop]
 unfold aeE
 generalize ev ρ fv=v
 cases v with
 | func fn f c=>cases fn<;>rfl
 | _=>rfl
end
end Go.PM
namespace Go.PM
section
variable {lo:Nat} {Q:Ex→Env→aE→Prop} {K:Env→aE→Prop} {ρ:Env} {H:aE} {q:Bool}
def avO (u v:Value):Bool:=match jG u,jG v with
 | some a,some b=>a != b
 | _,_=>true
end
theorem XD {k:IntKind} {a b:Int}:SN (.int k a) (.int k b)=some (.int k (max a b)):=by
 simp only[SN]
 congr 2
 split<;>omega
theorem Xx {k:IntKind} {a b:Int}:Si (.int k a) (.int k b)=some (.int k (min a b)):=by
 simp only[Si]
 congr 2
 split<;>omega
end Go.PM
namespace Go.PM
abbrev ptr (b o:Nat):Value := .pointer (some ⟨b,o,none⟩)
abbrev I (n:Int):Value := .int .i64 n
section
variable {H H':aE} {lo b o n size:Nat} {cs r:List Value} {L K:aE} {v:Value}
theorem Rj (hb:b<H.length):(H++L)[b]? = H[b]? := List.getElem?_append_left hb
theorem Xj {x:OB}:(H++x::L)[H.length]? = some x:=by simp
theorem acY (hb:b<H.length):(H++L).read b o n=H.read b o n:=F8 (Rj hb)
theorem BP {e:Nat} {p:Bool} (h:H[b]? = some (.row r e p)) (hn:o+n≤r.length):H.read b o n=some ((r.drop o).take n):=by
 unfold aE.read
 rw[h]
 simp only[hn,if_true]
structure DW (H:aE) (b o:Nat) (cs:List Value):Prop where
 lt:b<H.length
 rd:H.read b o cs.length=some cs
theorem DW.app (h:DW H b o cs):DW (H++L) b o cs:=⟨by have:=h.lt;simp;omega,by rw[acY h.lt];exact h.rd⟩
theorem DW.pre (h:DW H b o cs) (hp:H <+: H'):DW H' b o cs:=by
 obtain⟨L,rfl⟩:=hp
 exact h.app
theorem DW.all (h:DW H b o cs) (hs:cs.length=size):oK true size (.pointer (some ⟨b,o,none⟩)) H=some (.agg cs.toArray):=by
 subst hs
 simp only[oK,if_true,h.rd]
 rfl
theorem DW.one {u:Value} (h:DW H b o [u]):oK false size (.pointer (some ⟨b,o,none⟩)) H=some u:=by
 have:=h.rd
 simp only[List.length_cons,List.length_nil] at this
 simp only[oK,this]
 rfl
theorem DW.sub {k:Nat} {u:Value} (h:DW H b o cs) (hk:cs[k]? = some u):DW H b (o+k) [u]:=by
 refine⟨h.lt,?_⟩
 have h1:=h.rd
 unfold aE.read at h1 ⊢
 split at h1
 ·rename_i r e p hb
  split at h1
  ·rename_i hl
   have hk':=(List.getElem?_eq_some_iff.1 hk).1
   simp only[List.length_cons,List.length_nil]
   rw[if_pos (by simp;omega)]
   injection h1 with h1
   rw[←h1] at hk
   rw[List.getElem?_take,if_pos (by omega),List.getElem?_drop] at hk
   have bH:=(List.getElem?_eq_some_iff.1 hk).1
   rw[List.drop_eq_getElem_cons bH]
   simp only[List.take_succ_cons,List.take_zero]
   rw[List.getElem?_eq_getElem bH] at hk
   injection hk with hk
   rw[hk]
  ·cases h1
 ·cases h1
theorem DW.fld {k:Nat} {u:Value} (h:DW H b o cs) (hk:cs[k]? = some u):oK false size (.pointer (some ⟨b,o+k,none⟩)) H=some u:=(h.sub hk).one
theorem Ty {a:Nat} {c:Nat} {i:Int} {k:IntKind} (h0:0≤i) (h1:i<n):Ra size (.slice (some ⟨b,a,none⟩) n c) (.int k i)=some (.pointer (some ⟨b,a+i.toNat*size,none⟩)):=by
 simp only[Ra]
 rw[if_pos ⟨h0,h1⟩]
structure Arr {α:Type} (enc:α→List Value) (fR:Nat) (H:aE) (a:Option Addr) (n:Nat) (xs:List α):Prop where
 len:n=xs.length
 el:∀(i:Nat) x,xs[i]? = some x→∃b o,a=some ⟨b,o,none⟩∧DW H b (o+i*fR) (enc x)
theorem Arr.pre {α:Type} {enc:α→List Value} {fR:Nat} {a:Option Addr} {xs:List α} (h:Arr enc fR H a n xs) (hp:H <+: H'):Arr enc fR H' a n xs :=
 ⟨h.len,fun i x hx=>by obtain⟨b,o,h1,h2⟩:=h.el i x hx;exact⟨b,o,h1,h2.pre hp⟩⟩
end
structure kD where
 t:Int
 w:Int
 k:Int
 deriving DecidableEq
def cc (c:kD):List Value:=[I c.t,I c.w,I c.k]
def ci (n:Int):List Value:=[I n]
end Go.PM
namespace Go.PM
structure JZ {α:Type} (enc:α→List Value) (fR:Nat):Prop where
 len:∀x,(enc x).length=fR
 sc:∀x,(enc x).all fZ=true
 pos:1≤fR
section
variable {α:Type} {enc:α→List Value} {fR:Nat} {H H':aE} {lo b:Nat} {xs ys:List α} {p:Bool}
theorem Mz (e:JZ enc fR):(xs.flatMap enc).length=xs.length*fR:=by
 induction xs with
 | nil=>simp
 | cons x xs ih=>simp only[List.flatMap_cons,List.length_append,e.len,ih,List.length_cons,Nat.succ_mul];omega
theorem Jd (e:JZ enc fR) (i:Nat):(xs.flatMap enc).drop (i*fR)=(xs.drop i).flatMap enc:=by
 induction i generalizing xs with
 | zero=>simp
 |
  succ i ih =>
  cases xs with
  | nil=>simp
  |
   cons x xs =>
   rw[List.flatMap_cons,List.drop_succ_cons,←ih,show (i+1)*fR=(enc x).length+i*fR by rw[e.len,Nat.succ_mul];omega,List.drop_append]
   simp
theorem PQ (e:JZ enc fR) (i:Nat):(xs.flatMap enc).take (i*fR)=(xs.take i).flatMap enc:=by
 induction i generalizing xs with
 | zero=>simp
 |
  succ i ih =>
  cases xs with
  | nil=>simp
  |
   cons x xs =>
   rw[List.flatMap_cons,List.take_succ_cons,List.flatMap_cons,←ih,show (i+1)*fR=(enc x).length+i*fR by rw[e.len,Nat.succ_mul];omega,List.take_append]
   simp
   exact List.take_of_length_le (by omega)
theorem SX (e:JZ enc fR) {i:Nat} (x:α) (hi:i<xs.length):jA (xs.flatMap enc) (i*fR) (enc x)=(xs.set i x).flatMap enc:=by
 unfold jA
 rw[PQ e,e.len,show i*fR+fR=(i+1)*fR by rw[Nat.succ_mul],Jd e,List.set_eq_take_append_cons_drop,if_pos hi]
 simp
def Row (enc:α→List Value) (fR:Nat) (H:aE) (b:Nat) (p:Bool) (xs:List α):Prop:=H[b]? = some (.row (xs.flatMap enc) fR p)
theorem Row.lt (h:Row enc fR H b p xs):b<H.length:=(List.getElem?_eq_some_iff.1 h).1
theorem Row.pre (h:Row enc fR H b p xs) (hp:H <+: H'):Row enc fR H' b p xs:=by
 obtain⟨L,rfl⟩:=hp
 unfold Row
 rw[Rj h.lt]
 exact h
theorem Row.elem (h:Row enc fR H b p xs) (e:JZ enc fR) {i:Nat} {x:α} (hx:xs[i]? = some x):DW H b (i*fR) (enc x):=by
 refine⟨h.lt,?_⟩
 have hi:=(List.getElem?_eq_some_iff.1 hx).1
 have hm:(i+1)*fR≤xs.length*fR:=Nat.mul_le_mul_right _ hi
 rw[Nat.succ_mul] at hm
 rw[BP h (by rw[e.len,Mz e];omega),Jd e,e.len]
 have:=PQ (xs:=xs.drop i) e 1
 rw[Nat.one_mul] at this
 rw[this,List.drop_eq_getElem_cons hi]
 rw[List.getElem?_eq_getElem hi] at hx
 injection hx with hx
 simp[hx]
theorem Row.arr (h:Row enc fR H b p xs) (e:JZ enc fR) {n:Nat} (hn:n≤xs.length):Arr enc fR H (some ⟨b,0,none⟩) n (xs.take n):=by
 refine⟨by simp;omega,fun i x hx=>⟨b,0,rfl,?_⟩⟩
 rw[Nat.zero_add]
 refine h.elem e ?_
 rw[List.getElem?_take] at hx
 split at hx
 ·exact hx
 ·cases hx
theorem Row.store (h:Row enc fR H b p xs) (e:JZ enc fR) {i:Nat} {x:α} {u:Value} (hu:aR u=enc x) (hi:i<xs.length) (hl:lo≤b):Gq lo fR (.pointer (some ⟨b,i*fR,none⟩)) u H=some (undef,H.set b (.row ((xs.set i x).flatMap enc) fR p)):=by
 simp only[Gq,aE.write,hu,e.len,if_true]
 have h':H[b]? = some (.row (xs.flatMap enc) fR p):=h
 have hm:(i+1)*fR≤xs.length*fR:=Nat.mul_le_mul_right _ hi
 rw[Nat.succ_mul] at hm
 simp only[h']
 rw[if_pos ⟨hl,by rw[Mz e];omega,e.sc x⟩,SX e x hi]
 rfl
theorem Row.set (h:Row enc fR H b p xs) (ys:List α):Row enc fR (H.set b (.row (ys.flatMap enc) fR p)) b p ys:=by
 unfold Row
 rw[List.getElem?_set_self h.lt]
theorem TJ (e:JZ enc fR) {n:Nat} {x:α}:dA n (enc x)=(List.replicate n x).flatMap enc:=by
 have lH:=e.pos
 have hlen:=e.len x
 apply List.ext_getElem?
 intro i
 unfold dA
 rw[List.getElem?_map,hlen]
 rcases Nat.lt_or_ge i (n*fR) with hi | hi
 ·rw[List.getElem?_range hi]
  have hq:i / fR<n:=Nat.div_lt_of_lt_mul (by rw[Nat.mul_comm];exact hi)
  have h1:((List.replicate n x).flatMap enc)[i]? = (((List.replicate n x).flatMap enc).drop (i / fR*fR))[i % fR]? := by
   rw[List.getElem?_drop]
   congr 1
   rw[Nat.mul_comm]
   exact(Nat.div_add_mod i fR).symm
  have hr:i % fR<(enc x).length:=by rw[hlen];exact Nat.mod_lt _ (by omega)
  rw[h1,Jd e,List.drop_replicate,show n-i / fR=(n-i / fR-1)+1 by omega,List.replicate_succ,List.flatMap_cons,List.getElem?_append_left hr]
  simp[List.getD_eq_getElem?_getD,List.getElem?_eq_getElem hr]
 ·rw[List.getElem?_eq_none (by simpa using hi),List.getElem?_eq_none (by rw[Mz e];simpa using hi)]
  rfl
theorem Row.top {K:aE}:Row enc fR (H ++ .row (xs.flatMap enc) fR p::K) H.length p xs:=Xj
end
end Go.PM
namespace Go.PM
section
variable {H L:aE} {lo k o size:Nat} {agg:Bool} {u:Value}
end
end Go.PM
namespace Go.Proofs
open Go.Shelf
def Lk:Go.Shelf.Ren:=⟨fun | 156=>217 | 165=>232 | 166=>233 | 169=>235 | 240=>245 | 241=>246 | 276=>253 | 277=>254 | n=>n,fun | 31=>33 | 9=>9 | 3=>3 | 4=>4 | 0=>0 | 20=>20 | 72=>262 | 76=>264 | 70=>260 | 37=>187 | 75=>220 | 127=>276 | 164=>285 | 5=>5 | 80=>227 | n=>n,fun | n=>n⟩
theorem UG:Go.Proofs.Lays.n156 Tryz.prog Lk:={
 mixed:=by kernel_rfl
 f156:=Tryz.func217.trans (congrArg some (by kernel_rfl))
 f165:=Tryz.func232.trans (congrArg some (by kernel_rfl))
 f166:=Tryz.func233.trans (congrArg some (by kernel_rfl))
 f169:=Tryz.func235.trans (congrArg some (by kernel_rfl))
 f240:=Tryz.func245.trans (congrArg some (by kernel_rfl))
 f241:=Tryz.func246.trans (congrArg some (by kernel_rfl))
 f276:=Tryz.func253.trans (congrArg some (by kernel_rfl))
 f277:=Tryz.func254.trans (congrArg some (by kernel_rfl))
 t0:=Tryz.underlying0
 a0:=Tryz.isAgg0
 z0:=Tryz.sizeOf0
 v0:=Tryz.zeroValue0
 t3:=Tryz.underlying3
 a3:=Tryz.isAgg3
 z3:=Tryz.sizeOf3
 v3:=Tryz.zeroValue3
 t4:=Tryz.underlying4
 a4:=Tryz.isAgg4
 z4:=Tryz.sizeOf4
 v4:=Tryz.zeroValue4
 t9:=Tryz.underlying9
 a9:=Tryz.isAgg9
 z9:=Tryz.sizeOf9
 v9:=Tryz.zeroValue9
 t20:=Tryz.underlying20
 a20:=Tryz.isAgg20
 z20:=Tryz.sizeOf20
 v20:=Tryz.zeroValue20
 t31:=Tryz.underlying33
 a31:=Tryz.isAgg33
 z31:=Tryz.sizeOf33
 v31:=Tryz.zeroValue33
 t37:=Tryz.underlying187
 a37:=Tryz.isAgg187
 z37:=Tryz.sizeOf187
 v37:=Tryz.zeroValue187
 t70:=Tryz.underlying260
 a70:=Tryz.isAgg260
 z70:=Tryz.sizeOf260
 v70:=Tryz.zeroValue260
 t72:=Tryz.underlying262
 a72:=Tryz.isAgg262
 z72:=Tryz.sizeOf262
 v72:=Tryz.zeroValue262
 t75:=Tryz.underlying220
 a75:=Tryz.isAgg220
 z75:=Tryz.sizeOf220
 v75:=Tryz.zeroValue220
 t76:=Tryz.underlying264
 a76:=Tryz.isAgg264
 z76:=Tryz.sizeOf264
 v76:=Tryz.zeroValue264
 t127:=Tryz.underlying276
 a127:=Tryz.isAgg276
 z127:=Tryz.sizeOf276
 v127:=Tryz.zeroValue276
 t164:=Tryz.underlying285
 a164:=Tryz.isAgg285
 z164:=Tryz.sizeOf285
 v164:=Tryz.zeroValue285 }
theorem Ql:Builder.Extra Tryz.prog Lk:={
 sizeBuilder:=by kernel_rfl
 liesBuilder:=by kernel_rfl
 t5:=Tryz.underlying5
 a5:=Tryz.isAgg5
 z5:=Tryz.sizeOf5
 v5:=Tryz.zeroValue5
 infoByte:=by kernel_rfl
 cellsByte:=by kernel_rfl
 sizeByte:=by kernel_rfl
 neB5:=by decide }
def Wx:Go.Shelf.Ren:=⟨fun | 133=>198 | 128=>218 | n=>n,fun | 51=>206 | 3=>3 | 4=>4 | 46=>207 | 5=>5 | 9=>9 | n=>n,fun | n=>n⟩
theorem apH:Go.Proofs.Lays.n133 Tryz.prog Wx:={
 mixed:=by kernel_rfl
 f128:=Tryz.func218.trans (congrArg some (by kernel_rfl))
 f133:=Tryz.func198.trans (congrArg some (by kernel_rfl))
 t3:=Tryz.underlying3
 a3:=Tryz.isAgg3
 z3:=Tryz.sizeOf3
 v3:=Tryz.zeroValue3
 t4:=Tryz.underlying4
 a4:=Tryz.isAgg4
 z4:=Tryz.sizeOf4
 v4:=Tryz.zeroValue4
 t5:=Tryz.underlying5
 a5:=Tryz.isAgg5
 z5:=Tryz.sizeOf5
 v5:=Tryz.zeroValue5
 t9:=Tryz.underlying9
 a9:=Tryz.isAgg9
 z9:=Tryz.sizeOf9
 v9:=Tryz.zeroValue9
 t46:=Tryz.underlying207
 a46:=Tryz.isAgg207
 z46:=Tryz.sizeOf207
 v46:=Tryz.zeroValue207
 t51:=Tryz.underlying206
 a51:=Tryz.isAgg206
 z51:=Tryz.sizeOf206
 v51:=Tryz.zeroValue206 }
def VF:Go.Shelf.Ren:=⟨fun | 283=>241 | n=>n,fun | 3=>3 | 9=>9 | 4=>4 | n=>n,fun | n=>n⟩
theorem apO:Go.Proofs.Lays.n283 Tryz.prog VF:={
 mixed:=by kernel_rfl
 f283:=Tryz.func241.trans (congrArg some (by kernel_rfl))
 t3:=Tryz.underlying3
 a3:=Tryz.isAgg3
 z3:=Tryz.sizeOf3
 v3:=Tryz.zeroValue3
 t4:=Tryz.underlying4
 a4:=Tryz.isAgg4
 z4:=Tryz.sizeOf4
 v4:=Tryz.zeroValue4
 t9:=Tryz.underlying9
 a9:=Tryz.isAgg9
 z9:=Tryz.sizeOf9
 v9:=Tryz.zeroValue9 }
def VO:Go.Shelf.Ren:=⟨fun | 284=>242 | 129=>249 | 317=>248 | 318=>250 | n=>n,fun | 53=>171 | 3=>3 | 212=>281 | 0=>0 | 4=>4 | 46=>207 | 5=>5 | 9=>9 | n=>n,fun | 17=>3 | n=>n⟩
theorem aoV:Go.Proofs.LaysM.n284 Tryz.prog VO:={
 mixed:=by kernel_rfl
 f129:=Tryz.func249.trans (congrArg some (by kernel_rfl))
 f284:=Tryz.func242.trans (congrArg some (by kernel_rfl))
 f317:=Tryz.func248.trans (congrArg some (by kernel_rfl))
 f318:=Tryz.func250.trans (congrArg some (by kernel_rfl))
 t0:=Tryz.underlying0
 a0:=Tryz.isAgg0
 z0:=Tryz.sizeOf0
 v0:=Tryz.zeroValue0
 t3:=Tryz.underlying3
 a3:=Tryz.isAgg3
 z3:=Tryz.sizeOf3
 v3:=Tryz.zeroValue3
 t4:=Tryz.underlying4
 a4:=Tryz.isAgg4
 z4:=Tryz.sizeOf4
 v4:=Tryz.zeroValue4
 t5:=Tryz.underlying5
 a5:=Tryz.isAgg5
 z5:=Tryz.sizeOf5
 v5:=Tryz.zeroValue5
 t9:=Tryz.underlying9
 a9:=Tryz.isAgg9
 z9:=Tryz.sizeOf9
 v9:=Tryz.zeroValue9
 t46:=Tryz.underlying207
 a46:=Tryz.isAgg207
 z46:=Tryz.sizeOf207
 v46:=Tryz.zeroValue207
 t53:=Tryz.underlying171
 a53:=Tryz.isAgg171
 z53:=Tryz.sizeOf171
 v53:=Tryz.zeroValue171
 t212:=Tryz.underlying281
 a212:=Tryz.isAgg281
 z212:=Tryz.sizeOf281
 v212:=Tryz.zeroValue281
 g17:=by kernel_rfl
 i0:=by kernel_rfl
 i3:=by kernel_rfl
 i4:=by kernel_rfl
 i5:=by kernel_rfl
 i9:=by kernel_rfl
 i46:=by kernel_rfl
 i53:=by kernel_rfl
 i212:=by kernel_rfl
 m17:=by kernel_rfl }
def V8:Go.Shelf.Ren:=⟨fun | 285=>243 | n=>n,fun | 37=>187 | 53=>171 | 3=>3 | 4=>4 | 51=>206 | 9=>9 | 5=>5 | 0=>0 | n=>n,fun | n=>n⟩
theorem aoY:Go.Proofs.Lays.n285 Tryz.prog V8:={
 mixed:=by kernel_rfl
 f285:=Tryz.func243.trans (congrArg some (by kernel_rfl))
 t0:=Tryz.underlying0
 a0:=Tryz.isAgg0
 z0:=Tryz.sizeOf0
 v0:=Tryz.zeroValue0
 t3:=Tryz.underlying3
 a3:=Tryz.isAgg3
 z3:=Tryz.sizeOf3
 v3:=Tryz.zeroValue3
 t4:=Tryz.underlying4
 a4:=Tryz.isAgg4
 z4:=Tryz.sizeOf4
 v4:=Tryz.zeroValue4
 t5:=Tryz.underlying5
 a5:=Tryz.isAgg5
 z5:=Tryz.sizeOf5
 v5:=Tryz.zeroValue5
 t9:=Tryz.underlying9
 a9:=Tryz.isAgg9
 z9:=Tryz.sizeOf9
 v9:=Tryz.zeroValue9
 t37:=Tryz.underlying187
 a37:=Tryz.isAgg187
 z37:=Tryz.sizeOf187
 v37:=Tryz.zeroValue187
 t51:=Tryz.underlying206
 a51:=Tryz.isAgg206
 z51:=Tryz.sizeOf206
 v51:=Tryz.zeroValue206
 t53:=Tryz.underlying171
 a53:=Tryz.isAgg171
 z53:=Tryz.sizeOf171
 v53:=Tryz.zeroValue171 }
def Th:Go.Shelf.Ren:=⟨fun | 14=>192 | 16=>211 | 17=>212 | 19=>224 | 20=>225 | 21=>226 | 22=>227 | 23=>228 | 24=>229 | 25=>238 | 27=>240 | 26=>239 | 28=>247 | 29=>255 | 30=>241 | 31=>242 | 32=>243 | 33=>244 | 35=>249 | 34=>248 | 36=>250 | 37=>251 | 38=>252 | 39=>256 | 40=>257 | n=>n,fun | 9=>9 | 3=>3 | 22=>171 | 24=>220 | 25=>221 | 4=>4 | 34=>255 | 5=>5 | 36=>207 | 37=>187 | 0=>0 | 39=>257 | 21=>21 | 44=>269 | 47=>276 | 50=>279 | 48=>277 | 2=>2 | 52=>271 | 55=>274 | 59=>281 | 60=>206 | 20=>20 | 61=>282 | 65=>289 | 66=>290 | 67=>227 | n=>n,fun | 0=>1 | 1=>2 | 2=>3 | 3=>4 | 4=>5 | n=>n⟩
theorem ajG:Go.Proofs.LaysPu.n14 Tryz.prog Th:={
 mixed:=by kernel_rfl
 f14:=Tryz.func192.trans (congrArg some (by kernel_rfl))
 f16:=Tryz.func211.trans (congrArg some (by kernel_rfl))
 f17:=Tryz.func212.trans (congrArg some (by kernel_rfl))
 f19:=Tryz.func224.trans (congrArg some (by kernel_rfl))
 f20:=Tryz.func225.trans (congrArg some (by kernel_rfl))
 f21:=Tryz.func226.trans (congrArg some (by kernel_rfl))
 f22:=Tryz.func227.trans (congrArg some (by kernel_rfl))
 f23:=Tryz.func228.trans (congrArg some (by kernel_rfl))
 f24:=Tryz.func229.trans (congrArg some (by kernel_rfl))
 f25:=Tryz.func238.trans (congrArg some (by kernel_rfl))
 f26:=Tryz.func239.trans (congrArg some (by kernel_rfl))
 f27:=Tryz.func240.trans (congrArg some (by kernel_rfl))
 f28:=Tryz.func247.trans (congrArg some (by kernel_rfl))
 f29:=Tryz.func255.trans (congrArg some (by kernel_rfl))
 f30:=Tryz.func241.trans (congrArg some (by kernel_rfl))
 f31:=Tryz.func242.trans (congrArg some (by kernel_rfl))
 f32:=Tryz.func243.trans (congrArg some (by kernel_rfl))
 f33:=Tryz.func244.trans (congrArg some (by kernel_rfl))
 f34:=Tryz.func248.trans (congrArg some (by kernel_rfl))
 f35:=Tryz.func249.trans (congrArg some (by kernel_rfl))
 f36:=Tryz.func250.trans (congrArg some (by kernel_rfl))
 f37:=Tryz.func251.trans (congrArg some (by kernel_rfl))
 f38:=Tryz.func252.trans (congrArg some (by kernel_rfl))
 f39:=Tryz.func256.trans (congrArg some (by kernel_rfl))
 f40:=Tryz.func257.trans (congrArg some (by kernel_rfl))
 t0:=Tryz.underlying0
 a0:=Tryz.isAgg0
 z0:=Tryz.sizeOf0
 v0:=Tryz.zeroValue0
 i0:=by kernel_rfl
 t2:=Tryz.underlying2
 a2:=Tryz.isAgg2
 z2:=Tryz.sizeOf2
 v2:=Tryz.zeroValue2
 i2:=by kernel_rfl
 t3:=Tryz.underlying3
 a3:=Tryz.isAgg3
 z3:=Tryz.sizeOf3
 v3:=Tryz.zeroValue3
 i3:=by kernel_rfl
 t4:=Tryz.underlying4
 a4:=Tryz.isAgg4
 z4:=Tryz.sizeOf4
 v4:=Tryz.zeroValue4
 i4:=by kernel_rfl
 t5:=Tryz.underlying5
 a5:=Tryz.isAgg5
 z5:=Tryz.sizeOf5
 v5:=Tryz.zeroValue5
 i5:=by kernel_rfl
 t9:=Tryz.underlying9
 a9:=Tryz.isAgg9
 z9:=Tryz.sizeOf9
 v9:=Tryz.zeroValue9
 i9:=by kernel_rfl
 t20:=Tryz.underlying20
 a20:=Tryz.isAgg20
 z20:=Tryz.sizeOf20
 v20:=Tryz.zeroValue20
 i20:=by kernel_rfl
 t21:=Tryz.underlying21
 a21:=Tryz.isAgg21
 z21:=Tryz.sizeOf21
 v21:=Tryz.zeroValue21
 i21:=by kernel_rfl
 t22:=Tryz.underlying171
 a22:=Tryz.isAgg171
 z22:=Tryz.sizeOf171
 v22:=Tryz.zeroValue171
 i22:=by kernel_rfl
 t24:=Tryz.underlying220
 a24:=Tryz.isAgg220
 z24:=Tryz.sizeOf220
 v24:=Tryz.zeroValue220
 i24:=by kernel_rfl
 t25:=Tryz.underlying221
 a25:=Tryz.isAgg221
 z25:=Tryz.sizeOf221
 v25:=Tryz.zeroValue221
 i25:=by kernel_rfl
 t34:=Tryz.underlying255
 a34:=Tryz.isAgg255
 z34:=Tryz.sizeOf255
 v34:=Tryz.zeroValue255
 i34:=by kernel_rfl
 c34:=by kernel_rfl
 t36:=Tryz.underlying207
 a36:=Tryz.isAgg207
 z36:=Tryz.sizeOf207
 v36:=Tryz.zeroValue207
 i36:=by kernel_rfl
 t37:=Tryz.underlying187
 a37:=Tryz.isAgg187
 z37:=Tryz.sizeOf187
 v37:=Tryz.zeroValue187
 i37:=by kernel_rfl
 t39:=Tryz.underlying257
 a39:=Tryz.isAgg257
 z39:=Tryz.sizeOf257
 v39:=Tryz.zeroValue257
 i39:=by kernel_rfl
 t44:=Tryz.underlying269
 a44:=Tryz.isAgg269
 z44:=Tryz.sizeOf269
 v44:=Tryz.zeroValue269
 i44:=by kernel_rfl
 t47:=Tryz.underlying276
 a47:=Tryz.isAgg276
 z47:=Tryz.sizeOf276
 v47:=Tryz.zeroValue276
 i47:=by kernel_rfl
 t48:=Tryz.underlying277
 a48:=Tryz.isAgg277
 z48:=Tryz.sizeOf277
 v48:=Tryz.zeroValue277
 i48:=by kernel_rfl
 t50:=Tryz.underlying279
 a50:=Tryz.isAgg279
 z50:=Tryz.sizeOf279
 v50:=Tryz.zeroValue279
 i50:=by kernel_rfl
 t52:=Tryz.underlying271
 a52:=Tryz.isAgg271
 z52:=Tryz.sizeOf271
 v52:=Tryz.zeroValue271
 i52:=by kernel_rfl
 t55:=Tryz.underlying274
 a55:=Tryz.isAgg274
 z55:=Tryz.sizeOf274
 v55:=Tryz.zeroValue274
 i55:=by kernel_rfl
 t59:=Tryz.underlying281
 a59:=Tryz.isAgg281
 z59:=Tryz.sizeOf281
 v59:=Tryz.zeroValue281
 i59:=by kernel_rfl
 t60:=Tryz.underlying206
 a60:=Tryz.isAgg206
 z60:=Tryz.sizeOf206
 v60:=Tryz.zeroValue206
 i60:=by kernel_rfl
 t61:=Tryz.underlying282
 a61:=Tryz.isAgg282
 z61:=Tryz.sizeOf282
 t65:=Tryz.underlying289
 a65:=Tryz.isAgg289
 z65:=Tryz.sizeOf289
 v65:=Tryz.zeroValue289
 i65:=by kernel_rfl
 t66:=Tryz.underlying290
 a66:=Tryz.isAgg290
 z66:=Tryz.sizeOf290
 v66:=Tryz.zeroValue290
 i66:=by kernel_rfl
 t67:=Tryz.underlying227
 a67:=Tryz.isAgg227
 z67:=Tryz.sizeOf227
 v67:=Tryz.zeroValue227
 i67:=by kernel_rfl
 g0:=by kernel_rfl
 m0:=by kernel_rfl
 g1:=by kernel_rfl
 m1:=by kernel_rfl
 g2:=by kernel_rfl
 m2:=by kernel_rfl
 g3:=by kernel_rfl
 m3:=by kernel_rfl
 g4:=by kernel_rfl
 m4:=by kernel_rfl }
def Vr:Go.Shelf.Ren:=⟨fun | 219=>209 | 217=>220 | 225=>221 | 224=>222 | 267=>223 | 266=>236 | 314=>237 | n=>n,fun | 9=>9 | 3=>3 | 4=>4 | 5=>5 | 46=>207 | 146=>240 | 51=>206 | n=>n,fun | 1=>0 | n=>n⟩
theorem aoE:Go.Proofs.Lays.n219 Tryz.prog Vr:={
 mixed:=by kernel_rfl
 f217:=Tryz.func220.trans (congrArg some (by kernel_rfl))
 f219:=Tryz.func209.trans (congrArg some (by kernel_rfl))
 f224:=Tryz.func222.trans (congrArg some (by kernel_rfl))
 f225:=Tryz.func221.trans (congrArg some (by kernel_rfl))
 f266:=Tryz.func236.trans (congrArg some (by kernel_rfl))
 f267:=Tryz.func223.trans (congrArg some (by kernel_rfl))
 f314:=Tryz.func237.trans (congrArg some (by kernel_rfl))
 t3:=Tryz.underlying3
 a3:=Tryz.isAgg3
 z3:=Tryz.sizeOf3
 v3:=Tryz.zeroValue3
 t4:=Tryz.underlying4
 a4:=Tryz.isAgg4
 z4:=Tryz.sizeOf4
 v4:=Tryz.zeroValue4
 t5:=Tryz.underlying5
 a5:=Tryz.isAgg5
 z5:=Tryz.sizeOf5
 v5:=Tryz.zeroValue5
 t9:=Tryz.underlying9
 a9:=Tryz.isAgg9
 z9:=Tryz.sizeOf9
 v9:=Tryz.zeroValue9
 t46:=Tryz.underlying207
 a46:=Tryz.isAgg207
 z46:=Tryz.sizeOf207
 v46:=Tryz.zeroValue207
 t51:=Tryz.underlying206
 a51:=Tryz.isAgg206
 z51:=Tryz.sizeOf206
 v51:=Tryz.zeroValue206
 t146:=Tryz.underlying240
 a146:=Tryz.isAgg240
 z146:=Tryz.sizeOf240
 v146:=Tryz.zeroValue240
 g1:=by kernel_rfl }
def NF:Go.Shelf.Ren:=⟨fun | 105=>215 | 212=>187 | 99=>231 | 165=>232 | 166=>233 | 170=>234 | 169=>235 | 263=>206 | 264=>207 | 206=>210 | 240=>245 | 241=>246 | 276=>253 | 277=>254 | n=>n,fun | 9=>9 | 3=>3 | 4=>4 | 20=>20 | 0=>0 | 46=>207 | 109=>215 | 5=>5 | 72=>262 | 76=>264 | 51=>206 | 146=>240 | 53=>171 | 148=>242 | 70=>260 | 37=>187 | 75=>220 | 127=>276 | 164=>285 | 80=>227 | n=>n,fun | n=>n⟩
theorem aoH:Go.Proofs.Lays.n105 Tryz.prog NF:={
 mixed:=by kernel_rfl
 f99:=Tryz.func231.trans (congrArg some (by kernel_rfl))
 f105:=Tryz.func215.trans (congrArg some (by kernel_rfl))
 f165:=Tryz.func232.trans (congrArg some (by kernel_rfl))
 f166:=Tryz.func233.trans (congrArg some (by kernel_rfl))
 f169:=Tryz.func235.trans (congrArg some (by kernel_rfl))
 f170:=Tryz.func234.trans (congrArg some (by kernel_rfl))
 f206:=Tryz.func210.trans (congrArg some (by kernel_rfl))
 f212:=Tryz.func187.trans (congrArg some (by kernel_rfl))
 f240:=Tryz.func245.trans (congrArg some (by kernel_rfl))
 f241:=Tryz.func246.trans (congrArg some (by kernel_rfl))
 f263:=Tryz.func206.trans (congrArg some (by kernel_rfl))
 f264:=Tryz.func207.trans (congrArg some (by kernel_rfl))
 f276:=Tryz.func253.trans (congrArg some (by kernel_rfl))
 f277:=Tryz.func254.trans (congrArg some (by kernel_rfl))
 t0:=Tryz.underlying0
 a0:=Tryz.isAgg0
 z0:=Tryz.sizeOf0
 v0:=Tryz.zeroValue0
 t3:=Tryz.underlying3
 a3:=Tryz.isAgg3
 z3:=Tryz.sizeOf3
 v3:=Tryz.zeroValue3
 t4:=Tryz.underlying4
 a4:=Tryz.isAgg4
 z4:=Tryz.sizeOf4
 v4:=Tryz.zeroValue4
 t5:=Tryz.underlying5
 a5:=Tryz.isAgg5
 z5:=Tryz.sizeOf5
 v5:=Tryz.zeroValue5
 t9:=Tryz.underlying9
 a9:=Tryz.isAgg9
 z9:=Tryz.sizeOf9
 v9:=Tryz.zeroValue9
 t20:=Tryz.underlying20
 a20:=Tryz.isAgg20
 z20:=Tryz.sizeOf20
 v20:=Tryz.zeroValue20
 t37:=Tryz.underlying187
 a37:=Tryz.isAgg187
 z37:=Tryz.sizeOf187
 v37:=Tryz.zeroValue187
 t46:=Tryz.underlying207
 a46:=Tryz.isAgg207
 z46:=Tryz.sizeOf207
 v46:=Tryz.zeroValue207
 t51:=Tryz.underlying206
 a51:=Tryz.isAgg206
 z51:=Tryz.sizeOf206
 v51:=Tryz.zeroValue206
 t53:=Tryz.underlying171
 a53:=Tryz.isAgg171
 z53:=Tryz.sizeOf171
 v53:=Tryz.zeroValue171
 t70:=Tryz.underlying260
 a70:=Tryz.isAgg260
 z70:=Tryz.sizeOf260
 v70:=Tryz.zeroValue260
 t72:=Tryz.underlying262
 a72:=Tryz.isAgg262
 z72:=Tryz.sizeOf262
 v72:=Tryz.zeroValue262
 t75:=Tryz.underlying220
 a75:=Tryz.isAgg220
 z75:=Tryz.sizeOf220
 v75:=Tryz.zeroValue220
 t76:=Tryz.underlying264
 a76:=Tryz.isAgg264
 z76:=Tryz.sizeOf264
 v76:=Tryz.zeroValue264
 t109:=Tryz.underlying215
 a109:=Tryz.isAgg215
 z109:=Tryz.sizeOf215
 v109:=Tryz.zeroValue215
 t127:=Tryz.underlying276
 a127:=Tryz.isAgg276
 z127:=Tryz.sizeOf276
 v127:=Tryz.zeroValue276
 t146:=Tryz.underlying240
 a146:=Tryz.isAgg240
 z146:=Tryz.sizeOf240
 v146:=Tryz.zeroValue240
 t148:=Tryz.underlying242
 a148:=Tryz.isAgg242
 z148:=Tryz.sizeOf242
 v148:=Tryz.zeroValue242
 t164:=Tryz.underlying285
 a164:=Tryz.isAgg285
 z164:=Tryz.sizeOf285
 v164:=Tryz.zeroValue285 }
theorem akS:Builder.Extra Tryz.prog NF:={
 sizeBuilder:=by kernel_rfl
 liesBuilder:=by kernel_rfl
 t5:=Tryz.underlying5
 a5:=Tryz.isAgg5
 z5:=Tryz.sizeOf5
 v5:=Tryz.zeroValue5
 infoByte:=by kernel_rfl
 cellsByte:=by kernel_rfl
 sizeByte:=by kernel_rfl
 neB5:=by decide }
end Go.Proofs
namespace Go.Proofs
open Go.Shelf Go.RowKit Go.Sort Go.Lib
abbrev VP:UInt8→Value:=fun b=>Value.int .u8 (b.toNat:Int)
theorem Zr (w:World) (T:TypeId) (nd:Nat) (hs:nd≤24):Holds VP (w.alloc (.cells Lib.zeros24 T)) w.heap.size 0 (Array.replicate nd (0:UInt8)):=fun j hj=>by
 have hj':j<nd:=by simpa using hj
 refine⟨?_,World.frozen?_alloc_new _ _ _ _⟩
 rw[World.cell?_alloc_new,Lib.zeros24_at _ (by omega),getElem!_pos _ j hj]
 simp
theorem Bm (w:World) (o:Obj) (dk:Array UInt8) (k:Nat):Below w.heap.size w ((putRow VP (w.alloc o) w.heap.size 0 dk).drewN k):=by
 rw[alloc_eq_grow]
 obtain⟨os',_,e⟩:=putRow_grow_new VP w #[o] w.heap.size 0 dk (Nat.le_refl _)
 rw[e]
 refine⟨rfl,rfl,rfl,by show w.heap.size≤(w.heap++os').size;simp,fun i hi => ?_⟩
 show (w.heap++os')[i]? = _
 rw[Array.getElem?_append_left hi]
set_option maxHeartbeats 6400000 in
set_option maxRecDepth 100000 in
theorem aqN (u:Nat) (adS:u<18446744073709551616) (w:World) (aqC:Lib.TabIs Tryz.prog w "internal/strconv.uint64pow10" .u64 Lib.pow10Tab) :
  Calls Tryz.prog 230 #[.int .u64 u,.int .i64 10] w fun e w'=>e = .returned (.string ⟨(Lib.decDigits u).toArray⟩)∧Below w.heap.size w w':=by
 by_cases hs:u<100
 ·go_enter Tryz.func230,Tryz.ntmps230
  go_wp2_with (go_at_call 241;refine(Any.internal_strconv_small apO u hs _).mono ?_;rintro e w' ⟨rfl,rfl⟩)
  go_ret
  exact⟨rfl,Below.refl _ _⟩
 ·have hu1:1≤u:=by omega
  have aCo:Lib.nDigits u≤20:=by have:=Lib.numDigits_eq u hu1 adS;split at this<;>omega
  have hH0:=Zr w 271 (Lib.nDigits u) (by omega)
  have asO:=Any.internal_strconv_formatBase10 aoY w.heap.size 0 24 u (Array.replicate (Lib.nDigits u) 0) (w.alloc (.cells Lib.zeros24 271)) hH0 (by rw[Array.size_replicate];exact Lib.lt_pow_nDigits u) adS (by rw[Array.size_replicate];omega)
  rw[Array.size_replicate] at asO
  have HH0:=Lib.hid hH0
  have hal:Tryz.prog.arrayLen 271=24:=by simp[Program.arrayLen,Tryz.underlying271]
  have Qe:∀W,(Instr.sliceAt 271 (.pointer (some ⟨w.heap.size,0,none⟩)) none (some (.int .i64 (Lib.nDigits u:Int))) none).run Tryz.prog W = .ok (.slice (some ⟨w.heap.size,0,none⟩) (Lib.nDigits u) 24) W:=fun W=>by
   rw[run_sliceAt_array_h W 271 ⟨w.heap.size,0,none⟩ (by simp[Program.arrayLen,Program.elem,Tryz.underlying271]) .i64 (Lib.nDigits u:Int) (by omega) (by rw[hal];omega)]
   go_simp
  clear hH0 hal
  go_enter Tryz.func230,Tryz.ntmps230
  go_wp2_with (first
   | (go_at_call 242;refine(Any.internal_strconv_numDigits aoV u hu1 adS _ (Lib.tabIs_alloc aqC _)).mono ?_;rintro e w' ⟨rfl,rfl⟩))
  go_at_call 243
  refine asO.mono ?_
  rintro e w' ⟨rfl,k,v',dk,rfl,hF⟩
  have hcv:(convert 187 9 (.slice (some ⟨w.heap.size,0,none⟩) (Lib.nDigits u) 24)).run Tryz.prog ((putRow VP (w.alloc (.cells Lib.zeros24 271)) w.heap.size 0 dk).drewN k) = .ok (.string ⟨(Lib.decDigits u).toArray⟩) ((putRow VP (w.alloc (.cells Lib.zeros24 271)) w.heap.size 0 dk).drewN k):=by
   have h:=run_convert_bytes_back (P:=Tryz.prog) ((putRow VP (w.alloc (.cells Lib.zeros24 271)) w.heap.size 0 dk).drewN k) 187 9 5 ⟨w.heap.size,0,none⟩ 24 (Lib.decDigits u) Tryz.underlying187 Tryz.underlying5 Tryz.underlying9 (fun j hj=>by
    rw[Lib.row_is_numeral hF j hj,Lib.add_plain,World.cell?_drewN]
    exact cell?_putRow VP _ w.heap.size 0 _ dk HH0.out (by rw[hF.size,Array.size_replicate]) j (by rw[hF.size];rw[Lib.decDigits_length] at hj;exact hj))
   rw[Lib.decDigits_length] at h
   exact h
  go_wp2
  go_ret
  exact⟨rfl,Bm w _ dk k⟩
theorem acO (u:Nat) (adS:u<18446744073709551616) (w:World) (aqC:Lib.TabIs Tryz.prog w "internal/strconv.uint64pow10" .u64 Lib.pow10Tab) :
  Calls Tryz.prog 214 #[.int .u64 u,.int .i64 10] w fun e w'=>e = .returned (.string ⟨(Lib.decDigits u).toArray⟩)∧Below w.heap.size w w':=by
 go_enter Tryz.func214,Tryz.ntmps214
 go_wp2_with (go_at_call 230;refine(aqN u adS _ aqC).mono ?_;rintro e w' ⟨rfl,hb⟩)
 go_ret
 exact⟨rfl,hb⟩
end Go.Proofs
namespace Go.PM
open Go.Proofs Go.RowKit
theorem Below.A9 {w w':World} (h:Below w.heap.size w w'):w.heap.size≤w'.heap.size∧(∀rb,rb<w.heap.size→w'.heap[rb]? = w.heap[rb]?)∧w'.os=w.os∧w'.output=w.output∧w'.tape=w.tape :=
 ⟨h.size,h.block,h.os,h.output,h.tape⟩
theorem Bu {w:World}:w.heap.size≤w.heap.size∧(∀rb,rb<w.heap.size→w.heap[rb]? = w.heap[rb]?)∧w.os=w.os∧w.output=w.output∧w.tape=w.tape :=
 ⟨Nat.le_refl _,fun _ _=>rfl,rfl,rfl,rfl⟩
def EZ (f:Nat) (p:List Value→aE→Option Value):Prop :=
 Nh Tryz.prog f∧∀L0 args H v,p args H=some v→∀m w gV,Rel m L0 H w→RL m args gV →
  Calls Tryz.prog f gV.toArray w fun e w'=>∃rv,e = .returned rv∧RV m v rv∧w.heap.size≤w'.heap.size∧(∀rb,rb<w.heap.size→w'.heap[rb]? = w.heap[rb]?)∧w'.os=w.os∧w'.output=w.output∧w'.tape=w.tape
theorem RL.one {m:dK} {x:Value} {ys:List Value} (h:RL m [x] ys):∃y,ys=[y]∧RV m x y:=by
 match ys,h with
 | [y],h=>exact⟨y,rfl,h.kI.1⟩
 | [],h=>exact absurd h.1 (by simp)
 | _::_::_,h=>exact absurd h.1 (by simp)
theorem RL.two {m:dK} {x x':Value} {ys:List Value} (h:RL m [x,x'] ys):∃y y',ys=[y,y']∧RV m x y∧RV m x' y':=by
 match ys,h with
 | [y,y'],h=>exact⟨y,y',rfl,h.kI.1,h.kI.2.kI.1⟩
 | [],h=>exact absurd h.1 (by simp)
 | [_],h=>exact absurd h.1 (by simp)
 | _::_::_::_,h=>exact absurd h.1 (by simp)
theorem RL.three {m:dK} {x x' x'':Value} {ys:List Value} (h:RL m [x,x',x''] ys):∃y y' y'',ys=[y,y',y'']∧RV m x y∧RV m x' y'∧RV m x'' y'':=by
 match ys,h with
 | [y,y',y''],h=>exact⟨y,y',y'',rfl,h.kI.1,h.kI.2.kI.1,h.kI.2.kI.2.kI.1⟩
 | [],h=>exact absurd h.1 (by simp)
 | [_],h=>exact absurd h.1 (by simp)
 | [_,_],h=>exact absurd h.1 (by simp)
 | _::_::_::_::_,h=>exact absurd h.1 (by simp)
theorem FQ {m:dK}:∀ {cs rs:List Value} {xs:List ByteArray},strCells cs=some xs→RL m cs rs→rs=xs.map .string
 |
  [],rs,xs,h,hr=>by
  cases h
  match rs,hr with
  | [],_=>rfl
  | _::_,hr=>exact absurd hr.1 (by simp)
 |
  c::cs,rs,xs,h,hr=>by
  match rs,hr with
  | [],hr=>exact absurd hr.1 (by simp)
  |
   r::rs,hr =>
   obtain⟨h1,h2⟩:=hr.kI
   cases c with
   |
    string s =>
    rw[strCells] at h
    cases hc:strCells cs with
    | none=>rw[hc] at h;cases h
    |
     some ys =>
     rw[hc] at h
     cases h
     cases h1
     rw[FQ hc h2]
     rfl
   | _=>cases h
theorem JS:EZ 198 Dw:=by
 refine⟨⟨_,Tryz.func198,by kernel_rfl,by kernel_rfl⟩,fun L0 args H v hp m w gV hR hr => ?_⟩
 unfold Dw at hp
 split at hp
 case h_2=>cases hp
 rename_i x
 split at hp
 case isFalse=>cases hp
 rename_i hx
 cases hp
 obtain⟨y,rfl,h1⟩:=hr.one
 cases h1
 refine(Any.bits_LeadingZeros32 apH x w hx.1 hx.2).mono ?_
 rintro e w' ⟨rfl,rfl⟩
 exact⟨_,rfl,.int _ _,Bu⟩
theorem Ms:EZ 215 HX:=by
 refine⟨⟨_,Tryz.func215,by kernel_rfl,by kernel_rfl⟩,fun L0 args H v hp m w gV hR hr => ?_⟩
 unfold HX at hp
 split at hp
 case h_2=>cases hp
 rename_i s c
 split at hp
 case isFalse=>cases hp
 rename_i hx
 cases hp
 obtain⟨y,y',rfl,h1,h2⟩:=hr.two
 cases h1
 cases h2
 obtain⟨k,rfl⟩:∃k:Nat,c=k:=⟨c.toNat,by omega⟩
 refine(Any.strings_Repeat aoH akS s k w (by omega) hx.2.2).mono ?_
 rintro e w' ⟨rfl,hb⟩
 exact⟨_,rfl,.str _,Below.A9 hb⟩
theorem TO:EZ 217 Tr:=by
 refine⟨⟨_,Tryz.func217,by kernel_rfl,by kernel_rfl⟩,fun L0 args H v hp m w gV hR hr => ?_⟩
 unfold Tr at hp
 split at hp
 case h_3=>cases hp
 ·cases hp
  obtain⟨y,y',rfl,h1,h2⟩:=hr.two
  cases h1
  cases h2
  refine(Any.strings_Join_none UG Ql none 0 _ w).mono ?_
  rintro e w' ⟨rfl,rfl⟩
  exact⟨_,rfl,.str _,Bu⟩
 ·rename_i b o n c sep
  obtain⟨y,y',rfl,h1,h2⟩:=hr.two
  cases h2
  cases h1 with
  |
   slice _ _ _ _ l ra rc h hn hc hx ha =>
   split at hp
   ·rename_i UP
    subst UP
    cases hp
    refine(Any.strings_Join_none UG Ql (some ra) rc _ w).mono ?_
    rintro e w' ⟨rfl,rfl⟩
    exact⟨_,rfl,.str _,Bu⟩
   ·rename_i UP
    split at hp
    case h_2=>cases hp
    rename_i xs NV
    split at hp
    case isFalse=>cases hp
    rename_i TI
    cases hp
    obtain⟨cs,wV,Lo⟩:=Option.bind_eq_some_iff.1 NV
    obtain⟨rs,r1,r2,_,r4⟩:=zX hR h wV
    have Uo:=FQ Lo r1
    subst Uo
    rcases ha with ha | ⟨rfl,ha⟩
    ·omega
    obtain⟨arr,e0,fz0,v1,_⟩:=hR.valid b l h
    have Dj:l.rb<w.heap.size:=(Array.getElem?_eq_some_iff.1 v1).1
    obtain⟨c1,c2,c3,c4⟩:=TI
    subst c1
    refine(Any.strings_Join UG Ql l.rb (l.base+o) rc xs sep w (fun j x hj => ?_) Dj c3 (by omega) c4).mono ?_
    ·have:=r4 j (.string x) (by simp[hj])
     rw[Addr.add_lit] at this
     exact this
    ·rintro e w' ⟨rfl,hb⟩
     exact⟨_,rfl,.str _,Below.A9 hb⟩
theorem UJ {m:dK} {L0:Nat} {H:aE} {w:World} (hR:Rel m L0 H w):Lib.TabIs Tryz.prog w "internal/strconv.uint64pow10" .u64 Lib.pow10Tab:=by
 obtain⟨e,fz,h⟩:=(hR.Ea (3,(Lib.pow10Tab.map fun z=>Value.int .u64 z).toArray) (by simp[akX])).1
 have hg:Tryz.prog.globalNamed "internal/strconv.uint64pow10"=some 3:=by kernel_rfl
 unfold Lib.TabIs World.var?
 rw[hg]
 simp only[Option.bind_some,h]
theorem RM:EZ 214 vR:=by
 refine⟨⟨_,Tryz.func214,by kernel_rfl,by kernel_rfl⟩,fun L0 args H v hp m w gV hR hr => ?_⟩
 unfold vR at hp
 split at hp
 case h_2=>cases hp
 rename_i n b
 split at hp
 case isFalse=>cases hp
 rename_i hx
 cases hp
 obtain⟨y,y',rfl,h1,h2⟩:=hr.two
 cases h1
 cases h2
 obtain⟨rfl,h0,h1⟩:=hx
 obtain⟨u,rfl⟩:∃u:Nat,n=u:=⟨n.toNat,by omega⟩
 refine(acO u (by omega) w (UJ hR)).mono ?_
 rintro e w' ⟨rfl,hb⟩
 exact⟨_,rfl,.str _,Below.A9 hb⟩
theorem Pw:EZ 209 QG:=by
 refine⟨⟨_,Tryz.func209,by kernel_rfl,by kernel_rfl⟩,fun L0 args H v hp m w gV hR hr => ?_⟩
 unfold QG at hp
 split at hp
 case h_2=>cases hp
 rename_i s p
 split at hp
 case h_2=>cases hp
 rename_i c hc
 cases hp
 obtain⟨y,y',rfl,h1,h2⟩:=hr.two
 cases h1
 cases h2
 have hp:p=⟨#[c]⟩:=by
  obtain⟨a⟩:=p
  obtain⟨l⟩:=a
  have:l=[c]:=hc
  rw[this]
 subst hp
 refine(Any.stringslite_Index_one aoE s c w).mono ?_
 rintro e w' ⟨rfl,rfl⟩
 exact⟨_,rfl,.int _ _,Bu⟩
theorem Pq:EZ 192 yP:=by
 refine⟨⟨_,Tryz.func192,by kernel_rfl,by kernel_rfl⟩,fun L0 args H v hp m w gV hR hr => ?_⟩
 unfold yP at hp
 split at hp
 case h_2=>cases hp
 rename_i s b z
 split at hp
 case isFalse=>cases hp
 rename_i hx
 obtain⟨rfl,rfl,hs⟩:=hx
 split at hp
 case h_2=>cases hp
 rename_i u hu
 cases hp
 obtain⟨y,y',y'',rfl,h1,h2,h3⟩:=hr.three
 cases h1
 cases h2
 cases h3
 refine(Any.strconv_ParseUint_10_at64_ok ajG s hs u hu w).mono ?_
 have hv:∀m,RV m (.tuple #[.int .u64 (u:Int),.nilIface]) (.tuple #[.int .u64 (u:Int),.nilIface]):=fun m => .tuple _ _ rfl fun i hi=>by
  match i,hi with
  | 0,_=>exact .int _ _
  | 1,_=>exact .nilIface
  | n+2,hi=>exact absurd hi (by simp)
 rintro e w' ⟨rfl,rfl | rfl⟩
 ·exact⟨_,rfl,hv m,Bu⟩
 ·exact⟨_,rfl,hv m,Below.A9 (Lib.bytesWorld_below _ _ _)⟩
theorem aoL {L0:Nat}:abF Tryz.prog cfg L0:=by
 intro f p hp
 have Es:JO f=some p:=hp
 unfold JO at Es
 split at Es
 ·rename_i h;subst h;cases Es;exact⟨RM.1,RM.2 L0⟩
 split at Es
 ·rename_i h;subst h;cases Es;exact⟨Ms.1,Ms.2 L0⟩
 split at Es
 ·rename_i h;subst h;cases Es;exact⟨TO.1,TO.2 L0⟩
 split at Es
 ·rename_i h;subst h;cases Es;exact⟨JS.1,JS.2 L0⟩
 split at Es
 ·rename_i h;subst h;cases Es;exact⟨Pw.1,Pw.2 L0⟩
 split at Es
 ·rename_i h;subst h;cases Es;exact⟨Pq.1,Pq.2 L0⟩
 cases Es
end Go.PM
namespace Go.PM
open Go.ChangeShapes Go.WideShapes Go.ChangeAt Go.RowKit
open Go.Proofs
structure In (m:dK) (H:aE) (W:World):Prop where
 Z2:∀b l,m b=some l→b<H.length
 valid:∀b l,m b=some l→∃arr e fz,W.heap[l.rb]? = some (.cells arr e fz)∧arr.size=l.Rf
 row:∀b l cs e p,m b=some l→H[b]? = some (.row cs e p)→l.fR=e∧l.Tu=p∧l.base+cs.length≤l.Rf ∧
  ∀i,i<cs.length→∃rv,W.cell? ⟨l.rb,l.base+i,none⟩=some rv∧RV m (cs.getD i Go.undef) rv∧PM.fZ (cs.getD i Go.undef)=true
section
variable {m:dK} {H:aE} {W:World}
theorem In.empty:In (fun _=>none) [] W:=⟨fun _ _ h=>(by cases h),fun _ _ h=>(by cases h),fun _ _ _ _ _ h=>(by cases h)⟩
theorem In.rel (h:In m H W) (hg:Q8 W):Rel m H.length H W :=
 ⟨fun b l hb=>by
  obtain⟨arr,e,fz,h1,h2⟩:=h.valid b l hb
  exact⟨arr,e,fz,h1,h2,fun hl=>by have:=h.Z2 b l hb;omega⟩,h.row,fun b1 b2 l1 l2 hl h1 _ _ _ _=>by have:=h.Z2 b1 l1 h1;omega,fun x hx=>⟨hg x hx,fun b l hb hm _=>by have:=h.Z2 b l hm;omega⟩⟩
theorem In.SF (h:In m H W) {b:Nat} (hb:H.length≤b):m b=none:=by
 cases hm:m b with
 | none=>rfl
 | some l=>have:=h.Z2 b l hm;omega
theorem In.add (h:In m H W) {rb base fR:Nat} {arr:Array Value} {e:TypeId} {fz:Nat×Nat} {cs:List Value} (hb:W.heap[rb]? = some (.cells arr e fz)) (rP:base+cs.length≤arr.size)
  (hc:∀i,i<cs.length→∃rv,W.cell? ⟨rb,base+i,none⟩=some rv∧RV (uW m H.length ⟨rb,base,fR,arr.size,false⟩) (cs.getD i Go.undef) rv∧PM.fZ (cs.getD i Go.undef)=true) :
  In (uW m H.length ⟨rb,base,fR,arr.size,false⟩) (H++[.row cs fR false]) W:=by
 have hn:=h.SF (Nat.le_refl H.length)
 refine⟨fun b l vE => ?_,fun b l vE => ?_,fun b l ds e' p vE nD => ?_⟩
 ·by_cases he:b=H.length
  ·subst he;simp
  ·rw[cY he] at vE
   have:=h.Z2 b l vE
   simp;omega
 ·by_cases he:b=H.length
  ·subst he
   rw[cF] at vE
   cases vE
   exact⟨arr,e,fz,hb,rfl⟩
  ·rw[cY he] at vE
   exact h.valid b l vE
 ·by_cases he:b=H.length
  ·subst he
   rw[cF] at vE
   cases vE
   rw[Xj] at nD
   cases nD
   exact⟨rfl,rfl,rP,hc⟩
  ·rw[cY he] at vE
   have bH:=h.Z2 b l vE
   rw[Rj bH] at nD
   obtain⟨h1,h2,h3,h4⟩:=h.row b l ds e' p vE nD
   refine⟨h1,h2,h3,fun i hi => ?_⟩
   obtain⟨rv,g1,g2,g3⟩:=h4 i hi
   exact⟨rv,g1,g2.mono (uZ hn),g3⟩
end
theorem WL {α:Type} (p:Nat→α→Prop):∀c,(∀i,i<c→∃x,p i x)→∃xs:List α,xs.length=c∧∀i x,xs[i]? = some x→p i x
 | 0,_=>⟨[],rfl,fun i x hx=>by simp at hx⟩
 |
  c+1,h=>by
  obtain⟨xs,h1,h2⟩:=WL p c fun i hi=>h i (by omega)
  obtain⟨x,h3⟩:=h c (by omega)
  refine⟨xs++[x],by simp[h1],fun i y hy => ?_⟩
  rcases Nat.lt_or_ge i xs.length with hi | hi
  ·rw[List.getElem?_append_left hi] at hy
   exact h2 i y hy
  ·rw[List.getElem?_append_right hi] at hy
   have hi0:i-xs.length=0:=by
    rcases Nat.eq_zero_or_pos (i-xs.length) with h | h
    ·exact h
    ·rw[List.getElem?_eq_none (by simp;omega)] at hy;cases hy
   rw[hi0] at hy
   cases hy
   have:i=c:=by omega
   subst this
   exact h3
theorem abR {f:Nat} {args gV:List Value} {H H':aE} {v:Value} {m:dK} {W:World} (hI:In m H W) (hr:RL m args gV) (h:rS f args H.length H=some (v,H')) (hg:Q8 W:=by first | assumption | exact fun x hx=>nomatch hx) :
  Calls Tryz.prog f gV.toArray W fun e W'=>∃m' rv,e = .returned rv∧RV m' v rv∧Below W.heap.size W W':=by
 obtain⟨n,hn⟩:=(wA cfg fM).1 h
 refine(Jg Tryz.checked.mixed aoL aqO n f args H.length H v H' hn m W gV (hI.rel hg) (Nat.le_refl _) (Nat.le_refl _) hr (fun b hb _=>hI.SF hb)).2.mono ?_
 rintro e W' ⟨m',rv,rfl,h1,_,h3⟩
 refine⟨m',rv,rfl,h1,⟨h3.same.1,h3.same.2.2,h3.same.2.1,h3.size,fun k hk=>h3.cG k hk fun b l hb hm _ => ?_⟩⟩
 rw[hI.SF hb] at hm
 cases hm
end Go.PM
namespace Go.PM
def VA (c:kD):Prop:=(0≤c.t∧c.t≤10000)∧(1≤c.w∧c.w≤1000)∧(0≤c.k∧c.k≤9)
instance (c:kD):Decidable (VA c):=by unfold VA;infer_instance
def aqJ (cs:List kD) (i:Nat) (c:kD):Prop:=VA c∧∀b,0<i→cs[i-1]? = some b→b.t≤c.t
def mV (cs:List kD):Prop:=(∀i c,cs[i]? = some c→aqJ cs i c)∧cs.length≤24
noncomputable instance (cs:List kD):Decidable (mV cs):=Classical.propDecidable _
theorem mV.at {cs:List kD} (h:mV cs) {i:Nat} {c:kD} (hc:cs[i]? = some c):(0≤c.t∧c.t≤10000)∧(1≤c.w∧c.w≤1000)∧(0≤c.k∧c.k≤9):=(h.1 i c hc).1
def wl (time:Int):List kD→Int→Int→Int
 | [],l,s=>max (l-(time-s)) 0
 | c::cs,l,s=>if time<c.t then max (l-(time-s)) 0 else wl time cs (max (l-(c.t-s)) 0+c.w) c.t
def azF (cs:List kD) (time:Int):Prop:=mV cs∧(0≤time∧time≤1000000000)
noncomputable instance (cs:List kD) (time:Int):Decidable (azF cs time):=Classical.propDecidable _
def auU (cs:List kD) (ls:List Int):Prop:=mV cs∧ls.length=cs.length∧∀x∈ls,0≤x∧x≤1000000000
noncomputable instance (cs:List kD) (ls:List Int):Decidable (auU cs ls):=Classical.propDecidable _
def asU (cs:List kD) (ls:List Int) (time:Int):Prop:=auU cs ls∧(0≤time∧time≤1000000000)
noncomputable instance (cs:List kD) (ls:List Int) (time:Int):Decidable (asU cs ls time):=Classical.propDecidable _
def ayG (cs:List kD) (ps:List Int):Prop:=mV cs∧ps.length=cs.length∧∀x∈ps,0≤x∧x≤10000
noncomputable instance (cs:List kD) (ps:List Int):Decidable (ayG cs ps):=Classical.propDecidable _
end Go.PM
namespace Go.Proofs.YtjmflicajplclaaGreatDoor
open Go.ChangeShapes Go.WideShapes Go.ChangeAt Go.RowKit Go.PM
theorem own:ownKnob Tryz.prog.godebug=none:=by kernel_rfl
theorem laidOut:laidOutB Tryz.prog=true:=by kernel_rfl
theorem three {α:Type} {l:List α} (h:l.length=3):∃a b c,l=[a,b,c]:=by
 rcases l with _ | ⟨a,_ | ⟨b,_ | ⟨c,_ | ⟨d,l⟩⟩⟩⟩
 ·cases h
 ·cases h
 ·cases h
 ·exact⟨a,b,c,rfl⟩
 ·simp at h
end Go.Proofs.YtjmflicajplclaaGreatDoor
namespace Go.PM
def Eo:List Nat:=[]
 ++ [34]
 ++ [36]
 ++ [37]
 ++ [17]
 ++ [20]
 ++ [21]
 ++ [26]
 ++ [28]
 ++ [29]
 ++ [22]
 ++ [46]
 ++ [48]
 ++ [18]
 ++ [16]
 ++ [27]
 ++ [25]
 ++ [41]
 ++ [40]
 ++ [43]
 ++ [42]
 ++ [31]
 ++ [30]
 ++ [39]
 ++ [38]
 ++ [35]
 ++ [33]
 ++ [182]
 ++ [199]
 ++ [200]
 ++ [204]
 ++ [205]
 ++ [162]
 ++ [216]
 ++ [147]
 ++ [181]
 ++ [71]
 ++ [138]
 ++ [61]
 ++ [99]
 ++ [76]
 ++ [133]
 ++ [149]
 ++ [94]
 ++ [95]
 ++ [90]
 ++ [118]
 ++ [134]
 ++ [179]
 ++ [103]
 ++ [119]
 ++ [72]
 ++ [62]
 ++ [78]
 ++ [70]
 ++ [60]
end Go.PM