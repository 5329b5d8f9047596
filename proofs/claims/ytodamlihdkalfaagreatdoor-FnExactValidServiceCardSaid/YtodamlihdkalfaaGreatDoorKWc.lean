/- Texts of a claim, in one: part 3. -/
import Derived.Lib.ItoaNum
import Derived.Lib.Join
import Derived.Lib.BitFns
import Derived.Lib.Repeat
import Derived.Lib.Bytealg
import Derived.Lib.ParseIntB
import Derived.Test.YtodamlihdkalfaaGreatDoorChecked
import Derived.Laws.BitsLemmas
import Derived.Shelf.Strings.OnBuilder
import Derived.Shelf.Strings.Repeat
import Derived.Shelf.Small.Bits
import Derived.Shelf.Strconv.Itoa1
import Derived.Shelf.Strconv.Itoa2
import Derived.Shelf.LaysM
import Derived.Shelf.Strings.Search2
import Derived.Shelf.Pu.ParseUintPublic10
import Derived.KernelRfl
import Derived.Test.YtodamlihdkalfaaGreatDoorProg
import Derived.Lib.Walk
import Derived.Lib.ItoaMem
import Derived.WalkKit
import Derived.BigCall
import Derived.BigGuard
import Derived.Below
import Derived.Shelf.Strings.Search2
import Derived.Shelf.Pu.ParseUintPublic10
import Derived.Shelf.Strings.OnBuilder
import Derived.Shelf.Strings.Repeat
import Derived.Shelf.Small.Bits
import Derived.ProofKit
import Derived.OpenShut
import Derived.ShutString
import Derived.ChangeOld
import Derived.Carry
import Derived.SizedLaws
import Derived.Test.YtodamlihdkalfaaGreatDoorRows
import Derived.Test.YtodamlihdkalfaaGreatDoorKWb
set_option linter.unusedSimpArgs false
set_option linter.unusedVariables false
namespace Go.PM
def alD:Ex→Exit
 | .normal => .normal
 | .exit id => .exit id
 | .ret => .ret
section
variable {P:Program} {E:AO} {n:Nat} {call:fV} {lo L0:Nat}
def NI (P:Program) (n lo L0:Nat) (c:Code) (run:Env→aE→Option (Ex×Env×aE)):Prop :=
 ∀ρ H x aM H',run ρ H=some (x,aM,H')→∀m a w,Hc n L0 m ρ H a w→L0≤H.length→(∀b,H.length≤b→b<H'.length→m b=none) →
  ∀Q:Exit→Act→World→Prop,(∀m' a' w',Hc n L0 m' aM H' a' w'→Trans lo m H w m' H' w'→Q (alD x) a' w')→c.wp P Q a w
theorem WQ {c:Code} {run:Env→aE→Option (Ex×Env×aE)} (hc:NI P n lo L0 c run) (he:∀ρ H x aM H',run ρ H=some (x,aM,H')→Ext lo H H') (N:Nat):NI P n lo L0 (.loop c) (xV run N):=by
 intro ρ H x aM H' hr m a w h hl hf Q hQ
 apply wp_loop_rounds N
 have key:∀N ρ H,xV run N ρ H=some (x,aM,H')→∀m a w,Hc n L0 m ρ H a w→L0≤H.length→(∀b,H.length≤b→b<H'.length→m b=none) →
   (∀m' a' w',Hc n L0 m' aM H' a' w'→Trans lo m H w m' H' w'→Q (alD x) a' w')→Code.rounds P c Q N a w:=by
  intro N
  induction N with
  | zero=>intro ρ H h;cases h
  |
   succ N ih =>
   intro ρ H hr m a w h hl hf hQ
   rw[rounds_succ]
   rw[xV] at hr
   split at hr
   ·rename_i wQ H1 h1
    have e1:=he _ _ _ _ _ h1
    have e2:=Gp he N hr
    refine hc ρ H _ wQ H1 h1 m a w h hl (fun b DB hb2=>hf b DB (Nat.lt_of_lt_of_le hb2 e2.len)) _ fun m1 a1 w1 hh hT => ?_
    exact ih wQ H1 hr m1 a1 w1 hh (Nat.le_trans hl e1.len) (hT.fresh e1.len hf) fun m2 a2 w2 h2 hT2=>hQ m2 a2 w2 h2 (Trans.trans hf e1 e2 hT hT2)
   ·rename_i fQ
    refine hc ρ H _ aM H' hr m a w h hl hf _ fun m1 a1 w1 hh hT => ?_
    have:=hQ m1 a1 w1 hh hT
    cases x with
    | normal=>exact absurd hr (fQ aM H')
    | exit id=>exact this
    | ret=>exact this
 exact key N ρ H hr m a w h hl hf hQ
theorem nZ (Cn:P.follows .mixedOrders=true) (nU:wM P L0 call) (qZ:rJ call) (iD:L0≤lo) (N:Nat):∀(c:Code) (pc:aF),iI P E n c=some pc→NI P n lo L0 c (dD call lo N pc)
 |
  .skip,pc,hp=>by
  cases hp
  intro ρ H x aM H' hr m a w h hl hf Q hQ
  cases hr
  exact wp_skip (hQ m a w h (Trans.refl _ _ _ _))
 |
  .region id ops draw,pc,hp=>by
  rw[iI] at hp
  cases hpr:yI P E n ops draw with
  | none=>rw[hpr] at hp;cases hp
  |
   some tB =>
   rw[hpr] at hp
   cases hp
   intro ρ H x aM H' hr m a w h hl hf Q hQ
   rw[dD] at hr
   cases hs:gZ call lo tB ρ H with
   | none=>rw[hs] at hr;cases hr
   |
    some q =>
    obtain⟨wQ,H1⟩:=q
    rw[hs] at hr
    cases hr
    exact Sc Cn nU qZ hpr hs h iD hl hf hQ
 |
  .seq x y,pc,hp=>by
  rw[iI] at hp
  split at hp
  ·rename_i px py SX hpy
   cases hp
   intro ρ H e aM H' hr m a w h hl hf Q hQ
   rw[dD] at hr
   apply wp_seq
   split at hr
   ·rename_i wQ H1 h1
    have e1:=jP qZ px h1
    have e2:=jP qZ py hr
    refine nZ Cn nU qZ iD N x px SX ρ H _ wQ H1 h1 m a w h hl (fun b DB hb2=>hf b DB (Nat.lt_of_lt_of_le hb2 e2.len)) _ fun m1 a1 w1 hh hT => ?_
    exact nZ Cn nU qZ iD N y py hpy wQ H1 _ aM H' hr m1 a1 w1 hh (Nat.le_trans hl e1.len) (hT.fresh e1.len hf) Q fun m2 a2 w2 h2 hT2=>hQ m2 a2 w2 h2 (Trans.trans hf e1 e2 hT hT2)
   ·rename_i fQ
    refine nZ Cn nU qZ iD N x px SX ρ H _ aM H' hr m a w h hl hf _ fun m1 a1 w1 hh hT => ?_
    have:=hQ m1 a1 w1 hh hT
    cases e with
    | normal=>exact absurd hr (fQ aM H')
    | exit id=>exact this
    | ret=>exact this
  ·cases hp
 |
  .cond o x y,pc,hp=>by
  rw[iI] at hp
  split at hp
  ·rename_i Dk
   split at hp
   ·rename_i px py SX hpy
    cases hp
    intro ρ H e aM H' hr m a w h hl hf Q hQ
    rw[dD] at hr
    split at hr
    ·rename_i t ht
     have R9:=Sg (a:=a) (m:=m) (ρ:=ρ) Dk fun t _=>h.env t
     rw[ht] at R9
     generalize hev:a.eval o=ro at R9
     cases R9
     refine wp_cond hev ?_
     cases t with
     | true=>exact nZ Cn nU qZ iD N x px SX ρ H _ aM H' hr m a w h hl hf Q hQ
     | false=>exact nZ Cn nU qZ iD N y py hpy ρ H _ aM H' hr m a w h hl hf Q hQ
    ·cases hr
   ·cases hp
  ·cases hp
 |
  .block id x,pc,hp=>by
  rw[iI] at hp
  cases SX:iI P E n x with
  | none=>rw[SX] at hp;cases hp
  |
   some px =>
   rw[SX] at hp
   cases hp
   intro ρ H e aM H' hr m a w h hl hf Q hQ
   rw[dD] at hr
   apply wp_block
   split at hr
   ·rename_i PO wQ H1 h1
    split at hr
    ·rename_i hid
     cases hr
     refine nZ Cn nU qZ iD N x px SX ρ H _ aM H' h1 m a w h hl hf _ fun m1 a1 w1 hh hT => ?_
     have:=hQ m1 a1 w1 hh hT
     show Exit.inBlock id Q (.exit PO) a1 w1
     simp only[Exit.inBlock,if_pos hid]
     exact this
    ·rename_i hid
     cases hr
     refine nZ Cn nU qZ iD N x px SX ρ H _ aM H' h1 m a w h hl hf _ fun m1 a1 w1 hh hT => ?_
     have:=hQ m1 a1 w1 hh hT
     show Exit.inBlock id Q (.exit PO) a1 w1
     simp only[Exit.inBlock,if_neg hid]
     exact this
   ·rename_i fQ
    refine nZ Cn nU qZ iD N x px SX ρ H _ aM H' hr m a w h hl hf _ fun m1 a1 w1 hh hT => ?_
    have:=hQ m1 a1 w1 hh hT
    cases e with
    | normal=>exact this
    | exit PO=>exact absurd hr (fQ PO aM H')
    | ret=>exact this
 |
  .loop x,pc,hp=>by
  rw[iI] at hp
  cases SX:iI P E n x with
  | none=>rw[SX] at hp;cases hp
  |
   some px =>
   rw[SX] at hp
   cases hp
   have hx:=nZ Cn nU qZ iD N x px SX
   intro ρ H e aM H' hr
   rw[dD] at hr
   exact WQ hx (fun ρ H x aM H' h=>jP qZ px h) N ρ H e aM H' hr
 |
  .exit id,pc,hp=>by
  cases hp
  intro ρ H x aM H' hr m a w h hl hf Q hQ
  cases hr
  exact wp_exit (hQ m a w h (Trans.refl _ _ _ _))
 |
  .ret,pc,hp=>by
  cases hp
  intro ρ H x aM H' hr m a w h hl hf Q hQ
  cases hr
  exact wp_ret (hQ m a w h (Trans.refl _ _ _ _))
 | .rangeFunc ..,pc,hp=>by cases hp
 | .scope _,pc,hp=>by cases hp
 | .label _,pc,hp=>by cases hp
 | .goto _,pc,hp=>by cases hp
 | .refuse _,pc,hp=>by cases hp
def zA (P:Program):ResultVar→Option AU
 | .tmp t=>some (.tmp t)
 | .cell t ty=>(lY P ty).map fun(agg,size,_,_) => .cell t agg size
def J2 (a:Act):ResultVar→Sem Value
 | .tmp t=>pure (a.tmps.getD t undef)
 | .cell x t=>do loadVar t (←asAddr (a.tmps.getD x undef))
theorem aqE {m:dA} {ρ:Env} {H:aE} {a:Act} {w:World} (h:Hc n L0 m ρ H a w) {r:ResultVar} {pr:AU} (hp:zA P r=some pr) {v:Value} (hv:Tl ρ H pr=some v) :
  ∃rv,RV m v rv∧(J2 a r).run P w = .ok rv w:=by
 cases r with
 |
  tmp t =>
  cases hp
  cases hv
  exact⟨_,h.env t,rfl⟩
 |
  cell x t =>
  simp only[zA] at hp
  cases ht:lY P t with
  | none=>rw[ht] at hp;cases hp
  |
   some q =>
   obtain⟨agg,size,z,nb⟩:=q
   rw[ht] at hp
   cases hp
   obtain⟨rv,h1,h2⟩:=L6 ht hv h.rel (h.env x)
   refine⟨rv,h1,?_⟩
   unfold J2
   have hpv:=h.env x
   simp only[Tl,nR] at hv
   split at hv
   ·rename_i b o hb
    rw[hb] at hpv
    show (do loadVar t (←asAddr (a.tmps.getD x undef)):Sem Value).run P w=_
    generalize a.tmps.getD x undef=rp at h2 hpv ⊢
    cases hpv
    exact h2
   ·cases hv
theorem Ys {m:dA} {ρ:Env} {H:aE} {a:Act} {w:World} (h:Hc n L0 m ρ H a w):∀ {rs:List ResultVar} {prs:List AU} {vs:List Value},rs.mapM (zA P)=some prs→A8 ρ H prs=some vs →
  ∃VM,RL m vs VM∧(rs.mapM (J2 a)).run P w = .ok VM w
 |
  [],prs,vs,hp,hv=>by
  simp at hp
  subst hp
  cases hv
  exact⟨[],RL.nil m,rfl⟩
 |
  r::rs,prs,vs,hp,hv=>by
  simp only[List.mapM_cons,Option.pure_def,Option.bind_eq_bind] at hp
  cases h1:zA P r with
  | none=>rw[h1] at hp;cases hp
  |
   some pr =>
   rw[h1] at hp
   cases h2:rs.mapM (zA P) with
   | none=>rw[h2] at hp;cases hp
   |
    some awV =>
    rw[h2] at hp
    cases hp
    simp only[A8] at hv
    split at hv
    ·rename_i v vs' hv1 hv2
     cases hv
     obtain⟨rv,g1,g2⟩:=aqE h h1 hv1
     obtain⟨VM,g3,g4⟩:=Ys h h2 hv2
     refine⟨rv::VM,RL.cons g1 g3,?_⟩
     rw[List.mapM_cons,Sem.run_bind,g2,Result.andThen_ok,Sem.run_bind,g4]
     rfl
    ·cases hv
theorem HU {m:dA} {ρ:Env} {H:aE} {a:Act} {w:World} (h:Hc n L0 m ρ H a w) {fn:Func} {prs:List AU} (hp:fn.results.toList.mapM (zA P)=some prs) {v:Value} (hv:qQ prs ρ H=some v) :
  ∃rv,RV m v rv∧(results fn a.tmps).run P w = .ok rv w:=by
 unfold qQ at hv
 cases kW:A8 ρ H prs with
 | none=>rw[kW] at hv;cases hv
 |
  some vs =>
  obtain⟨VM,h1,h2⟩:=Ys h hp kW
  rw[kW] at hv
  have pG:∀rv,(if h:VM.toArray.size=1 then VM.toArray[0] else .tuple VM.toArray)=rv→(results fn a.tmps).run P w = .ok rv w:=by
   intro rv R9
   have e:results fn a.tmps=(do let vs ←fn.results.mapM (J2 a);pure (if h:vs.size=1 then vs[0] else .tuple vs)):=by
    unfold results
    congr 2
   rw[e,Array.mapM_eq_mapM_toList,Sem.run_bind]
   have:(List.toArray <$> fn.results.toList.mapM (J2 a)).run P w = .ok VM.toArray w:=by
    rw[map_eq_pure_bind,Sem.run_bind,h2]
    rfl
   rw[this,←R9]
   rfl
  clear h2 kW
  rcases vs with _ | ⟨x,_ | ⟨y,xs⟩⟩
  ·rcases VM with _ | ⟨x',ys⟩
   ·cases hv
    exact⟨_,h1.SE,pG _ rfl⟩
   ·cases h1.1
  ·rcases VM with _ | ⟨x',_ | ⟨y',ys⟩⟩
   ·cases h1.1
   ·cases hv
    exact⟨x',h1.jT.1,pG x' rfl⟩
   ·cases h1.1
  ·rcases VM with _ | ⟨x',_ | ⟨y',ys⟩⟩
   ·cases h1.1
   ·cases h1.1
   ·cases hv
    exact⟨_,h1.SE,pG _ (by simp)⟩
end
end Go.PM
namespace Go.PM
def Ye (P:Program) (E:AO) (L0:Nat):Prop :=
 ∀f p,E.Cx f=some p→JW P f∧∀args H v,p args H=some v→∀m w gR,Rel m L0 H w→RL m args gR →
  Calls P f gR.toArray w fun e w'=>∃rv,e = .returned rv∧RV m v rv∧w.heap.size≤w'.heap.size∧(∀rb,rb<w.heap.size→w'.heap[rb]? = w.heap[rb]?)∧w'.os=w.os∧w'.output=w.output∧w'.tape=w.tape
theorem Rel.more {m:dA} {L0:Nat} {H:aE} {w w':World} (h:Rel m L0 H w) (hk:∀rb,rb<w.heap.size→w'.heap[rb]? = w.heap[rb]?):Rel m L0 H w':=by
 have hv:∀b l,m b=some l→l.rb<w.heap.size:=fun b l hb=>by
  obtain⟨arr,e,fz,h1,_⟩:=h.valid b l hb
  exact(Array.getElem?_eq_some_iff.1 h1).1
 refine⟨fun b l hb=>by rw[hk _ (hv b l hb)];exact h.valid b l hb,fun b l cs e p hm hb => ?_,h.inj,fun x hx=>⟨?_,(h.Co x hx).2⟩⟩
 ·obtain⟨h1,h2,h3,h4⟩:=h.row b l cs e p hm hb
  refine⟨h1,h2,h3,fun i hi => ?_⟩
  obtain⟨rv,g1,g2⟩:=h4 i hi
  refine⟨rv,?_,g2⟩
  rw[←g1]
  unfold World.cell?
  simp only[hk _ (hv b l hm)]
 ·obtain⟨e,fz,g1⟩:=(h.Co x hx).1
  exact⟨e,fz,by rw[hk _ (Array.getElem?_eq_some_iff.1 g1).1];exact g1⟩
theorem Wz {P:Program} {E:AO} {f:Nat} {pf:aY} (h:Qd P E f=some pf):∃fn c,P.funcs[f]? = some fn∧fn.body=some c∧(fn.name == "runtime.NumGoroutine")=false∧fn.results.toList.mapM (zA P)=some pf.res∧iI P E fn.ntmps c=some pf.body∧pf.ntmps=fn.ntmps:=by
 unfold Qd at h
 cases hf:P.funcs[f]? with
 | none=>rw[hf] at h;cases h
 |
  some fn =>
  rw[hf] at h
  have h':Jx P E fn=some pf:=h
  unfold Jx at h'
  cases hb:fn.body with
  | none=>rw[hb] at h';cases h'
  |
   some c =>
   rw[hb] at h'
   simp only at h'
   split at h'
   ·cases h'
   ·rename_i Yk
    split at h'
    ·cases h'
    ·rename_i res Sb
     cases hc:iI P E fn.ntmps c with
     | none=>rw[hc] at h';cases h'
     |
      some body =>
      rw[hc] at h'
      cases h'
      refine⟨fn,c,rfl,hb,by simpa using Yk,?_,hc,rfl⟩
      have e:(fun(r:ResultVar)=>match r with
       | .tmp t=>some (AU.tmp t)
       | .cell t ty=>(lY P ty).map fun(agg,size,_,_) => .cell t agg size)=zA P:=by
       funext r
       cases r<;>rfl
      rw[←e]
      exact Sb
theorem Gb {P:Program} {E:AO} {T:Wp} {L0:Nat} (Cn:P.follows .mixedOrders=true) (Yt:Ye P E L0) (hT:∀f pf,T f=some pf→Qd P E f=some pf):∀n,wM P L0 (lZ E T n)
 | 0=>fun f args lo H v H' h=>by cases h
 |
  n+1=>fun f args lo H v H' h m w gR hR iD hlen QS hf=>by
  have qZ:=Da E T n
  rw[lZ] at h
  split at h
  ·rename_i p hp
   obtain⟨hco,aoY⟩:=Yt f p hp
   refine⟨hco,?_⟩
   cases hpv:p args H with
   | none=>rw[hpv] at h;cases h
   |
    some u =>
    rw[hpv] at h
    cases h
    refine(aoY args H v hpv m w gR hR QS).mono ?_
    rintro e w' ⟨rv,rfl,h1,h2,h3,h4⟩
    exact⟨m,rv,rfl,h1,hR.more h3,fun _ _ h=>h,fun b l hb hn=>(by rw[hb] at hn;cases hn),h2,fun rb BU _=>h3 rb BU,h4⟩
  ·split at h
   ·cases h
   ·rename_i pf hpf
    obtain⟨fn,c,h1,h2,h3,h4,h5,h6⟩:=Wz (hT _ _ hpf)
    split at h
    case isFalse=>cases h
    rename_i xH
    refine⟨⟨fn,h1,h3,by rw[h2];rfl⟩,calls_of_wp h1 h2 ?_⟩
    have CO:gR.toArray.size≤fn.ntmps:=by
     have:=QS.1
     simp;omega
    have hH:Hc fn.ntmps L0 m (Ug args) H { tmps:=gR.toArray++Array.replicate (fn.ntmps-gR.toArray.size) undef,defers:=[] } w:=by
     refine⟨by simp at CO ⊢;omega,rfl,fun t => ?_,hR⟩
     rcases Nat.lt_or_ge t args.length with ht | ht
     ·have h7:=QS.2 t ht
      have Zt:t<gR.length:=by rw[←QS.1];exact ht
      have e:(gR.toArray++Array.replicate (fn.ntmps-gR.toArray.size) undef).getD t undef=gR.getD t undef:=by
       rw[Array.getD_eq_getD_getElem?,Array.getElem?_append_left (by simpa using Zt)]
       simp
      show RV m (args.getD t undef) _
      rw[e]
      exact h7
     ·have e1:args.getD t undef=undef:=by simp[List.getD_eq_getElem?_getD,List.getElem?_eq_none ht]
      have Zt:gR.length≤t:=by rw[←QS.1];exact ht
      have e2:(gR.toArray++Array.replicate (fn.ntmps-gR.toArray.size) undef).getD t undef=undef:=by
       rw[Array.getD_eq_getD_getElem?,Array.getElem?_append_right (by simpa using Zt)]
       rw[Array.getElem?_replicate]
       split<;>rfl
      show RV m (args.getD t undef) _
      rw[e1,e2]
      exact RV.undef m
    split at h
    ·rename_i wQ H1 pG
     cases hr:qQ pf.res wQ H1 with
     | none=>rw[hr] at h;cases h
     |
      some u =>
      rw[hr] at h
      cases h
      refine nZ Cn (Gb Cn Yt hT n) qZ iD n c pf.body h5 _ _ _ _ _ pG m _ w hH hlen hf _ fun m' a' w' hh hTr => ?_
      obtain⟨rv,g1,g2⟩:=HU hh h4 hr
      exact⟨hh.defs,rv,g2,m',rv,rfl,g1,hh.rel,hTr⟩
    ·rename_i wQ H1 pG
     cases hr:qQ pf.res wQ H1 with
     | none=>rw[hr] at h;cases h
     |
      some u =>
      rw[hr] at h
      cases h
      refine nZ Cn (Gb Cn Yt hT n) qZ iD n c pf.body h5 _ _ _ _ _ pG m _ w hH hlen hf _ fun m' a' w' hh hTr => ?_
      obtain⟨rv,g1,g2⟩:=HU hh h4 hr
      exact⟨hh.defs,rv,g2,m',rv,rfl,g1,hh.rel,hTr⟩
    ·cases h
end Go.PM
namespace Go.PM
def CLe (c c':fV):Prop:=∀f args lo H r,c f args lo H=some r→c' f args lo H=some r
section
variable {c c':fV} {lo:Nat}
theorem LD (h:CLe c c') {i:PI} {ρ:Env} {H:aE} {r:Value×aE} (hr:yV c lo i ρ H=some r):yV c' lo i ρ H=some r:=by
 unfold yV at hr ⊢
 split at hr
 ·cases hr
 ·exact hr
 ·split at hr
  ·rename_i N0
   rw[if_pos N0]
   split at hr
   ·exact hr
   ·exact h _ _ _ _ _ hr
   ·cases hr
  ·cases hr
theorem Ry (h:CLe c c') {i:PI} {ρ:Env} {H:aE} {r:Env×aE} (hr:yO c lo i ρ H=some r):yO c' lo i ρ H=some r:=by
 unfold yO at hr ⊢
 split at hr
 ·rename_i v H' hv
  rw[LD h hv]
  exact hr
 ·cases hr
theorem zR (h:CLe c c'):∀ {is:List PI} {ρ:Env} {H:aE} {r:Env×aE},gZ c lo is ρ H=some r→gZ c' lo is ρ H=some r
 | [],_,_,_,hr=>hr
 |
  i::is,ρ,H,r,hr=>by
  rw[gZ] at hr ⊢
  split at hr
  ·rename_i h1
   rw[Ry h h1]
   exact zR h hr
  ·cases hr
theorem yB {b b':Env→aE→Option (Ex×Env×aE)} (h:∀ρ H r,b ρ H=some r→b' ρ H=some r):∀ {n n':Nat} {ρ:Env} {H:aE} {r:Ex×Env×aE},n≤n'→xV b n ρ H=some r→xV b' n' ρ H=some r
 | 0,_,_,_,_,_,hr=>by cases hr
 | n+1,0,_,_,_,hn,_=>by omega
 |
  n+1,n'+1,ρ,H,r,hn,hr=>by
  rw[xV] at hr ⊢
  split at hr
  ·rename_i h1
   rw[h _ _ _ h1]
   exact yB h (by omega) hr
  ·rename_i fQ
   rw[h _ _ _ hr]
   split
   ·rename_i aM H' he
    cases he
    exact absurd hr (fQ _ _)
   ·rfl
theorem eH (h:CLe c c') {n n':Nat} (hn:n≤n'):∀(p:aF) {ρ:Env} {H:aE} {r:Ex×Env×aE},dD c lo n p ρ H=some r→dD c' lo n' p ρ H=some r
 | .skip,_,_,_,hr=>hr
 |
  .eT ops,ρ,H,r,hr=>by
  rw[dD] at hr ⊢
  cases hs:gZ c lo ops ρ H with
  | none=>rw[hs] at hr;cases hr
  | some q=>rw[hs] at hr;rw[zR h hs];exact hr
 |
  .seq a b,ρ,H,r,hr=>by
  rw[dD] at hr ⊢
  split at hr
  ·rename_i h1
   rw[eH h hn a h1]
   exact eH h hn b hr
  ·rename_i fQ
   rw[eH h hn a hr]
   split
   ·rename_i he;cases he;exact absurd hr (fQ _ _)
   ·rfl
 |
  .cond x a b,ρ,H,r,hr=>by
  rw[dD] at hr ⊢
  split at hr
  ·split at hr
   ·rename_i ht;rw[if_pos ht];exact eH h hn a hr
   ·rename_i ht;rw[if_neg ht];exact eH h hn b hr
  ·cases hr
 |
  .block id a,ρ,H,r,hr=>by
  rw[dD] at hr ⊢
  split at hr
  ·rename_i h1
   rw[eH h hn a h1]
   exact hr
  ·rename_i fQ
   rw[eH h hn a hr]
   split
   ·rename_i he;cases he;exact absurd hr (fQ _ _ _)
   ·rfl
 |
  .loop a,ρ,H,r,hr=>by
  rw[dD] at hr ⊢
  exact yB (fun ρ H r hr=>eH h hn a hr) hn hr
 | .exit id,_,_,_,hr=>hr
 | .ret,_,_,_,hr=>hr
theorem Bj (E:AO) (T:Wp):∀n,CLe (lZ E T n) (lZ E T (n+1))
 | 0,_,_,_,_,_,hr=>by cases hr
 |
  n+1,f,args,lo,H,r,hr=>by
  rw[lZ] at hr ⊢
  split at hr
  ·exact hr
  ·split at hr
   ·cases hr
   ·split at hr
    ·rename_i pf _ ha
     rw[if_pos ha]
     split at hr
     ·rename_i h1
      rw[eH (Bj E T n) (Nat.le_succ n) pf.body h1]
      exact hr
     ·rename_i h1
      rw[eH (Bj E T n) (Nat.le_succ n) pf.body h1]
      exact hr
     ·cases hr
    ·cases hr
theorem oP (E:AO) (T:Wp) {n n':Nat} (h:n≤n'):CLe (lZ E T n) (lZ E T n'):=by
 induction h with
 | refl=>exact fun _ _ _ _ _ h=>h
 | step _ ih=>exact fun f args lo H r hr=>Bj E T _ f args lo H r (ih f args lo H r hr)
end
section
variable (E:AO) (T:Wp)
open Classical in
noncomputable def lim {α:Type} (run:Nat→Option α):Option α:=if h:∃r,∃n,run n=some r then some (Classical.choose h) else none
theorem TM {α:Type} {run:Nat→Option α} (hm:∀n n' r,n≤n'→run n=some r→run n'=some r) {r:α}:lim run=some r↔∃n,run n=some r:=by
 unfold lim
 constructor
 ·intro h
  split at h
  ·rename_i hx
   cases h
   exact Classical.choose_spec hx
  ·cases h
 ·rintro⟨n,hn⟩
  have hx:∃r,∃n,run n=some r:=⟨r,n,hn⟩
  rw[dif_pos hx]
  obtain⟨n',QN⟩:=Classical.choose_spec hx
  have h1:=hm n (max n n') r (Nat.le_max_left _ _) hn
  have h2:=hm n' (max n n') _ (Nat.le_max_right _ _) QN
  rw[h1] at h2
  injection h2 with h2
  rw[←h2]
noncomputable def call:fV:=fun f args lo H=>lim fun n=>lZ E T n f args lo H
noncomputable def code (lo:Nat) (c:aF) (ρ:Env) (H:aE):Option (Ex×Env×aE):=lim fun n=>dD (lZ E T n) lo n c ρ H
theorem uJ {f:Nat} {args:List Value} {lo:Nat} {H:aE} {r:Value×aE}:call E T f args lo H=some r↔∃n,lZ E T n f args lo H=some r :=
 TM fun _ _ r h hr=>oP E T h f args lo H r hr
theorem cC {lo:Nat} {c:aF} {ρ:Env} {H:aE} {r:Ex×Env×aE}:code E T lo c ρ H=some r↔∃n,dD (lZ E T n) lo n c ρ H=some r :=
 TM fun _ _ _ h hr=>eH (oP E T h) h c hr
theorem JG {lo:Nat}:∀ {is:List PI} {ρ:Env} {H:aE} {r:Env×aE},gZ (call E T) lo is ρ H=some r↔∃n,gZ (lZ E T n) lo is ρ H=some r:=by
 have le:∀n,CLe (lZ E T n) (call E T):=fun n f args lo H r hr=>(uJ E T).2 ⟨n,hr⟩
 have val:∀ {i:PI} {ρ:Env} {H:aE} {r:Value×aE},yV (call E T) lo i ρ H=some r→∃n,yV (lZ E T n) lo i ρ H=some r:=by
  intro i ρ H r hr
  unfold yV at hr ⊢
  split at hr
  ·cases hr
  ·exact⟨0,hr⟩
  ·split at hr
   ·rename_i N0
    split at hr
    ·exact⟨0,by rw[if_pos N0];exact hr⟩
    ·obtain⟨n,hn⟩:=(uJ E T).1 hr
     exact⟨n,by rw[if_pos N0];exact hn⟩
    ·cases hr
   ·cases hr
 intro is
 induction is with
 | nil=>exact fun {ρ H r}=>⟨fun h=>⟨0,h⟩,fun⟨_,h⟩=>h⟩
 |
  cons i is ih =>
  intro ρ H r
  constructor
  ·intro h
   rw[gZ] at h
   split at h
   ·rename_i wQ H1 h1
    obtain⟨v,hv,rfl⟩:=yE h1
    obtain⟨n1,hn1⟩:=val hv
    obtain⟨n2,ZM⟩:=ih.1 h
    refine⟨max n1 n2,?_⟩
    rw[gZ]
    have e:yO (lZ E T (max n1 n2)) lo i ρ H=some (put ρ i.dst v,H1):=by
     unfold yO
     rw[LD (oP E T (Nat.le_max_left n1 n2)) hn1]
    rw[e]
    exact zR (oP E T (Nat.le_max_right n1 n2)) ZM
   ·cases h
  ·rintro⟨n,h⟩
   exact zR (le n) h
theorem By {α:Type} {a b:Option α} (h:∀r,a=some r↔b=some r):a=b:=by
 cases a with
 |
  none =>
  cases b with
  | none=>rfl
  | some y=>exact((h y).2 rfl)
 | some x=>exact((h x).1 rfl).symm
variable {lo:Nat} {ρ:Env} {H:aE}
theorem Uk:code E T lo .skip ρ H=some (.normal,ρ,H):=(cC E T).2 ⟨0,rfl⟩
theorem Uc {id:Nat}:code E T lo (.exit id) ρ H=some (.exit id,ρ,H):=(cC E T).2 ⟨0,rfl⟩
theorem Xg:code E T lo .ret ρ H=some (.ret,ρ,H):=(cC E T).2 ⟨0,rfl⟩
theorem Xo {ops:List PI}:code E T lo (.eT ops) ρ H=(gZ (call E T) lo ops ρ H).map fun(aM,H')=>(.normal,aM,H'):=by
 refine By fun r => ?_
 rw[cC]
 constructor
 ·rintro⟨n,h⟩
  rw[dD] at h
  cases hs:gZ (lZ E T n) lo ops ρ H with
  | none=>rw[hs] at h;cases h
  |
   some q =>
   rw[hs] at h
   rw[(JG E T).2 ⟨n,hs⟩]
   exact h
 ·intro h
  cases hs:gZ (call E T) lo ops ρ H with
  | none=>rw[hs] at h;cases h
  |
   some q =>
   rw[hs] at h
   obtain⟨n,hn⟩:=(JG E T).1 hs
   exact⟨n,by rw[dD,hn];exact h⟩
theorem Xi {a b:aF}:code E T lo (.seq a b) ρ H=match code E T lo a ρ H with
  | some (.normal,aM,H')=>code E T lo b aM H'
  | r=>r:=by
 refine By fun r => ?_
 rw[cC]
 constructor
 ·rintro⟨n,h⟩
  rw[dD] at h
  split at h
  ·rename_i h1
   rw[(cC E T).2 ⟨n,h1⟩]
   exact(cC E T).2 ⟨n,h⟩
  ·rename_i fQ
   rw[(cC E T).2 ⟨n,h⟩]
   split
   ·rename_i he;cases he;exact absurd h (fQ _ _)
   ·rfl
 ·intro h
  split at h
  ·rename_i h1
   obtain⟨n1,h1⟩:=(cC E T).1 h1
   obtain⟨n2,h2⟩:=(cC E T).1 h
   refine⟨max n1 n2,?_⟩
   rw[dD,eH (oP E T (Nat.le_max_left n1 n2)) (Nat.le_max_left n1 n2) a h1]
   exact eH (oP E T (Nat.le_max_right n1 n2)) (Nat.le_max_right n1 n2) b h2
  ·rename_i fQ
   obtain⟨n,h1⟩:=(cC E T).1 h
   refine⟨n,?_⟩
   rw[dD,h1]
   split
   ·rename_i he;cases he;exact absurd h (fQ _ _)
   ·rfl
theorem UY {x:Operand} {a b:aF}:code E T lo (.cond x a b) ρ H=match ev ρ x with
  | .bool t=>if t then code E T lo a ρ H else code E T lo b ρ H
  | _=>none:=by
 refine By fun r => ?_
 rw[cC]
 constructor
 ·rintro⟨n,h⟩
  rw[dD] at h
  split at h
  ·rename_i t he
   rw[he]
   show (if t=true then code E T lo a ρ H else code E T lo b ρ H)=some r
   split at h
   ·rename_i ht;rw[if_pos ht];exact(cC E T).2 ⟨n,h⟩
   ·rename_i ht;rw[if_neg ht];exact(cC E T).2 ⟨n,h⟩
  ·cases h
 ·intro h
  split at h
  ·rename_i t he
   split at h
   ·rename_i ht
    obtain⟨n,h⟩:=(cC E T).1 h
    refine⟨n,?_⟩
    rw[dD,he]
    show (if t=true then _ else _)=_
    rw[if_pos ht]
    exact h
   ·rename_i ht
    obtain⟨n,h⟩:=(cC E T).1 h
    refine⟨n,?_⟩
    rw[dD,he]
    show (if t=true then _ else _)=_
    rw[if_neg ht]
    exact h
  ·cases h
theorem Q1 {id:Nat} {a:aF}:code E T lo (.block id a) ρ H=match code E T lo a ρ H with
  | some (.exit PO,aM,H')=>if PO=id then some (.normal,aM,H') else some (.exit PO,aM,H')
  | r=>r:=by
 refine By fun r => ?_
 rw[cC]
 constructor
 ·rintro⟨n,h⟩
  rw[dD] at h
  split at h
  ·rename_i h1
   rw[(cC E T).2 ⟨n,h1⟩]
   exact h
  ·rename_i fQ
   rw[(cC E T).2 ⟨n,h⟩]
   split
   ·rename_i he;cases he;exact absurd h (fQ _ _ _)
   ·rfl
 ·intro h
  split at h
  ·rename_i h1
   obtain⟨n,h1⟩:=(cC E T).1 h1
   exact⟨n,by rw[dD,h1];exact h⟩
  ·rename_i fQ
   obtain⟨n,h1⟩:=(cC E T).1 h
   refine⟨n,?_⟩
   rw[dD,h1]
   split
   ·rename_i he;cases he;exact absurd h (fQ _ _ _)
   ·rfl
theorem T4 {a:aF}:code E T lo (.loop a) ρ H=match code E T lo a ρ H with
  | some (.normal,aM,H')=>code E T lo (.loop a) aM H'
  | r=>r:=by
 refine By fun r => ?_
 rw[cC]
 constructor
 ·rintro⟨n,h⟩
  rw[dD] at h
  cases n with
  | zero=>cases h
  |
   succ n =>
   rw[xV] at h
   split at h
   ·rename_i h1
    rw[(cC E T).2 ⟨n+1,h1⟩]
    refine(cC E T).2 ⟨n+1,?_⟩
    rw[dD]
    exact yB (fun _ _ _ h=>h) (Nat.le_succ n) h
   ·rename_i fQ
    rw[(cC E T).2 ⟨n+1,h⟩]
    split
    ·rename_i he;cases he;exact absurd h (fQ _ _)
    ·rfl
 ·intro h
  split at h
  ·rename_i h1
   obtain⟨n1,h1⟩:=(cC E T).1 h1
   obtain⟨n2,h2⟩:=(cC E T).1 h
   refine⟨max n1 n2+1,?_⟩
   have g1:=eH (oP E T (show n1≤max n1 n2+1 by omega)) (show n1≤max n1 n2+1 by omega) a h1
   rw[dD,xV,g1]
   rw[dD] at h2
   exact yB (fun _ _ _ h=>eH (oP E T (show n2≤max n1 n2+1 by omega)) (show n2≤max n1 n2+1 by omega) a h) (show n2≤max n1 n2 by omega) h2
  ·rename_i fQ
   obtain⟨n,h1⟩:=(cC E T).1 h
   refine⟨n+1,?_⟩
   rw[dD,xV,eH (Bj E T n) (Nat.le_succ n) a h1]
   split
   ·rename_i he;cases he;exact absurd h (fQ _ _)
   ·rfl
noncomputable def adR (lo:Nat) (pf:aY) (args:List Value) (H:aE):Option (Value×aE) :=
 if args.length≤pf.ntmps then
  match code E T lo pf.body (Ug args) H with
  | some (.normal,ρ,H') | some (.ret,ρ,H')=>(qQ pf.res ρ H').map (·,H')
  | _=>none
 else none
theorem Ub {f:Nat} {p:List Value→aE→Option Value} (h:E.Cx f=some p) {args:List Value}:call E T f args lo H=(p args H).map (·,H):=by
 refine By fun r => ?_
 rw[uJ]
 constructor
 ·rintro⟨n,hr⟩
  cases n with
  | zero=>cases hr
  | succ n=>rw[lZ,h] at hr;exact hr
 ·intro hr
  exact⟨1,by rw[lZ,h];exact hr⟩
theorem ZC {f:Nat} {pf:aY} (hp:E.Cx f=none) (h:T f=some pf) {args:List Value}:call E T f args lo H=adR E T lo pf args H:=by
 refine By fun r => ?_
 rw[uJ]
 unfold adR
 constructor
 ·rintro⟨n,hr⟩
  cases n with
  | zero=>cases hr
  |
   succ n =>
   rw[lZ,hp,h] at hr
   simp only at hr
   split at hr
   ·rename_i ha
    rw[if_pos ha]
    split at hr
    ·rename_i h1
     rw[(cC E T).2 ⟨n,h1⟩]
     exact hr
    ·rename_i h1
     rw[(cC E T).2 ⟨n,h1⟩]
     exact hr
    ·cases hr
   ·cases hr
 ·intro hr
  split at hr
  ·rename_i ha
   split at hr
   ·rename_i h1
    obtain⟨n,h1⟩:=(cC E T).1 h1
    exact⟨n+1,by rw[lZ,hp,h];simp only;rw[if_pos ha,h1];exact hr⟩
   ·rename_i h1
    obtain⟨n,h1⟩:=(cC E T).1 h1
    exact⟨n+1,by rw[lZ,hp,h];simp only;rw[if_pos ha,h1];exact hr⟩
   ·cases hr
  ·cases hr
end
end Go.PM
namespace Go.PM
theorem C4 {H H':aE} {lo Bf b o:Nat} {new:List Value} (hl:Bf≤lo) (h:H.write lo b o new=some H'):H.write Bf b o new=some H':=by
 unfold aE.write at h ⊢
 split at h
 ·split at h
  ·rename_i hc
   rw[if_pos ⟨by omega,hc.2⟩]
   exact h
  ·cases h
 ·cases h
theorem Bq {α β:Type} {a b:Option α} {f:α→β} {r:β} (Hi:∀x,a=some x→b=some x) (h:a.map f=some r):b.map f=some r:=by
 cases a with
 | none=>cases h
 | some x=>rw[Hi x rfl];exact h
theorem HS {lo Bf size bytes add:Nat} {x:Value} {new:List Value} {H:aE} {r:Value×aE} (hl:Bf≤lo) (h:dS lo size bytes x add new H=some r):dS Bf size bytes x add new H=some r:=by
 unfold dS at h ⊢
 split at h
 case isFalse=>cases h
 rename_i hc
 rw[if_pos hc]
 split at h
 ·exact h
 ·split at h
  ·split at h
   ·rename_i h1
    skip
    rw[if_pos h1]
    split at h
    ·rename_i h2
     rw[if_pos h2]
     split at h
     ·rename_i h3;rw[if_pos h3];exact h
     ·rename_i h3
      rw[if_neg h3]
      exact Bq (fun H' hw=>C4 hl hw) h
    ·rename_i h2
     rw[if_neg h2]
     split at h
     ·rename_i h3
      rw[if_pos h3]
      split at h
      ·rename_i h4
       rw[if_pos h4]
       split at h
       ·rename_i h5;rw[if_pos (by omega)];exact h
       ·cases h
      ·rename_i h4;rw[if_neg h4];exact h
     ·cases h
   ·cases h
  ·cases h
 ·cases h
theorem SK {lo Bf:Nat} {p:nI} {ρ:Env} {H:aE} {o:Out} (hl:Bf≤lo) (h:pop lo p ρ H=some o):pop Bf p ρ H=some o:=by
 cases p<;>first | exact h | skip
 case store size q v =>
  simp only[pop] at h ⊢
  split at h
  ·split at h
   ·rename_i h1
    skip
    rw[if_pos h1]
    exact Bq (fun H' hw=>C4 hl hw) h
   ·cases h
  ·cases h
 case app size bytes x y =>
  simp only[pop] at h ⊢
  split at h
  ·split at h
   ·skip
    exact Bq (fun H' hw=>HS hl hw) h
   ·cases h
  ·cases h
 case appz z bytes x n =>
  simp only[pop] at h ⊢
  split at h
  ·split at h
   ·rename_i h1
    skip
    rw[if_pos h1]
    exact Bq (fun H' hw=>HS hl hw) h
   ·cases h
  ·cases h
 case copy size x y =>
  simp only[pop] at h ⊢
  split at h
  ·exact h
  ·split at h
   ·skip
    exact Bq (fun H' hw=>C4 hl hw) h
   ·cases h
  ·cases h
 case clear z x =>
  simp only[pop] at h ⊢
  split at h
  ·exact h
  ·skip
   split at h
   ·rename_i h1;rw[if_pos h1];exact h
   ·rename_i h1
    rw[if_neg h1]
    exact Bq (fun H' hw=>C4 hl hw) h
  ·cases h
def XI (c:fV):Prop:=∀f args lo Bf H r,Bf≤lo→c f args lo H=some r→c f args Bf H=some r
section
variable {c:fV} {lo Bf:Nat}
theorem KF (hc:XI c) (hl:Bf≤lo):∀ {is:List PI} {ρ:Env} {H:aE} {r:Env×aE},gZ c lo is ρ H=some r→gZ c Bf is ρ H=some r
 | [],_,_,_,h=>h
 |
  i::is,ρ,H,r,h=>by
  rw[gZ] at h ⊢
  split at h
  ·rename_i wQ H1 h1
   have e:yO c Bf i ρ H=some (wQ,H1):=by
    unfold yO at h1 ⊢
    split at h1
    ·rename_i v H2 hv
     have:yV c Bf i ρ H=some (v,H2):=by
      unfold yV at hv ⊢
      split at hv
      ·cases hv
      ·exact hv
      ·split at hv
       ·rename_i N0
        rw[if_pos N0]
        split at hv
        ·rename_i hp;rw[SK hl hp];exact hv
        ·rename_i hp
         rw[SK hl hp]
         show c _ _ (if i.quiet=true then H.length else Bf) H=_
         cases hq:i.quiet with
         | true=>rw[hq] at hv;exact hv
         | false=>rw[hq] at hv;exact hc _ _ _ _ _ _ hl hv
        ·cases hv
       ·cases hv
     rw[this]
     exact h1
    ·cases h1
   rw[e]
   exact KF hc hl h
  ·cases h
theorem T1 {b b':Env→aE→Option (Ex×Env×aE)} (h:∀ρ H r,b ρ H=some r→b' ρ H=some r):∀ {n:Nat} {ρ:Env} {H:aE} {r:Ex×Env×aE},xV b n ρ H=some r→xV b' n ρ H=some r :=
 fun hr=>yB h (Nat.le_refl _) hr
theorem nC (hc:XI c) (hl:Bf≤lo) {n:Nat}:∀(p:aF) {ρ:Env} {H:aE} {r:Ex×Env×aE},dD c lo n p ρ H=some r→dD c Bf n p ρ H=some r
 | .skip,_,_,_,hr=>hr
 |
  .eT ops,ρ,H,r,hr=>by
  rw[dD] at hr ⊢
  exact Bq (fun _ h=>KF hc hl h) hr
 |
  .seq a b,ρ,H,r,hr=>by
  rw[dD] at hr ⊢
  split at hr
  ·rename_i h1
   rw[nC hc hl a h1]
   exact nC hc hl b hr
  ·rename_i fQ
   rw[nC hc hl a hr]
   split
   ·rename_i he;cases he;exact absurd hr (fQ _ _)
   ·rfl
 |
  .cond x a b,ρ,H,r,hr=>by
  rw[dD] at hr ⊢
  split at hr
  ·split at hr
   ·rename_i ht;rw[if_pos ht];exact nC hc hl a hr
   ·rename_i ht;rw[if_neg ht];exact nC hc hl b hr
  ·cases hr
 |
  .block id a,ρ,H,r,hr=>by
  rw[dD] at hr ⊢
  split at hr
  ·rename_i h1
   rw[nC hc hl a h1]
   exact hr
  ·rename_i fQ
   rw[nC hc hl a hr]
   split
   ·rename_i he;cases he;exact absurd hr (fQ _ _ _)
   ·rfl
 |
  .loop a,ρ,H,r,hr=>by
  rw[dD] at hr ⊢
  exact T1 (fun ρ H r hr=>nC hc hl a hr) hr
 | .exit id,_,_,_,hr=>hr
 | .ret,_,_,_,hr=>hr
end
theorem GD (E:AO) (T:Wp):∀n,XI (lZ E T n)
 | 0,_,_,_,_,_,_,_,h=>by cases h
 |
  n+1,f,args,lo,Bf,H,r,hl,h=>by
  rw[lZ] at h ⊢
  split at h
  ·exact h
  ·split at h
   ·cases h
   ·split at h
    ·rename_i pf _ ha
     rw[if_pos ha]
     split at h
     ·rename_i h1;rw[nC (GD E T n) hl pf.body h1];exact h
     ·rename_i h1;rw[nC (GD E T n) hl pf.body h1];exact h
     ·cases h
    ·cases h
section
variable {E:AO} {T:Wp}
theorem XB {f:Nat} {args:List Value} {lo Bf:Nat} {H:aE} {r:Value×aE} (hl:Bf≤lo) (h:call E T f args lo H=some r):call E T f args Bf H=some r:=by
 obtain⟨n,hn⟩:=(uJ E T).1 h
 exact(uJ E T).2 ⟨n,GD E T n f args lo Bf H r hl hn⟩
theorem Wk {f:Nat} {args:List Value} {lo:Nat} {H H':aE} {v:Value} (h:call E T f args lo H=some (v,H')):Ext lo H H':=by
 obtain⟨n,hn⟩:=(uJ E T).1 h
 exact Da E T n f args lo H v H' hn
theorem Ext.more {H H':aE} (h:Ext H.length H H'):∃K,H'=H++K:=by
 refine⟨H'.drop H.length,?_⟩
 apply List.ext_getElem?
 intro i
 rcases Nat.lt_or_ge i H.length with hi | hi
 ·rw[List.getElem?_append_left hi]
  exact h.low i hi hi
 ·rw[List.getElem?_append_right hi,List.getElem?_drop,show H.length+(i-H.length)=i by omega]
def SM (E:AO) (T:Wp) (f:Nat) (args:List Value) (H:aE) (R:Value→aE→Prop):Prop :=
 ∃v K,call E T f args H.length H=some (v,H++K)∧R v (H++K)
theorem SM.at {f:Nat} {args:List Value} {H:aE} {R:Value→aE→Prop} (h:SM E T f args H R) {lo:Nat} (hl:lo≤H.length):∃v K,call E T f args lo H=some (v,H++K)∧R v (H++K):=by
 obtain⟨v,K,h1,h2⟩:=h
 exact⟨v,K,XB hl h1,h2⟩
theorem SM.mk {f:Nat} {args:List Value} {H H':aE} {v:Value} {R:Value→aE→Prop} (h:call E T f args H.length H=some (v,H')) (hr:R v H'):SM E T f args H R:=by
 obtain⟨K,rfl⟩:=(Wk h).more
 exact⟨v,K,h,hr⟩
end
end Go.PM
namespace Go.PM
def strCells:List Value→Option (List ByteArray)
 | []=>some []
 | .string s::r=>(strCells r).map (s :: ·)
 | _=>none
def Cc:List Value→aE→Option Value
 | [.int .u64 n,.int .i64 b],_=>if b=10∧0≤n∧n<18446744073709551616 then some (.string ⟨(Lib.decDigits n.toNat).toArray⟩) else none
 | _,_=>none
def MY:List Value→aE→Option Value
 | [.string s,.int .i64 c],_=>if 0≤c∧c≤9223372036854775807∧s.size*c.toNat≤140737488355328 then some (.string ⟨(Lib.repeatL s.data.toList c.toNat).toArray⟩) else none
 | _,_=>none
def CX:List Value→aE→Option Value
 | [.int .u32 x],_=>if 0≤x∧x≤4294967295 then some (.int .i64 (32-(Lib.bitLen x.toNat:Int))) else none
 | _,_=>none
def XA:List Value→aE→Option Value
 | [.slice none 0 0,.string _],_=>some (.string ⟨#[]⟩)
 |
  [.slice (some ⟨b,o,none⟩) n c,.string sep],H =>
  if n=0 then some (.string ⟨#[]⟩) else
  match (H.read b o n).bind strCells with
  | some xs=>if xs.length=n∧n≤c∧n≤140737488355328∧(Lib.join (xs.map (·.data.toList)) sep.data.toList).length≤140737488355328 then some (.string ⟨(Lib.join (xs.map (·.data.toList)) sep.data.toList).toArray⟩) else none
  | none=>none
 | _,_=>none
def Nh:List Value→aE→Option Value
 |
  [.string s,.string p],_=>match p.data.toList with
  | [c]=>some (.int .i64 (Lib.indexByte s.data.toList c))
  | _=>none
 | _,_=>none
def xP:List Value→aE→Option Value
 |
  [.string s,.int .i64 b,.int .i64 z],_=>if b=10∧z=64∧s.size≤9223372036854775806 then
   match Lib.parseUintB 64 s.data.toList with
   | .ok u=>some (.tuple #[.int .u64 (u:Int),.nilIface])
   | _=>none
  else none
 | _,_=>none
end Go.PM
namespace Go.PM
open Go.Proofs
def arC:List Nat:=[]
 ++ [56]
 ++ [221]
 ++ [239]
 ++ [240]
def HM (f:Nat):Option (List Value→aE→Option Value) :=
 if f=184 then some Cc else
 if f=103 then some MY else
 if f=186 then some XA else
 if f=219 then some CX else
 if f=241 then some Nh else
 if f=217 then some xP else
 (fun _=>none) f
def cfg:AO:={ Cx:=HM,eff:=fun f=>arC.contains f }
noncomputable def jE:Wp:=fun f=>if (HM f).isSome then none else Qd Tryz.prog cfg f
theorem afS (f:Nat) (pf:aY) (h:jE f=some pf):Qd Tryz.prog cfg f=some pf:=by
 unfold jE at h
 split at h
 ·cases h
 ·exact h
theorem Ri {f:Nat} {pf:aY} (h:jE f=some pf):cfg.Cx f=none:=by
 unfold jE at h
 split at h
 ·cases h
 ·rename_i h1
  show HM f=none
  cases hp:HM f with
  | none=>rfl
  | some p=>rw[hp] at h1;exact absurd rfl h1
end Go.PM
namespace Go.PM
noncomputable abbrev qY:fV:=call cfg jE
def W (lo:Nat) (c:aF) (Q:Ex→Env→aE→Prop) (ρ:Env) (H:aE):Prop:=∃x aM H',code cfg jE lo c ρ H=some (x,aM,H')∧Q x aM H'
def WS (lo:Nat) (is:List PI) (K:Env→aE→Prop) (ρ:Env) (H:aE):Prop:=∃aM H',gZ qY lo is ρ H=some (aM,H')∧K aM H'
def anO (lo:Nat) (b:aF) (Q:Ex→Env→aE→Prop):Ex→Env→aE→Prop
 | .normal,ρ,H=>W lo b Q ρ H
 | x,ρ,H=>Q x ρ H
def ahW (id:Nat) (Q:Ex→Env→aE→Prop):Ex→Env→aE→Prop
 | .exit PO,ρ,H=>if PO=id then Q .normal ρ H else Q (.exit PO) ρ H
 | x,ρ,H=>Q x ρ H
def anV (res:List AU) (R:Value→aE→Prop):Ex→Env→aE→Prop
 | .exit _,_,_=>False
 | _,ρ,H=>∃v,qQ res ρ H=some v∧R v H
def alM (J:Env→aE→Prop) (Q:Ex→Env→aE→Prop):Ex→Env→aE→Prop
 | .normal,ρ,H=>J ρ H
 | x,ρ,H=>Q x ρ H
section
variable {lo:Nat} {Q:Ex→Env→aE→Prop} {K:Env→aE→Prop} {ρ:Env} {H:aE} {b:aF} {id:Nat} {R:Value→aE→Prop} {res:List AU} {J:Env→aE→Prop}
theorem Gz {i:Nat}:ahW id Q (.exit i) ρ H=if i=id then Q .normal ρ H else Q (.exit i) ρ H:=rfl
theorem adX:W lo .skip Q ρ H=Q .normal ρ H:=by
 unfold W
 rw[Uk]
 exact propext ⟨fun⟨_,_,_,h,hq⟩=>(by cases h;exact hq),fun h=>⟨_,_,_,rfl,h⟩⟩
theorem afT {i:Nat}:W lo (.exit i) Q ρ H=Q (.exit i) ρ H:=by
 unfold W
 rw[Uc]
 exact propext ⟨fun⟨_,_,_,h,hq⟩=>(by cases h;exact hq),fun h=>⟨_,_,_,rfl,h⟩⟩
theorem akC:W lo .ret Q ρ H=Q .ret ρ H:=by
 unfold W
 rw[Xg]
 exact propext ⟨fun⟨_,_,_,h,hq⟩=>(by cases h;exact hq),fun h=>⟨_,_,_,rfl,h⟩⟩
theorem akI {ops:List PI}:W lo (.eT ops) Q ρ H=WS lo ops (Q .normal) ρ H:=by
 unfold W WS
 rw[Xo]
 apply propext
 constructor
 ·rintro⟨x,aM,H',h,hq⟩
  cases hs:gZ (call cfg jE) lo ops ρ H with
  | none=>rw[hs] at h;cases h
  |
   some q =>
   rw[hs] at h
   cases h
   exact⟨_,_,rfl,hq⟩
 ·rintro⟨aM,H',h,hq⟩
  exact⟨_,_,_,by rw[h];rfl,hq⟩
theorem alJ {a:aF}:W lo (.seq a b) Q ρ H=W lo a (anO lo b Q) ρ H:=by
 unfold W
 rw[Xi]
 apply propext
 constructor
 ·rintro⟨x,aM,H',h,hq⟩
  split at h
  ·rename_i wQ H1 h1
   exact⟨_,_,_,h1,x,aM,H',h,hq⟩
  ·rename_i fQ
   refine⟨x,aM,H',h,?_⟩
   cases x with
   | normal=>exact absurd h (fQ _ _)
   | exit i=>exact hq
   | ret=>exact hq
 ·rintro⟨x,aM,H',h,hq⟩
  rw[h]
  cases x with
  | normal=>exact hq
  | exit i=>exact⟨_,_,_,rfl,hq⟩
  | ret=>exact⟨_,_,_,rfl,hq⟩
theorem Z5 {a:aF}:W lo (.block id a) Q ρ H=W lo a (ahW id Q) ρ H:=by
 unfold W
 rw[Q1]
 apply propext
 constructor
 ·rintro⟨x,aM,H',h,hq⟩
  split at h
  ·rename_i PO wQ H1 h1
   refine⟨_,_,_,h1,?_⟩
   rw[Gz]
   split at h
   ·rename_i he;cases h;rw[if_pos he];exact hq
   ·rename_i he;cases h;rw[if_neg he];exact hq
  ·rename_i fQ
   refine⟨x,aM,H',h,?_⟩
   cases x with
   | normal=>exact hq
   | exit i=>exact absurd h (fQ _ _ _)
   | ret=>exact hq
 ·rintro⟨x,aM,H',h,hq⟩
  rw[h]
  cases x with
  | normal=>exact⟨_,_,_,rfl,hq⟩
  |
   exit i =>
   rw[Gz] at hq
   show ∃x yT Zx,(if i=id then some (Ex.normal,aM,H') else some (Ex.exit i,aM,H'))=some (x,yT,Zx)∧Q x yT Zx
   split at hq
   ·rename_i he;rw[if_pos he];exact⟨_,_,_,rfl,hq⟩
   ·rename_i he;rw[if_neg he];exact⟨_,_,_,rfl,hq⟩
  | ret=>exact⟨_,_,_,rfl,hq⟩
theorem agD {x:Operand} {a:aF}:W lo (.cond x a b) Q ρ H=∃t,ev ρ x = .bool t∧((t=true→W lo a Q ρ H)∧(t=false→W lo b Q ρ H)):=by
 unfold W
 rw[UY]
 apply propext
 constructor
 ·rintro⟨y,aM,H',h,hq⟩
  split at h
  ·rename_i t ht
   cases t with
   | true=>exact⟨true,ht,fun _=>⟨y,aM,H',h,hq⟩,fun h=>by cases h⟩
   | false=>exact⟨false,ht,fun h=>(by cases h),fun _=>⟨y,aM,H',h,hq⟩⟩
  ·cases h
 ·rintro⟨t,ht,h1,h2⟩
  rw[ht]
  cases t with
  | true=>exact h1 rfl
  | false=>exact h2 rfl
theorem W.mono {Q':Ex→Env→aE→Prop} {c:aF} (h:W lo c Q ρ H) (hq:∀x ρ H,Q x ρ H→Q' x ρ H):W lo c Q' ρ H:=by
 obtain⟨x,aM,H',h1,h2⟩:=h
 exact⟨x,aM,H',h1,hq _ _ _ h2⟩
noncomputable def jR (lo:Nat) (q:Bool) (op:nI) (ρ:Env) (H:aE):Option (Value×aE) :=
 match pop lo op ρ H with
 | some (.val v H')=>some (v,H')
 | some (.call f args)=>qY f args (if q then H.length else lo) H
 | none=>none
theorem aeM:WS lo [] K ρ H=K ρ H:=by
 unfold WS
 apply propext
 constructor
 ·rintro⟨aM,H',h,hk⟩;cases h;exact hk
 ·intro h;exact⟨ρ,H,rfl,h⟩
theorem aiR {i:PI} {is:List PI}:WS lo (i::is) K ρ H=∃v H',yV qY lo i ρ H=some (v,H')∧WS lo is K (put ρ i.dst v) H':=by
 unfold WS
 apply propext
 constructor
 ·rintro⟨aM,H',h,hk⟩
  rw[gZ] at h
  split at h
  ·rename_i wQ H1 h1
   obtain⟨v,hv,rfl⟩:=yE h1
   exact⟨v,H1,hv,aM,H',h,hk⟩
  ·cases h
 ·rintro⟨v,H1,hv,aM,H',h,hk⟩
  refine⟨aM,H',?_,hk⟩
  rw[gZ]
  unfold yO
  rw[hv]
  exact h
variable {q:Bool}
theorem dG {op:nI} (h:tW op=true):jR lo q op ρ H=(iS op ρ).map (·,H):=by
 unfold jR
 rw[xY h]
 cases iS op ρ<;>rfl
theorem aaY {x:Operand}:jR lo q (.mv x) ρ H=some (ev ρ x,H):=rfl
theorem U9 {c a b:Operand}:jR lo q (.pick c a b) ρ H=(match ev ρ c with | .bool t=>some ((if t=true then ev ρ a else ev ρ b),H) | _=>none):=by
 rw[dG rfl]
 simp only[iS]
 cases ev ρ c<;>rfl
theorem YA {op:BinOp} {x y:Operand}:jR lo q (.bin op x y) ρ H=(fB op (ev ρ x) (ev ρ y)).map (·,H):=dG rfl
theorem Z2 {op:UnOp} {x:Operand}:jR lo q (.un op x) ρ H=(Xf op (ev ρ x)).map (·,H):=dG rfl
theorem UI {f:Nat} {args:List Operand}:jR lo q (.call f args) ρ H=qY f (args.map (ev ρ)) (if q then H.length else lo) H:=rfl
end
theorem Wl {f lo:Nat} {pf:aY} {args:List Value} {H:aE} {R:Value→aE→Prop} (ht:jE f=some pf) (ha:args.length≤pf.ntmps) (h:W lo pf.body (anV pf.res R) (Ug args) H):∃v H',qY f args lo H=some (v,H')∧R v H':=by
 obtain⟨x,aM,H',h1,h2⟩:=h
 show ∃v H',call cfg jE f args lo H=some (v,H')∧R v H'
 rw[ZC cfg jE (Ri ht) ht]
 unfold adR
 rw[if_pos ha,h1]
 cases x with
 | exit i=>exact h2.elim
 |
  normal =>
  obtain⟨v,h3,h4⟩:=h2
  exact⟨v,H',by simp only;rw[h3];rfl,h4⟩
 |
  ret =>
  obtain⟨v,h3,h4⟩:=h2
  exact⟨v,H',by simp only;rw[h3];rfl,h4⟩
end Go.PM
namespace Go.PM
theorem wrap64 {x:Int} (h1 : -9223372036854775808≤x) (h2:x≤9223372036854775807):IntKind.i64.wrap x=x:=by
 rw[IntKind.wrap_i64]
 omega
section
variable {k:IntKind} {a b:Int}
theorem Qu:fB .add (.int k a) (.int k b)=some (.int k (k.wrap (a+b))):=by simp[fB]
theorem OD:fB .sub (.int k a) (.int k b)=some (.int k (k.wrap (a-b))):=by simp[fB]
theorem PF:fB .mul (.int k a) (.int k b)=some (.int k (k.wrap (a*b))):=by simp[fB]
theorem Pj (h:b≠0):fB .rem (.int k a) (.int k b)=some (.int k (a.tmod b)):=by simp[fB,h]
theorem Ph:fB .lss (.int k a) (.int k b)=some (.bool (decide (a<b))):=by simp[fB]
theorem Oo:fB .leq (.int k a) (.int k b)=some (.bool (decide (a≤b))):=by simp[fB]
theorem Qh:fB .gtr (.int k a) (.int k b)=some (.bool (decide (b<a))):=by simp[fB]
theorem QJ:fB .geq (.int k a) (.int k b)=some (.bool (decide (b≤a))):=by simp[fB]
theorem Ow:fB .eql (.int k a) (.int k b)=some (.bool (decide (a=b))):=by
 simp only[fB,if_true]
 rfl
theorem Pd:fB .neq (.int k a) (.int k b)=some (.bool (!decide (a=b))):=by
 simp only[fB,if_true]
 rfl
theorem TJ:Xf .neg (.int k a)=some (.int k (k.wrap (0-a))):=rfl
theorem TE {t:Bool}:Xf .not (.bool t)=some (.bool (!t)):=rfl
end
def aeF:Value→Option Value
 | .slice _ n _=>some (.int .i64 n)
 | _=>none
def I3 (neg:Bool):Value→Value→Option Value
 | .bool a,.bool b=>some (.bool ((a == b) != neg))
 | _,_=>none
def Yg (neg:Bool):Value→Option Value
 | .slice none _ _=>some (.bool (true != neg))
 | .slice (some _) _ _=>some (.bool (false != neg))
 | _=>none
def Wy (neg:Bool) (ks:List CK):Value→Value→Option Value
 | .agg a,.agg b=>(oZ ks a.toList b.toList).map fun t => .bool (t != neg)
 | _,_=>none
def R3 (k:IntKind):Value→Option Value
 | .int _ n=>some (.int k (k.wrap n))
 | _=>none
def afY (i:Nat):Value→Option Value
 | .tuple vs=>vs[i]?
 | _=>none
def Z9 (agg:Bool) (off size:Nat):Value→Option Value
 | .agg cs=>if agg then (if off+size≤cs.size then some (.agg (cs.extract off (off+size))) else none) else cs[off]?
 | _=>none
def akS:Value→Option Value
 | .pointer (some a)=>some (.pointer (some a))
 | _=>none
def Yh (off:Nat):Value→Option Value
 | .pointer (some ⟨b,o,none⟩)=>some (.pointer (some ⟨b,o+off,none⟩))
 | _=>none
def MZ (size:Nat):Value→Value→Option Value
 | .slice (some ⟨b,o,none⟩) n _,.int _ i=>if 0≤i∧i<n then some (.pointer (some ⟨b,o+i.toNat*size,none⟩)) else none
 | _,_=>none
def QI:Value→Value→Option Value
 | .int k a,.int _ b=>some (.int k (if b<a then b else a))
 | _,_=>none
def PE:Value→Value→Option Value
 | .int k a,.int _ b=>some (.int k (if b>a then b else a))
 | _,_=>none
section
variable {lo:Nat} {ρ:Env} {H:aE} {q:Bool}
theorem pC {op:nI} {r:Option (Value×aE)} (h:pop lo op ρ H=r.map fun(v,H') => .val v H'):jR lo q op ρ H=r:=by
 unfold jR
 rw[h]
 cases r<;>rfl
theorem Wq {x:Operand}:jR lo q (.len x) ρ H=(aeF (ev ρ x)).map (·,H):=dG rfl
theorem Wb {neg:Bool} {x y:Operand}:jR lo q (.eqb neg x y) ρ H=(I3 neg (ev ρ x) (ev ρ y)).map (·,H):=dG rfl
theorem Q4 {neg:Bool} {x:Operand}:jR lo q (.isnil neg x) ρ H=(Yg neg (ev ρ x)).map (·,H):=dG rfl
theorem St {neg:Bool} {ks:List CK} {x y:Operand}:jR lo q (.eqagg neg ks x y) ρ H=(Wy neg ks (ev ρ x) (ev ρ y)).map (·,H):=dG rfl
theorem XH {k:IntKind} {x:Operand}:jR lo q (.cvt k x) ρ H=(R3 k (ev ρ x)).map (·,H):=dG rfl
theorem Xs {i:Nat} {x:Operand}:jR lo q (.ext x i) ρ H=(afY i (ev ρ x)).map (·,H):=dG rfl
theorem Yx {agg:Bool} {off size:Nat} {x:Operand}:jR lo q (.fld agg off size x) ρ H=(Z9 agg off size (ev ρ x)).map (·,H):=dG rfl
theorem Sx {z:List Value} {places:List (Nat×Nat)} {parts:List (Nat×Operand)}:jR lo q (.build z places parts) ρ H=((vP places z (parts.map fun(i,x)=>(i,ev ρ x))).map fun cs=>Value.agg cs.toArray).map (·,H):=dG rfl
theorem Yn {x:Operand}:jR lo q (.chk x) ρ H=(akS (ev ρ x)).map (·,H):=dG rfl
theorem Se {off:Nat} {x:Operand}:jR lo q (.faddr off x) ρ H=(Yh off (ev ρ x)).map (·,H):=dG rfl
theorem Sw {size:Nat} {x i:Operand}:jR lo q (.iaddr size x i) ρ H=(MZ size (ev ρ x) (ev ρ i)).map (·,H):=dG rfl
theorem UM {f:Nat} {fR:List Operand}:jR lo q (.mkfn f fR) ρ H=some (.func (.func f) #[] (fR.map (ev ρ)).toArray,H):=dG rfl
theorem W0 {x y:Operand}:jR lo q (.min x y) ρ H=(QI (ev ρ x) (ev ρ y)).map (·,H):=dG rfl
theorem Wc {x y:Operand}:jR lo q (.max x y) ρ H=(PE (ev ρ x) (ev ρ y)).map (·,H):=dG rfl
theorem T9 {agg:Bool} {size:Nat} {p:Operand}:jR lo q (.load agg size p) ρ H=(nR agg size (ev ρ p) H).map (·,H):=by
 unfold jR
 simp only[pop]
 cases nR agg size (ev ρ p) H<;>rfl
theorem X3 {size:Nat} {x:Operand} {l h m:Option Operand}:jR lo q (.sub size x l h m) ρ H=BT size (ev ρ x) (l.map (ev ρ)) (h.map (ev ρ)) (m.map (ev ρ)) H:=by
 unfold jR
 simp only[pop]
 cases BT size (ev ρ x) (l.map (ev ρ)) (h.map (ev ρ)) (m.map (ev ρ)) H<;>rfl
theorem Ww {z:List Value}:jR lo q (.new z) ρ H=some (.pointer (some ⟨H.length,0,none⟩),H++[.row z z.length false]):=rfl
theorem Ya {x:Operand}:jR lo q (.box x) ρ H=if (aL (ev ρ x)).all gO then some (.pointer (some ⟨H.length,0,none⟩),H++[.row (aL (ev ρ x)) (aL (ev ρ x)).length false]) else none:=by
 apply pC
 simp only[pop]
 by_cases h:(aL (ev ρ x)).all gO=true
 ·rw[if_pos h,if_pos h];rfl
 ·rw[if_neg h,if_neg h];rfl
def TA (z:List Value) (bytes:Nat) (l c:Value) (H:aE):Option (Value×aE) :=
 match l,c with
 | .int .i64 l,.int .i64 c=>if 0≤l∧l≤c∧c*bytes≤281474976710656∧c≤9223372036854775807 then
  some (.slice (some ⟨H.length,0,none⟩) l.toNat c.toNat,H++[.row (cM c.toNat z) z.length false]) else none
 | _,_=>none
theorem Ux {z:List Value} {bytes:Nat} {l c:Operand}:jR lo q (.make z bytes l c) ρ H=TA z bytes (ev ρ l) (ev ρ c) H:=by
 apply pC
 simp only[pop]
 unfold TA
 split
 ·rename_i l c h1 h2
  simp only[h1,h2]
  split<;>rfl
 ·rename_i h1
  split
  ·rename_i h2 h3
   exact(h1 _ _ h2 h3).elim
  ·rfl
def ZY (z:List Value) (n:Nat) (parts:List (Nat×Value)) (H:aE):Option (Value×aE) :=
 match vP ((List.range n).map fun i=>(i*z.length,z.length)) (cM n z) parts with
 | some cs=>if cs.all gO then some (.slice (some ⟨H.length,0,none⟩) n n,H++[.row cs z.length false]) else none
 | none=>none
theorem W8 {z:List Value} {n:Nat} {parts:List (Nat×Operand)}:jR lo q (.lit z n parts) ρ H=ZY z n (parts.map fun(i,x)=>(i,ev ρ x)) H:=by
 apply pC
 simp only[pop]
 unfold ZY
 split
 ·rename_i cs h1
  simp only[h1]
  split<;>rfl
 ·rename_i h1
  simp only[h1]
  rfl
def Er (lo size:Nat) (p v:Value) (H:aE):Option (Value×aE) :=
 match p with
 | .pointer (some ⟨b,o,none⟩)=>if (aL v).length=size then (H.write lo b o (aL v)).map fun H'=>(undef,H') else none
 | _=>none
theorem RM {size:Nat} {p v:Operand}:jR lo q (.store size p v) ρ H=Er lo size (ev ρ p) (ev ρ v) H:=by
 apply pC
 simp only[pop]
 unfold Er
 split
 ·rename_i b o h1
  simp only[h1]
  split
  ·cases H.write lo b o (aL (ev ρ v))<;>rfl
  ·rfl
 ·rename_i h1
  split
  ·rename_i h2
   exact(h1 _ _ h2).elim
  ·rfl
def adV (lo size bytes:Nat) (x y:Value) (H:aE):Option (Value×aE) :=
 match rQ y with
 |
  some n=>match jH H size n y with
  | some new=>dS lo size bytes x n new H
  | none=>none
 | none=>none
theorem XQ {size bytes:Nat} {x y:Operand}:jR lo q (.app size bytes x y) ρ H=adV lo size bytes (ev ρ x) (ev ρ y) H:=by
 apply pC
 simp only[pop]
 unfold adV
 cases rQ (ev ρ y) with
 | none=>rfl
 |
  some n =>
  cases hs:jH H size n (ev ρ y) with
  | none=>simp only[hs];rfl
  | some new=>simp only[hs]
def YF (lo:Nat) (z:List Value) (bytes:Nat) (x n:Value) (H:aE):Option (Value×aE) :=
 match n with
 | .int .i64 n=>if 0≤n∧n*bytes≤140737488355328 then dS lo z.length bytes x n.toNat (cM n.toNat z) H else none
 | _=>none
theorem UT {z:List Value} {bytes:Nat} {x n:Operand}:jR lo q (.appz z bytes x n) ρ H=YF lo z bytes (ev ρ x) (ev ρ n) H:=by
 apply pC
 simp only[pop]
 unfold YF
 split
 ·rename_i n h1
  simp only[h1]
  split<;>rfl
 ·rename_i h1
  split
  ·rename_i h2
   exact(h1 _ h2).elim
  ·rfl
def copyV (lo size:Nat) (x y:Value) (H:aE):Option (Value×aE) :=
 match x,rQ y with
 | .slice none _ _,some _=>some (.int .i64 0,H)
 |
  .slice (some ⟨b,o,none⟩) d _,some s=>match jH H size (Nat.min s d) y with
  | some new=>(H.write lo b o new).map fun H'=>(.int .i64 (Nat.min s d),H')
  | none=>none
 | _,_=>none
theorem Ur {size:Nat} {x y:Operand}:jR lo q (.copy size x y) ρ H=copyV lo size (ev ρ x) (ev ρ y) H:=by
 apply pC
 simp only[pop]
 unfold copyV
 split
 ·rename_i h1 h2
  simp only[h1,h2]
  rfl
 ·rename_i b o d _ s h1 h2
  simp only[h1,h2]
  cases hs:jH H size (Nat.min s d) (ev ρ y) with
  | none=>rfl
  |
   some new =>
   simp only
   cases H.write lo b o new<;>rfl
 ·rename_i h1 h2
  split
  ·rename_i h3 h4
   exact(h1 _ _ _ h3 h4).elim
  ·rename_i h3 h4
   exact(h2 _ _ _ _ _ h3 h4).elim
  ·rfl
def Nr (lo:Nat) (z:List Value) (x:Value) (H:aE):Option (Value×aE) :=
 match x with
 | .slice none _ _=>some (undef,H)
 | .slice (some ⟨b,o,none⟩) n _=>if n=0 then some (undef,H) else (H.write lo b o (cM n z)).map fun H'=>(undef,H')
 | _=>none
theorem QX {z:List Value} {x:Operand}:jR lo q (.clear z x) ρ H=Nr lo z (ev ρ x) H:=by
 apply pC
 simp only[pop]
 unfold Nr
 split
 ·rename_i h1
  simp only[h1]
  rfl
 ·rename_i b o n _ h1
  simp only[h1]
  split
  ·rfl
  ·cases H.write lo b o (cM n z)<;>rfl
 ·rename_i h1 h2
  split
  ·rename_i h3
   exact(h1 _ _ h3).elim
  ·rename_i h3
   exact(h2 _ _ _ _ h3).elim
  ·rfl
noncomputable def XR (lo:Nat) (fv:Value) (args:List Value) (H:aE):Option (Value×aE) :=
 match fv with
 | .func (.func f) first fR=>qY f (first.toList++args++fR.toList) lo H
 | _=>none
theorem Q3 {fv:Operand} {args:List Operand}:jR lo q (.callv fv args) ρ H=XR (if q then H.length else lo) (ev ρ fv) (args.map (ev ρ)) H:=by
 unfold jR
 simp only[pop]
 unfold XR
 generalize ev ρ fv=v
 cases v with
 | func fn f c=>cases fn<;>rfl
 | _=>rfl
end
end Go.PM
namespace Go.PM
section
variable {lo:Nat} {Q:Ex→Env→aE→Prop} {K:Env→aE→Prop} {ρ:Env} {H:aE} {q:Bool}
def ahT (u v:Value):Bool:=match jD u,jD v with
 | some a,some b=>a != b
 | _,_=>true
end
theorem S8 {k:IntKind} {a b:Int}:PE (.int k a) (.int k b)=some (.int k (max a b)):=by
 simp only[PE]
 congr 2
 split<;>omega
theorem SJ {k:IntKind} {a b:Int}:QI (.int k a) (.int k b)=some (.int k (min a b)):=by
 simp only[QI]
 congr 2
 split<;>omega
end Go.PM
namespace Go.PM
abbrev ptr (b o:Nat):Value := .pointer (some ⟨b,o,none⟩)
abbrev I (n:Int):Value := .int .i64 n
section
variable {H H':aE} {lo b o n size:Nat} {cs r:List Value} {L K:aE} {v:Value}
theorem Ny (hb:b<H.length):(H++L)[b]? = H[b]? := List.getElem?_append_left hb
theorem SF {x:K1}:(H++x::L)[H.length]? = some x:=by simp
theorem Xe (hb:b<H.length):(H++L).read b o n=H.read b o n:=Ev (Ny hb)
theorem AP {e:Nat} {p:Bool} (h:H[b]? = some (.row r e p)) (hn:o+n≤r.length):H.read b o n=some ((r.drop o).take n):=by
 unfold aE.read
 rw[h]
 simp only[hn,if_true]
structure CR (H:aE) (b o:Nat) (cs:List Value):Prop where
 lt:b<H.length
 rd:H.read b o cs.length=some cs
theorem CR.app (h:CR H b o cs):CR (H++L) b o cs:=⟨by have:=h.lt;simp;omega,by rw[Xe h.lt];exact h.rd⟩
theorem CR.pre (h:CR H b o cs) (hp:H <+: H'):CR H' b o cs:=by
 obtain⟨L,rfl⟩:=hp
 exact h.app
theorem CR.all (h:CR H b o cs) (hs:cs.length=size):nR true size (.pointer (some ⟨b,o,none⟩)) H=some (.agg cs.toArray):=by
 subst hs
 simp only[nR,if_true,h.rd]
 rfl
theorem CR.one {u:Value} (h:CR H b o [u]):nR false size (.pointer (some ⟨b,o,none⟩)) H=some u:=by
 have:=h.rd
 simp only[List.length_cons,List.length_nil] at this
 simp only[nR,this]
 rfl
theorem CR.sub {k:Nat} {u:Value} (h:CR H b o cs) (hk:cs[k]? = some u):CR H b (o+k) [u]:=by
 refine⟨h.lt,?_⟩
 have h1:=h.rd
 unfold aE.read at h1 ⊢
 split at h1
 ·rename_i r e p hb
  split at h1
  ·rename_i hl
   have hk':=(List.getElem?_eq_some_iff.1 hk).1
   simp only[List.length_cons,List.length_nil]
   rw[if_pos (by simp;omega)]
   injection h1 with h1
   rw[←h1] at hk
   rw[List.getElem?_take,if_pos (by omega),List.getElem?_drop] at hk
   have aX:=(List.getElem?_eq_some_iff.1 hk).1
   rw[List.drop_eq_getElem_cons aX]
   simp only[List.take_succ_cons,List.take_zero]
   rw[List.getElem?_eq_getElem aX] at hk
   injection hk with hk
   rw[hk]
  ·cases h1
 ·cases h1
theorem CR.fld {k:Nat} {u:Value} (h:CR H b o cs) (hk:cs[k]? = some u):nR false size (.pointer (some ⟨b,o+k,none⟩)) H=some u:=(h.sub hk).one
theorem Qw {a:Nat} {c:Nat} {i:Int} {k:IntKind} (h0:0≤i) (h1:i<n):MZ size (.slice (some ⟨b,a,none⟩) n c) (.int k i)=some (.pointer (some ⟨b,a+i.toNat*size,none⟩)):=by
 simp only[MZ]
 rw[if_pos ⟨h0,h1⟩]
structure Arr {α:Type} (enc:α→List Value) (fM:Nat) (H:aE) (a:Option Addr) (n:Nat) (xs:List α):Prop where
 len:n=xs.length
 el:∀(i:Nat) x,xs[i]? = some x→∃b o,a=some ⟨b,o,none⟩∧CR H b (o+i*fM) (enc x)
theorem Arr.pre {α:Type} {enc:α→List Value} {fM:Nat} {a:Option Addr} {xs:List α} (h:Arr enc fM H a n xs) (hp:H <+: H'):Arr enc fM H' a n xs :=
 ⟨h.len,fun i x hx=>by obtain⟨b,o,h1,h2⟩:=h.el i x hx;exact⟨b,o,h1,h2.pre hp⟩⟩
end
structure fL where
 t:Int
 w:Int
 k:Int
 deriving DecidableEq
def cc (c:fL):List Value:=[I c.t,I c.w,I c.k]
def ci (n:Int):List Value:=[I n]
end Go.PM
namespace Go.PM
structure HR {α:Type} (enc:α→List Value) (fM:Nat):Prop where
 len:∀x,(enc x).length=fM
 sc:∀x,(enc x).all gO=true
 pos:1≤fM
section
variable {α:Type} {enc:α→List Value} {fM:Nat} {H H':aE} {lo b:Nat} {xs ys:List α} {p:Bool}
theorem Ke (e:HR enc fM):(xs.flatMap enc).length=xs.length*fM:=by
 induction xs with
 | nil=>simp
 | cons x xs ih=>simp only[List.flatMap_cons,List.length_append,e.len,ih,List.length_cons,Nat.succ_mul];omega
theorem G2 (e:HR enc fM) (i:Nat):(xs.flatMap enc).drop (i*fM)=(xs.drop i).flatMap enc:=by
 induction i generalizing xs with
 | zero=>simp
 |
  succ i ih =>
  cases xs with
  | nil=>simp
  |
   cons x xs =>
   rw[List.flatMap_cons,List.drop_succ_cons,←ih,show (i+1)*fM=(enc x).length+i*fM by rw[e.len,Nat.succ_mul];omega,List.drop_append]
   simp
theorem Mu (e:HR enc fM) (i:Nat):(xs.flatMap enc).take (i*fM)=(xs.take i).flatMap enc:=by
 induction i generalizing xs with
 | zero=>simp
 |
  succ i ih =>
  cases xs with
  | nil=>simp
  |
   cons x xs =>
   rw[List.flatMap_cons,List.take_succ_cons,List.flatMap_cons,←ih,show (i+1)*fM=(enc x).length+i*fM by rw[e.len,Nat.succ_mul];omega,List.take_append]
   simp
   exact List.take_of_length_le (by omega)
theorem Oi (e:HR enc fM) {i:Nat} (x:α) (hi:i<xs.length):iV (xs.flatMap enc) (i*fM) (enc x)=(xs.set i x).flatMap enc:=by
 unfold iV
 rw[Mu e,e.len,show i*fM+fM=(i+1)*fM by rw[Nat.succ_mul],G2 e,List.set_eq_take_append_cons_drop,if_pos hi]
 simp
def Row (enc:α→List Value) (fM:Nat) (H:aE) (b:Nat) (p:Bool) (xs:List α):Prop:=H[b]? = some (.row (xs.flatMap enc) fM p)
theorem Row.lt (h:Row enc fM H b p xs):b<H.length:=(List.getElem?_eq_some_iff.1 h).1
theorem Row.pre (h:Row enc fM H b p xs) (hp:H <+: H'):Row enc fM H' b p xs:=by
 obtain⟨L,rfl⟩:=hp
 unfold Row
 rw[Ny h.lt]
 exact h
theorem Row.elem (h:Row enc fM H b p xs) (e:HR enc fM) {i:Nat} {x:α} (hx:xs[i]? = some x):CR H b (i*fM) (enc x):=by
 refine⟨h.lt,?_⟩
 have hi:=(List.getElem?_eq_some_iff.1 hx).1
 have hm:(i+1)*fM≤xs.length*fM:=Nat.mul_le_mul_right _ hi
 rw[Nat.succ_mul] at hm
 rw[AP h (by rw[e.len,Ke e];omega),G2 e,e.len]
 have:=Mu (xs:=xs.drop i) e 1
 rw[Nat.one_mul] at this
 rw[this,List.drop_eq_getElem_cons hi]
 rw[List.getElem?_eq_getElem hi] at hx
 injection hx with hx
 simp[hx]
theorem Row.arr (h:Row enc fM H b p xs) (e:HR enc fM) {n:Nat} (hn:n≤xs.length):Arr enc fM H (some ⟨b,0,none⟩) n (xs.take n):=by
 refine⟨by simp;omega,fun i x hx=>⟨b,0,rfl,?_⟩⟩
 rw[Nat.zero_add]
 refine h.elem e ?_
 rw[List.getElem?_take] at hx
 split at hx
 ·exact hx
 ·cases hx
theorem Row.store (h:Row enc fM H b p xs) (e:HR enc fM) {i:Nat} {x:α} {u:Value} (hu:aL u=enc x) (hi:i<xs.length) (hl:lo≤b):Er lo fM (.pointer (some ⟨b,i*fM,none⟩)) u H=some (undef,H.set b (.row ((xs.set i x).flatMap enc) fM p)):=by
 simp only[Er,aE.write,hu,e.len,if_true]
 have h':H[b]? = some (.row (xs.flatMap enc) fM p):=h
 have hm:(i+1)*fM≤xs.length*fM:=Nat.mul_le_mul_right _ hi
 rw[Nat.succ_mul] at hm
 simp only[h']
 rw[if_pos ⟨hl,by rw[Ke e];omega,e.sc x⟩,Oi e x hi]
 rfl
theorem Row.set (h:Row enc fM H b p xs) (ys:List α):Row enc fM (H.set b (.row (ys.flatMap enc) fM p)) b p ys:=by
 unfold Row
 rw[List.getElem?_set_self h.lt]
theorem PY (e:HR enc fM) {n:Nat} {x:α}:cM n (enc x)=(List.replicate n x).flatMap enc:=by
 have kI:=e.pos
 have hlen:=e.len x
 apply List.ext_getElem?
 intro i
 unfold cM
 rw[List.getElem?_map,hlen]
 rcases Nat.lt_or_ge i (n*fM) with hi | hi
 ·rw[List.getElem?_range hi]
  have hq:i / fM<n:=Nat.div_lt_of_lt_mul (by rw[Nat.mul_comm];exact hi)
  have h1:((List.replicate n x).flatMap enc)[i]? = (((List.replicate n x).flatMap enc).drop (i / fM*fM))[i % fM]? := by
   rw[List.getElem?_drop]
   congr 1
   rw[Nat.mul_comm]
   exact(Nat.div_add_mod i fM).symm
  have hr:i % fM<(enc x).length:=by rw[hlen];exact Nat.mod_lt _ (by omega)
  rw[h1,G2 e,List.drop_replicate,show n-i / fM=(n-i / fM-1)+1 by omega,List.replicate_succ,List.flatMap_cons,List.getElem?_append_left hr]
  simp[List.getD_eq_getElem?_getD,List.getElem?_eq_getElem hr]
 ·rw[List.getElem?_eq_none (by simpa using hi),List.getElem?_eq_none (by rw[Ke e];simpa using hi)]
  rfl
theorem Row.top {K:aE}:Row enc fM (H ++ .row (xs.flatMap enc) fM p::K) H.length p xs:=SF
end
end Go.PM
namespace Go.PM
section
variable {H L:aE} {lo k o size:Nat} {agg:Bool} {u:Value}
end
end Go.PM
namespace Go.Proofs
open Go.Shelf
def Jb:Go.Shelf.Ren:=⟨fun | 156=>186 | 165=>189 | 166=>190 | 169=>192 | 240=>230 | 241=>231 | 276=>249 | 277=>250 | n=>n,fun | 31=>22 | 9=>9 | 3=>3 | 4=>4 | 0=>0 | 20=>20 | 72=>230 | 76=>234 | 70=>228 | 37=>36 | 75=>233 | 127=>266 | 164=>281 | 5=>5 | 80=>129 | n=>n,fun | n=>n⟩
theorem Sy:Go.Proofs.Lays.n156 Tryz.prog Jb:={
 mixed:=by kernel_rfl
 f156:=Tryz.func186.trans (congrArg some (by kernel_rfl))
 f165:=Tryz.func189.trans (congrArg some (by kernel_rfl))
 f166:=Tryz.func190.trans (congrArg some (by kernel_rfl))
 f169:=Tryz.func192.trans (congrArg some (by kernel_rfl))
 f240:=Tryz.func230.trans (congrArg some (by kernel_rfl))
 f241:=Tryz.func231.trans (congrArg some (by kernel_rfl))
 f276:=Tryz.func249.trans (congrArg some (by kernel_rfl))
 f277:=Tryz.func250.trans (congrArg some (by kernel_rfl))
 t0:=Tryz.underlying0
 a0:=Tryz.isAgg0
 z0:=Tryz.sizeOf0
 v0:=Tryz.zeroValue0
 t3:=Tryz.underlying3
 a3:=Tryz.isAgg3
 z3:=Tryz.sizeOf3
 v3:=Tryz.zeroValue3
 t4:=Tryz.underlying4
 a4:=Tryz.isAgg4
 z4:=Tryz.sizeOf4
 v4:=Tryz.zeroValue4
 t9:=Tryz.underlying9
 a9:=Tryz.isAgg9
 z9:=Tryz.sizeOf9
 v9:=Tryz.zeroValue9
 t20:=Tryz.underlying20
 a20:=Tryz.isAgg20
 z20:=Tryz.sizeOf20
 v20:=Tryz.zeroValue20
 t31:=Tryz.underlying22
 a31:=Tryz.isAgg22
 z31:=Tryz.sizeOf22
 v31:=Tryz.zeroValue22
 t37:=Tryz.underlying36
 a37:=Tryz.isAgg36
 z37:=Tryz.sizeOf36
 v37:=Tryz.zeroValue36
 t70:=Tryz.underlying228
 a70:=Tryz.isAgg228
 z70:=Tryz.sizeOf228
 v70:=Tryz.zeroValue228
 t72:=Tryz.underlying230
 a72:=Tryz.isAgg230
 z72:=Tryz.sizeOf230
 v72:=Tryz.zeroValue230
 t75:=Tryz.underlying233
 a75:=Tryz.isAgg233
 z75:=Tryz.sizeOf233
 v75:=Tryz.zeroValue233
 t76:=Tryz.underlying234
 a76:=Tryz.isAgg234
 z76:=Tryz.sizeOf234
 v76:=Tryz.zeroValue234
 t127:=Tryz.underlying266
 a127:=Tryz.isAgg266
 z127:=Tryz.sizeOf266
 v127:=Tryz.zeroValue266
 t164:=Tryz.underlying281
 a164:=Tryz.isAgg281
 z164:=Tryz.sizeOf281
 v164:=Tryz.zeroValue281 }
theorem MR:Builder.Extra Tryz.prog Jb:={
 sizeBuilder:=by kernel_rfl
 liesBuilder:=by kernel_rfl
 t5:=Tryz.underlying5
 a5:=Tryz.isAgg5
 z5:=Tryz.sizeOf5
 v5:=Tryz.zeroValue5
 infoByte:=by kernel_rfl
 cellsByte:=by kernel_rfl
 sizeByte:=by kernel_rfl
 neB5:=by decide }
def RN:Go.Shelf.Ren:=⟨fun | 133=>219 | 128=>244 | n=>n,fun | 51=>218 | 3=>3 | 4=>4 | 46=>219 | 5=>5 | 9=>9 | n=>n,fun | n=>n⟩
theorem adH:Go.Proofs.Lays.n133 Tryz.prog RN:={
 mixed:=by kernel_rfl
 f128:=Tryz.func244.trans (congrArg some (by kernel_rfl))
 f133:=Tryz.func219.trans (congrArg some (by kernel_rfl))
 t3:=Tryz.underlying3
 a3:=Tryz.isAgg3
 z3:=Tryz.sizeOf3
 v3:=Tryz.zeroValue3
 t4:=Tryz.underlying4
 a4:=Tryz.isAgg4
 z4:=Tryz.sizeOf4
 v4:=Tryz.zeroValue4
 t5:=Tryz.underlying5
 a5:=Tryz.isAgg5
 z5:=Tryz.sizeOf5
 v5:=Tryz.zeroValue5
 t9:=Tryz.underlying9
 a9:=Tryz.isAgg9
 z9:=Tryz.sizeOf9
 v9:=Tryz.zeroValue9
 t46:=Tryz.underlying219
 a46:=Tryz.isAgg219
 z46:=Tryz.sizeOf219
 v46:=Tryz.zeroValue219
 t51:=Tryz.underlying218
 a51:=Tryz.isAgg218
 z51:=Tryz.sizeOf218
 v51:=Tryz.zeroValue218 }
def Rg:Go.Shelf.Ren:=⟨fun | 283=>245 | n=>n,fun | 3=>3 | 9=>9 | 4=>4 | n=>n,fun | n=>n⟩
theorem agG:Go.Proofs.Lays.n283 Tryz.prog Rg:={
 mixed:=by kernel_rfl
 f283:=Tryz.func245.trans (congrArg some (by kernel_rfl))
 t3:=Tryz.underlying3
 a3:=Tryz.isAgg3
 z3:=Tryz.sizeOf3
 v3:=Tryz.zeroValue3
 t4:=Tryz.underlying4
 a4:=Tryz.isAgg4
 z4:=Tryz.sizeOf4
 v4:=Tryz.zeroValue4
 t9:=Tryz.underlying9
 a9:=Tryz.isAgg9
 z9:=Tryz.sizeOf9
 v9:=Tryz.zeroValue9 }
def Q2:Go.Shelf.Ren:=⟨fun | 284=>246 | 129=>262 | 317=>261 | 318=>263 | n=>n,fun | 53=>128 | 3=>3 | 212=>291 | 0=>0 | 4=>4 | 46=>219 | 5=>5 | 9=>9 | n=>n,fun | 17=>1 | n=>n⟩
theorem afX:Go.Proofs.LaysM.n284 Tryz.prog Q2:={
 mixed:=by kernel_rfl
 f129:=Tryz.func262.trans (congrArg some (by kernel_rfl))
 f284:=Tryz.func246.trans (congrArg some (by kernel_rfl))
 f317:=Tryz.func261.trans (congrArg some (by kernel_rfl))
 f318:=Tryz.func263.trans (congrArg some (by kernel_rfl))
 t0:=Tryz.underlying0
 a0:=Tryz.isAgg0
 z0:=Tryz.sizeOf0
 v0:=Tryz.zeroValue0
 t3:=Tryz.underlying3
 a3:=Tryz.isAgg3
 z3:=Tryz.sizeOf3
 v3:=Tryz.zeroValue3
 t4:=Tryz.underlying4
 a4:=Tryz.isAgg4
 z4:=Tryz.sizeOf4
 v4:=Tryz.zeroValue4
 t5:=Tryz.underlying5
 a5:=Tryz.isAgg5
 z5:=Tryz.sizeOf5
 v5:=Tryz.zeroValue5
 t9:=Tryz.underlying9
 a9:=Tryz.isAgg9
 z9:=Tryz.sizeOf9
 v9:=Tryz.zeroValue9
 t46:=Tryz.underlying219
 a46:=Tryz.isAgg219
 z46:=Tryz.sizeOf219
 v46:=Tryz.zeroValue219
 t53:=Tryz.underlying128
 a53:=Tryz.isAgg128
 z53:=Tryz.sizeOf128
 v53:=Tryz.zeroValue128
 t212:=Tryz.underlying291
 a212:=Tryz.isAgg291
 z212:=Tryz.sizeOf291
 v212:=Tryz.zeroValue291
 g17:=by kernel_rfl
 i0:=by kernel_rfl
 i3:=by kernel_rfl
 i4:=by kernel_rfl
 i5:=by kernel_rfl
 i9:=by kernel_rfl
 i46:=by kernel_rfl
 i53:=by kernel_rfl
 i212:=by kernel_rfl
 m17:=by kernel_rfl }
def Rm:Go.Shelf.Ren:=⟨fun | 285=>247 | n=>n,fun | 37=>36 | 53=>128 | 3=>3 | 4=>4 | 51=>218 | 9=>9 | 5=>5 | 0=>0 | n=>n,fun | n=>n⟩
theorem afQ:Go.Proofs.Lays.n285 Tryz.prog Rm:={
 mixed:=by kernel_rfl
 f285:=Tryz.func247.trans (congrArg some (by kernel_rfl))
 t0:=Tryz.underlying0
 a0:=Tryz.isAgg0
 z0:=Tryz.sizeOf0
 v0:=Tryz.zeroValue0
 t3:=Tryz.underlying3
 a3:=Tryz.isAgg3
 z3:=Tryz.sizeOf3
 v3:=Tryz.zeroValue3
 t4:=Tryz.underlying4
 a4:=Tryz.isAgg4
 z4:=Tryz.sizeOf4
 v4:=Tryz.zeroValue4
 t5:=Tryz.underlying5
 a5:=Tryz.isAgg5
 z5:=Tryz.sizeOf5
 v5:=Tryz.zeroValue5
 t9:=Tryz.underlying9
 a9:=Tryz.isAgg9
 z9:=Tryz.sizeOf9
 v9:=Tryz.zeroValue9
 t37:=Tryz.underlying36
 a37:=Tryz.isAgg36
 z37:=Tryz.sizeOf36
 v37:=Tryz.zeroValue36
 t51:=Tryz.underlying218
 a51:=Tryz.isAgg218
 z51:=Tryz.sizeOf218
 v51:=Tryz.zeroValue218
 t53:=Tryz.underlying128
 a53:=Tryz.isAgg128
 z53:=Tryz.sizeOf128
 v53:=Tryz.zeroValue128 }
def PH:Go.Shelf.Ren:=⟨fun | 14=>217 | 16=>242 | 17=>243 | 19=>255 | 20=>256 | 21=>257 | 22=>258 | 23=>259 | 24=>260 | 25=>268 | 27=>270 | 26=>269 | 28=>273 | 29=>274 | 30=>245 | 31=>246 | 32=>247 | 33=>248 | 35=>262 | 34=>261 | 36=>263 | 37=>264 | 38=>265 | 39=>271 | 40=>272 | n=>n,fun | 9=>9 | 3=>3 | 22=>128 | 24=>233 | 25=>252 | 4=>4 | 34=>285 | 5=>5 | 36=>219 | 37=>36 | 0=>0 | 39=>287 | 21=>21 | 44=>298 | 47=>266 | 50=>302 | 48=>300 | 2=>2 | 52=>276 | 55=>279 | 59=>291 | 60=>218 | 20=>20 | 61=>292 | 65=>303 | 66=>304 | 67=>129 | n=>n,fun | 0=>2 | 1=>3 | 2=>1 | 3=>4 | 4=>5 | n=>n⟩
theorem Zi:Go.Proofs.LaysPu.n14 Tryz.prog PH:={
 mixed:=by kernel_rfl
 f14:=Tryz.func217.trans (congrArg some (by kernel_rfl))
 f16:=Tryz.func242.trans (congrArg some (by kernel_rfl))
 f17:=Tryz.func243.trans (congrArg some (by kernel_rfl))
 f19:=Tryz.func255.trans (congrArg some (by kernel_rfl))
 f20:=Tryz.func256.trans (congrArg some (by kernel_rfl))
 f21:=Tryz.func257.trans (congrArg some (by kernel_rfl))
 f22:=Tryz.func258.trans (congrArg some (by kernel_rfl))
 f23:=Tryz.func259.trans (congrArg some (by kernel_rfl))
 f24:=Tryz.func260.trans (congrArg some (by kernel_rfl))
 f25:=Tryz.func268.trans (congrArg some (by kernel_rfl))
 f26:=Tryz.func269.trans (congrArg some (by kernel_rfl))
 f27:=Tryz.func270.trans (congrArg some (by kernel_rfl))
 f28:=Tryz.func273.trans (congrArg some (by kernel_rfl))
 f29:=Tryz.func274.trans (congrArg some (by kernel_rfl))
 f30:=Tryz.func245.trans (congrArg some (by kernel_rfl))
 f31:=Tryz.func246.trans (congrArg some (by kernel_rfl))
 f32:=Tryz.func247.trans (congrArg some (by kernel_rfl))
 f33:=Tryz.func248.trans (congrArg some (by kernel_rfl))
 f34:=Tryz.func261.trans (congrArg some (by kernel_rfl))
 f35:=Tryz.func262.trans (congrArg some (by kernel_rfl))
 f36:=Tryz.func263.trans (congrArg some (by kernel_rfl))
 f37:=Tryz.func264.trans (congrArg some (by kernel_rfl))
 f38:=Tryz.func265.trans (congrArg some (by kernel_rfl))
 f39:=Tryz.func271.trans (congrArg some (by kernel_rfl))
 f40:=Tryz.func272.trans (congrArg some (by kernel_rfl))
 t0:=Tryz.underlying0
 a0:=Tryz.isAgg0
 z0:=Tryz.sizeOf0
 v0:=Tryz.zeroValue0
 i0:=by kernel_rfl
 t2:=Tryz.underlying2
 a2:=Tryz.isAgg2
 z2:=Tryz.sizeOf2
 v2:=Tryz.zeroValue2
 i2:=by kernel_rfl
 t3:=Tryz.underlying3
 a3:=Tryz.isAgg3
 z3:=Tryz.sizeOf3
 v3:=Tryz.zeroValue3
 i3:=by kernel_rfl
 t4:=Tryz.underlying4
 a4:=Tryz.isAgg4
 z4:=Tryz.sizeOf4
 v4:=Tryz.zeroValue4
 i4:=by kernel_rfl
 t5:=Tryz.underlying5
 a5:=Tryz.isAgg5
 z5:=Tryz.sizeOf5
 v5:=Tryz.zeroValue5
 i5:=by kernel_rfl
 t9:=Tryz.underlying9
 a9:=Tryz.isAgg9
 z9:=Tryz.sizeOf9
 v9:=Tryz.zeroValue9
 i9:=by kernel_rfl
 t20:=Tryz.underlying20
 a20:=Tryz.isAgg20
 z20:=Tryz.sizeOf20
 v20:=Tryz.zeroValue20
 i20:=by kernel_rfl
 t21:=Tryz.underlying21
 a21:=Tryz.isAgg21
 z21:=Tryz.sizeOf21
 v21:=Tryz.zeroValue21
 i21:=by kernel_rfl
 t22:=Tryz.underlying128
 a22:=Tryz.isAgg128
 z22:=Tryz.sizeOf128
 v22:=Tryz.zeroValue128
 i22:=by kernel_rfl
 t24:=Tryz.underlying233
 a24:=Tryz.isAgg233
 z24:=Tryz.sizeOf233
 v24:=Tryz.zeroValue233
 i24:=by kernel_rfl
 t25:=Tryz.underlying252
 a25:=Tryz.isAgg252
 z25:=Tryz.sizeOf252
 v25:=Tryz.zeroValue252
 i25:=by kernel_rfl
 t34:=Tryz.underlying285
 a34:=Tryz.isAgg285
 z34:=Tryz.sizeOf285
 v34:=Tryz.zeroValue285
 i34:=by kernel_rfl
 c34:=by kernel_rfl
 t36:=Tryz.underlying219
 a36:=Tryz.isAgg219
 z36:=Tryz.sizeOf219
 v36:=Tryz.zeroValue219
 i36:=by kernel_rfl
 t37:=Tryz.underlying36
 a37:=Tryz.isAgg36
 z37:=Tryz.sizeOf36
 v37:=Tryz.zeroValue36
 i37:=by kernel_rfl
 t39:=Tryz.underlying287
 a39:=Tryz.isAgg287
 z39:=Tryz.sizeOf287
 v39:=Tryz.zeroValue287
 i39:=by kernel_rfl
 t44:=Tryz.underlying298
 a44:=Tryz.isAgg298
 z44:=Tryz.sizeOf298
 v44:=Tryz.zeroValue298
 i44:=by kernel_rfl
 t47:=Tryz.underlying266
 a47:=Tryz.isAgg266
 z47:=Tryz.sizeOf266
 v47:=Tryz.zeroValue266
 i47:=by kernel_rfl
 t48:=Tryz.underlying300
 a48:=Tryz.isAgg300
 z48:=Tryz.sizeOf300
 v48:=Tryz.zeroValue300
 i48:=by kernel_rfl
 t50:=Tryz.underlying302
 a50:=Tryz.isAgg302
 z50:=Tryz.sizeOf302
 v50:=Tryz.zeroValue302
 i50:=by kernel_rfl
 t52:=Tryz.underlying276
 a52:=Tryz.isAgg276
 z52:=Tryz.sizeOf276
 v52:=Tryz.zeroValue276
 i52:=by kernel_rfl
 t55:=Tryz.underlying279
 a55:=Tryz.isAgg279
 z55:=Tryz.sizeOf279
 v55:=Tryz.zeroValue279
 i55:=by kernel_rfl
 t59:=Tryz.underlying291
 a59:=Tryz.isAgg291
 z59:=Tryz.sizeOf291
 v59:=Tryz.zeroValue291
 i59:=by kernel_rfl
 t60:=Tryz.underlying218
 a60:=Tryz.isAgg218
 z60:=Tryz.sizeOf218
 v60:=Tryz.zeroValue218
 i60:=by kernel_rfl
 t61:=Tryz.underlying292
 a61:=Tryz.isAgg292
 z61:=Tryz.sizeOf292
 t65:=Tryz.underlying303
 a65:=Tryz.isAgg303
 z65:=Tryz.sizeOf303
 v65:=Tryz.zeroValue303
 i65:=by kernel_rfl
 t66:=Tryz.underlying304
 a66:=Tryz.isAgg304
 z66:=Tryz.sizeOf304
 v66:=Tryz.zeroValue304
 i66:=by kernel_rfl
 t67:=Tryz.underlying129
 a67:=Tryz.isAgg129
 z67:=Tryz.sizeOf129
 v67:=Tryz.zeroValue129
 i67:=by kernel_rfl
 g0:=by kernel_rfl
 m0:=by kernel_rfl
 g1:=by kernel_rfl
 m1:=by kernel_rfl
 g2:=by kernel_rfl
 m2:=by kernel_rfl
 g3:=by kernel_rfl
 m3:=by kernel_rfl
 g4:=by kernel_rfl
 m4:=by kernel_rfl }
def Su:Go.Shelf.Ren:=⟨fun | 219=>241 | 217=>251 | 225=>252 | 224=>253 | 267=>254 | 266=>266 | 314=>267 | n=>n,fun | 9=>9 | 3=>3 | 4=>4 | 5=>5 | 46=>219 | 146=>262 | 51=>218 | n=>n,fun | 1=>0 | n=>n⟩
theorem afZ:Go.Proofs.Lays.n219 Tryz.prog Su:={
 mixed:=by kernel_rfl
 f217:=Tryz.func251.trans (congrArg some (by kernel_rfl))
 f219:=Tryz.func241.trans (congrArg some (by kernel_rfl))
 f224:=Tryz.func253.trans (congrArg some (by kernel_rfl))
 f225:=Tryz.func252.trans (congrArg some (by kernel_rfl))
 f266:=Tryz.func266.trans (congrArg some (by kernel_rfl))
 f267:=Tryz.func254.trans (congrArg some (by kernel_rfl))
 f314:=Tryz.func267.trans (congrArg some (by kernel_rfl))
 t3:=Tryz.underlying3
 a3:=Tryz.isAgg3
 z3:=Tryz.sizeOf3
 v3:=Tryz.zeroValue3
 t4:=Tryz.underlying4
 a4:=Tryz.isAgg4
 z4:=Tryz.sizeOf4
 v4:=Tryz.zeroValue4
 t5:=Tryz.underlying5
 a5:=Tryz.isAgg5
 z5:=Tryz.sizeOf5
 v5:=Tryz.zeroValue5
 t9:=Tryz.underlying9
 a9:=Tryz.isAgg9
 z9:=Tryz.sizeOf9
 v9:=Tryz.zeroValue9
 t46:=Tryz.underlying219
 a46:=Tryz.isAgg219
 z46:=Tryz.sizeOf219
 v46:=Tryz.zeroValue219
 t51:=Tryz.underlying218
 a51:=Tryz.isAgg218
 z51:=Tryz.sizeOf218
 v51:=Tryz.zeroValue218
 t146:=Tryz.underlying262
 a146:=Tryz.isAgg262
 z146:=Tryz.sizeOf262
 v146:=Tryz.zeroValue262
 g1:=by kernel_rfl }
def Jr:Go.Shelf.Ren:=⟨fun | 105=>103 | 212=>187 | 99=>188 | 165=>189 | 166=>190 | 170=>191 | 169=>192 | 263=>227 | 264=>228 | 206=>229 | 240=>230 | 241=>231 | 276=>249 | 277=>250 | n=>n,fun | 9=>9 | 3=>3 | 4=>4 | 20=>20 | 0=>0 | 46=>219 | 109=>226 | 5=>5 | 72=>230 | 76=>234 | 51=>218 | 146=>262 | 53=>128 | 148=>264 | 70=>228 | 37=>36 | 75=>233 | 127=>266 | 164=>281 | 80=>129 | n=>n,fun | n=>n⟩
theorem aeV:Go.Proofs.Lays.n105 Tryz.prog Jr:={
 mixed:=by kernel_rfl
 f99:=Tryz.func188.trans (congrArg some (by kernel_rfl))
 f105:=Tryz.func103.trans (congrArg some (by kernel_rfl))
 f165:=Tryz.func189.trans (congrArg some (by kernel_rfl))
 f166:=Tryz.func190.trans (congrArg some (by kernel_rfl))
 f169:=Tryz.func192.trans (congrArg some (by kernel_rfl))
 f170:=Tryz.func191.trans (congrArg some (by kernel_rfl))
 f206:=Tryz.func229.trans (congrArg some (by kernel_rfl))
 f212:=Tryz.func187.trans (congrArg some (by kernel_rfl))
 f240:=Tryz.func230.trans (congrArg some (by kernel_rfl))
 f241:=Tryz.func231.trans (congrArg some (by kernel_rfl))
 f263:=Tryz.func227.trans (congrArg some (by kernel_rfl))
 f264:=Tryz.func228.trans (congrArg some (by kernel_rfl))
 f276:=Tryz.func249.trans (congrArg some (by kernel_rfl))
 f277:=Tryz.func250.trans (congrArg some (by kernel_rfl))
 t0:=Tryz.underlying0
 a0:=Tryz.isAgg0
 z0:=Tryz.sizeOf0
 v0:=Tryz.zeroValue0
 t3:=Tryz.underlying3
 a3:=Tryz.isAgg3
 z3:=Tryz.sizeOf3
 v3:=Tryz.zeroValue3
 t4:=Tryz.underlying4
 a4:=Tryz.isAgg4
 z4:=Tryz.sizeOf4
 v4:=Tryz.zeroValue4
 t5:=Tryz.underlying5
 a5:=Tryz.isAgg5
 z5:=Tryz.sizeOf5
 v5:=Tryz.zeroValue5
 t9:=Tryz.underlying9
 a9:=Tryz.isAgg9
 z9:=Tryz.sizeOf9
 v9:=Tryz.zeroValue9
 t20:=Tryz.underlying20
 a20:=Tryz.isAgg20
 z20:=Tryz.sizeOf20
 v20:=Tryz.zeroValue20
 t37:=Tryz.underlying36
 a37:=Tryz.isAgg36
 z37:=Tryz.sizeOf36
 v37:=Tryz.zeroValue36
 t46:=Tryz.underlying219
 a46:=Tryz.isAgg219
 z46:=Tryz.sizeOf219
 v46:=Tryz.zeroValue219
 t51:=Tryz.underlying218
 a51:=Tryz.isAgg218
 z51:=Tryz.sizeOf218
 v51:=Tryz.zeroValue218
 t53:=Tryz.underlying128
 a53:=Tryz.isAgg128
 z53:=Tryz.sizeOf128
 v53:=Tryz.zeroValue128
 t70:=Tryz.underlying228
 a70:=Tryz.isAgg228
 z70:=Tryz.sizeOf228
 v70:=Tryz.zeroValue228
 t72:=Tryz.underlying230
 a72:=Tryz.isAgg230
 z72:=Tryz.sizeOf230
 v72:=Tryz.zeroValue230
 t75:=Tryz.underlying233
 a75:=Tryz.isAgg233
 z75:=Tryz.sizeOf233
 v75:=Tryz.zeroValue233
 t76:=Tryz.underlying234
 a76:=Tryz.isAgg234
 z76:=Tryz.sizeOf234
 v76:=Tryz.zeroValue234
 t109:=Tryz.underlying226
 a109:=Tryz.isAgg226
 z109:=Tryz.sizeOf226
 v109:=Tryz.zeroValue226
 t127:=Tryz.underlying266
 a127:=Tryz.isAgg266
 z127:=Tryz.sizeOf266
 v127:=Tryz.zeroValue266
 t146:=Tryz.underlying262
 a146:=Tryz.isAgg262
 z146:=Tryz.sizeOf262
 v146:=Tryz.zeroValue262
 t148:=Tryz.underlying264
 a148:=Tryz.isAgg264
 z148:=Tryz.sizeOf264
 v148:=Tryz.zeroValue264
 t164:=Tryz.underlying281
 a164:=Tryz.isAgg281
 z164:=Tryz.sizeOf281
 v164:=Tryz.zeroValue281 }
theorem Zp:Builder.Extra Tryz.prog Jr:={
 sizeBuilder:=by kernel_rfl
 liesBuilder:=by kernel_rfl
 t5:=Tryz.underlying5
 a5:=Tryz.isAgg5
 z5:=Tryz.sizeOf5
 v5:=Tryz.zeroValue5
 infoByte:=by kernel_rfl
 cellsByte:=by kernel_rfl
 sizeByte:=by kernel_rfl
 neB5:=by decide }
end Go.Proofs
namespace Go.Proofs
open Go.Shelf Go.RowKit Go.Sort Go.Lib
abbrev QU:UInt8→Value:=fun b=>Value.int .u8 (b.toNat:Int)
theorem Uq (w:World) (T:TypeId) (nd:Nat) (hs:nd≤24):Holds QU (w.alloc (.cells Lib.zeros24 T)) w.heap.size 0 (Array.replicate nd (0:UInt8)):=fun j hj=>by
 have hj':j<nd:=by simpa using hj
 refine⟨?_,World.frozen?_alloc_new _ _ _ _⟩
 rw[World.cell?_alloc_new,Lib.zeros24_at _ (by omega),getElem!_pos _ j hj]
 simp
theorem Ao (w:World) (o:Obj) (dk:Array UInt8) (k:Nat):Below w.heap.size w ((putRow QU (w.alloc o) w.heap.size 0 dk).drewN k):=by
 rw[alloc_eq_grow]
 obtain⟨os',_,e⟩:=putRow_grow_new QU w #[o] w.heap.size 0 dk (Nat.le_refl _)
 rw[e]
 refine⟨rfl,rfl,rfl,by show w.heap.size≤(w.heap++os').size;simp,fun i hi => ?_⟩
 show (w.heap++os')[i]? = _
 rw[Array.getElem?_append_left hi]
set_option maxHeartbeats 6400000 in
set_option maxRecDepth 100000 in
theorem afV (u:Nat) (Xw:u<18446744073709551616) (w:World) (adA:Lib.TabIs Tryz.prog w "internal/strconv.uint64pow10" .u64 Lib.pow10Tab) :
  Calls Tryz.prog 226 #[.int .u64 u,.int .i64 10] w fun e w'=>e = .returned (.string ⟨(Lib.decDigits u).toArray⟩)∧Below w.heap.size w w':=by
 by_cases hs:u<100
 ·go_enter Tryz.func226,Tryz.ntmps226
  go_wp2_with (go_at_call 245;refine(Any.internal_strconv_small agG u hs _).mono ?_;rintro e w' ⟨rfl,rfl⟩)
  go_ret
  exact⟨rfl,Below.refl _ _⟩
 ·have Zf:1≤u:=by omega
  have auJ:Lib.nDigits u≤20:=by have:=Lib.numDigits_eq u Zf Xw;split at this<;>omega
  have hH0:=Uq w 276 (Lib.nDigits u) (by omega)
  have alN:=Any.internal_strconv_formatBase10 afQ w.heap.size 0 24 u (Array.replicate (Lib.nDigits u) 0) (w.alloc (.cells Lib.zeros24 276)) hH0 (by rw[Array.size_replicate];exact Lib.lt_pow_nDigits u) Xw (by rw[Array.size_replicate];omega)
  rw[Array.size_replicate] at alN
  have HH0:=Lib.hid hH0
  have hal:Tryz.prog.arrayLen 276=24:=by simp[Program.arrayLen,Tryz.underlying276]
  have Nx:∀W,(Instr.sliceAt 276 (.pointer (some ⟨w.heap.size,0,none⟩)) none (some (.int .i64 (Lib.nDigits u:Int))) none).run Tryz.prog W = .ok (.slice (some ⟨w.heap.size,0,none⟩) (Lib.nDigits u) 24) W:=fun W=>by
   rw[run_sliceAt_array_h W 276 ⟨w.heap.size,0,none⟩ (by simp[Program.arrayLen,Program.elem,Tryz.underlying276]) .i64 (Lib.nDigits u:Int) (by omega) (by rw[hal];omega)]
   go_simp
  clear hH0 hal
  go_enter Tryz.func226,Tryz.ntmps226
  go_wp2_with (first
   | (go_at_call 246;refine(Any.internal_strconv_numDigits afX u Zf Xw _ (Lib.tabIs_alloc adA _)).mono ?_;rintro e w' ⟨rfl,rfl⟩))
  go_at_call 247
  refine alN.mono ?_
  rintro e w' ⟨rfl,k,v',dk,rfl,hF⟩
  have hcv:(convert 36 9 (.slice (some ⟨w.heap.size,0,none⟩) (Lib.nDigits u) 24)).run Tryz.prog ((putRow QU (w.alloc (.cells Lib.zeros24 276)) w.heap.size 0 dk).drewN k) = .ok (.string ⟨(Lib.decDigits u).toArray⟩) ((putRow QU (w.alloc (.cells Lib.zeros24 276)) w.heap.size 0 dk).drewN k):=by
   have h:=run_convert_bytes_back (P:=Tryz.prog) ((putRow QU (w.alloc (.cells Lib.zeros24 276)) w.heap.size 0 dk).drewN k) 36 9 5 ⟨w.heap.size,0,none⟩ 24 (Lib.decDigits u) Tryz.underlying36 Tryz.underlying5 Tryz.underlying9 (fun j hj=>by
    rw[Lib.row_is_numeral hF j hj,Lib.add_plain,World.cell?_drewN]
    exact cell?_putRow QU _ w.heap.size 0 _ dk HH0.out (by rw[hF.size,Array.size_replicate]) j (by rw[hF.size];rw[Lib.decDigits_length] at hj;exact hj))
   rw[Lib.decDigits_length] at h
   exact h
  go_wp2
  go_ret
  exact⟨rfl,Ao w _ dk k⟩
theorem WD (u:Nat) (Xw:u<18446744073709551616) (w:World) (adA:Lib.TabIs Tryz.prog w "internal/strconv.uint64pow10" .u64 Lib.pow10Tab) :
  Calls Tryz.prog 184 #[.int .u64 u,.int .i64 10] w fun e w'=>e = .returned (.string ⟨(Lib.decDigits u).toArray⟩)∧Below w.heap.size w w':=by
 go_enter Tryz.func184,Tryz.ntmps184
 go_wp2_with (go_at_call 226;refine(afV u Xw _ adA).mono ?_;rintro e w' ⟨rfl,hb⟩)
 go_ret
 exact⟨rfl,hb⟩
end Go.Proofs
namespace Go.PM
open Go.Proofs Go.RowKit
theorem Below.Cx {w w':World} (h:Below w.heap.size w w'):w.heap.size≤w'.heap.size∧(∀rb,rb<w.heap.size→w'.heap[rb]? = w.heap[rb]?)∧w'.os=w.os∧w'.output=w.output∧w'.tape=w.tape :=
 ⟨h.size,h.block,h.os,h.output,h.tape⟩
theorem Aw {w:World}:w.heap.size≤w.heap.size∧(∀rb,rb<w.heap.size→w.heap[rb]? = w.heap[rb]?)∧w.os=w.os∧w.output=w.output∧w.tape=w.tape :=
 ⟨Nat.le_refl _,fun _ _=>rfl,rfl,rfl,rfl⟩
def C8 (f:Nat) (p:List Value→aE→Option Value):Prop :=
 JW Tryz.prog f∧∀L0 args H v,p args H=some v→∀m w gR,Rel m L0 H w→RL m args gR →
  Calls Tryz.prog f gR.toArray w fun e w'=>∃rv,e = .returned rv∧RV m v rv∧w.heap.size≤w'.heap.size∧(∀rb,rb<w.heap.size→w'.heap[rb]? = w.heap[rb]?)∧w'.os=w.os∧w'.output=w.output∧w'.tape=w.tape
theorem RL.one {m:dA} {x:Value} {ys:List Value} (h:RL m [x] ys):∃y,ys=[y]∧RV m x y:=by
 match ys,h with
 | [y],h=>exact⟨y,rfl,h.jT.1⟩
 | [],h=>exact absurd h.1 (by simp)
 | _::_::_,h=>exact absurd h.1 (by simp)
theorem RL.two {m:dA} {x x':Value} {ys:List Value} (h:RL m [x,x'] ys):∃y y',ys=[y,y']∧RV m x y∧RV m x' y':=by
 match ys,h with
 | [y,y'],h=>exact⟨y,y',rfl,h.jT.1,h.jT.2.jT.1⟩
 | [],h=>exact absurd h.1 (by simp)
 | [_],h=>exact absurd h.1 (by simp)
 | _::_::_::_,h=>exact absurd h.1 (by simp)
theorem RL.three {m:dA} {x x' x'':Value} {ys:List Value} (h:RL m [x,x',x''] ys):∃y y' y'',ys=[y,y',y'']∧RV m x y∧RV m x' y'∧RV m x'' y'':=by
 match ys,h with
 | [y,y',y''],h=>exact⟨y,y',y'',rfl,h.jT.1,h.jT.2.jT.1,h.jT.2.jT.2.jT.1⟩
 | [],h=>exact absurd h.1 (by simp)
 | [_],h=>exact absurd h.1 (by simp)
 | [_,_],h=>exact absurd h.1 (by simp)
 | _::_::_::_::_,h=>exact absurd h.1 (by simp)
theorem Eb {m:dA}:∀ {cs rs:List Value} {xs:List ByteArray},strCells cs=some xs→RL m cs rs→rs=xs.map .string
 |
  [],rs,xs,h,hr=>by
  cases h
  match rs,hr with
  | [],_=>rfl
  | _::_,hr=>exact absurd hr.1 (by simp)
 |
  c::cs,rs,xs,h,hr=>by
  match rs,hr with
  | [],hr=>exact absurd hr.1 (by simp)
  |
   r::rs,hr =>
   obtain⟨h1,h2⟩:=hr.jT
   cases c with
   |
    string s =>
    rw[strCells] at h
    cases hc:strCells cs with
    | none=>rw[hc] at h;cases h
    |
     some ys =>
     rw[hc] at h
     cases h
     cases h1
     rw[Eb hc h2]
     rfl
   | _=>cases h
theorem HE:C8 219 CX:=by
 refine⟨⟨_,Tryz.func219,by kernel_rfl,by kernel_rfl⟩,fun L0 args H v hp m w gR hR hr => ?_⟩
 unfold CX at hp
 split at hp
 case h_2=>cases hp
 rename_i x
 split at hp
 case isFalse=>cases hp
 rename_i hx
 cases hp
 obtain⟨y,rfl,h1⟩:=hr.one
 cases h1
 refine(Any.bits_LeadingZeros32 adH x w hx.1 hx.2).mono ?_
 rintro e w' ⟨rfl,rfl⟩
 exact⟨_,rfl,.int _ _,Aw⟩
theorem JQ:C8 103 MY:=by
 refine⟨⟨_,Tryz.func103,by kernel_rfl,by kernel_rfl⟩,fun L0 args H v hp m w gR hR hr => ?_⟩
 unfold MY at hp
 split at hp
 case h_2=>cases hp
 rename_i s c
 split at hp
 case isFalse=>cases hp
 rename_i hx
 cases hp
 obtain⟨y,y',rfl,h1,h2⟩:=hr.two
 cases h1
 cases h2
 obtain⟨k,rfl⟩:∃k:Nat,c=k:=⟨c.toNat,by omega⟩
 refine(Any.strings_Repeat aeV Zp s k w (by omega) hx.2.2).mono ?_
 rintro e w' ⟨rfl,hb⟩
 exact⟨_,rfl,.str _,Below.Cx hb⟩
theorem Qr:C8 186 XA:=by
 refine⟨⟨_,Tryz.func186,by kernel_rfl,by kernel_rfl⟩,fun L0 args H v hp m w gR hR hr => ?_⟩
 unfold XA at hp
 split at hp
 case h_3=>cases hp
 ·cases hp
  obtain⟨y,y',rfl,h1,h2⟩:=hr.two
  cases h1
  cases h2
  refine(Any.strings_Join_none Sy MR none 0 _ w).mono ?_
  rintro e w' ⟨rfl,rfl⟩
  exact⟨_,rfl,.str _,Aw⟩
 ·rename_i b o n c sep
  obtain⟨y,y',rfl,h1,h2⟩:=hr.two
  cases h2
  cases h1 with
  |
   slice _ _ _ _ l ra rc h hn hc hx ha =>
   split at hp
   ·rename_i WZ
    subst WZ
    cases hp
    refine(Any.strings_Join_none Sy MR (some ra) rc _ w).mono ?_
    rintro e w' ⟨rfl,rfl⟩
    exact⟨_,rfl,.str _,Aw⟩
   ·rename_i WZ
    split at hp
    case h_2=>cases hp
    rename_i xs N2
    split at hp
    case isFalse=>cases hp
    rename_i Oh
    cases hp
    obtain⟨cs,D5,Kx⟩:=Option.bind_eq_some_iff.1 N2
    obtain⟨rs,r1,r2,_,r4⟩:=yK hR h D5
    have hrs:=Eb Kx r1
    subst hrs
    rcases ha with ha | ⟨rfl,ha⟩
    ·omega
    obtain⟨arr,e0,fz0,v1,_⟩:=hR.valid b l h
    have CO:l.rb<w.heap.size:=(Array.getElem?_eq_some_iff.1 v1).1
    obtain⟨c1,c2,c3,c4⟩:=Oh
    subst c1
    refine(Any.strings_Join Sy MR l.rb (l.base+o) rc xs sep w (fun j x hj => ?_) CO c3 (by omega) c4).mono ?_
    ·have:=r4 j (.string x) (by simp[hj])
     rw[Addr.add_lit] at this
     exact this
    ·rintro e w' ⟨rfl,hb⟩
     exact⟨_,rfl,.str _,Below.Cx hb⟩
theorem RW {m:dA} {L0:Nat} {H:aE} {w:World} (hR:Rel m L0 H w):Lib.TabIs Tryz.prog w "internal/strconv.uint64pow10" .u64 Lib.pow10Tab:=by
 obtain⟨e,fz,h⟩:=(hR.Co (1,(Lib.pow10Tab.map fun z=>Value.int .u64 z).toArray) (by simp[Zw])).1
 have hg:Tryz.prog.globalNamed "internal/strconv.uint64pow10"=some 1:=by kernel_rfl
 unfold Lib.TabIs World.var?
 rw[hg]
 simp only[Option.bind_some,h]
theorem Og:C8 184 Cc:=by
 refine⟨⟨_,Tryz.func184,by kernel_rfl,by kernel_rfl⟩,fun L0 args H v hp m w gR hR hr => ?_⟩
 unfold Cc at hp
 split at hp
 case h_2=>cases hp
 rename_i n b
 split at hp
 case isFalse=>cases hp
 rename_i hx
 cases hp
 obtain⟨y,y',rfl,h1,h2⟩:=hr.two
 cases h1
 cases h2
 obtain⟨rfl,h0,h1⟩:=hx
 obtain⟨u,rfl⟩:∃u:Nat,n=u:=⟨n.toNat,by omega⟩
 refine(WD u (by omega) w (RW hR)).mono ?_
 rintro e w' ⟨rfl,hb⟩
 exact⟨_,rfl,.str _,Below.Cx hb⟩
theorem MJ:C8 241 Nh:=by
 refine⟨⟨_,Tryz.func241,by kernel_rfl,by kernel_rfl⟩,fun L0 args H v hp m w gR hR hr => ?_⟩
 unfold Nh at hp
 split at hp
 case h_2=>cases hp
 rename_i s p
 split at hp
 case h_2=>cases hp
 rename_i c hc
 cases hp
 obtain⟨y,y',rfl,h1,h2⟩:=hr.two
 cases h1
 cases h2
 have hp:p=⟨#[c]⟩:=by
  obtain⟨a⟩:=p
  obtain⟨l⟩:=a
  have:l=[c]:=hc
  rw[this]
 subst hp
 refine(Any.stringslite_Index_one afZ s c w).mono ?_
 rintro e w' ⟨rfl,rfl⟩
 exact⟨_,rfl,.int _ _,Aw⟩
theorem MA:C8 217 xP:=by
 refine⟨⟨_,Tryz.func217,by kernel_rfl,by kernel_rfl⟩,fun L0 args H v hp m w gR hR hr => ?_⟩
 unfold xP at hp
 split at hp
 case h_2=>cases hp
 rename_i s b z
 split at hp
 case isFalse=>cases hp
 rename_i hx
 obtain⟨rfl,rfl,hs⟩:=hx
 split at hp
 case h_2=>cases hp
 rename_i u hu
 cases hp
 obtain⟨y,y',y'',rfl,h1,h2,h3⟩:=hr.three
 cases h1
 cases h2
 cases h3
 refine(Any.strconv_ParseUint_10_at64_ok Zi s hs u hu w).mono ?_
 have hv:∀m,RV m (.tuple #[.int .u64 (u:Int),.nilIface]) (.tuple #[.int .u64 (u:Int),.nilIface]):=fun m => .tuple _ _ rfl fun i hi=>by
  match i,hi with
  | 0,_=>exact .int _ _
  | 1,_=>exact .nilIface
  | n+2,hi=>exact absurd hi (by simp)
 rintro e w' ⟨rfl,rfl | rfl⟩
 ·exact⟨_,rfl,hv m,Aw⟩
 ·exact⟨_,rfl,hv m,Below.Cx (Lib.bytesWorld_below _ _ _)⟩
theorem adU {L0:Nat}:Ye Tryz.prog cfg L0:=by
 intro f p hp
 have Af:HM f=some p:=hp
 unfold HM at Af
 split at Af
 ·rename_i h;subst h;cases Af;exact⟨Og.1,Og.2 L0⟩
 split at Af
 ·rename_i h;subst h;cases Af;exact⟨JQ.1,JQ.2 L0⟩
 split at Af
 ·rename_i h;subst h;cases Af;exact⟨Qr.1,Qr.2 L0⟩
 split at Af
 ·rename_i h;subst h;cases Af;exact⟨HE.1,HE.2 L0⟩
 split at Af
 ·rename_i h;subst h;cases Af;exact⟨MJ.1,MJ.2 L0⟩
 split at Af
 ·rename_i h;subst h;cases Af;exact⟨MA.1,MA.2 L0⟩
 cases Af
end Go.PM
namespace Go.PM
open Go.ChangeShapes Go.WideShapes Go.ChangeAt Go.RowKit
open Go.Proofs
structure In (m:dA) (H:aE) (W:World):Prop where
 VP:∀b l,m b=some l→b<H.length
 valid:∀b l,m b=some l→∃arr e fz,W.heap[l.rb]? = some (.cells arr e fz)∧arr.size=l.Nb
 row:∀b l cs e p,m b=some l→H[b]? = some (.row cs e p)→l.fM=e∧l.OH=p∧l.base+cs.length≤l.Nb ∧
  ∀i,i<cs.length→∃rv,W.cell? ⟨l.rb,l.base+i,none⟩=some rv∧RV m (cs.getD i Go.undef) rv∧PM.gO (cs.getD i Go.undef)=true
section
variable {m:dA} {H:aE} {W:World}
theorem In.empty:In (fun _=>none) [] W:=⟨fun _ _ h=>(by cases h),fun _ _ h=>(by cases h),fun _ _ _ _ _ h=>(by cases h)⟩
theorem In.rel (h:In m H W) (hg:Nw W):Rel m H.length H W :=
 ⟨fun b l hb=>by
  obtain⟨arr,e,fz,h1,h2⟩:=h.valid b l hb
  exact⟨arr,e,fz,h1,h2,fun hl=>by have:=h.VP b l hb;omega⟩,h.row,fun b1 b2 l1 l2 hl h1 _ _ _ _=>by have:=h.VP b1 l1 h1;omega,fun x hx=>⟨hg x hx,fun b l hb hm _=>by have:=h.VP b l hm;omega⟩⟩
theorem In.PC (h:In m H W) {b:Nat} (hb:H.length≤b):m b=none:=by
 cases hm:m b with
 | none=>rfl
 | some l=>have:=h.VP b l hm;omega
theorem In.add (h:In m H W) {rb base fM:Nat} {arr:Array Value} {e:TypeId} {fz:Nat×Nat} {cs:List Value} (hb:W.heap[rb]? = some (.cells arr e fz)) (wT:base+cs.length≤arr.size)
  (hc:∀i,i<cs.length→∃rv,W.cell? ⟨rb,base+i,none⟩=some rv∧RV (tR m H.length ⟨rb,base,fM,arr.size,false⟩) (cs.getD i Go.undef) rv∧PM.gO (cs.getD i Go.undef)=true) :
  In (tR m H.length ⟨rb,base,fM,arr.size,false⟩) (H++[.row cs fM false]) W:=by
 have hn:=h.PC (Nat.le_refl H.length)
 refine⟨fun b l uR => ?_,fun b l uR => ?_,fun b l ds e' p uR nA => ?_⟩
 ·by_cases he:b=H.length
  ·subst he;simp
  ·rw[cL he] at uR
   have:=h.VP b l uR
   simp;omega
 ·by_cases he:b=H.length
  ·subst he
   rw[bQ] at uR
   cases uR
   exact⟨arr,e,fz,hb,rfl⟩
  ·rw[cL he] at uR
   exact h.valid b l uR
 ·by_cases he:b=H.length
  ·subst he
   rw[bQ] at uR
   cases uR
   rw[SF] at nA
   cases nA
   exact⟨rfl,rfl,wT,hc⟩
  ·rw[cL he] at uR
   have aX:=h.VP b l uR
   rw[Ny aX] at nA
   obtain⟨h1,h2,h3,h4⟩:=h.row b l ds e' p uR nA
   refine⟨h1,h2,h3,fun i hi => ?_⟩
   obtain⟨rv,g1,g2,g3⟩:=h4 i hi
   exact⟨rv,g1,g2.mono (tU hn),g3⟩
end
theorem TW {α:Type} (p:Nat→α→Prop):∀c,(∀i,i<c→∃x,p i x)→∃xs:List α,xs.length=c∧∀i x,xs[i]? = some x→p i x
 | 0,_=>⟨[],rfl,fun i x hx=>by simp at hx⟩
 |
  c+1,h=>by
  obtain⟨xs,h1,h2⟩:=TW p c fun i hi=>h i (by omega)
  obtain⟨x,h3⟩:=h c (by omega)
  refine⟨xs++[x],by simp[h1],fun i y hy => ?_⟩
  rcases Nat.lt_or_ge i xs.length with hi | hi
  ·rw[List.getElem?_append_left hi] at hy
   exact h2 i y hy
  ·rw[List.getElem?_append_right hi] at hy
   have Ym:i-xs.length=0:=by
    rcases Nat.eq_zero_or_pos (i-xs.length) with h | h
    ·exact h
    ·rw[List.getElem?_eq_none (by simp;omega)] at hy;cases hy
   rw[Ym] at hy
   cases hy
   have:i=c:=by omega
   subst this
   exact h3
theorem XE {f:Nat} {args gR:List Value} {H H':aE} {v:Value} {m:dA} {W:World} (hI:In m H W) (hr:RL m args gR) (h:qY f args H.length H=some (v,H')) (hg:Nw W:=by first | assumption | exact fun x hx=>nomatch hx) :
  Calls Tryz.prog f gR.toArray W fun e W'=>∃m' rv,e = .returned rv∧RV m' v rv∧Below W.heap.size W W':=by
 obtain⟨n,hn⟩:=(uJ cfg jE).1 h
 refine(Gb Tryz.checked.mixed adU afS n f args H.length H v H' hn m W gR (hI.rel hg) (Nat.le_refl _) (Nat.le_refl _) hr (fun b hb _=>hI.PC hb)).2.mono ?_
 rintro e W' ⟨m',rv,rfl,h1,_,h3⟩
 refine⟨m',rv,rfl,h1,⟨h3.same.1,h3.same.2.2,h3.same.2.1,h3.size,fun k hk=>h3.cZ k hk fun b l hb hm _ => ?_⟩⟩
 rw[hI.PC hb] at hm
 cases hm
end Go.PM
namespace Go.PM
def Q5 (c:fL):Prop:=(0≤c.t∧c.t≤10000)∧(1≤c.w∧c.w≤1000)∧(0≤c.k∧c.k≤9)
instance (c:fL):Decidable (Q5 c):=by unfold Q5;infer_instance
def afO (cs:List fL) (i:Nat) (c:fL):Prop:=Q5 c∧∀b,0<i→cs[i-1]? = some b→b.t≤c.t
def kA (cs:List fL):Prop:=(∀i c,cs[i]? = some c→afO cs i c)∧cs.length≤24
noncomputable instance (cs:List fL):Decidable (kA cs):=Classical.propDecidable _
theorem kA.at {cs:List fL} (h:kA cs) {i:Nat} {c:fL} (hc:cs[i]? = some c):(0≤c.t∧c.t≤10000)∧(1≤c.w∧c.w≤1000)∧(0≤c.k∧c.k≤9):=(h.1 i c hc).1
def wl (time:Int):List fL→Int→Int→Int
 | [],l,s=>max (l-(time-s)) 0
 | c::cs,l,s=>if time<c.t then max (l-(time-s)) 0 else wl time cs (max (l-(c.t-s)) 0+c.w) c.t
def aoJ (cs:List fL) (time:Int):Prop:=kA cs∧(0≤time∧time≤1000000000)
noncomputable instance (cs:List fL) (time:Int):Decidable (aoJ cs time):=Classical.propDecidable _
def akZ (cs:List fL) (ls:List Int):Prop:=kA cs∧ls.length=cs.length∧∀x∈ls,0≤x∧x≤1000000000
noncomputable instance (cs:List fL) (ls:List Int):Decidable (akZ cs ls):=Classical.propDecidable _
def aiF (cs:List fL) (ls:List Int) (time:Int):Prop:=akZ cs ls∧(0≤time∧time≤1000000000)
noncomputable instance (cs:List fL) (ls:List Int) (time:Int):Decidable (aiF cs ls time):=Classical.propDecidable _
def arW (cs:List fL) (ps:List Int):Prop:=kA cs∧ps.length=cs.length∧∀x∈ps,0≤x∧x≤10000
noncomputable instance (cs:List fL) (ps:List Int):Decidable (arW cs ps):=Classical.propDecidable _
end Go.PM
namespace Go.Proofs.YtodamlihdkalfaaGreatDoor
open Go.ChangeShapes Go.WideShapes Go.ChangeAt Go.RowKit Go.PM
theorem own:ownKnob Tryz.prog.godebug=none:=by kernel_rfl
theorem laidOut:laidOutB Tryz.prog=true:=by kernel_rfl
theorem three {α:Type} {l:List α} (h:l.length=3):∃a b c,l=[a,b,c]:=by
 rcases l with _ | ⟨a,_ | ⟨b,_ | ⟨c,_ | ⟨d,l⟩⟩⟩⟩
 ·cases h
 ·cases h
 ·cases h
 ·exact⟨a,b,c,rfl⟩
 ·simp at h
end Go.Proofs.YtodamlihdkalfaaGreatDoor
namespace Go.PM
def Ez:List Nat:=[]
 ++ [52]
 ++ [55]
 ++ [56]
 ++ [43]
 ++ [45]
 ++ [50]
 ++ [67]
 ++ [70]
 ++ [71]
 ++ [76]
 ++ [78]
 ++ [79]
 ++ [60]
 ++ [62]
 ++ [72]
 ++ [17]
 ++ [19]
 ++ [23]
 ++ [53]
 ++ [51]
 ++ [21]
 ++ [20]
 ++ [49]
 ++ [48]
 ++ [64]
 ++ [63]
 ++ [68]
 ++ [66]
 ++ [77]
 ++ [75]
 ++ [182]
 ++ [220]
 ++ [221]
 ++ [239]
 ++ [240]
 ++ [202]
 ++ [185]
 ++ [84]
 ++ [87]
 ++ [165]
 ++ [85]
 ++ [85]
 ++ [86]
 ++ [26]
 ++ [111]
 ++ [200]
 ++ [132]
 ++ [149]
 ++ [204]
 ++ [143]
 ++ [129]
 ++ [125]
 ++ [128]
 ++ [123]
 ++ [127]
 ++ [122]
 ++ [207]
 ++ [150]
 ++ [144]
 ++ [131]
 ++ [148]
 ++ [142]
end Go.PM
namespace Go.PM
inductive TK where
 | op
 | cl (e:Nat)
 | nil
 deriving DecidableEq
inductive VV where
 | any
 | sc (v:Value)
 | agg (cs:List VV)
 | eG (vs:List VV)
 | tree (es:List VV) (k:TK)
 | cP (x:VV) (off:Nat)
 | ref (b g o n c:Nat)
 | ptr (b g j off:Nat)
 | uG (f:Nat) (fR:List VV)
 deriving Inhabited
inductive eR where
 | dead
 | row (g:Nat) (es:List VV) (e:Nat) (w:Bool)
 deriving Inhabited
abbrev aA:=List eR
abbrev cG:=Nat→VV
def pT:VV := .eG []
def nJ:Value→Bool
 | .bool _ | .int _ _ | .string _ | .pointer none | .nilFunc | .nilIface=>true
 | _=>false
def jF:Value→VV
 | .slice none 0 0 => .tree [] .nil
 | v=>if nJ v then .sc v else .any
def inj:Value→VV
 | .agg cs => .agg (cs.toList.map jF)
 | .tuple vs=>if vs.isEmpty then .eG [] else .any
 | v=>jF v
def dY (ρ:cG):Operand→VV
 | .tmp t=>ρ t
 | .const v=>inj v
 | .global _ => .any
 | .func f => .uG f []
def Ir (ρ:cG):Option Nat→VV→cG
 | none,_=>ρ
 | some d,v=>fun k=>if k=d then v else ρ k
def aB:VV→List VV
 | .agg cs=>cs
 | v=>[v]
def elemOf:List VV→VV
 | [x]=>x
 | cs => .agg cs
def bU:VV→Bool
 | .any | .agg _ | .eG _=>false
 | _=>true
def uni:List VV→Bool
 | []=>true
 | x::xs=>xs.all fun y=>(aB y).length == (aB x).length
mutual
def aP:VV→Bool
 | .any=>false
 | .sc v=>nJ v
 | .agg cs=>aN cs
 | .eG vs=>aN vs
 | .tree es k=>decide (k = .op)&&aN es&&uni es
 | .cP x _=>aP x
 | .ref .. => false
 | .ptr .. => false
 | .uG _ fR=>aN fR
def aN:List VV→Bool
 | []=>true
 | x::xs=>aP x&&aN xs
end
def Ah:VV→Bool
 | .agg [_]=>false
 | _=>true
mutual
def gK:VV→Bool
 | .any=>false
 | .sc v=>nJ v
 | .agg cs=>pB cs
 | .eG vs=>pB vs
 | .tree es k=>decide (k = .op)&&pB es&&uni es&&es.all Ah
 | .cP _ _=>false
 | .ref .. => false
 | .ptr .. => false
 | .uG _ _=>false
def pB:List VV→Bool
 | []=>true
 | x::xs=>gK x&&pB xs
end
mutual
def Fa:VV→Bool
 | .sc v=>nJ v
 | .agg cs=>OM cs
 | .eG vs=>OM vs
 | _=>false
def OM:List VV→Bool
 | []=>true
 | x::xs=>Fa x&&OM xs
end
mutual
def below (k:Nat):VV→Bool
 | .any=>true
 | .sc _=>true
 | .agg cs=>lI k cs
 | .eG vs=>lI k vs
 | .tree es _=>lI k es
 | .cP x _=>below k x
 | .ref b _ _ _ _=>decide (b<k)
 | .ptr b _ _ _=>decide (b<k)
 | .uG _ fR=>lI k fR
def lI (k:Nat):List VV→Bool
 | []=>true
 | x::xs=>below k x&&lI k xs
end
def Fs (k:Nat) (v:VV):VV:=if below k v then v else .any
def aK (H:aA) (b g:Nat):Option (List VV×Nat×Bool) :=
 match H[b]? with
 | some (.row g' es e w)=>if g'=g then some (es,e,w) else none
 | _=>none
def qB:List CK→List VV→List VV→Option Bool
 | [],[],[]=>some true
 |
  k::ks,.sc x::xs,.sc y::ys=>match tN k x y with
  | some true=>qB ks xs ys
  | some false=>some false
  | none=>none
 | _,_,_=>none
def cR (cs:List VV) (o:Nat) (new:List VV):List VV:=cs.take o++new++cs.drop (o+new.length)
def isAny:VV→Bool
 | .any=>true
 | _=>false
def xL (places:List (Nat×Nat)) (cells:List VV):List (Nat×VV)→Option (List VV)
 | []=>some cells
 |
  (i,v)::rest =>
  match places[i]? with
  | none=>none
  |
   some (off,size) =>
   if (aB v).length=size∧off+size≤cells.length∧isAny v=false then
    xL places (cells.take off++aB v++cells.drop (off+size)) rest
   else none
def uI (e:Nat) (es:List VV):List (Nat×VV)→Option (List VV)
 | []=>some es
 | (i,v)::rest=>if i<es.length∧(aB v).length=e∧(aB v).all bU then uI e (es.set i v) rest else none
def FH:Option VV→Option (Option Value)
 | none=>some none
 | some (.sc v)=>some (some v)
 | some _=>none
def dR (agg:Bool) (size:Nat) (x:VV) (o:Nat):Option VV :=
 if agg then (if o+size≤(aB x).length then some (.agg (((aB x).drop o).take size)) else none) else (aB x)[o]?
structure Fl where
 bf:Bool
 lr:Bool
def cU (agg:Bool) (size:Nat) (p:VV) (H:aA):Option VV :=
 match p with
 | .cP x o=>dR agg size x o
 |
  .ptr b g j o=>match aK H b g with
  |
   some (es,_,_)=>match es[j]? with
   | some x=>dR agg size x o
   | none=>none
  | none=>none
 | _=>none
def bF (size:Nat) (x i:VV) (H:aA):Option VV :=
 match x,i with
 |
  .tree es _,.sc (.int _ i)=>if 0≤i then match es[i.toNat]? with
  | some x=>if (aB x).length=size then some (.cP x 0) else none
  | none=>none
  else none
 |
  .ref b g o n _,.sc (.int _ i)=>match aK H b g with
  | some (_,e,_)=>if e=size∧0≤i∧i<n then some (.ptr b g (o+i.toNat) 0) else none
  | none=>none
 | _,_=>none
def EV (size:Nat) (x:VV) (l h m:Option VV) (H:aA):Option VV :=
 match FH l,FH h,FH m with
 |
  some lv,some hv,some mv =>
  match x with
  |
   .tree (y::ys) _ =>
   if (aB y).length=size then
    match eI mv (some (ys.length+1)) (ys.length+1) with
    | none=>none
    |
     some m=>match eI hv (if mv.isSome then none else some (ys.length+1)) m with
     | none=>none
     |
      some h=>match eI lv (some 0) h with
      | none=>none
      | some l=>if mv.isSome∧m=l then some (.tree [] (.cl size)) else some (.tree (((y::ys).drop l).take (h-l)) .op)
   else none
  |
   .ref b g o n c =>
   match aK H b g with
   |
    some (_,e,_) =>
    if e=size then
     match eI mv (some c) c with
     | none=>none
     |
      some m=>match eI hv (if mv.isSome then none else some n) m with
      | none=>none
      |
       some h=>match eI lv (some 0) h with
       | none=>none
       | some l=>if mv.isSome∧m=l then some (.tree [] (.cl size)) else some (.ref b g (o+l) (h-l) (m-l))
    else none
   | none=>none
  | _=>none
 | _,_,_=>none
def Gr:List VV→Option (List UInt8)
 | []=>some []
 | .sc (.int .u8 n)::r=>(Gr r).map (UInt8.ofNat n.toNat :: ·)
 | _=>none
def fF (size:Nat) (y:VV) (H:aA):Option (List VV) :=
 match y with
 | .tree es _=>if es.all fun x=>(aB x).length == size&&(aB x).all bU then some es else none
 |
  .ref b g o n _=>match aK H b g with
  | some (es,e,_)=>if e=size∧o+n≤es.length∧(((es.drop o).take n).all fun x=>(aB x).all bU) then some ((es.drop o).take n) else none
  | none=>none
 | .sc (.string s)=>if size=1 then some (s.data.toList.map fun b => .sc (.int .u8 b.toNat)) else none
 | _=>none
def eJ (lo size bytes:Nat) (x:VV) (new:List VV) (H:aA):Option (VV×aA) :=
 if 1≤bytes∧1≤size then
  match x with
  | .tree [] .nil=>if new.length=0 then some (x,H) else if new.length*bytes≤140737488355328 then some (.ref H.length 0 0 new.length new.length,H++[.row 0 new size true]) else none
  | .tree es (.cl e)=>if e=size then (if new.length=0 then some (x,H) else if (es.length+new.length)*bytes≤140737488355328 then some (.ref H.length 0 0 (es.length+new.length) (es.length+new.length),H++[.row 0 (es++new) size true]) else none) else none
  |
   .ref b g o n c=>match aK H b g with
   |
    some (es,e,true) =>
    if e=size∧lo≤b∧o+n≤es.length then
     if n+new.length≤c then
      if new.length=0 then some (x,H)
      else if o+n+new.length≤es.length then some (.ref b g o (n+new.length) c,H.set b (.row g (cR es (o+n) new) e true))
      else none
     else if (n+new.length)*bytes≤140737488355328 then some (.ref b (g+1) 0 (n+new.length) (n+new.length),H.set b (.row (g+1) ((es.drop o).take n++new) e true))
     else none
    else none
   | _=>none
  | _=>none
 else none
def cD (lo size:Nat) (p v:VV) (H:aA):Option aA :=
 match p with
 |
  .ptr b g j o=>match aK H b g with
  |
   some (es,e,true)=>match es[j]? with
   |
    some x =>
    if (aB v).length=size∧lo≤b∧(aB v).all bU then
     if o=0∧size=e then some (H.set b (.row g (es.set j v) e true))
     else if 2≤e∧o+size≤e then some (H.set b (.row g (es.set j (.agg (cR (aB x) o (aB v)))) e true))
     else none
    else none
   | none=>none
  | _=>none
 | _=>none
def yP (zero:List Value) (bytes:Nat) (l c:VV) (H:aA):Option (VV×aA) :=
 match l,c with
 | .sc (.int .i64 l),.sc (.int .i64 c)=>if 0≤l∧l≤c∧c*bytes≤281474976710656∧c≤9223372036854775807 then
  some (.ref H.length 0 0 l.toNat c.toNat,H++[.row 0 (List.replicate c.toNat (elemOf (zero.map jF))) zero.length true]) else none
 | _,_=>none
def tY (lr:Bool) (zero:List Value) (n:Nat) (parts:List (Nat×VV)) (H:aA):Option (VV×aA) :=
 match uI zero.length (List.replicate n (elemOf (zero.map jF))) parts with
 | some es=>if (zero.map jF).all bU then (if n=0∨lr=true then some (.ref H.length 0 0 n n,H++[.row 0 es zero.length true]) else some (.tree es (.cl zero.length),H)) else none
 | none=>none
def Ml (lo size:Nat) (x y:VV) (H:aA):Option (VV×aA) :=
 match x,fF size y H with
 | .tree [] .nil,some _=>some (.sc (.int .i64 0),H)
 |
  .ref b g o d _,some new=>match aK H b g with
  | some (es,e,true)=>if e=size∧lo≤b∧o+(new.take d).length≤es.length then some (.sc (.int .i64 (new.take d).length),H.set b (.row g (cR es o (new.take d)) e true)) else none
  | _=>none
 | _,_=>none
def MN (lo:Nat) (zero:List Value) (x:VV) (H:aA):Option aA :=
 match x with
 |
  .ref b g o n _=>match aK H b g with
  | some (es,e,true)=>if n=0 then some H else if e=zero.length∧lo≤b∧o+n≤es.length∧(zero.map jF).all bU then some (H.set b (.row g (cR es o (List.replicate n (elemOf (zero.map jF)))) e true)) else none
  | _=>none
 | _=>none
def Es (neg:Bool) (x:VV) (H:aA):Option VV :=
 match x with
 | .tree [] .nil=>some (.sc (.bool (true != neg)))
 | .tree [] (.cl _)=>some (.sc (.bool (false != neg)))
 | .tree (_::_) _=>some (.sc (.bool (false != neg)))
 | .ref b g _ _ _=>(aK H b g).map fun _ => .sc (.bool (false != neg))
 | _=>none
def pX (x:VV) (H:aA):Option VV :=
 match x with
 | .tree es _=>some (.sc (.int .i64 es.length))
 | .ref b g _ n _=>(aK H b g).map fun _ => .sc (.int .i64 n)
 | _=>none
def F9 (off:Nat) (x:VV) (H:aA):Option VV :=
 match x with
 | .cP x o=>some (.cP x (o+off))
 | .ptr b g j o=>(aK H b g).map fun _ => .ptr b g j (o+off)
 | _=>none
def UO (x:VV) (H:aA):Option VV :=
 match x with
 | .cP x o=>some (.cP x o)
 | .ptr b g j o=>(aK H b g).map fun _ => .ptr b g j o
 | _=>none
def vQ (x:VV) (l h:Option VV):Option VV :=
 match x,FH l,FH h with
 |
  .sc (.string s),some lv,some hv=>match zE lv hv s.size with
  | some (l,h)=>some (.sc (.string (s.extract l h)))
  | none=>none
 | _,_,_=>none
def ZN (agg:Bool) (off size:Nat) (x:VV):Option VV :=
 match x with
 | .agg cs=>if agg then (if off+size≤cs.length then some (.agg ((cs.drop off).take size)) else none) else cs[off]?
 | _=>none
def Jg (f:Value→Option Value) (x:VV):Option VV :=
 match x with
 | .sc a=>(f a).map .sc
 | _=>none
def GU (f:Value→Value→Option Value) (x y:VV):Option VV :=
 match x,y with
 | .sc a,.sc b=>(f a b).map .sc
 | _,_=>none
def Oj (c a b:VV):Option VV :=
 match c with
 | .sc (.bool t)=>some (if t then a else b)
 | _=>none
def Wx (i:Nat) (x:VV):Option VV :=
 match x with
 | .eG vs=>vs[i]?
 | _=>none
def Q7 (neg:Bool) (ks:List CK) (x y:VV):Option VV :=
 match x,y with
 | .agg a,.agg b=>(qB ks a b).map fun t => .sc (.bool (t != neg))
 | _,_=>none
def Vl:Value→Option Value
 | .string s=>some (.string s)
 | _=>none
def AW:Value→Option Value
 | .string s=>some (.int .i64 s.size)
 | _=>none
def FL:Value→Value→Option Value
 | .string s,.int _ i=>if 0≤i∧i<s.size then some (.int .u8 ((s.data.toList.getD i.toNat 0).toNat:Int)) else none
 | _,_=>none
def vop (fl:Fl) (lo:Nat) (o:nI) (ρ:cG) (H:aA):Option (VV×aA) :=
 match o with
 | .mv x=>some (dY ρ x,H)
 | .pick c a b=>(Oj (dY ρ c) (dY ρ a) (dY ρ b)).map (·,H)
 | .bin op x y=>(GU (fB op) (dY ρ x) (dY ρ y)).map (·,H)
 | .eqb neg x y=>(GU (I3 neg) (dY ρ x) (dY ρ y)).map (·,H)
 | .isnil neg x=>(Es neg (dY ρ x) H).map (·,H)
 | .eqagg neg ks x y=>(Q7 neg ks (dY ρ x) (dY ρ y)).map (·,H)
 | .un op x=>(Jg (Xf op) (dY ρ x)).map (·,H)
 | .cvt k x=>(Jg (R3 k) (dY ρ x)).map (·,H)
 | .cvs x=>(Jg Vl (dY ρ x)).map (·,H)
 | .ext x i=>(Wx i (dY ρ x)).map (·,H)
 | .fld agg off size x=>(ZN agg off size (dY ρ x)).map (·,H)
 | .build zero places parts=>(xL places (zero.map jF) (parts.map fun(i,x)=>(i,dY ρ x))).map fun cs=>(.agg cs,H)
 | .chk x=>(UO (dY ρ x) H).map (·,H)
 | .faddr off x=>(F9 off (dY ρ x) H).map (·,H)
 | .iaddr size x i=>(bF size (dY ρ x) (dY ρ i) H).map (·,H)
 | .sidx x i=>(GU FL (dY ρ x) (dY ρ i)).map (·,H)
 | .ssub x l h=>(vQ (dY ρ x) (l.map (dY ρ)) (h.map (dY ρ))).map (·,H)
 | .mkfn f fR=>some (.uG f (fR.map (dY ρ)),H)
 | .len x=>(pX (dY ρ x) H).map (·,H)
 | .slen x=>(Jg AW (dY ρ x)).map (·,H)
 | .min x y=>(GU QI (dY ρ x) (dY ρ y)).map (·,H)
 | .max x y=>(GU PE (dY ρ x) (dY ρ y)).map (·,H)
 | .load agg size p=>(cU agg size (dY ρ p) H).map (·,H)
 | .sub size x l h m=>(EV size (dY ρ x) (l.map (dY ρ)) (h.map (dY ρ)) (m.map (dY ρ)) H).map (·,H)
 |
  .b2s x=>match dY ρ x with
  | .sc _=>none
  |
   y=>match fF 1 y H with
   | some es=>(Gr es).map fun bs=>(.sc (.string ⟨bs.toArray⟩),H)
   | none=>none
 | .new zero=>if (zero.map jF).all bU then some (.ptr H.length 0 0 0,H++[.row 0 [elemOf (zero.map jF)] zero.length true]) else none
 | .box x=>if (aB (dY ρ x)).all bU then (if fl.bf then some (.cP (dY ρ x) 0,H) else some (.ptr H.length 0 0 0,H++[.row 0 [dY ρ x] (aB (dY ρ x)).length true])) else none
 | .make zero bytes l c=>if (zero.map jF).all bU then yP zero bytes (dY ρ l) (dY ρ c) H else none
 | .lit zero n parts=>tY fl.lr zero n (parts.map fun(i,x)=>(i,dY ρ x)) H
 | .store size p v=>(cD lo size (dY ρ p) (dY ρ v) H).map fun H'=>(pT,H')
 |
  .app size bytes x y=>match fF size (dY ρ y) H with
  | some new=>eJ lo size bytes (dY ρ x) new H
  | none=>none
 |
  .appz zero bytes x n=>match dY ρ n with
  | .sc (.int .i64 n)=>if 0≤n∧n*bytes≤140737488355328∧(zero.map jF).all bU then eJ lo zero.length bytes (dY ρ x) (List.replicate n.toNat (elemOf (zero.map jF))) H else none
  | _=>none
 | .copy size x y=>Ml lo size (dY ρ x) (dY ρ y) H
 | .clear zero x=>(MN lo zero (dY ρ x) H).map fun H'=>(pT,H')
 | _=>none
inductive VBx where
 | no
 | row (i:Nat) (w:Bool)
 | A5 (i:Nat)
 | tree
 | bad
def lW (H:aA):VV→VBx
 | .tree [] .nil => .no
 | .tree _ _ => .tree
 | .cP _ _ => .tree
 |
  .ref b g _ _ _=>match aK H b g with
  | some (_,_,w) => .row b w
  | none => .A5 b
 |
  .ptr b g _ _=>match aK H b g with
  | some (_,_,w) => .row b w
  | none => .A5 b
 | .any => .bad
 | _ => .no
def jC (H:aA) (x y:VV):Bool :=
 match lW H x,lW H y with
 | .bad,_=>false
 | _,.bad=>false
 | .no,_=>true
 | _,.no=>true
 | .row i _,.row j _=>i != j
 | .row i _,.A5 j=>i != j
 | .A5 i,.row j _=>i != j
 | .A5 _,.A5 _=>false
 | .A5 _,.tree=>false
 | .tree,.A5 _=>false
 | .row _ w,.tree=>w
 | .tree,.row _ w=>w
 | .tree,.tree=>false
def eE (ρ:cG) (H:aA) (c:Operand×Operand):Bool:=jC H (dY ρ c.1) (dY ρ c.2)
def BA (g:Option (Nat×Bool)) (ρ:cG):Option Bool :=
 match g with
 | none=>some true
 |
  some (t,want)=>match ρ t with
  | .sc (.bool b)=>some (b == want)
  | .eG _=>some false
  | _=>none
def fz:Nat→aA→VV→Option VV
 | 0,_,_=>none
 |
  d+1,H,v =>
  if aP v then some v else
  match v with
  | .agg cs=>(cs.mapM (fz d H)).map .agg
  | .eG vs=>(vs.mapM (fz d H)).map .eG
  | .tree es _=>(es.mapM (fz d H)).map (.tree · .op)
  | .cP x o=>(fz d H x).map (.cP · o)
  |
   .ref b g o n c=>match aK H b g with
   | some (es,_,_)=>if o+n≤es.length∧n≤c then (((es.drop o).take n).mapM (fz d H)).map (.tree · .op) else none
   | none=>none
  |
   .ptr b g j o=>match aK H b g with
   |
    some (es,_,_)=>match es[j]? with
    | some x=>(fz d H x).map (.cP · o)
    | none=>none
   | none=>none
  | .uG f fR=>(fR.mapM (fz d H)).map (.uG f ·)
  | _=>none
def iN:Nat→aA→VV→List Nat
 | 0,_,_=>[]
 |
  d+1,H,v =>
  if aP v then [] else
  match v with
  | .agg cs=>cs.flatMap (iN d H)
  | .eG vs=>vs.flatMap (iN d H)
  | .tree es _=>es.flatMap (iN d H)
  | .cP x _=>iN d H x
  |
   .ref b g o n _=>match aK H b g with
   | some (es,_,_)=>b::((es.drop o).take n).flatMap (iN d H)
   | none=>[]
  |
   .ptr b g j _=>match aK H b g with
   |
    some (es,_,_)=>match es[j]? with
    | some x=>b::iN d H x
    | none=>[]
   | none=>[]
  | .uG _ fR=>fR.flatMap (iN d H)
  | _=>[]
def A3 (H:aA) (b:Nat):aA :=
 match H[b]? with
 | some (.row g es e _)=>H.set b (.row g es e false)
 | _=>H
def cJ (H:aA) (ids:List Nat):aA:=ids.foldl A3 H
def depth:Nat:=8
end Go.PM