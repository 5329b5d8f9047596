/- Texts of a claim, in one: part 5. -/
import Derived.Test.YtjmflicajplclaaGreatDoorKEd
open And renaming intro → aMU
open Bool renaming and_eq_true → aLM,and_self → aMC,false_eq_true → aLQ
open Int renaming toNat_natCast → aMA
open List renaming all_cons → aL6,all_eq_true → aLs,all_nil → aMy,append_assoc → aM0,append_nil → aMm,cons_append → aME,drop_succ_cons → aMZ,drop_zero → aMq,eq_of_mem_replicate → aMp,exists_cons_of_ne_nil → aMJ,flatten_cons → aM1,getD_cons_succ → aMX,getD_cons_zero → aMW,getD_eq_getElem?_getD → aLb,getElem?_append_left → aLv,getElem?_append_right → aLw,getElem?_cons_succ → aMY,getElem?_cons_zero → aLy,getElem?_eq_getElem → aLl,getElem?_eq_some_iff → aLd,getElem?_take → aMx,getLast?_cons_cons → aMK,length_append → aLp,length_cons → aLo,length_map → aMV,length_nil → aMR,length_take → aMN,mapM_cons → aMB,map_cons → aMQ,mem_cons → aMs,mem_cons_of_mem → aLN,mem_cons_self → aLO,mem_map → aMP,mem_of_getElem? → aL8,mem_of_mem_take → aMb,mem_singleton → aMk,nil_append → aMw,replicate → aL4,replicate_succ → aMo,set_append_right → aMT,set_cons_zero → aMS,take_append → aMO,take_of_length_le → aL7,take_succ_cons → aL1
open Nat renaming div_eq_of_lt → aML,div_lt_self → aMD,le_refl → aLe,le_trans → aLf,lt_of_lt_of_le → aLg,lt_or_ge → aLh,min_eq_left → aMf,mod_eq_of_lt → aMI,mul_comm → aMG,mul_le_mul_right → aLF,not_lt_zero → aMv,pow_succ → aMF,strongRecOn → aMH,succ_mul → aL3,zero_add → aMM,zero_le → aLI
open Option renaming isSome_none → aLT,map_some → aMz
set_option linter.unusedSimpArgs false
set_option linter.unusedVariables false
namespace Go.PM
def VT (f:Nat) (args:List VV) (r:VV):Prop :=
 ∀(F:Nat→Prop) (P:aH) (fB:List Value) (fA:Nat),(∀b,F b→b<P.length)→VL (bare F P) args fB→fA≤P.length →
  ∃P' pv,vB f fB fA P=some (pv,P')∧P <+: P'∧VR (bare (fun q=>F q∨(P.length≤q∧q<P'.length)) P') r pv
def SK (lo fA:Nat) (V:View) (r:Option (Value×aH)) (K:VV→aA→Prop):Prop :=
 ∃pv V' v,r=some (pv,V'.P)∧SR V' lo fA∧Hv lo V V'∧VR V' v pv∧K v V'.H
def mB (f:Nat) (args:List VV) (lo:Nat) (H:aA) (K:VV→aA→Prop):Prop :=
 ∀(V:View) (fA:Nat) (fB:List Value),V.H=H→SR V lo fA→VL V args fB→SK lo fA V (vB f fB fA V.P) K
theorem mB.mono {f:Nat} {args:List VV} {lo:Nat} {H:aA} {K K':VV→aA→Prop} (hk:∀v H,K v H→K' v H) (h:mB f args lo H K):mB f args lo H K':=by
 intro V fA fB hH hS hl
 obtain⟨pv,V',v,h1,h2,h3,h4,h5⟩:=h V fA fB hH hS hl
 exact⟨pv,V',v,h1,h2,h3,h4,hk _ _ h5⟩
theorem VT.uniq {f:Nat} {args:List VV} {r r':VV} (h:VT f args r) (h':VT f args r') (ha:aO args=true) (hr:gV r=true) (JB:gV r'=true):r=r':=by
 obtain⟨P,ps,_,hl⟩:=R9 args ha []
 obtain⟨P',pv,h1,_,h2⟩:=h (· < P.length) P ps 0 (fun _ h=>h) hl (aLI _)
 obtain⟨P'',pv',h3,_,h4⟩:=h' (· < P.length) P ps 0 (fun _ h=>h) hl (aLI _)
 rw[h1] at h3
 injection h3 with h3
 injection h3 with h3 h5
 subst h3 h5
 exact h2.uniq h4 hr JB
open Classical in
noncomputable def vT (f:Nat) (args:List VV):Option VV:=if h:∃r,aO args=true∧gV r=true∧VT f args r then some (Classical.choose h) else none
theorem TD {f:Nat} {args:List VV} {r:VV} (h:vT f args=some r):aO args=true∧gV r=true∧VT f args r:=by
 unfold vT at h
 split at h
 ·rename_i hx
  cases h
  exact Classical.choose_spec hx
 ·cases h
theorem auZ {f:Nat} {args:List VV} {r:VV} (ha:aO args=true) (hr:gV r=true) (h:VT f args r):vT f args=some r:=by
 have hx:∃r,aO args=true∧gV r=true∧VT f args r:=⟨r,ha,hr,h⟩
 unfold vT
 rw[dif_pos hx]
 obtain⟨_,h2,h3⟩:=Classical.choose_spec hx
 rw[h3.uniq h ha h2 hr]
def tk (r:Option VV) (K:VV→Prop):Prop:=match r with
 | some r=>K r
 | none=>False
noncomputable def JD (f:Nat) (args:List VV) (K:VV→Prop):Prop:=tk (vT f args) K
noncomputable def dP (f:Nat) (args:List VV) (lo:Nat) (H:aA) (K:VV→aA→Prop):Prop :=
 if G5.contains f=true then mB f args lo H K
 else if aO args=true then JD f args fun r=>K r H
 else match args.mapM (fz depth H) with
  | some mD=>JD f mD fun r=>if Jb r=true then K r H else K r (dB H (args.flatMap (iX depth H)))
  | none=>False
noncomputable def eZ (fl:Fl) (lo:Nat) (q:Bool) (op:qN) (ρ:cV) (H:aA) (K:VV→aA→Prop):Prop :=
 match op with
 | .call f args=>dP f (args.map (fE ρ)) (if q then H.length else lo) H K
 |
  .callv fv args=>match fE ρ fv with
  | .yV f gU=>dP f (args.map (fE ρ)++gU) (if q then H.length else lo) H K
  | _=>False
 |
  o=>match vop fl lo o ρ H with
  | some (v,H')=>K v H'
  | none=>False
noncomputable def VS (fl:Fl) (lo:Nat):List PI→(cV→aA→Prop)→cV→aA→Prop
 | [],K,ρ,H=>K ρ H
 |
  i::is,K,ρ,H=>match Ee i.g ρ with
  | none=>False
  | some false=>VS fl lo is K (M9 ρ i.dst tJ) H
  | some true=>i.cf.all (gB ρ H)=true∧eZ fl lo i.quiet i.op ρ H fun v H'=>VS fl lo is K (M9 ρ i.dst v) H'
def aqV:List Nat→cV→aA→Option (cV×aA)
 | [],ρ,H=>some (ρ,H)
 |
  t::ts,ρ,H=>match fz depth H (ρ t) with
  | some v=>aqV ts (M9 ρ (some t) v) (dB H (iX depth H (ρ t)))
  | none=>none
def Nv (r:Option VV) (H:aA) (K:VV→aA→Prop):Prop:=match r with
 | some v=>K v H
 | none=>False
def gh (K:cV→aA→Prop) (ρ:cV) (H:aA):Prop:=∃ts aP H',aqV ts ρ H=some (aP,H')∧K aP H'
def nO (k:Nat) (H:aA):Bool:=H.all fun
 | .row _ es _ _=>nM k es
 | .dead=>true
def rS (k:Nat) (ρ:cV):cV:=fun t=>MM k (ρ t)
abbrev VQ:=Ex→cV→aA→Prop
def pW (K:cV→aA→Prop) (Q:VQ):VQ
 | .normal=>K
 | x=>Q x
def tL (id:Nat) (Q:VQ):VQ
 | .exit Wz=>fun ρ H=>if Wz=id then Q .normal ρ H else Q (.exit Wz) ρ H
 | x=>Q x
def W3 (body:VQ→cV→aA→Prop) (Q:VQ):Nat→cV→aA→Prop
 | 0,_,_=>False
 | n+1,ρ,H=>body (pW (fun aP H'=>W3 body Q n aP H'∨(nO H.length (H'.take H.length)=true∧W3 body Q n (rS H.length aP) (H'.take H.length))) Q) ρ H
noncomputable def VW (fl:Fl) (lo:Nat):aE→VQ→cV→aA→Prop
 | .skip,Q,ρ,H=>Q .normal ρ H
 | .cT ops,Q,ρ,H=>VS fl lo ops (Q .normal) ρ H
 | .seq a b,Q,ρ,H=>VW fl lo a (pW (VW fl lo b Q) Q) ρ H
 |
  .cond c a b,Q,ρ,H=>match fE ρ c with
  | .sc (.bool t)=>if t=true then VW fl lo a Q ρ H else VW fl lo b Q ρ H
  | _=>False
 | .block id a,Q,ρ,H=>VW fl lo a (tL id Q) ρ H
 | .loop a,Q,ρ,H=>∃n,W3 (VW fl lo a) (fun x=>gh (Q x)) n ρ H
 | .exit id,Q,ρ,H=>Q (.exit id) ρ H
 | .ret,Q,ρ,H=>Q .ret ρ H
def FK (ρ:cV) (H:aA):DI→Option VV
 | .tmp t=>some (ρ t)
 | .cell t agg size=>bG agg size (ρ t) H
def sU (ρ:cV) (H:aA):List DI→Option (List VV)
 | []=>some []
 |
  r::rs=>match FK ρ H r,sU ρ H rs with
  | some v,some vs=>some (v::vs)
  | _,_=>none
def oO (res:List DI) (ρ:cV) (H:aA):Option VV :=
 match sU ρ H res with
 | some [v]=>some v
 | some vs=>some (.eH vs)
 | none=>none
def Jh (R:VV→aA→Prop):Option VV→aA→Prop
 | some v,H=>R v H
 | none,_=>False
def CV (res:List DI) (R:VV→aA→Prop):VQ
 | .exit _,_,_=>False
 | .normal,ρ,H=>Jh R (oO res ρ H) H
 | .ret,ρ,H=>Jh R (oO res ρ H) H
def Mc (args:List VV):cV:=fun k=>args.getD k tJ
section
variable {lo fA:Nat}
theorem Is {V:View} (hS:SR V lo fA) {P':aH} (hp:V.P <+: P'):SR { V with P:=P',F:=fun q=>V.F q∨(V.P.length≤q∧q<P'.length) } lo fA∧Hv lo V { V with P:=P',F:=fun q=>V.F q∨(V.P.length≤q∧q<P'.length) }:=by
 obtain⟨L,rfl⟩:=hp
 have hU:Up V { V with P:=V.P++L,F:=fun q=>V.F q∨(V.P.length≤q∧q<(V.P++L).length) }:=⟨fun _ h => .inl h,fun b hb=>aLv (hS.fr b hb),aLe _,fun b g es e w _ h=>⟨g,es,w,h,aLe _,fun _=>rfl⟩,rfl,by simp,fun b g es e w hb _=>⟨g,es,w,hb,rfl,id⟩⟩
 refine⟨⟨fun b g es e w hb => ?_,fun b g es e hb=>⟨fun hF => ?_,(hS.wr b g es e hb).2⟩,hS.inj,fun b hb => ?_,by have:=hS.Xe;simp;omega,by have:=hS.NA;simp;omega⟩,{ hU with cW:=fun q hq _=>aLv hq,EY:=fun q hq => ?_ }⟩
 ·obtain⟨r,p,h1,h2,h3⟩:=hS.row b g es e w hb
  exact⟨r,p,by rw[←h1];exact aLv (hS.mlt hb),h2,h3.mono hU⟩
 ·rcases hF with hF | hF
  ·exact(hS.wr b g es e hb).1 hF
  ·have h1:=hS.mlt hb
   have h2:V.P.length≤V.m b:=hF.1
   omega
 ·rcases hb with hb | hb
  ·have:=hS.fr b hb
   simp;omega
  ·exact hb.2
 ·rcases hq with hq | hq
  ·exact .inl hq
  ·exact .inr (.inl hq.1)
theorem alL {V V':View} {x:VV} {v:Value} (h:VR V x v):Jb x=true→VR V' x v:=by
 induction h using VR.rec (motive_2:=fun xs vs _=>U7 xs=true→VL V' xs vs) with
 | sc _ h=>intro _;exact .sc _ h
 | agg cs ps _ ih=>intro hx;exact .agg _ _ (ih hx)
 | eH cs ps _ ih=>intro hx;exact .eH _ _ (ih hx)
 | any=>intro hx;cases hx
 | pY=>intro hx;cases hx
 | tree=>intro hx;cases hx
 | cS=>intro hx;cases hx
 | ref=>intro hx;cases hx
 | ptr=>intro hx;cases hx
 | yV=>intro hx;cases hx
 | nil=>exact .nil
 |
  cons x v xs vs _ _ ih X5 =>
  rename_i hx
  simp only[U7,aLM] at hx
  exact .cons _ _ _ _ (ih hx.1) (X5 hx.2)
theorem VR.Fb {V':View} {G:Nat→Prop} {P:aH} {x:VV} {v:Value} (hF:∀b,G b→V'.F b∧V'.P[b]? = P[b]?) (h:VR (bare G P) x v):VR V' x v:=by
 induction h using VR.rec (motive_2:=fun xs vs _=>VL V' xs vs) with
 | any=>exact .any _
 | sc _ h=>exact .sc _ h
 | agg cs ps _ ih=>exact .agg _ _ ih
 | eH cs ps _ ih=>exact .eH _ _ ih
 | pY k hk=>exact .pY k hk
 | tree es k b o c r e p Yb hb ho hc he hk _ ih=>exact .tree es k b o c r e p (hF _ Yb).1 (by rw[(hF _ Yb).2];exact hb) ho hc he hk ih
 | cS x off b o r e p Yb hb ho _ ih=>exact .cS x off b o r e p (hF _ Yb).1 (by rw[(hF _ Yb).2];exact hb) ho ih
 | ref b g o n c a n' c' bH hg ha hq=>exact absurd bH (aMv _)
 | ptr b g j off a bH hg ha hq=>exact absurd bH (aMv _)
 | yV f gU ps _ ih=>exact .yV _ _ _ ih
 | nil=>exact .nil
 | cons x v xs vs _ _ ih X5=>exact .cons _ _ _ _ ih X5
theorem Vs {V:View} (hS:SR V lo fA) {f arI:Nat} (arU:arI≤V.P.length) {args:List VV} {fB:List Value} {G:Nat→Prop} (hG:∀b,G b→b<V.P.length) (hl:VL (bare G V.P) args fB) {K:VV→Prop} (h:JD f args K) :
  ∃P' pv r,vB f fB arI V.P=some (pv,P')∧V.P <+: P'∧VR (bare (fun q=>G q∨(V.P.length≤q∧q<P'.length)) P') r pv∧aY r=true∧K r:=by
 unfold JD tk at h
 split at h
 ·rename_i r hr
  obtain⟨h1,h2,h3⟩:=TD hr
  obtain⟨P',pv,h4,h5,h6⟩:=h3 G V.P fB arI hG hl arU
  exact⟨P',pv,r,h4,h5,h6,UB r h2,h⟩
 ·cases h
theorem Jq {V:View} (hS:SR V lo fA) {f:Nat} {args:List VV} {fB:List Value} (hl:VL V args fB) {q:Bool} {K:VV→aA→Prop} (h:dP f args (if q then V.H.length else lo) V.H K):SK lo fA V (vB f fB (if q then V.P.length else fA) V.P) K:=by
 have hlq:(if q=true then V.P.length else fA)≤V.P.length:=by split;exact aLe _;exact hS.Xe
 unfold dP at h
 split at h
 ·cases q with
  | false=>exact h V fA fB rfl hS hl
  |
   true =>
   have hS':SR V V.H.length V.P.length:=⟨hS.row,fun b g es e hb=>⟨(hS.wr b g es e hb).1,fun hl=>by have:=(aLd.1 hb).1;omega⟩,hS.inj,hS.fr,aLe _,hS.NA⟩
   obtain⟨pv,V',r,g1,g3,g4,g5,g6⟩:=h V V.P.length fB rfl hS' hl
   refine⟨pv,V',r,g1,⟨g3.row,fun b g es e hb=>⟨(g3.wr b g es e hb).1,fun HB => ?_⟩,g3.inj,g3.fr,aLf hS.Xe g4.GY,g3.NA⟩,{ g4.toUp with cW:=fun p hp _=>g4.cW p hp fun b g es e hb HB => ?_,EY:=g4.EY },g5,g6⟩
   ·rcases aLh (V'.m b) V.P.length with bH | G0
    ·obtain⟨g0,es0,w0,k1,k2,k3⟩:=g4.Er b g es e true hb bH
     have:=k3 rfl
     subst this
     rw[k2]
     exact(hS.wr _ _ _ _ k1).2 HB
    ·exact aLf hS.Xe G0
   ·have:=(aLd.1 hb).1
    have HB:V.H.length≤b:=HB
    omega
 ·split at h
  ·rename_i hp
   obtain⟨P',pv,r,g1,g2,g3,g4,g5⟩:=Vs hS (arI:=if q=true then V.P.length else fA) hlq (G:=V.F) hS.fr (VL.pure (V:=V) (V':=bare V.F V.P) (fun b hb=>⟨hb,rfl⟩) hl hp) h
   obtain⟨k1,k2⟩:=Is hS g2
   exact⟨pv,_,r,g1,k1,k2,g3.Fb (fun b hb=>⟨hb,rfl⟩),g5⟩
  ·split at h
   case h_2=>cases h
   rename_i mD hfz
   unfold JD tk at h
   split at h
   case h_2=>cases h
   rename_i r hr
   obtain⟨h1,h2,h3⟩:=TD hr
   split at h
   ·rename_i hfl
    have FA:=GR hS (G:=(· < V.P.length)) (fun q hq=>hS.fr q hq) hl hfz (fun i _ g es e w hb=>hS.mlt hb)
    obtain⟨P',pv,g1,g2,g3⟩:=h3 _ V.P fB _ (fun _ h=>h) FA hlq
    obtain⟨k1,k2⟩:=Is hS g2
    exact⟨pv,_,r,g1,k1,k2,alL g3 hfl,h⟩
   ·obtain⟨k1,k2,k3,k4,k5,k6⟩:=Ao (args.flatMap (iX depth V.H)) hS
    have FA:=GR hS (G:=(V.dB (args.flatMap (iX depth V.H))).F) (fun q hq=>k2.F q hq) hl hfz k6
    rw[←k4] at FA
    obtain⟨P',pv,g1,g2,g3⟩:=h3 _ _ fB _ k1.fr FA (by rw[k4];exact hlq)
    obtain⟨j1,j2⟩:=Is k1 g2
    rw[k4] at g1
    refine⟨pv,_,r,g1,j1,k2.trans j2,g3.Fb (fun b hb=>⟨hb,rfl⟩),?_⟩
    show K r (V.dB (args.flatMap (iX depth V.H))).H
    rw[k3]
    exact h
def CF (lo fA:Nat) (V:View) (c:aE) (Q:VQ) (mI:Env):Prop :=
 W fA c (fun x Qy P'=>∃V' aP,V'.P=P'∧SR V' lo fA∧Hv lo V V'∧ER V' aP Qy∧Q x aP V'.H) mI V.P
theorem JN {V:View} {ρ:cV} {mI:Env} (hE:ER V ρ mI) {g:Option (Nat×Bool)} {t:Bool} (h:Ee g ρ=some t):B5 g mI=some t:=by
 unfold Ee at h
 unfold B5
 split at h
 ·exact h
 ·rename_i t' want
  have ht:=hE t'
  split at h
  ·rename_i b hb
   obtain⟨e,_⟩:=vH ht hb
   simp only[e]
   exact h
  ·rename_i vs hb
   rw[hb] at ht
   generalize hu:mI t'=u at ht
   cases ht with
   | eH cs ps hl=>simp only[hu];exact h
  ·cases h
theorem Ye {V:View} (hS:SR V lo fA) {x y:VV} {u w:Value} (hx:VR V x u) (hy:VR V y w) (h:lB V.H x y=true):aCj u w=true:=by
 have key:∀ {z:VV} {v:Value},VR V z v→(match pT V.H z with
   | .bad=>True
   | .no=>kQ v=none
   | .row i wr=>kQ v=some (V.m i)∧∃g es e,V.H[i]? = some (.row g es e wr)
   | .Er i=>∀q,kQ v=some q→∀b' g' es e w,V.H[b']? = some (.row g' es e w)→b'≠i→V.m b'≠q
   | .tree=>∀b,kQ v=some b→V.F b):=by
  intro z v hz
  cases hz with
  | any=>simp only[pT]
  | sc v h =>
      cases v<;>first | rfl | cases h | skip
      rename_i a;cases a<;>first | rfl | cases h
  | agg=>rfl
  | eH=>rfl
  | pY k hk =>
       rcases hk with rfl | rfl
       ·intro b hb;cases hb
       ·rfl
  |
   tree es k b o c r e p hF hb ho hc he hk hl =>
   cases es with
   |
    nil=>cases k with
    | nil=>exact hk.elim
    | op=>intro b' xR;cases xR;exact hF
    | cl=>intro b' xR;cases xR;exact hF
   | cons=>intro b' xR;cases xR;exact hF
  | cS x off b o r e p hF hb ho hl=>intro b' xR;cases xR;exact hF
  |
   ref b g o n c a n' c' bH hg ha hq =>
   simp only[pT]
   cases hr:aJ V.H b g with
   | none=>exact fun q h=>(by
     cases a with
     | none=>cases h
     | some a0=>cases h;exact(hq a0 rfl).2.2)
   |
    some q =>
    obtain⟨es,e,wr⟩:=q
    rw[dH] at hr
    obtain⟨rfl,rfl,rfl⟩:=ha _ _ _ hr
    exact⟨rfl,g,es,e,hr⟩
  |
   ptr b g j off a bH hg ha hq =>
   simp only[pT]
   cases hr:aJ V.H b g with
   | none=>exact fun q h=>(by
     cases a with
     | none=>cases h
     | some a0=>cases h;exact(hq a0 rfl).2.2)
   |
    some q =>
    obtain⟨es,e,wr⟩:=q
    rw[dH] at hr
    have:=ha _ _ _ hr
    subst this
    exact⟨rfl,g,es,e,hr⟩
  | yV=>rfl
 have kx:=key hx
 have ky:=key hy
 unfold lB at h
 unfold aCj
 cases hbx:pT V.H x with
 | bad=>rw[hbx] at h;have h:false=true:=h;cases h
 |
  no =>
  rw[hbx] at kx
  have kx:kQ u=none:=kx
  rw[kx]
 |
  Er i =>
  rw[hbx] at kx h
  have kx:∀q,kQ u=some q→∀b' g' es e w,V.H[b']? = some (.row g' es e w)→b'≠i→V.m b'≠q:=kx
  cases U0:pT V.H y with
  | bad=>rw[U0] at h;have h:false=true:=h;cases h
  |
   no =>
   rw[U0] at ky
   have ky:kQ w=none:=ky
   rw[ky]
   cases kQ u<;>rfl
  | Er j=>rw[U0] at h;have h:false=true:=h;cases h
  | tree=>rw[U0] at h;have h:false=true:=h;cases h
  |
   row j wj =>
   rw[U0] at ky h
   obtain⟨k3,g2,Qa,e2,k4⟩:kQ w=some (V.m j)∧∃g es e,V.H[j]? = some (.row g es e wj):=ky
   have h:(i != j)=true:=h
   simp only[bne_iff_ne,ne_eq] at h
   rw[k3]
   cases hu:kQ u with
   | none=>rfl
   |
    some q =>
    simp only[bne_iff_ne,ne_eq]
    exact fun hm=>kx q hu j _ _ _ _ k4 (Ne.symm h) hm.symm
 |
  row i wi =>
  rw[hbx] at kx h
  obtain⟨k1,g1,DN,e1,k2⟩:kQ u=some (V.m i)∧∃g es e,V.H[i]? = some (.row g es e wi):=kx
  cases U0:pT V.H y with
  | bad=>rw[U0] at h;have h:false=true:=h;cases h
  |
   no =>
   rw[U0] at ky
   have ky:kQ w=none:=ky
   rw[ky]
   cases kQ u<;>rfl
  |
   Er j =>
   rw[U0] at ky h
   have ky:∀q,kQ w=some q→∀b' g' es e w,V.H[b']? = some (.row g' es e w)→b'≠j→V.m b'≠q:=ky
   have h:(i != j)=true:=h
   simp only[bne_iff_ne,ne_eq] at h
   rw[k1]
   cases hw:kQ w with
   | none=>rfl
   |
    some q =>
    simp only[bne_iff_ne,ne_eq]
    exact fun hm=>ky q hw i _ _ _ _ k2 h hm
  |
   row j wj =>
   rw[U0] at ky h
   obtain⟨k3,g2,Qa,e2,k4⟩:kQ w=some (V.m j)∧∃g es e,V.H[j]? = some (.row g es e wj):=ky
   rw[k1,k3]
   have h:(i != j)=true:=h
   simp only[bne_iff_ne,ne_eq] at h ⊢
   exact fun hm=>h (hS.inj _ _ _ _ _ _ _ _ _ _ k2 k4 hm)
  |
   tree =>
   rw[U0] at ky h
   have ky:∀b,kQ w=some b→V.F b:=ky
   have h:wi=true:=h
   subst h
   cases hw:kQ w with
   | none=>rw[k1]
   |
    some b =>
    rw[k1]
    simp only[bne_iff_ne,ne_eq]
    exact fun hm=>(hS.wr _ _ _ _ k2).1 (by rw[hm];exact ky b hw)
 |
  tree =>
  rw[hbx] at kx h
  have kx:∀b,kQ u=some b→V.F b:=kx
  cases U0:pT V.H y with
  | bad=>rw[U0] at h;have h:false=true:=h;cases h
  |
   no =>
   rw[U0] at ky
   have ky:kQ w=none:=ky
   rw[ky]
   cases kQ u<;>rfl
  | tree=>rw[U0] at h;have h:false=true:=h;cases h
  | Er j=>rw[U0] at h;have h:false=true:=h;cases h
  |
   row j wj =>
   rw[U0] at ky h
   obtain⟨k1,g1,DN,e1,k2⟩:kQ w=some (V.m j)∧∃g es e,V.H[j]? = some (.row g es e wj):=ky
   have h:wj=true:=h
   subst h
   cases hw:kQ u with
   | none=>rfl
   |
    some b =>
    rw[k1]
    simp only[bne_iff_ne,ne_eq]
    exact fun hm=>(hS.wr _ _ _ _ k2).1 (by rw[←hm];exact kx b hw)
theorem Vg {V:View} (hS:SR V lo fA) {ρ:cV} {mI:Env} (hE:ER V ρ mI) {fl:Fl} {q:Bool} {op:qN} {K:VV→aA→Prop} (h:eZ fl lo q op ρ V.H K):SK lo fA V (lS fA q op mI V.P) K:=by
 have other:∀ {v H'},vop fl lo op ρ V.H=some (v,H')→K v H'→SK lo fA V (lS fA q op mI V.P) K:=by
  intro v H' h1 h2
  obtain⟨pv,V',g1,g2,g3,g4,g5⟩:=aeV hS hE (q:=q) h1
  exact⟨pv,V',v,g1,g3,g4,g5,by rw[g2];exact h2⟩
 unfold eZ at h
 split at h
 ·rw[afC]
  exact Jq hS (hE.evs _) h
 ·rename_i fv args
  rw[YP]
  have hf:=hE.ev fv
  split at h
  ·rename_i f gU hfv
   rw[hfv] at hf
   generalize ev mI fv=u at hf ⊢
   cases hf with
   |
    yV f gU ps hl =>
    unfold amE
    simp only[aMw]
    exact Jq hS ((hE.evs args).append hl) h
  ·cases h
 ·split at h
  ·rename_i v H' h1
   exact other h1 h
  ·cases h
theorem NY {fl:Fl} {K:cV→aA→Prop}:∀(is:List PI) {V:View} {ρ:cV} {mI:Env},SR V lo fA→ER V ρ mI→VS fl lo is K ρ V.H →
  WS fA is (fun Qy P'=>∃V' aP,V'.P=P'∧SR V' lo fA∧Hv lo V V'∧ER V' aP Qy∧K aP V'.H) mI V.P
 |
  [],V,ρ,mI,hS,hE,h=>by
  rw[azM]
  exact⟨V,ρ,rfl,hS,Hv.refl _ _,hE,h⟩
 |
  i::is,V,ρ,mI,hS,hE,h=>by
  unfold VS at h
  rw[aCw]
  unfold BZ
  split at h
  ·cases h
  ·rename_i hw
   rw[JN hE hw]
   exact⟨_,_,rfl,NY is hS (hE.put (.eH [] [] .nil)) h⟩
  ·rename_i hw
   rw[JN hE hw]
   obtain⟨TU,h⟩:=h
   have aFX:i.cf.all (Dp mI)=true:=by
    rw[aLs] at TU ⊢
    intro c hc
    exact Ye hS (hE.ev c.1) (hE.ev c.2) (TU c hc)
   simp only[aFX,if_true]
   obtain⟨pv,V',v,g1,g2,g3,g4,g5⟩:=Vg hS hE h
   refine⟨pv,V'.P,?_,?_⟩
   ·unfold lS at g1
    exact g1
   ·obtain⟨ZG,P'',k1,UH,BY,k2,k3,k4,k5,k6⟩:=NY is g2 ((hE.mono g3.toUp).put g4) g5
    exact⟨ZG,P'',k1,UH,BY,k2,k3,g3.trans k4,k5,k6⟩
theorem Ok:∀(ts:List Nat) {V:View} {ρ aP:cV} {mI:Env} {H':aA},SR V lo fA→ER V ρ mI→aqV ts ρ V.H=some (aP,H')→∃V',V'.P=V.P∧V'.H=H'∧SR V' lo fA∧Hv lo V V'∧ER V' aP mI
 |
  [],V,ρ,aP,mI,H',hS,hE,h=>by
  cases h
  exact⟨V,rfl,rfl,hS,Hv.refl _ _,hE⟩
 |
  t::ts,V,ρ,aP,mI,H',hS,hE,h=>by
  unfold aqV at h
  split at h
  case h_2=>cases h
  rename_i v hv
  obtain⟨k1,k2,k3,k4,k5,k6⟩:=Ao (iX depth V.H (ρ t)) hS
  have hx:=O9 hS (G:=(V.dB (iX depth V.H (ρ t))).F) (fun q hq=>k2.F q hq) depth (ρ t) v (mI t) (hE t) hv k6
  have FH:VR (V.dB (iX depth V.H (ρ t))) v (mI t):=hx.Fb (fun b hb=>⟨hb,by rw[k4]⟩)
  rw[←k3] at h
  obtain⟨V',g1,g2,g3,g4,g5⟩:=Ok ts (mI:=mI) k1 (by
   have e:=(hE.mono k2.toUp).put (d:=some t) FH
   have ee:put mI (some t) (mI t)=mI:=by
    funext k
    simp only[put]
    split
    ·rename_i hk;rw[hk]
    ·rfl
   rw[ee] at e
   exact e) h
  exact⟨V',g1.trans k4,g2,g3,k2.trans g4,g5⟩
theorem UQ {V:View} (hS:SR V lo fA) {ρ:cV} {mI:Env} (hE:ER V ρ mI) {K:cV→aA→Prop} (h:gh K ρ V.H):∃V' aP,V'.P=V.P∧SR V' lo fA∧Hv lo V V'∧ER V' aP mI∧K aP V'.H:=by
 obtain⟨ts,aP,H',h1,h2⟩:=h
 obtain⟨V',g1,g2,g3,g4,g5⟩:=Ok ts hS hE h1
 exact⟨V',aP,g1,g3,g4,g5,by rw[g2];exact h2⟩
theorem Ot {k:Nat} {es:List VV}:nM k es=true↔∀x∈es,below k x=true:=by
 induction es with
 | nil=>simp[nM]
 | cons x xs ih=>simp[nM,ih]
theorem F0 {k:Nat} {es:List VV} (h:nM k es=true):nM k (es.flatMap aB)=true:=by
 rw[Ot] at h ⊢
 intro x hx
 obtain⟨y,hy,CT⟩:=List.mem_flatMap.1 hx
 have:=h y hy
 unfold aB at CT
 split at CT
 ·exact Ot.1 (by simpa[below] using this) x CT
 ·rw[aMk] at CT;subst CT;exact this
theorem V9 {k:Nat} {x:VV} (h:below k x=true):nM k (aB x)=true:=by
 have:=F0 (k:=k) (es:=[x]) (by simp[nM,h])
 simpa using this
def View.Cr (V:View) (k:Nat):View:={ V with H:=V.H.take k }
theorem VR.Cr {V:View} {k:Nat} (hk:k≤V.H.length) {x:VV} {v:Value} (h:VR V x v):PM.below k x=true→VR (V.Cr k) x v:=by
 have he:∀ {b:Nat},b<k→∀y,(V.Cr k).H[b]? = some y→V.H[b]? = some y:=fun hbk y hy=>by
  have:(V.H.take k)[_]? = some y:=hy
  rw[aMx,if_pos hbk] at this
  exact this
 have hT:∀ {b:Nat} {y:eR},(V.Cr k).H[b]? = some y→V.H[b]? = some y:=fun {b y} hy=>by
  have h:(V.H.take k)[b]? = some y:=hy
  rw[aMx] at h
  split at h
  ·exact h
  ·cases h
 induction h using VR.rec (motive_2:=fun xs vs _=>nM k xs=true→VL (V.Cr k) xs vs) with
 | any=>intro _;exact .any _
 | sc _ h=>intro _;exact .sc _ h
 | agg cs ps _ ih=>intro hb;exact .agg _ _ (ih hb)
 | eH cs ps _ ih=>intro hb;exact .eH _ _ (ih hb)
 | pY k hk=>intro _;exact .pY k hk
 | tree es k b o c r e p Yb yW ho hc he hk' _ ih=>intro hb;exact .tree es k b o c r e p Yb yW ho hc he hk' (ih (F0 hb))
 | cS x off b o r e p Yb yW ho _ ih=>intro hb;exact .cS x off b o r e p Yb yW ho (ih (V9 hb))
 |
  ref b g o n c a n' c' bH hg ha hq =>
  intro hb
  have hbk:b<k:=by simpa[PM.below] using hb
  exact .ref b g o n c a n' c' (by show b<(V.H.take k).length;simp;omega) (fun g' es e w hr=>hg _ _ _ _ (he hbk _ hr)) (fun es e w hr=>ha _ _ _ (he hbk _ hr)) fun a0 h=>⟨(hq a0 h).1,(hq a0 h).2.1,fun b' g' es e w hr=>(hq a0 h).2.2 b' g' es e w (hT hr)⟩
 |
  ptr b g j off a bH hg ha hq =>
  intro hb
  have hbk:b<k:=by simpa[PM.below] using hb
  exact .ptr b g j off a (by show b<(V.H.take k).length;simp;omega) (fun g' es e w hr=>hg _ _ _ _ (he hbk _ hr)) (fun es e w hr=>ha _ _ _ (he hbk _ hr)) fun a0 h=>⟨(hq a0 h).1,(hq a0 h).2.1,fun b' g' es e w hr=>(hq a0 h).2.2 b' g' es e w (hT hr)⟩
 | yV f gU ps _ ih=>intro hb;exact .yV _ _ _ (ih hb)
 | nil=>exact .nil
 |
  cons x v xs vs _ _ ih X5 =>
  rename_i hb
  simp only[nM,aLM] at hb
  exact .cons _ _ _ _ (ih hb.1) (X5 hb.2)
theorem VL.Cr {V:View} {k:Nat} (hk:k≤V.H.length) {xs:List VV} {vs:List Value} (h:VL V xs vs) (hb:nM k xs=true):VL (V.Cr k) xs vs:=by
 induction xs generalizing vs with
 | nil=>cases h;exact .nil
 |
  cons x xs ih=>cases h with
  |
   cons _ v _ vs h hs =>
   simp only[nM,aLM] at hb
   exact .cons _ _ _ _ (h.Cr hk hb.1) (ih hs hb.2)
theorem WY {V V':View} (hS:SR V' lo fA) {ρ:cV} {mI:Env} (hE:ER V' ρ mI) (hx:Hv lo V V') (hr:nO V.H.length (V'.H.take V.H.length)=true) :
  SR (V'.Cr V.H.length) lo fA∧Hv lo V (V'.Cr V.H.length)∧ER (V'.Cr V.H.length) (rS V.H.length ρ) mI:=by
 have hk:=hx.len
 have get:∀ {b:Nat} {y:eR},(V'.Cr V.H.length).H[b]? = some y→V'.H[b]? = some y:=by
  intro b y h
  have h:(V'.H.take V.H.length)[b]? = some y:=h
  rw[aMx] at h
  split at h
  ·exact h
  ·cases h
 refine⟨⟨fun b g es e w hb => ?_,fun b g es e hb=>hS.wr b g es e (get hb),fun a b g es e w g' oY e' w' ha hb hm=>hS.inj a b _ _ _ _ _ _ _ _ (get ha) (get hb) hm,hS.fr,hS.Xe,hS.NA⟩,
  { F:=hx.F,P:=hx.P,len:=by show V.H.length≤(V'.H.take V.H.length).length;simp;omega,row:=fun b g es e w bH hb=>hx.row b g es e w bH (get hb),NA:=hx.NA,GY:=hx.GY,Er:=fun b g es e w hb hm=>hx.Er b g es e w (get hb) hm,cW:=hx.cW,EY:=hx.EY },fun t => ?_⟩
 ·obtain⟨r,p,h1,h2,h3⟩:=hS.row b g es e w (get hb)
  refine⟨r,p,h1,h2,h3.Cr hk (F0 ?_)⟩
  have:=aLs.1 hr _ (aL8 (show (V'.H.take V.H.length)[b]? = some _ from hb))
  exact this
 ·unfold rS MM
  split
  ·rename_i hb
   exact(hE t).Cr hk hb
  ·exact .any _
theorem Wq {c:aE} {Q:Ex→Env→aH→Prop} {ρ:Env} {H:aH} (h:W fA c (aCL (fun aP H'=>W fA (.loop c) Q aP H') Q) ρ H):W fA (.loop c) Q ρ H:=by
 obtain⟨x,aP,H',h1,h2⟩:=h
 unfold W
 rw[aeR,h1]
 cases x with
 |
  normal =>
  obtain⟨y,BY,VU,h3,h4⟩:=h2
  exact⟨y,BY,VU,h3,h4⟩
 | exit i=>exact⟨_,_,_,rfl,h2⟩
 | ret=>exact⟨_,_,_,rfl,h2⟩
theorem zG {fl:Fl}:∀(c:aE) {V:View} {ρ:cV} {mI:Env} {Q:VQ},SR V lo fA→ER V ρ mI→VW fl lo c Q ρ V.H→CF lo fA V c Q mI
 |
  .skip,V,ρ,mI,Q,hS,hE,h=>by
  unfold CF
  rw[ayC]
  exact⟨V,ρ,rfl,hS,Hv.refl _ _,hE,h⟩
 |
  .exit id,V,ρ,mI,Q,hS,hE,h=>by
  unfold CF
  rw[awR]
  exact⟨V,ρ,rfl,hS,Hv.refl _ _,hE,h⟩
 |
  .ret,V,ρ,mI,Q,hS,hE,h=>by
  unfold CF
  rw[aCv]
  exact⟨V,ρ,rfl,hS,Hv.refl _ _,hE,h⟩
 |
  .cT ops,V,ρ,mI,Q,hS,hE,h=>by
  unfold CF
  rw[aB1]
  exact NY ops hS hE h
 |
  .seq a b,V,ρ,mI,Q,hS,hE,h=>by
  unfold CF
  rw[aCe]
  refine(zG a hS hE h).mono ?_
  rintro x Qy P' ⟨V',aP,rfl,g2,g3,g4,g5⟩
  cases x with
  |
   normal =>
   refine(zG b g2 g4 g5).mono ?_
   rintro y ZG P'' ⟨UH,BY,k1,k2,k3,k4,k5⟩
   exact⟨UH,BY,k1,k2,g3.trans k3,k4,k5⟩
  | exit i=>exact⟨V',aP,rfl,g2,g3,g4,g5⟩
  | ret=>exact⟨V',aP,rfl,g2,g3,g4,g5⟩
 |
  .cond c a b,V,ρ,mI,Q,hS,hE,h=>by
  unfold CF
  rw[axL]
  unfold VW at h
  split at h
  ·rename_i t hc
   obtain⟨e,_⟩:=vH (hE.ev c) hc
   refine⟨t,e,fun ht => ?_,fun ht => ?_⟩
   ·rw[if_pos ht] at h
    exact zG a hS hE h
   ·rw[if_neg (by simp[ht])] at h
    exact zG b hS hE h
  ·cases h
 |
  .block id a,V,ρ,mI,Q,hS,hE,h=>by
  unfold CF
  rw[auD]
  refine(zG a hS hE h).mono ?_
  rintro x Qy P' ⟨V',aP,rfl,g2,g3,g4,g5⟩
  cases x with
  | normal=>exact⟨V',aP,rfl,g2,g3,g4,g5⟩
  |
   exit i =>
   rw[KD]
   have g5:if i=id then Q .normal aP V'.H else Q (.exit i) aP V'.H:=g5
   split at g5
   ·rename_i hi
    rw[if_pos hi]
    exact⟨V',aP,rfl,g2,g3,g4,g5⟩
   ·rename_i hi
    rw[if_neg hi]
    exact⟨V',aP,rfl,g2,g3,g4,g5⟩
  | ret=>exact⟨V',aP,rfl,g2,g3,g4,g5⟩
 |
  .loop a,V,ρ,mI,Q,hS,hE,h=>by
  obtain⟨n,h⟩:=h
  have key:∀n {V:View} {ρ:cV} {mI:Env},SR V lo fA→ER V ρ mI→W3 (VW fl lo a) (fun x=>gh (Q x)) n ρ V.H→CF lo fA V (.loop a) Q mI:=by
   intro n
   induction n with
   | zero=>intro V ρ mI _ _ h;cases h
   |
    succ n ih =>
    intro V ρ mI hS hE h
    unfold CF
    refine Wq ?_
    refine(zG a hS hE h).mono ?_
    rintro x Qy P' ⟨V',aP,rfl,g2,g3,g4,g5⟩
    cases x with
    |
     normal =>
     rcases g5 with g5 | ⟨g5,g6⟩
     ·refine(ih g2 g4 g5).mono ?_
      rintro y ZG P'' ⟨UH,BY,k1,k2,k3,k4,k5⟩
      exact⟨UH,BY,k1,k2,g3.trans k3,k4,k5⟩
     ·obtain⟨t1,t2,t3⟩:=WY g2 g4 g3 g5
      refine(ih t1 t3 g6).mono ?_
      rintro y ZG P'' ⟨UH,BY,k1,k2,k3,k4,k5⟩
      exact⟨UH,BY,k1,k2,t2.trans k3,k4,k5⟩
    |
     exit i =>
     obtain⟨UH,BY,k1,k2,k3,k4,k5⟩:=UQ g2 g4 g5
     exact⟨UH,BY,k1,k2,g3.trans k3,k4,k5⟩
    |
     ret =>
     obtain⟨UH,BY,k1,k2,k3,k4,k5⟩:=UQ g2 g4 g5
     exact⟨UH,BY,k1,k2,g3.trans k3,k4,k5⟩
  exact key n hS hE h
theorem AE {V:View} (hS:SR V lo fA) {ρ:cV} {mI:Env} (hE:ER V ρ mI) {res:List DI} {v:VV} (h:oO res ρ V.H=some v):∃pv,uK res mI V.P=some pv∧VR V v pv:=by
 have one:∀ {r:DI} {v:VV},FK ρ V.H r=some v→∃pv,aaP mI V.P r=some pv∧VR V v pv:=by
  intro r v h
  cases r with
  | tmp t=>cases h;exact⟨_,rfl,hE t⟩
  | cell t agg size=>exact O6 hS (hE t) h
 have all:∀ {rs:List DI} {vs:List VV},sU ρ V.H rs=some vs→∃ps,Eo mI V.P rs=some ps∧VL V vs ps:=by
  intro rs
  induction rs with
  | nil=>intro vs h;cases h;exact⟨[],rfl,.nil⟩
  |
   cons r rs ih =>
   intro vs h
   unfold sU at h
   split at h
   ·rename_i v vs' h1 h2
    cases h
    obtain⟨pv,k1,k2⟩:=one h1
    obtain⟨ps,k3,k4⟩:=ih h2
    exact⟨pv::ps,by unfold Eo;rw[k1,k3],.cons _ _ _ _ k2 k4⟩
   ·cases h
 unfold oO at h
 split at h
 ·rename_i v' hv
  cases h
  obtain⟨ps,k1,k2⟩:=all hv
  cases k2 with
  |
   cons _ pv _ _ hx Nd =>
   cases Nd
   exact⟨pv,by unfold uK;rw[k1],hx⟩
 ·rename_i vs fN hv
  cases h
  obtain⟨ps,k1,k2⟩:=all hv
  refine⟨.tuple ps.toArray,?_,.eH _ _ k2⟩
  unfold uK
  rw[k1]
  split
  ·rename_i pv he
   injection he with he
   subst he
   cases k2 with
   | cons x _ _ _ hx Nd=>cases Nd;exact absurd rfl (fN x)
  ·rename_i he
   injection he with he
   rw[he]
  ·rename_i he;cases he
 ·cases h
theorem Ui {V:View} {args:List VV} {fB:List Value} (h:VL V args fB):ER V (Mc args) (acZ fB):=by
 intro t
 unfold Mc acZ
 rw[aLb,aLb]
 cases hx:args[t]? with
 |
  none =>
  have:fB[t]? = none:=by
   rw[List.getElem?_eq_none_iff] at hx ⊢
   rw[h.length]
   exact hx
  rw[this]
  exact .eH [] [] .nil
 |
  some x =>
  obtain⟨v,h1,h2⟩:=h.get hx
  rw[h1]
  exact h2
theorem mB.walk {f:Nat} {pf:aZ} {args:List VV} {H:aA} {K:VV→aA→Prop} (fl:Fl) (ht:gH f=some pf) (ha:args.length≤pf.ntmps) (h:VW fl lo pf.body (CV pf.res K) (Mc args) H):mB f args lo H K:=by
 intro V fA fB hH hS hl
 subst hH
 obtain⟨x,Qy,P',h1,V',aP,rfl,g2,g3,g4,g5⟩:=zG pf.body hS (Ui hl) h
 have key:∃pv P'',vB f fB fA V.P=some (pv,P'')∧P''=V'.P∧∃r,VR V' r pv∧K r V'.H:=by
  refine anK ht (by rw[hl.length];exact ha) ?_
  refine⟨x,Qy,V'.P,h1,?_⟩
  cases x with
  | exit i=>exact g5.elim
  |
   normal =>
   simp only[CV,Jh] at g5
   split at g5
   ·rename_i v hv
    obtain⟨pv,k2,k3⟩:=AE g2 g4 hv
    exact⟨pv,k2,rfl,v,k3,g5⟩
   ·cases g5
  |
   ret =>
   simp only[CV,Jh] at g5
   split at g5
   ·rename_i v hv
    obtain⟨pv,k2,k3⟩:=AE g2 g4 hv
    exact⟨pv,k2,rfl,v,k3,g5⟩
   ·cases g5
 obtain⟨pv,P'',k1,rfl,r,k2,k3⟩:=key
 exact⟨pv,V',r,k1,g2,g3,k2,k3⟩
theorem VT.walk {f:Nat} {pf:aZ} {args:List VV} {r:VV} (fl:Fl) (ht:gH f=some pf) (ha:args.length≤pf.ntmps) (h:VW fl 0 pf.body (CV pf.res fun v H=>fz depth H v=some r) (Mc args) []):VT f args r:=by
 intro F P fB fA hF hl arU
 have hS:SR (bare F P) 0 fA:=⟨fun b g es e w hb=>by simp[bare] at hb,fun b g es e hb=>by simp[bare] at hb,fun a b g es e w g' oY e' w' ha=>by simp[bare] at ha,hF,arU,aLI _⟩
 obtain⟨x,Qy,P',h1,V',aP,rfl,g2,g3,g4,g5⟩:=zG pf.body hS (Ui hl) h
 have fin:∀ {v:VV} {pv:Value},VR V' v pv→fz depth V'.H v=some r→VR (bare (fun q=>F q∨(P.length≤q∧q<V'.P.length)) V'.P) r pv:=by
  intro v pv hv hf
  refine O9 g2 (fun q hq => ?_) depth v r pv hv hf fun i _ g es e w hr => ?_
  ·rcases g3.EY q hq with h | h | ⟨b,g,es,e,w,h,_⟩
   ·exact .inl h
   ·exact .inr ⟨h,g2.fr q hq⟩
   ·simp[bare] at h
  ·rcases aLh (V'.m i) P.length with bH | G0
   ·obtain⟨g0,es0,w0,k1,_⟩:=g3.Er i g es e w hr bH
    simp[bare] at k1
   ·exact .inr ⟨G0,g2.mlt hr⟩
 have key:∃pv P'',vB f fB fA P=some (pv,P'')∧P''=V'.P∧VR (bare (fun q=>F q∨(P.length≤q∧q<V'.P.length)) V'.P) r pv:=by
  refine anK ht (by rw[hl.length];exact ha) ?_
  refine⟨x,Qy,V'.P,h1,?_⟩
  cases x with
  | exit i=>exact g5.elim
  |
   normal =>
   simp only[CV,Jh] at g5
   split at g5
   ·rename_i v hv
    obtain⟨pv,k2,k3⟩:=AE g2 g4 hv
    exact⟨pv,k2,rfl,fin k3 g5⟩
   ·cases g5
  |
   ret =>
   simp only[CV,Jh] at g5
   split at g5
   ·rename_i v hv
    obtain⟨pv,k2,k3⟩:=AE g2 g4 hv
    exact⟨pv,k2,rfl,fin k3 g5⟩
   ·cases g5
 obtain⟨pv,P'',k1,rfl,k3⟩:=key
 refine⟨V'.P,pv,k1,?_,k3⟩
 refine⟨V'.P.drop P.length,List.ext_getElem? fun i => ?_⟩
 rcases aLh i P.length with hi | hi
 ·rw[aLv hi]
  exact(g3.cW i hi fun b g es e hb=>by simp[bare] at hb).symm
 ·rw[aLw hi,List.getElem?_drop,show P.length+(i-P.length)=i by omega]
end
end Go.PM
namespace Go.PM
section
variable {fl:Fl} {lo:Nat} {ρ:cV} {H:aA} {Q:VQ} {K:cV→aA→Prop} {k:VV→aA→Prop} {a b:aE} {d:Option Nat} {is:List PI} {q:Bool} {op:qN}
def V5 (fl:Fl) (lo:Nat) (d:Option Nat) (is:List PI) (K:cV→aA→Prop) (ρ:cV):VV→aA→Prop:=fun v H'=>VS fl lo is K (M9 ρ d v) H'
def TL (r:Option (VV×aA)) (k:VV→aA→Prop):Prop:=match r with
 | some (v,H')=>k v H'
 | none=>False
theorem RW {v:VV} {H':aA}:V5 fl lo d is K ρ v H'=VS fl lo is K (M9 ρ d v) H':=rfl
theorem UM {v:VV}:Nv (some v) H k=k v H:=rfl
theorem RE {v:VV} {H':aA}:TL (some (v,H')) k=k v H':=rfl
theorem aqE {r:VV} {K:VV→Prop}:tk (some r) K=K r:=rfl
theorem aaD:VW fl lo .skip Q ρ H=Q .normal ρ H:=rfl
theorem Zo {i:Nat}:VW fl lo (.exit i) Q ρ H=Q (.exit i) ρ H:=rfl
theorem ajU:VW fl lo .ret Q ρ H=Q .ret ρ H:=rfl
theorem aiD {ops:List PI}:VW fl lo (.cT ops) Q ρ H=VS fl lo ops (Q .normal) ρ H:=rfl
theorem aoG:VW fl lo (.seq a b) Q ρ H=VW fl lo a (pW (VW fl lo b Q) Q) ρ H:=rfl
theorem Ut {i:Nat}:VW fl lo (.block i a) Q ρ H=VW fl lo a (tL i Q) ρ H:=rfl
theorem abP {c:Operand} {t:Bool} (h:fE ρ c = .sc (.bool t)):VW fl lo (.cond c a b) Q ρ H=if t=true then VW fl lo a Q ρ H else VW fl lo b Q ρ H:=by
 simp only[VW,h]
theorem Ev:pW K Q .normal=K:=rfl
theorem HQ {i:Nat}:pW K Q (.exit i)=Q (.exit i):=rfl
theorem Ju:pW K Q .ret=Q .ret:=rfl
theorem HL {i:Nat}:tL i Q .normal=Q .normal:=rfl
theorem Fz {i j:Nat}:tL i Q (.exit j) ρ H=if j=i then Q .normal ρ H else Q (.exit j) ρ H:=rfl
theorem PH {i:Nat}:tL i Q .ret=Q .ret:=rfl
theorem JT {res:List DI} {R:VV→aA→Prop}:CV res R .normal ρ H=Jh R (oO res ρ H) H:=rfl
theorem QL {res:List DI} {R:VV→aA→Prop}:CV res R .ret ρ H=Jh R (oO res ρ H) H:=rfl
theorem N3 {R:VV→aA→Prop} {v:VV}:Jh R (some v) H=R v H:=rfl
theorem WN {t:Nat}:oO [.tmp t] ρ H=some (ρ t):=rfl
theorem Uy {t u:Nat}:oO [.tmp t,.tmp u] ρ H=some (.eH [ρ t,ρ u]):=rfl
theorem OJ {t u v:Nat}:oO [.tmp t,.tmp u,.tmp v] ρ H=some (.eH [ρ t,ρ u,ρ v]):=rfl
theorem Rs:oO [] ρ H=some (.eH []):=rfl
theorem akE:VS fl lo [] K ρ H=K ρ H:=rfl
theorem auT:VS fl lo (⟨d,op,none,q,[]⟩::is) K ρ H=eZ fl lo q op ρ H (V5 fl lo d is K ρ):=by
 simp only[VS,Ee,aMy,true_and]
 rfl
theorem mX {c:Operand×Operand} {cs:List (Operand×Operand)}:VS fl lo (⟨d,op,none,q,c::cs⟩::is) K ρ H=((c::cs).all (gB ρ H)=true∧eZ fl lo q op ρ H (V5 fl lo d is K ρ)):=by
 simp only[VS,Ee]
 rfl
theorem Wk {t:Nat} {want x:Bool} {cf:List (Operand×Operand)} (h:ρ t = .sc (.bool x)):VS fl lo (⟨d,op,some (t,want),q,cf⟩::is) K ρ H =
  if (x == want)=true then (cf.all (gB ρ H)=true∧eZ fl lo q op ρ H (V5 fl lo d is K ρ)) else VS fl lo is K (M9 ρ d tJ) H:=by
 simp only[VS,Ee,h]
 cases (x == want)<;>rfl
theorem aoV {t:Nat} {want:Bool} (h:ρ t = .sc (.bool want)):VS fl lo (⟨d,op,some (t,want),q,[]⟩::is) K ρ H=eZ fl lo q op ρ H (V5 fl lo d is K ρ):=by
 rw[Wk h]
 simp
theorem auO {t:Nat} {want:Bool} {cf:List (Operand×Operand)} (h:ρ t = .sc (.bool (!want))):VS fl lo (⟨d,op,some (t,want),q,cf⟩::is) K ρ H=VS fl lo is K (M9 ρ d tJ) H:=by
 rw[Wk h]
 cases want<;>rfl
theorem Zj {c:Operand} (h:fE ρ c = .sc (.bool true)):VW fl lo (.cond c a b) Q ρ H=VW fl lo a Q ρ H:=by
 rw[abP h,if_pos rfl]
theorem VH {c:Operand} (h:fE ρ c = .sc (.bool false)):VW fl lo (.cond c a b) Q ρ H=VW fl lo b Q ρ H:=by
 rw[abP h,if_neg (by decide)]
theorem Mt {t:Nat} {want:Bool} {cf:List (Operand×Operand)} (h:ρ t=tJ):VS fl lo (⟨d,op,some (t,want),q,cf⟩::is) K ρ H=VS fl lo is K (M9 ρ d tJ) H:=by
 simp only[VS,Ee,h,tJ]
theorem zT {d t:Nat} {v:VV}:M9 ρ (some d) v t=if t=d then v else ρ t:=rfl
theorem Rv {v:VV}:M9 ρ none v=ρ:=rfl
theorem Z2 {t:Nat}:fE ρ (.tmp t)=ρ t:=rfl
theorem Sf {v:Value}:fE ρ (.const v)=inj v:=rfl
theorem T1 {f:Nat}:fE ρ (.func f) = .yV f []:=rfl
theorem aaR {k:IntKind} {n:Int}:inj (.int k n) = .sc (.int k n):=rfl
theorem Vm {t:Bool}:inj (.bool t) = .sc (.bool t):=rfl
theorem abE {s:ByteArray}:inj (.string s) = .sc (.string s):=rfl
theorem ZD:inj (.slice none 0 0) = .tree [] .nil:=rfl
theorem aaB {cs:Array Value}:inj (.agg cs) = .agg (cs.toList.map kR):=rfl
theorem WR {k:IntKind} {n:Int}:kR (.int k n) = .sc (.int k n):=rfl
theorem Q2 {t:Bool}:kR (.bool t) = .sc (.bool t):=rfl
theorem U5 {s:ByteArray}:kR (.string s) = .sc (.string s):=rfl
theorem V3:kR (.slice none 0 0) = .tree [] .nil:=rfl
theorem alF {x:Operand}:eZ fl lo q (.mv x) ρ H k=k (fE ρ x) H:=rfl
theorem jJ {r:Option VV}:(match r.map (fun v=>(v,H)) with | some (v,H')=>k v H' | none=>False)=Nv r H k:=by cases r<;>rfl
theorem Vd {c x y:Operand}:eZ fl lo q (.pick c x y) ρ H k=Nv (Vh (fE ρ c) (fE ρ x) (fE ρ y)) H k:=jJ
theorem ZQ {o:BinOp} {x y:Operand}:eZ fl lo q (.bin o x y) ρ H k=Nv (KI (dO o) (fE ρ x) (fE ρ y)) H k:=jJ
theorem Zn {n:Bool} {x y:Operand}:eZ fl lo q (.eqb n x y) ρ H k=Nv (KI (NZ n) (fE ρ x) (fE ρ y)) H k:=jJ
theorem R0 {n:Bool} {x:Operand}:eZ fl lo q (.isnil n x) ρ H k=Nv (HT n (fE ρ x) H) H k:=jJ
theorem RT {n:Bool} {ks:List CK} {x y:Operand}:eZ fl lo q (.eqagg n ks x y) ρ H k=Nv (Yw n ks (fE ρ x) (fE ρ y)) H k:=jJ
theorem amQ {o:UnOp} {x:Operand}:eZ fl lo q (.un o x) ρ H k=Nv (Px (pun o) (fE ρ x)) H k:=jJ
theorem abS {o:IntKind} {x:Operand}:eZ fl lo q (.cvt o x) ρ H k=Nv (Px (Xq o) (fE ρ x)) H k:=jJ
theorem Y8 {x:Operand}:eZ fl lo q (.cvs x) ρ H k=Nv (Px acH (fE ρ x)) H k:=jJ
theorem Zp {x:Operand} {i:Nat}:eZ fl lo q (.ext x i) ρ H k=Nv (anW i (fE ρ x)) H k:=jJ
theorem abH {g:Bool} {off size:Nat} {x:Operand}:eZ fl lo q (.fld g off size x) ρ H k=Nv (arQ g off size (fE ρ x)) H k:=jJ
theorem Ro {z:List Value} {places:List (Nat×Nat)} {parts:List (Nat×Operand)}:eZ fl lo q (.build z places parts) ρ H k=Nv ((BT places (z.map kR) (parts.map fun(i,x)=>(i,fE ρ x))).map .agg) H k:=by
 show (match (BT places (z.map kR) (parts.map fun(i,x)=>(i,fE ρ x))).map fun cs=>(VV.agg cs,H) with | some (v,H')=>k v H' | none=>False)=_
 cases BT places (z.map kR) (parts.map fun(i,x)=>(i,fE ρ x))<;>rfl
theorem aaZ {x:Operand}:eZ fl lo q (.chk x) ρ H k=Nv (afS (fE ρ x) H) H k:=jJ
theorem R7 {off:Nat} {x:Operand}:eZ fl lo q (.faddr off x) ρ H k=Nv (lR off (fE ρ x) H) H k:=jJ
theorem Se {size:Nat} {x i:Operand}:eZ fl lo q (.iaddr size x i) ρ H k=Nv (bI size (fE ρ x) (fE ρ i) H) H k:=jJ
theorem V8 {x i:Operand}:eZ fl lo q (.sidx x i) ρ H k=Nv (KI I3 (fE ρ x) (fE ρ i)) H k:=jJ
theorem Vb {x:Operand} {l h:Option Operand}:eZ fl lo q (.ssub x l h) ρ H k=Nv (zW (fE ρ x) (l.map (fE ρ)) (h.map (fE ρ))) H k:=jJ
theorem Wr {f:Nat} {gU:List Operand}:eZ fl lo q (.mkfn f gU) ρ H k=k (.yV f (gU.map (fE ρ))) H:=rfl
theorem abQ {x:Operand}:eZ fl lo q (.len x) ρ H k=Nv (pV (fE ρ x) H) H k:=jJ
theorem UK {x:Operand}:eZ fl lo q (.slen x) ρ H k=Nv (Px Dw (fE ρ x)) H k:=jJ
theorem Z6 {x y:Operand}:eZ fl lo q (.min x y) ρ H k=Nv (KI Um (fE ρ x) (fE ρ y)) H k:=jJ
theorem ZF {x y:Operand}:eZ fl lo q (.max x y) ρ H k=Nv (KI Uh (fE ρ x) (fE ρ y)) H k:=jJ
theorem WJ {g:Bool} {size:Nat} {p:Operand}:eZ fl lo q (.load g size p) ρ H k=Nv (bG g size (fE ρ p) H) H k:=jJ
theorem abF {size:Nat} {x:Operand} {l h m:Option Operand}:eZ fl lo q (.sub size x l h m) ρ H k=Nv (G4 size (fE ρ x) (l.map (fE ρ)) (h.map (fE ρ)) (m.map (fE ρ)) H) H k:=jJ
theorem ZC {z:List Value}:eZ fl lo q (.new z) ρ H k=TL (if (z.map kR).all bP then some (.ptr H.length 0 0 0,H++[.row 0 [elemOf (z.map kR)] z.length true]) else none) k:=rfl
theorem Zh {x:Operand}:eZ fl lo q (.box x) ρ H k=TL (if (aB (fE ρ x)).all bP then (if fl.bf then some (.cS (fE ρ x) 0,H) else some (.ptr H.length 0 0 0,H++[.row 0 [fE ρ x] (aB (fE ρ x)).length true])) else none) k:=rfl
theorem T6 {z:List Value} {bytes:Nat} {l c:Operand}:eZ fl lo q (.make z bytes l c) ρ H k=TL (if (z.map kR).all bP then BR z bytes (fE ρ l) (fE ρ c) H else none) k:=rfl
theorem aaK {z:List Value} {n:Nat} {parts:List (Nat×Operand)}:eZ fl lo q (.lit z n parts) ρ H k=TL (nT fl.lr z n (parts.map fun(i,x)=>(i,fE ρ x)) H) k:=rfl
def aaW (r:Option aA) (k:VV→aA→Prop):Prop:=match r with
 | some H'=>k tJ H'
 | none=>False
theorem Pl {H':aA}:aaW (some H') k=k tJ H':=rfl
theorem Q3 {r:Option aA}:(match r.map (fun H'=>(tJ,H')) with | some (v,H')=>k v H' | none=>False)=aaW r k:=by cases r<;>rfl
theorem QK {size:Nat} {p v:Operand}:eZ fl lo q (.store size p v) ρ H k=aaW (bM lo size (fE ρ p) (fE ρ v) H) k:=Q3
def aB6 (lo size bytes:Nat) (x:VV) (new:Option (List VV)) (H:aA) (k:VV→aA→Prop):Prop:=match new with
 | some new=>TL (dK lo size bytes x new H) k
 | none=>False
theorem QQ {size bytes:Nat} {x:VV} {new:List VV}:aB6 lo size bytes x (some new) H k=TL (dK lo size bytes x new H) k:=rfl
theorem Zi {size bytes:Nat} {x y:Operand}:eZ fl lo q (.app size bytes x y) ρ H k=aB6 lo size bytes (fE ρ x) (dG size (fE ρ y) H) H k:=by
 show (match (match dG size (fE ρ y) H with | some new=>dK lo size bytes (fE ρ x) new H | none=>none) with | some (v,H')=>k v H' | none=>False)=_
 cases dG size (fE ρ y) H<;>rfl
theorem V6 {size:Nat} {x y:Operand}:eZ fl lo q (.copy size x y) ρ H k=TL (Ml lo size (fE ρ x) (fE ρ y) H) k:=rfl
theorem RY {z:List Value} {x:Operand}:eZ fl lo q (.clear z x) ρ H k=aaW (Tn lo z (fE ρ x) H) k:=Q3
theorem WX {f:Nat} {args:List Operand}:eZ fl lo q (.call f args) ρ H k=dP f (args.map (fE ρ)) (if q then H.length else lo) H k:=rfl
noncomputable def Xy (x:VV) (args:List VV) (lo:Nat) (H:aA) (k:VV→aA→Prop):Prop:=match x with
 | .yV f gU=>dP f (args++gU) lo H k
 | _=>False
theorem Ek {f:Nat} {gU args:List VV}:Xy (.yV f gU) args lo H k=dP f (args++gU) lo H k:=rfl
theorem RZ {fv:Operand} {args:List Operand}:eZ fl lo q (.callv fv args) ρ H k=Xy (fE ρ fv) (args.map (fE ρ)) (if q then H.length else lo) H k:=by
 simp only[eZ,Xy]
 all_goals (cases fE ρ fv<;>rfl)
theorem Zy {x:Operand}:eZ fl lo q (.b2s x) ρ H k=TL (vop fl lo (.b2s x) ρ H) k:=rfl
theorem Za {f:Value→Option Value} {x:Value}:Px f (.sc x)=(f x).map .sc:=rfl
theorem aaX {f:Value→Value→Option Value} {x y:Value}:KI f (.sc x) (.sc y)=(f x y).map .sc:=rfl
theorem VM {t:Bool} {x y:VV}:Vh (.sc (.bool t)) x y=some (if t=true then x else y):=rfl
theorem Wt {vs:List VV} {i:Nat}:anW i (.eH vs)=vs[i]? := rfl
theorem QO {es:List VV} {t:TK}:pV (.tree es t) H=some (.sc (.int .i64 es.length)):=rfl
theorem eI {b g o n c:Nat} {r:List VV×Nat×Bool} (h:aJ H b g=some r):pV (.ref b g o n c) H=some (.sc (.int .i64 n)):=by
 simp only[pV,h,aMz]
theorem Vy {x:VV} {o off:Nat}:lR off (.cS x o) H=some (.cS x (o+off)):=rfl
theorem rU {b g j o off:Nat} {r:List VV×Nat×Bool} (h:aJ H b g=some r):lR off (.ptr b g j o) H=some (.ptr b g j (o+off)):=by
 simp only[lR,h,aMz]
theorem ahT {x:VV} {o:Nat}:afS (.cS x o) H=some (.cS x o):=rfl
theorem NI {g:Bool} {size o:Nat} {x:VV}:bG g size (.cS x o) H=dJ g size x o:=rfl
theorem SA {g:Bool} {size b gn j o:Nat} {es:List VV} {e:Nat} {w:Bool} {x:VV} (h:aJ H b gn=some (es,e,w)) (hx:es[j]? = some x):bG g size (.ptr b gn j o) H=dJ g size x o:=by
 simp only[bG,h,hx]
theorem akO {size:Nat} {v:Value}:dJ false size (.sc v) 0=some (.sc v):=rfl
theorem abC {size:Nat} {es:List VV} {t:TK}:dJ false size (.tree es t) 0=some (.tree es t):=rfl
theorem ahV {size b g o n c:Nat}:dJ false size (.ref b g o n c) 0=some (.ref b g o n c):=rfl
theorem aoD {size f:Nat} {gU:List VV}:dJ false size (.yV f gU) 0=some (.yV f gU):=rfl
theorem dV {size o:Nat} {cs:List VV}:dJ false size (.agg cs) o=cs[o]? := rfl
theorem amA {size:Nat} {cs:List VV} (h:cs.length=size):dJ true size (.agg cs) 0=some (.agg cs):=by
 subst h
 simp[dJ,aB]
theorem alV {size:Nat} {es:List VV} {t:TK} {kk:IntKind} {i:Int} {x:VV} (h0:0≤i) (hx:es[i.toNat]? = some x) (hs:(aB x).length=size):bI size (.tree es t) (.sc (.int kk i)) H=some (.cS x 0):=by
 simp only[bI,h0,hx,hs,if_true]
theorem afR {size:Nat} {es:List VV} {t:TK} {kk:IntKind} {i:Nat} {x:VV} (hx:es[i]? = some x) (hs:(aB x).length=size):bI size (.tree es t) (.sc (.int kk (i:Int))) H=some (.cS x 0) :=
 alV (by omega) (by simpa using hx) hs
theorem aoZ {size b g o n c:Nat} {kk:IntKind} {i:Int} {es:List VV} {w:Bool} (h:aJ H b g=some (es,size,w)) (h0:0≤i) (h1:i<n):bI size (.ref b g o n c) (.sc (.int kk i)) H=some (.ptr b g (o+i.toNat) 0):=by
 simp only[bI,h]
 rw[if_pos ⟨trivial,h0,h1⟩]
theorem acK {size b g o n c:Nat} {kk:IntKind} {i:Nat} {es:List VV} {w:Bool} (h:aJ H b g=some (es,size,w)) (h1:i<n):bI size (.ref b g o n c) (.sc (.int kk (i:Int))) H=some (.ptr b g (o+i) 0):=by
 rw[aoZ h (by omega) (by omega),aMA]
abbrev TC (f:Nat) (args:List VV) (r:VV):Prop:=∀(lo:Nat) (H:aA) (k:VV→aA→Prop),dP f args lo H k=k r H
theorem TC.of {f:Nat} {args:List VV} {r:VV} (hr:G5.contains f=false) (ha:aO args=true) (h:vT f args=some r):TC f args r:=by
 intro lo H k
 unfold dP JD
 simp only[hr,ha,if_true,h,aLQ,if_false,aqE]
theorem TC.walk {f:Nat} {pf:aZ} {args:List VV} {r:VV} (fl:Fl) (ht:gH f=some pf) (hr:G5.contains f=false) (hn:args.length≤pf.ntmps) (ha:aO args=true) (XM:gV r=true) (h:VW fl 0 pf.body (CV pf.res fun v H=>fz depth H v=some r) (Mc args) []):TC f args r :=
 TC.of hr ha (auZ ha XM (VT.walk fl ht hn h))
theorem TC.DM {f:Nat} {args mD:List VV} {r:VV} (h:TC f mD r) (hr:G5.contains f=false) (Z7:aO mD=true) (hf:args.mapM (fz depth H)=some mD) (ha:aO args=false):dP f args lo H k=if Jb r=true then k r H else k r (dB H (args.flatMap (iX depth H))):=by
 have e:∀K,JD f mD K=K r:=fun K=>by
  have:=h 0 [] fun r _=>K r
  unfold dP at this
  simpa only[hr,Z7,if_true,aLQ,if_false] using this
 unfold dP
 simp only[hr,ha,hf,aLQ,if_false]
 rw[e]
theorem aM {n:Nat} {v:VV} (h:aY v=true):fz (n+1) H v=some v:=by
 unfold PM.fz
 rw[if_pos h]
theorem aK {v:VV} (h:aY v=true):fz depth H v=some v:=aM h
theorem mapM_pure {n:Nat}:∀ {es:List VV},aO es=true→es.mapM (PM.fz (n+1) H)=some es
 | [],_=>rfl
 |
  x::xs,h=>by
  simp only[aO,aLM] at h
  rw[aMB,aM h.1,mapM_pure h.2]
  rfl
theorem Ia {b g n c e:Nat} {es:List VV} {w:Bool} (h:aJ H b g=some (es,e,w)) (hn:n=es.length) (hc:n≤c) (hp:aO es=true):fz depth H (.ref b g 0 n c)=some (.tree es .op):=by
 have:aY (.ref b g 0 n c)=false:=rfl
 show fz (7+1) H _=_
 unfold PM.fz
 simp only[this,h,aLQ,if_false]
 subst hn
 rw[if_pos ⟨by omega,hc⟩,aMq,List.take_length,mapM_pure hp]
 rfl
theorem Eh {n:Nat} {v:VV} (h:aY v=true):iX n H v=[]:=by
 cases n with
 | zero=>rfl
 | succ n=>unfold iX;rw[if_pos h]
theorem AH {n:Nat}:∀ {es:List VV},aO es=true→es.flatMap (iX n H)=[]
 | [],_=>rfl
 |
  x::xs,h=>by
  simp only[aO,aLM] at h
  rw[List.flatMap_cons,Eh h.1,AH h.2]
  rfl
theorem Kw {b g n c e:Nat} {es:List VV} {w:Bool} (h:aJ H b g=some (es,e,w)) (hn:n=es.length) (hp:aO es=true):iX depth H (.ref b g 0 n c)=[b]:=by
 have:aY (.ref b g 0 n c)=false:=rfl
 show iX (7+1) H _=_
 unfold iX
 simp only[this,h,aLQ,if_false]
 subst hn
 rw[aMq,List.take_length,AH hp]
theorem abD {r:Option VV} {K K':VV→Prop} (hk:∀v,K v→K' v) (h:tk r K):tk r K':=by
 cases r with
 | none=>exact h
 | some v=>exact hk _ h
theorem MB {f:Nat} {args:List VV} {k k':VV→aA→Prop} (hk:∀v H,k v H→k' v H) (h:dP f args lo H k):dP f args lo H k':=by
 unfold dP at h ⊢
 split at h
 ·rename_i h1
  rw[if_pos h1]
  exact h.mono hk
 ·rename_i h1
  rw[if_neg h1]
  split at h
  ·rename_i h2
   rw[if_pos h2]
   exact abD (fun v=>hk v H) h
  ·rename_i h2
   rw[if_neg h2]
   split at h
   ·refine abD (fun v hv => ?_) h
    split at hv
    ·rename_i h3;rw[if_pos h3];exact hk _ _ hv
    ·rename_i h3;rw[if_neg h3];exact hk _ _ hv
   ·cases h
theorem Xk {k k':VV→aA→Prop} (hk:∀v H,k v H→k' v H) (h:eZ fl lo q op ρ H k):eZ fl lo q op ρ H k':=by
 unfold eZ at h ⊢
 split at h
 ·exact MB hk h
 ·split at h
  ·exact MB hk h
  ·cases h
 ·split at h
  ·exact hk _ _ h
  ·cases h
theorem SC {K K':cV→aA→Prop} (hk:∀ρ H,K ρ H→K' ρ H):∀ {is:List PI} {ρ:cV} {H:aA},VS fl lo is K ρ H→VS fl lo is K' ρ H
 | [],ρ,H,h=>hk _ _ h
 |
  i::is,ρ,H,h=>by
  unfold VS at h ⊢
  split at h
  ·cases h
  ·exact SC hk h
  ·exact⟨h.1,Xk (fun v H' hv=>SC hk hv) h.2⟩
theorem uC {K K':cV→aA→Prop} {Q Q':VQ} (hk:∀ρ H,K ρ H→K' ρ H) (hq:∀x ρ H,Q x ρ H→Q' x ρ H):∀x ρ H,pW K Q x ρ H→pW K' Q' x ρ H
 | .normal,ρ,H,h=>hk _ _ h
 | .exit _,ρ,H,h=>hq _ _ _ h
 | .ret,ρ,H,h=>hq _ _ _ h
theorem atV {K K':cV→aA→Prop} (hk:∀ρ H,K ρ H→K' ρ H) (h:gh K ρ H):gh K' ρ H:=by
 obtain⟨ts,aP,H',h1,h2⟩:=h
 exact⟨ts,aP,H',h1,hk _ _ h2⟩
theorem Ay:∀ {c:aE} {Q Q':VQ} {ρ:cV} {H:aA},(∀x ρ H,Q x ρ H→Q' x ρ H)→VW fl lo c Q ρ H→VW fl lo c Q' ρ H
 | .skip,_,_,_,_,hq,h=>hq _ _ _ h
 | .exit _,_,_,_,_,hq,h=>hq _ _ _ h
 | .ret,_,_,_,_,hq,h=>hq _ _ _ h
 | .cT _,_,_,_,_,hq,h=>SC (fun ρ H=>hq .normal ρ H) h
 | .seq a b,Q,Q',_,_,hq,h=>Ay (c:=a) (uC (fun ρ H h=>Ay (c:=b) hq h) hq) h
 |
  .cond c a b,Q,Q',ρ,H,hq,h=>by
  unfold VW at h ⊢
  split at h
  ·split at h
   ·rename_i h1;rw[if_pos h1];exact Ay (c:=a) hq h
   ·rename_i h1;rw[if_neg h1];exact Ay (c:=b) hq h
  ·cases h
 |
  .block i a,Q,Q',_,_,hq,h=>by
  refine Ay (c:=a) (fun x ρ H hx => ?_) h
  cases x with
  | normal=>exact hq _ _ _ hx
  | ret=>exact hq _ _ _ hx
  |
   exit j =>
   rw[Fz] at hx ⊢
   split at hx
   ·rename_i h1;rw[if_pos h1];exact hq _ _ _ hx
   ·rename_i h1;rw[if_neg h1];exact hq _ _ _ hx
 |
  .loop a,Q,Q',ρ,H,hq,h=>by
  obtain⟨n,h⟩:=h
  refine⟨n,?_⟩
  induction n generalizing ρ H with
  | zero=>cases h
  |
   succ n ih =>
   refine Ay (c:=a) (uC (fun ρ H h => ?_) fun x ρ H h=>atV (hq x) h) h
   rcases h with h | ⟨h1,h2⟩
   ·exact .inl (ih _ _ h)
   ·exact .inr ⟨h1,ih _ _ h2⟩
theorem auR {K:cV→aA→Prop} (h:K ρ H):gh K ρ H:=⟨[],ρ,H,rfl,h⟩
theorem Wx {α:Type} {c:aE} (I:α→cV→aA→Prop) (μ:α→Nat) (s:α) (h0:I s ρ H)
  (round:∀s ρ H,I s ρ H→VW fl lo c (pW (fun aP H'=>∃s',μ s'<μ s∧(I s' aP H'∨(nO H.length (H'.take H.length)=true∧I s' (rS H.length aP) (H'.take H.length)))) (fun x=>gh (Q x))) ρ H):VW fl lo (.loop c) Q ρ H:=by
 refine⟨μ s+1,?_⟩
 have key:∀n s ρ H,μ s<n→I s ρ H→W3 (VW fl lo c) (fun x=>gh (Q x)) n ρ H:=by
  intro n
  induction n with
  | zero=>intro s ρ H h;omega
  |
   succ n ih =>
   intro s ρ H hn hI
   refine Ay (uC (fun aP H' h => ?_) fun x ρ H h=>h) (round s ρ H hI)
   obtain⟨s',h1,h2 | ⟨h2,h3⟩⟩:=h
   ·exact .inl (ih s' _ _ (by omega) h2)
   ·exact .inr ⟨h2,ih s' _ _ (by omega) h3⟩
 exact key _ s ρ H (Nat.lt_succ_self _) h0
theorem aN {α:Type} {c:aE} (I:α→cV→aA→Prop) (μ:α→Nat) (s:α) (h0:I s ρ H)
  (round:∀s ρ H,I s ρ H→VW fl lo c (pW (fun aP H'=>∃s',μ s'<μ s∧I s' aP H') Q) ρ H):VW fl lo (.loop c) Q ρ H :=
 Wx I μ s h0 fun s ρ H h=>Ay (uC (fun _ _ ⟨s',h1,h2⟩=>⟨s',h1,.inl h2⟩) fun _ _ _ h=>auR h) (round s ρ H h)
theorem Pw {α:Type} {c:aE} (I:α→cV→aA→Prop) (μ:α→Nat) (s:α) (h0:I s ρ H)
  (round:∀s ρ H,I s ρ H→VW fl lo c (pW (fun aP H'=>∃s',μ s'<μ s∧nO H.length (H'.take H.length)=true∧I s' (rS H.length aP) (H'.take H.length)) Q) ρ H):VW fl lo (.loop c) Q ρ H :=
 Wx I μ s h0 fun s ρ H h=>Ay (uC (fun _ _ ⟨s',h1,h2⟩=>⟨s',h1,.inr h2⟩) fun _ _ _ h=>auR h) (round s ρ H h)
theorem Oq {n:Nat} {v:VV} (h:below n v=true):MM n v=v:=by
 unfold MM
 rw[if_pos h]
mutual
theorem Ik {n:Nat} (v:VV) (h:aY v=true):below n v=true:=by
 cases v with
 | any=>rfl
 | sc=>rfl
 | agg cs=>exact oJ cs h
 | eH cs=>exact oJ cs h
 | tree es t=>exact oJ es (Lq h).2.1
 | cS x o=>exact Ik x h
 | ref=>cases h
 | ptr=>cases h
 | yV f gU=>exact oJ gU h
theorem oJ {n:Nat} (vs:List VV) (h:aO vs=true):nM n vs=true:=by
 cases vs with
 | nil=>rfl
 |
  cons x xs =>
  simp only[aO,aLM] at h
  simp only[nM,Ik x h.1,oJ xs h.2,aMC]
end
end
end Go.PM
namespace Go.PM
def val (b:Nat):List Nat→Nat
 | []=>0
 | d::ds=>d+b*val b ds
def aD (b n:Nat):List Nat:=if h:n=0∨b<2 then [] else n % b::aD b (n / b)
termination_by n
decreasing_by exact aMD (by omega) (by omega)
section
variable {b:Nat}
theorem cC:aD b 0=[]:=by rw[aD];simp
theorem kM (hb:2≤b) {n:Nat} (hn:n≠0):aD b n=n % b::aD b (n / b):=by rw[aD,dif_neg (by omega)]
theorem wY {d:Nat} {ds:List Nat}:val b (d::ds)=d+b*val b ds:=rfl
theorem A5 (xs ys:List Nat):val b (xs++ys)=val b xs+b^xs.length*val b ys:=by
 induction xs with
 | nil=>simp[val]
 |
  cons x xs ih =>
  simp only[aME,wY,ih,aLo,aMF]
  rw[Nat.mul_add,aMG (b^xs.length) b,Nat.mul_assoc,Nat.add_assoc]
theorem val_one (d:Nat):val b [d]=d:=by simp[val]
theorem wF (xs:List Nat) (d:Nat):val b (xs++[d])=val b xs+b^xs.length*d:=by rw[A5,val_one]
theorem vI (n:Nat):val b (aL4 n 0)=0:=by
 induction n with
 | zero=>rfl
 | succ n ih=>simp[aMo,val,ih]
theorem rM {xs:List Nat} (h:∀d∈xs,d<b):val b xs<b^xs.length:=by
 induction xs with
 | nil=>simp[val]
 |
  cons x xs ih =>
  have h1:=h x aLO
  have h2:=ih fun d hd=>h d (aLN _ hd)
  simp only[wY,aLo,aMF]
  have h3:b*(val b xs+1)≤b*b^xs.length:=Nat.mul_le_mul_left _ h2
  rw[Nat.mul_add,Nat.mul_one] at h3
  rw[aMG (b^xs.length) b]
  omega
theorem cH (hb:2≤b) (n:Nat):val b (aD b n)=n:=by
 induction n using aMH with
 |
  _ n ih =>
  by_cases h:n=0
  ·subst h;rw[cC];rfl
  ·rw[kM hb h,wY,ih _ (aMD (by omega) (by omega))]
   exact Nat.mod_add_div n b
theorem gF (hb:2≤b) (n:Nat):∀d∈aD b n,d<b:=by
 induction n using aMH with
 |
  _ n ih =>
  by_cases h:n=0
  ·subst h;rw[cC];intro d hd;cases hd
  ·rw[kM hb h]
   intro d hd
   rcases aMs.1 hd with rfl | hd
   ·exact Nat.mod_lt _ (by omega)
   ·exact ih _ (aMD (by omega) (by omega)) d hd
theorem nQ (hb:2≤b) {n:Nat}:aD b n=[]↔n=0:=by
 constructor
 ·intro h
  have:=cH hb n
  rw[h] at this
  exact this.symm
 ·rintro rfl;exact cC
theorem Sa (hb:2≤b) (n:Nat):(aD b n).getLast? ≠ some 0:=by
 induction n using aMH with
 |
  _ n ih =>
  by_cases h:n=0
  ·subst h;rw[cC];simp
  ·rw[kM hb h]
   have h1:=ih _ (aMD (n:=n) (k:=b) (by omega) (by omega))
   by_cases h2:n / b=0
   ·rw[h2,cC]
    have:n<b:=by
     rcases Nat.div_eq_zero_iff.1 h2 with h | h<;>omega
    simp[aMI this,h]
   ·have fN:aD b (n / b)≠[]:=fun h=>h2 ((nQ hb).1 h)
    obtain⟨x,xs,hx⟩:=aMJ fN
    rw[hx] at h1 ⊢
    rw[aMK]
    exact h1
theorem OB (hb:2≤b) {xs:List Nat} (h:∀d∈xs,d<b) (hl:xs.getLast? ≠ some 0):aD b (val b xs)=xs:=by
 induction xs with
 | nil=>exact cC
 |
  cons x xs ih =>
  have h1:=h x aLO
  have hr:(x+b*val b xs) % b=x:=by rw[Nat.add_mul_mod_self_left,aMI h1]
  have hq:(x+b*val b xs) / b=val b xs:=by rw[Nat.add_mul_div_left _ _ (by omega),aML h1,aMM]
  cases xs with
  |
   nil =>
   have hx:x≠0:=by rintro rfl;simp at hl
   rw[val_one,kM hb hx,aMI h1,aML h1,cC]
  |
   cons y ys =>
   rw[aMK] at hl
   have h2:=ih (fun d hd=>h d (aLN _ hd)) hl
   have h3:val b (y::ys)≠0:=fun h0=>by rw[h0,cC] at h2;cases h2
   have h4:b*val b (y::ys)≠0:=Nat.mul_ne_zero (by omega) h3
   rw[wY,kM hb (by omega),hr,hq,h2]
theorem Ny (hb:2≤b) {n:Nat} (hn:n≠0):b^((aD b n).length-1)≤n:=by
 induction n using aMH with
 |
  _ n ih =>
  rw[kM hb hn]
  by_cases h2:n / b=0
  ·rw[h2,cC];simp;omega
  ·have h3:=ih _ (aMD (by omega) (by omega)) h2
   have fN:aD b (n / b)≠[]:=fun h=>h2 ((nQ hb).1 h)
   obtain⟨x,xs,hx⟩:=aMJ fN
   rw[hx] at h3 ⊢
   simp only[aLo,Nat.add_sub_cancel] at h3 ⊢
   rw[aMF]
   calc b^xs.length*b≤n / b*b:=aLF _ h3
    _≤n:=Nat.div_mul_le_self n b
theorem iP (hb:2≤b) (n:Nat):n<b^(aD b n).length:=by
 have:=rM (gF hb n)
 rwa [cH hb] at this
theorem oK (hb:2≤b) {n k:Nat} (h:n<b^k):(aD b n).length≤k:=by
 by_cases hn:n=0
 ·subst hn;rw[cC];simp
 ·have h1:=Ny hb hn
  have h2:b^((aD b n).length-1)<b^k:=Nat.lt_of_le_of_lt h1 h
  have h3:(aD b n).length-1<k:=(Nat.pow_lt_pow_iff_right (by omega)).1 h2
  have fN:aD b n≠[]:=fun h=>hn ((nQ hb).1 h)
  have:=List.length_pos_iff.2 fN
  omega
theorem eW (hb:2≤b) {m n:Nat} (h:m≤n):(aD b m).length≤(aD b n).length :=
 oK hb (Nat.lt_of_le_of_lt h (iP hb n))
theorem sN (xs:List Nat) (i:Nat):val b xs=val b (xs.take i)+b^(xs.take i).length*val b (xs.drop i):=by
 rw[←A5,List.take_append_drop]
theorem bF {xs:List Nat} {i d:Nat} (h:xs[i]? = some d):val b (xs.take (i+1))=val b (xs.take i)+b^i*d:=by
 have bH:=(aLd.1 h).1
 rw[List.take_add_one,h]
 simp only[Option.toList_some]
 rw[wF,aMN,aMf (by omega)]
theorem wQ {xs:List Nat} {i d:Nat} (h:xs[i]? = some d):val b (xs.drop i)=d+b*val b (xs.drop (i+1)):=by
 obtain⟨bH,he⟩:=aLd.1 h
 rw[List.drop_eq_getElem_cons bH,he,wY]
theorem IQ {P A B O c x y s q r W:Nat} (h:A+B=O+P*c) (hs:c+x+y=s) (hr:r+W*q=s):(A+P*x)+(B+P*y)=(O+P*r)+(P*W)*q:=by grind
theorem MN {P A B O l x y r W l':Nat} (h:A+P*l=O+B) (hd:r+y+l=x+W*l'):(A+P*x)+(P*W)*l'=(O+P*r)+(B+P*y):=by grind
theorem anJ {xs:List Nat} {i d:Nat} (h:i<xs.length):(xs.set i d).take (i+1)=xs.take i++[d]:=by
 rw[List.set_eq_take_append_cons_drop,if_pos h,aMO]
 simp[List.take_take,aMf (by omega:i≤xs.length),Nat.min_eq_right (by omega:i≤i+1)]
theorem fI {xs:List Nat} {i d:Nat} (h:i<xs.length):val b ((xs.set i d).take (i+1))=val b (xs.take i)+b^i*d:=by
 rw[anJ h,wF,aMN,aMf (by omega)]
theorem oD {xs:List Nat} {i d:Nat} (h:∀x∈xs,x<b) (hd:d<b):∀x∈xs.set i d,x<b:=by
 intro x hx
 rcases List.mem_or_eq_of_mem_set hx with h1 | h1
 ·exact h x h1
 ·subst h1;exact hd
theorem kY {xs:List Nat} {i:Nat} (h:xs.length≤i):val b (xs.take i)=val b xs:=by rw[aL7 h]
theorem Cx (hb:0<b) (n:Nat):∀x∈aL4 n 0,x<b:=by
 intro x hx
 rw[aMp hx]
 exact hb
theorem adL {P x y R t:Nat} (ht:t<P) (h:x<y):t+P*(x+R)<P*(y+R):=by
 have h1:P*(x+R+1)≤P*(y+R):=Nat.mul_le_mul_left _ (by omega)
 rw[Nat.mul_add,Nat.mul_one] at h1
 omega
theorem GI {xs ys:List Nat} {i x y:Nat} (hx:∀d∈xs,d<b) (hl:xs.length=ys.length) (hi:xs[i]? = some x) (hj:ys[i]? = some y) (hd:xs.drop (i+1)=ys.drop (i+1)) (h:x<y):val b xs<val b ys:=by
 have h1:=(aLd.1 hi).1
 have ht:(xs.take i).length=i:=by simp;omega
 have ht':(ys.take i).length=i:=by simp;omega
 have h2:=rM (b:=b) (xs:=xs.take i) fun d hd=>hx d (aMb hd)
 rw[ht] at h2
 rw[sN xs i,sN ys i,ht,ht',wQ hi,wQ hj,hd]
 have:=adL (R:=b*val b (ys.drop (i+1))) h2 h
 omega
theorem W0 (hb:2≤b) {m n:Nat} (h:aD b m=aD b n):m=n:=by
 have:=congrArg (val b) h
 rwa [cH hb,cH hb] at this
def gA (a b:Nat):Int:=if a<b then -1 else if a=b then 0 else 1
theorem GF (hb:2≤b) {m n:Nat} (h:(aD b m).length<(aD b n).length):m<n:=by
 rcases aLh m n with h1 | h1
 ·exact h1
 ·have:=eW hb h1
  omega
end
end Go.PM
namespace Go.PM
abbrev VI (n:Int):VV := .sc (.int .i64 n)
abbrev VK (k:IntKind) (n:Int):VV := .sc (.int k n)
abbrev VB (t:Bool):VV := .sc (.bool t)
abbrev aC {α:Type} (f:α→VV) (xs:List α):VV := .tree (xs.map f) .op
section
variable {α:Type} {f:α→VV} {xs ys:List α} {x:α} {t:TK} {H:aA} {size i:Nat} {k:IntKind}
theorem eK:pV (.tree (xs.map f) t) H=some (VI xs.length):=by simp[pV]
theorem aF (hx:xs[i]? = some x) (hs:(aB (f x)).length=size):bI size (.tree (xs.map f) t) (VK k (i:Int)) H=some (.cS (f x) 0) :=
 afR (by simp[hx]) hs
theorem Vl (hs:∀x,(aB (f x)).length=size):∀y∈xs.map f,(aB y).length=size:=by
 intro y hy
 obtain⟨x,_,rfl⟩:=aMP.1 hy
 exact hs x
theorem fO (hp:∀x,aY (f x)=true):aO (xs.map f)=true:=by
 rw[C3]
 intro y hy
 obtain⟨x,_,rfl⟩:=aMP.1 hy
 exact hp x
theorem asI (hp:∀x,gV (f x)=true):rE (xs.map f)=true:=by
 rw[OX]
 intro y hy
 obtain⟨x,_,rfl⟩:=aMP.1 hy
 exact hp x
theorem aaY {size:Nat} (hs:∀x,(aB (f x)).length=size):uni (xs.map f)=true:=by
 cases xs with
 | nil=>rfl
 |
  cons x xs =>
  simp only[aMQ,uni,aLs]
  intro y hy
  obtain⟨z,_,rfl⟩:=aMP.1 hy
  simp[hs]
theorem mJ {size:Nat} (hs:∀x,(aB (f x)).length=size) (hp:∀x,aY (f x)=true):aY (aC f xs)=true:=by
 simp only[aC,aY,fO hp,aaY hs,decide_true,aMC]
theorem zX {size:Nat} (hs:∀x,(aB (f x)).length=size) (hp:∀x,gV (f x)=true) (he:∀x,CH (f x)=true):gV (aC f xs)=true:=by
 have h4:(xs.map f).all CH=true:=by
  rw[aLs]
  intro y hy
  obtain⟨z,_,rfl⟩:=aMP.1 hy
  exact he z
 simp only[aC,gV,asI hp,aaY hs,h4,decide_true,aMC]
theorem atO {es:List VV} {h:Nat} (fN:0<es.length) (hs:∀x∈es,(aB x).length=size) (hh:h≤es.length) {k2:IntKind} :
  G4 size (.tree es t) none (some (VK k2 h)) none H=some (.tree (es.take h) .op):=by
 cases es with
 | nil=>simp at fN
 |
  cons y ys =>
  have hy:=hs y aLO
  simp only[aLo] at hh
  have e1:(0:Int)≤h∧(h:Int)≤((ys.length+1:Nat):Int):=by omega
  simp only[G4,IC,hy,if_true,fM,e1,aMA,aLT,aLQ,false_and,if_false]
  simp
theorem WM (h:0<xs.length):0<(xs.map f).length:=by simpa using h
theorem Og {b g o n c:Nat} {es:List VV} {w:Bool} {l h:Nat} (hr:aJ H b g=some (es,size,w)) (hl:l≤h) (hh:h≤c) {k1 k2:IntKind} :
  G4 size (.ref b g o n c) (some (VK k1 l)) (some (VK k2 h)) none H=some (.ref b g (o+l) (h-l) (c-l)):=by
 have e1:(0:Int)≤h∧(h:Int)≤(c:Int):=by omega
 have e2:(0:Int)≤l∧(l:Int)≤(h:Int):=by omega
 simp only[G4,IC,hr,if_true,fM,e1,e2,aMA,aLT,aLQ,false_and,if_false]
 simp[hl]
theorem rR {b g o n c:Nat} {es:List VV} {w:Bool} {h:Nat} (hr:aJ H b g=some (es,size,w)) (hh:h≤c) {k2:IntKind} :
  G4 size (.ref b g o n c) none (some (VK k2 h)) none H=some (.ref b g o h c):=by
 have e1:(0:Int)≤h∧(h:Int)≤(c:Int):=by omega
 simp only[G4,IC,hr,if_true,fM,e1,aMA,aLT,aLQ,false_and,if_false]
 simp
theorem Qu {b g o n c:Nat} {es:List VV} {w:Bool} {l:Nat} (hr:aJ H b g=some (es,size,w)) (hl:l≤n) (hn:n≤c) {k1:IntKind} :
  G4 size (.ref b g o n c) (some (VK k1 l)) none none H=some (.ref b g (o+l) (n-l) (c-l)):=by
 have e2:(0:Int)≤l∧(l:Int)≤(n:Int):=by omega
 simp only[G4,IC,hr,if_true,fM,e2,aMA,aLT,aLQ,false_and,if_false]
 simp
theorem MF {h:Nat} (hs:∀x,(aB (f x)).length=size) (fN:0<xs.length) (hh:h≤xs.length) {k2:IntKind} :
  G4 size (.tree (xs.map f) t) none (some (VK k2 h)) none H=some (aC f (xs.take h)):=by
 rw[atO (WM fN) (Vl hs) (by simpa using hh)]
 simp[aC]
theorem W1 {b g e:Nat} {es:List VV} {w:Bool} {L K:aA} (h:b=L.length):aJ (L ++ .row g es e w::K) b g=some (es,e,w):=by
 subst h
 simp[aJ]
theorem aQ {g e:Nat} {es:List VV} {w:Bool} {K:aA}:aJ (.row g es e w::K) 0 g=some (es,e,w):=by simp[aJ]
theorem cM {n:Nat}:(n=n+1)=False:=eq_false fun h=>by omega
theorem anO {g g' e:Nat} {es:List VV} {w:Bool} {K:aA} (h:g'≠g):aJ (.row g' es e w::K) 0 g=none:=by simp[aJ,h]
theorem cA {g e:Nat} {es:List VV} {w:Bool} {K:aA}:aJ (.row (g+1) es e w::K) 0 g=none:=anO (Nat.succ_ne_self g)
theorem cL {b g:Nat} {x:eR} {K:aA}:aJ (x::K) (b+1) g=aJ K b g:=by simp[aJ]
theorem bC {b g o n c e:Nat} {es:List VV} {w:Bool} (h:aJ H b g=some (es,e,w)) (hi:i<n):bI e (.ref b g o n c) (VK k (i:Int)) H=some (.ptr b g (o+i) 0):=acK h hi
theorem bS {b g j e lo:Nat} {es:List VV} {v:VV} (h:aJ H b g=some (es,e,true)) (hj:j<es.length) (eT:lo≤b) (hv:(aB v).length=e) (hs:(aB v).all bP=true):bM lo e (.ptr b g j 0) v H=some (H.set b (.row g (es.set j v) e true)):=by
 obtain⟨x,hx⟩:∃x,es[j]? = some x:=⟨_,aLl hj⟩
 simp only[bM,h,hx]
 rw[if_pos ⟨hv,eT,hs⟩,if_pos ⟨trivial,trivial⟩]
theorem nX {z:List Value} {bytes n:Nat} (hz:elemOf (z.map kR)=f x) (hn:n*bytes≤281474976710656) (hm:n≤9223372036854775807):BR z bytes (VI n) (VI n) H=some (.ref H.length 0 0 n n,H++[.row 0 ((aL4 n x).map f) z.length true]):=by
 simp only[BR]
 rw[if_pos ⟨by omega,by omega,by omega,by omega⟩,hz]
 simp
theorem qI {ag w:Bool} {b gn e j o:Nat} (h:aJ H b gn=some (xs.map f,e,w)) (hx:xs[j]? = some x):bG ag size (.ptr b gn j o) H=dJ ag size (f x) o :=
 SA h (by simp[hx])
theorem eG {b g j e lo:Nat} (h:aJ H b g=some (xs.map f,e,true)) (hj:j<xs.length) (eT:lo≤b) (hv:(aB (f x)).length=e) (hs:(aB (f x)).all bP=true):bM lo e (.ptr b g j 0) (f x) H=some (H.set b (.row g ((xs.set j x).map f) e true)):=by
 rw[bS h (by simpa using hj) eT hv hs,List.map_set]
theorem abK {b gn n c e:Nat} {es:List VV} {w:Bool} (h:aJ H b gn=some (es,e,w)) (hn:n≤es.length) (hc:n≤c) (hp:aO es=true):fz depth H (.ref b gn 0 n c)=some (.tree (es.take n) .op):=by
 have:aY (.ref b gn 0 n c)=false:=rfl
 show fz (7+1) H _=_
 unfold fz
 simp only[this,h,aLQ,if_false]
 have B1:aO (es.take n)=true:=C3.2 fun x hx=>C3.1 hp x (aMb hx)
 rw[if_pos ⟨by omega,hc⟩,aMq,mapM_pure B1]
 rfl
theorem TC.flat {fn:Nat} {args mD:List VV} {r:VV} (h:TC fn mD r) (En:G5.contains fn=false) (Z7:aO mD=true) (hf:args.mapM (fz depth H)=some mD) (hr:Jb r=true) :
  ∀(lo:Nat) (K:VV→aA→Prop),dP fn args lo H K=K r H:=by
 intro lo K
 cases hp:aO args with
 |
  true =>
  have:=mapM_pure (n:=7) (H:=H) hp
  rw[show fz depth H=fz (7+1) H from rfl,this] at hf
  cases hf
  exact h lo H K
 | false=>rw[h.DM En Z7 hf hp,hr,if_pos rfl]
theorem fz1 {v v':VV} (h:fz depth H v=some v'):[v].mapM (fz depth H)=some [v']:=by rw[aMB,h];rfl
theorem fz2 {v v' u u':VV} (h:fz depth H v=some v') (hu:fz depth H u=some u'):[v,u].mapM (fz depth H)=some [v',u']:=by rw[aMB,h,fz1 hu];rfl
theorem TC.asM {fn b gn n c e size:Nat} {w:Bool} {r:VV} (h:TC fn [aC f xs] r) (hr:aJ H b gn=some (xs.map f,e,w)) (hn:n=xs.length) (hc:n≤c) (hs:∀x,(aB (f x)).length=size) (hp:∀x,aY (f x)=true) (En:G5.contains fn=false) (hf:Jb r=false) :
  ∀(lo:Nat) (K:VV→aA→Prop),dP fn [.ref b gn 0 n c] lo H K=K r (dB H [b]):=by
 intro lo K
 have e1:fz depth H (.ref b gn 0 n c)=some (aC f xs):=Ia hr (by simpa using hn) hc (fO hp)
 have e2:iX depth H (.ref b gn 0 n c)=[b]:=Kw hr (by simpa using hn) (fO hp)
 have e3:[VV.ref b gn 0 n c].mapM (fz depth H)=some [aC f xs]:=by rw[aMB,e1];rfl
 rw[h.DM En (by simp only[aO,mJ hs hp,aMC]) e3 rfl,hf]
 simp only[aLQ,if_false,List.flatMap_cons,List.flatMap_nil,e2,aMm]
theorem avW {es:List VV} {e:Nat} (hp:aO es=true):fz depth H (.tree es (.cl e))=some (.tree es .op):=by
 show fz (7+1) H _=_
 unfold fz
 have:aY (.tree es (.cl e))=false:=by simp[aY]
 simp only[this,aLQ,if_false,mapM_pure hp]
 rfl
theorem amI {es:List VV} {e:Nat} (hp:aO es=true):iX depth H (.tree es (.cl e))=[]:=by
 show iX (7+1) H _=_
 unfold iX
 have:aY (.tree es (.cl e))=false:=by simp[aY]
 simp only[this,aLQ,if_false,AH hp]
theorem XE:fz depth H (.tree [] .nil)=some (.tree [] .op):=by
 show fz (7+1) H _=_
 unfold fz
 have:aY (.tree [] .nil)=false:=by simp[aY]
 simp only[this,aLQ,if_false]
 rfl
theorem TC.args {fn:Nat} {args mD:List VV} {r:VV} (h:TC fn mD r) (En:G5.contains fn=false) (Z7:aO mD=true) (hf:args.mapM (fz depth H)=some mD) (hi:args.flatMap (iX depth H)=[]) :
  ∀(lo:Nat) (K:VV→aA→Prop),dP fn args lo H K=K r H:=by
 intro lo K
 cases hp:aO args with
 |
  true =>
  have:=mapM_pure (n:=7) (H:=H) hp
  rw[show fz depth H=fz (7+1) H from rfl,this] at hf
  cases hf
  exact h lo H K
 |
  false =>
  rw[h.DM En Z7 hf hp,hi]
  split<;>rfl
theorem mQ {lr:Bool} {z:List Value} (hz:(z.map kR).all bP=true):nT lr z 0 [] H=some (.ref H.length 0 0 0 0,H++[.row 0 [] z.length true]):=by
 simp[nT,zE,hz]
theorem lO {z:List Value} {v:VV} (hz:(z.map kR).all bP=true) (hv:(aB v).length=z.length) (hs:(aB v).all bP=true):nT false z 1 [(0,v)] H=some (.tree [v] (.cl z.length),H):=by
 simp only[nT,zE,aMo,List.replicate_zero,aLo,aMR,hv,hs,and_self,if_true,aMS,hz]
 simp[hs]
theorem ahI {z:List Value} {u v:VV} (hz:(z.map kR).all bP=true) (hu:(aB u).length=z.length) (hus:(aB u).all bP=true) (hv:(aB v).length=z.length) (hs:(aB v).all bP=true):nT false z 2 [(0,u),(1,v)] H=some (.tree [u,v] (.cl z.length),H):=by
 simp[nT,zE,hv,hs,hu,hus,hz,aMo]
end
theorem wrap32 (n:Nat):IntKind.u32.wrap (n:Int)=((n % 4294967296:Nat):Int):=by rw[IntKind.wrap_u32];omega
theorem wrap_u64 (n:Int):IntKind.u64.wrap n=n % 18446744073709551616:=by simp[IntKind.wrap,IntKind.bits,IntKind.signed]
theorem eV (n:Nat) (h:n<18446744073709551616):IntKind.u64.wrap (n:Int)=(n:Int):=by rw[wrap_u64];omega
theorem wrapN {x:Int} (n:Nat) (h:x=n) (hn:n≤9223372036854775807):IntKind.i64.wrap x=(n:Int):=by subst h;exact wrap64 (by omega) (by omega)
theorem rA (n:Nat) (k:IntKind):dO .shr (.int .u64 (n:Int)) (.int k 32)=some (.int .u64 ((n / 4294967296:Nat):Int)):=by
 simp only[dO]
 have h1:¬((32:Int)<0):=by decide
 have h2:Nat.min (Int.toNat 32) IntKind.u64.bits=32:=by decide
 rw[if_neg h1,h2]
 congr 2
 rw[Int.fdiv_eq_ediv_of_nonneg _ (by decide)]
 omega
theorem Gs (n:Nat) (k:IntKind) (h:n<4294967296):dO .shl (.int .u64 (n:Int)) (.int k 32)=some (.int .u64 ((n*4294967296:Nat):Int)):=by
 simp only[dO]
 have h1:¬((32:Int)<0):=by decide
 have h2:Nat.min (Int.toNat 32) IntKind.u64.bits=32:=by decide
 rw[if_neg h1,h2]
 congr 2
 have:(n:Int)*2^32=((n*4294967296:Nat):Int):=by omega
 rw[this]
 exact eV _ (by omega)
section
variable {n k g:Nat} {K:aA} {x y:eR}
theorem NM:aJ (aL4 n eR.dead++K) n g=aJ K 0 g:=by
 unfold aJ
 rw[aLw (by simp)]
 simp
theorem ZR:aJ (aL4 n eR.dead++K) (n+k) g=aJ K k g:=by
 unfold aJ
 rw[aLw (by simp)]
 simp
theorem anE:(aL4 n eR.dead++K).set n y=aL4 n eR.dead++K.set 0 y:=by
 rw[aMT _ _ (by simp)]
 simp
theorem awG:(aL4 n eR.dead++K).set (n+k) y=aL4 n eR.dead++K.set k y:=by
 rw[aMT _ _ (by simp)]
 simp
theorem aCY:(aL4 n eR.dead++K).length=n+K.length:=by simp
theorem aqF:(aL4 n eR.dead++K).take (n+k)=aL4 n eR.dead++K.take k:=by
 rw[aMO]
 simp
theorem arY:(aL4 n eR.dead++K).take n=aL4 n eR.dead:=by
 rw[aMO]
 simp
end
theorem Db {k g e:Nat} {es:List VV} {w:Bool} {K:aA} (h:nM k es=true):nO k (.row g es e w::K)=nO k K:=by
 unfold nO
 rw[aL6]
 simp only[h,Bool.true_and]
theorem KR {k:Nat}:nO k []=true:=rfl
theorem gR {size:Nat} {v:VV} {t:TK} {H:aA} (h:(aB v).length=size) (hs:(aB v).all bP=true):dG size (.tree [v] t) H=some [v]:=by
 simp[dG,h,hs]
theorem jK {α:Type} {f:α→VV} {xs:List α} {x:α} {lo b g n e bytes:Nat} {H:aA} (h:aJ H b g=some (xs.map f,e,true)) (hn:n=xs.length) (eT:lo≤b) (he:1≤e) (hb:1≤bytes) (EX:(n+1)*bytes≤140737488355328) :
  dK lo e bytes (.ref b g 0 n n) [f x] H=some (.ref b (g+1) 0 (n+1) (n+1),H.set b (.row (g+1) ((xs++[x]).map f) e true)):=by
 subst hn
 simp only[dK,h,aLo,aMR,aMM]
 rw[if_pos ⟨hb,he⟩,if_pos ⟨trivial,eT,by simp⟩,if_neg (by omega),if_pos EX,aMq,aL7 (by simp)]
 simp
section
variable {H:aA} {b g o n c j lo size:Nat} {neg ag:Bool} {k:IntKind} {i:Int} {v:VV}
theorem bJ:bG ag size (.ptr b g j o) H=(match aJ H b g with
 |
  some (es,_,_)=>match es[j]? with
  | some x=>dJ ag size x o
  | none=>none
 | none=>none):=rfl
theorem E4:bM lo size (.ptr b g j o) v H=(match aJ H b g with
 |
  some (es,e,true)=>match es[j]? with
  |
   some x =>
   if (aB v).length=size∧lo≤b∧(aB v).all bP then
    if o=0∧size=e then some (H.set b (.row g (es.set j v) e true))
    else if 2≤e∧o+size≤e then some (H.set b (.row g (es.set j (.agg (dD (aB x) o (aB v)))) e true))
    else none
   else none
  | none=>none
 | _=>none):=rfl
theorem Rh:pV (.ref b g o n c) H=(aJ H b g).map fun _ => .sc (.int .i64 n):=rfl
theorem zQ:lR size (.ptr b g j o) H=(aJ H b g).map fun _ => .ptr b g j (o+size):=rfl
theorem Q0:afS (.ptr b g j o) H=(aJ H b g).map fun _ => .ptr b g j o:=rfl
theorem Mf:HT neg (.ref b g o n c) H=(aJ H b g).map fun _ => .sc (.bool (false != neg)):=rfl
theorem On:HT neg (.tree [] .nil) H=some (.sc (.bool (true != neg))):=rfl
theorem Mg {x:VV} {xs:List VV} {t:TK}:HT neg (.tree (x::xs) t) H=some (.sc (.bool (false != neg))):=rfl
theorem Ma:bI size (.ref b g o n c) (.sc (.int k i)) H=(match aJ H b g with
 | some (_,e,_)=>if e=size∧0≤i∧i<n then some (.ptr b g (o+i.toNat) 0) else none
 | none=>none):=rfl
end
theorem Js {v:Value}:isAny (.sc v)=false:=rfl
theorem Ei {es:List VV} {t:TK}:isAny (.tree es t)=false:=rfl
theorem Gg {b g o n c:Nat}:isAny (.ref b g o n c)=false:=rfl
theorem GJ {cs:List VV}:isAny (.agg cs)=false:=rfl
theorem Sb {f:Nat} {cs:List VV}:isAny (.yV f cs)=false:=rfl
theorem vC {x:VV}:elemOf [x]=x:=rfl
theorem pA {x y:VV} {cs:List VV}:elemOf (x::y::cs) = .agg (x::y::cs):=rfl
theorem BF {k t:Nat} {ρ:cV}:rS k ρ t=MM k (ρ t):=rfl
theorem OF {k:Nat} {v:Value}:MM k (.sc v) = .sc v:=rfl
theorem Df {k:Nat} {v:VV} (h:aY v=true):MM k v=v:=Oq (Ik v h)
theorem KM {k b g o n c:Nat} (h:b<k):MM k (.ref b g o n c) = .ref b g o n c:=Oq (by simp[below,h])
theorem Va {v:Value}:bP (.sc v)=true:=rfl
theorem OL {es:List VV} {t:TK}:bP (.tree es t)=true:=rfl
theorem QS {b g o n c:Nat}:bP (.ref b g o n c)=true:=rfl
theorem R6 {b g o n:Nat}:bP (.ptr b g o n)=true:=rfl
theorem NT {x:VV} {o:Nat}:bP (.cS x o)=true:=rfl
theorem Rm {f:Nat} {cs:List VV}:bP (.yV f cs)=true:=rfl
theorem RS {v:Value}:aB (.sc v)=[.sc v]:=rfl
theorem O5 {cs:List VV}:aB (.agg cs)=cs:=rfl
theorem MA {es:List VV} {t:TK}:aB (.tree es t)=[.tree es t]:=rfl
theorem P3 {b g o n c:Nat}:aB (.ref b g o n c)=[.ref b g o n c]:=rfl
theorem UT {k k':IntKind} {n:Int}:Xq k (.int k' n)=some (.int k (k.wrap n)):=rfl
theorem RH {args:List VV} {t:Nat}:Mc args t=args.getD t tJ:=rfl
theorem aBy {n:Nat}:LT n = .tmp n:=rfl
theorem aA7 {n:Int}:LI n = .const (.int .i64 n):=rfl
theorem aCx:LG = .const (.bool true):=rfl
theorem aB9:LF = .const (.bool false):=rfl
theorem aCp {n:Nat}:LL n = .load false 1 (.tmp n):=rfl
theorem aCS {n:Nat}:LK n = .load true 3 (.tmp n):=rfl
theorem aCE {n k:Nat}:LX n k = .ext (.tmp n) k:=rfl
theorem aCO {k n:Nat}:LA k n = .faddr k (.tmp n):=rfl
theorem aCU {d:Nat} {p:qN}:LO d p=⟨some d,p,none,false,[]⟩:=rfl
theorem aB0 {d:Nat} {p:qN}:LQ d p=⟨some d,p,none,true,[]⟩:=rfl
theorem aBq {p:qN}:LN p=⟨none,p,none,false,[]⟩:=rfl
theorem aAW {d s:Nat}:LM d s=⟨some d,.mv (.tmp s),none,false,[]⟩:=rfl
theorem aBZ {g d:Nat} {p:qN}:LY g d p=⟨some d,p,some (g,true),false,[]⟩:=rfl
theorem aCW {g d:Nat} {p:qN}:LZ g d p=⟨some d,p,some (g,false),false,[]⟩:=rfl
theorem aBl {l:List PI} {c:aE}:LS l c = .seq (.cT l) c:=rfl
theorem VX:type_of% (
 aMU @aoG<|aMU @aiD<|aMU @Ut<|aMU @aaD<|aMU @Zo<|aMU @ajU<|aMU @Zj <|
 aMU @VH<|aMU @Ev<|aMU @HQ<|aMU @Ju<|aMU @HL<|aMU @Fz <|
 aMU @PH<|aMU @JT<|aMU @QL<|aMU @N3<|aMU @WN<|aMU @Uy <|
 aMU @OJ<|aMU @Rs<|aMU @akE<|aMU @auT<|aMU @aoV<|aMU @auO<|aMU @Mt <|
 aMU @alF<|aMU @Vd<|aMU @ZQ<|aMU @Zn<|aMU @R0<|aMU @RT<|aMU @amQ <|
 aMU @abS<|aMU @Y8<|aMU @Zp<|aMU @abH<|aMU @Ro<|aMU @aaZ<|aMU @R7 <|
 aMU @Se<|aMU @V8<|aMU @Vb<|aMU @Wr<|aMU @abQ<|aMU @UK<|aMU @Z6 <|
 aMU @ZF<|aMU @WJ<|aMU @abF<|aMU @ZC<|aMU @Zh<|aMU @T6<|aMU @aaK <|
 aMU @QK<|aMU @Zi<|aMU @V6<|aMU @RY<|aMU @WX<|aMU @RZ <|
 aMU @Ek<|aMU @RW<|aMU @UM<|aMU @RE<|aMU @Pl<|aMU @QQ <|
 aMU @zT<|aMU @Rv<|aMU @Z2<|aMU @Sf<|aMU @T1<|aMU @aaR<|aMU @Vm <|
 aMU @abE<|aMU @ZD<|aMU @aaB<|aMU @WR<|aMU @Q2<|aMU @U5<|aMU @V3 <|
 aMU @Za<|aMU @aaX<|aMU @VM<|aMU @Wt<|aMU @QO<|aMU @Vy<|aMU @ahT <|
 aMU @NI<|aMU @akO<|aMU @abC<|aMU @ahV<|aMU @aoD<|aMU @dV<|aMU @amA <|
 aMU @aMV.{0,0}<|aMU @aL6.{0}<|aMU @aMy.{0}<|aMU @Va<|aMU @aMC <|
 aMU @Bool.and_true<|aMU @UT<|aMU @aaO<|aMU @Zu<|aMU @WZ<|aMU @WK <|
 aMU @WL<|aMU @W2<|aMU @Uc<|aMU @Vw<|aMU @V4<|aMU @Ud<|aMU @Ww <|
 aMU @ZK<|aMU @abB<|aMU @Value.bool.injEq<|aMU @decide_eq_true_eq<|aMU @decide_eq_false_iff_not <|
 aMU @Bool.not_true<|aMU @Bool.not_false<|aMU @decide_true<|aMU @decide_false<|aMU @Bool.not_eq_true' <|
 aMU @Bool.not_eq_false'<|aMU @aLQ<|aMU @false_and<|aMU @and_false<|aMU @aMz.{0,0} <|
 aMU @Option.map_none.{0,0}<|aMU @if_true.{1}<|aMU @if_false.{1}<|aMU @aMQ.{0,0}<|aMU @List.map_nil.{0,0} <|
 aMU @aME.{0}<|aMU @aMw.{0}<|aMU @and_true<|aMU @true_and<|aMU @aMM <|
 aMU @Nat.add_zero<|aMU @aLo.{0}<|aMU @aMR.{0}<|aMU @RH<|aMU @aMW.{0} <|
 aMU @aMX.{0}<|aMU @List.getD_nil.{0}<|aMU @VV.sc.injEq<|aMU @aLy.{0} <|
 aMU @aMY.{0}<|aMU @OL<|aMU @QS<|aMU @R6<|aMU @NT <|
 aMU @Rm<|aMU @RS<|aMU @O5<|aMU @MA<|aMU @P3<|aMU @aBy<|aMU @aA7 <|
 aMU @aCx<|aMU @aB9<|aMU @aCp<|aMU @aCS<|aMU @aCE<|aMU @aCO<|aMU @aCU<|aMU @aB0 <|
 aMU @aBq<|aMU @aAW<|aMU @aBZ<|aMU @aCW <| @aBl) :=
 aMU @aoG<|aMU @aiD<|aMU @Ut<|aMU @aaD<|aMU @Zo<|aMU @ajU<|aMU @Zj <|
 aMU @VH<|aMU @Ev<|aMU @HQ<|aMU @Ju<|aMU @HL<|aMU @Fz <|
 aMU @PH<|aMU @JT<|aMU @QL<|aMU @N3<|aMU @WN<|aMU @Uy <|
 aMU @OJ<|aMU @Rs<|aMU @akE<|aMU @auT<|aMU @aoV<|aMU @auO<|aMU @Mt <|
 aMU @alF<|aMU @Vd<|aMU @ZQ<|aMU @Zn<|aMU @R0<|aMU @RT<|aMU @amQ <|
 aMU @abS<|aMU @Y8<|aMU @Zp<|aMU @abH<|aMU @Ro<|aMU @aaZ<|aMU @R7 <|
 aMU @Se<|aMU @V8<|aMU @Vb<|aMU @Wr<|aMU @abQ<|aMU @UK<|aMU @Z6 <|
 aMU @ZF<|aMU @WJ<|aMU @abF<|aMU @ZC<|aMU @Zh<|aMU @T6<|aMU @aaK <|
 aMU @QK<|aMU @Zi<|aMU @V6<|aMU @RY<|aMU @WX<|aMU @RZ <|
 aMU @Ek<|aMU @RW<|aMU @UM<|aMU @RE<|aMU @Pl<|aMU @QQ <|
 aMU @zT<|aMU @Rv<|aMU @Z2<|aMU @Sf<|aMU @T1<|aMU @aaR<|aMU @Vm <|
 aMU @abE<|aMU @ZD<|aMU @aaB<|aMU @WR<|aMU @Q2<|aMU @U5<|aMU @V3 <|
 aMU @Za<|aMU @aaX<|aMU @VM<|aMU @Wt<|aMU @QO<|aMU @Vy<|aMU @ahT <|
 aMU @NI<|aMU @akO<|aMU @abC<|aMU @ahV<|aMU @aoD<|aMU @dV<|aMU @amA <|
 aMU @aMV.{0,0}<|aMU @aL6.{0}<|aMU @aMy.{0}<|aMU @Va<|aMU @aMC <|
 aMU @Bool.and_true<|aMU @UT<|aMU @aaO<|aMU @Zu<|aMU @WZ<|aMU @WK <|
 aMU @WL<|aMU @W2<|aMU @Uc<|aMU @Vw<|aMU @V4<|aMU @Ud<|aMU @Ww <|
 aMU @ZK<|aMU @abB<|aMU @Value.bool.injEq<|aMU @decide_eq_true_eq<|aMU @decide_eq_false_iff_not <|
 aMU @Bool.not_true<|aMU @Bool.not_false<|aMU @decide_true<|aMU @decide_false<|aMU @Bool.not_eq_true' <|
 aMU @Bool.not_eq_false'<|aMU @aLQ<|aMU @false_and<|aMU @and_false<|aMU @aMz.{0,0} <|
 aMU @Option.map_none.{0,0}<|aMU @if_true.{1}<|aMU @if_false.{1}<|aMU @aMQ.{0,0}<|aMU @List.map_nil.{0,0} <|
 aMU @aME.{0}<|aMU @aMw.{0}<|aMU @and_true<|aMU @true_and<|aMU @aMM <|
 aMU @Nat.add_zero<|aMU @aLo.{0}<|aMU @aMR.{0}<|aMU @RH<|aMU @aMW.{0} <|
 aMU @aMX.{0}<|aMU @List.getD_nil.{0}<|aMU @VV.sc.injEq<|aMU @aLy.{0} <|
 aMU @aMY.{0}<|aMU @OL<|aMU @QS<|aMU @R6<|aMU @NT <|
 aMU @Rm<|aMU @RS<|aMU @O5<|aMU @MA<|aMU @P3<|aMU @aBy<|aMU @aA7 <|
 aMU @aCx<|aMU @aB9<|aMU @aCp<|aMU @aCS<|aMU @aCE<|aMU @aCO<|aMU @aCU<|aMU @aB0 <|
 aMU @aBq<|aMU @aAW<|aMU @aBZ<|aMU @aCW <| @aBl
theorem gC:type_of% (
 aMU @bJ<|aMU @E4<|aMU @Ma<|aMU @Rh<|aMU @zQ<|aMU @Q0 <|
 aMU @Mf<|aMU @On<|aMU @Mg<|aMU @aQ<|aMU @cL<|aMU @aMS.{0} <|
 aMU @List.set_cons_succ.{0}<|aMU @vC<|aMU @pA<|aMU @oO.eq_1<|aMU @sU.eq_1 <|
 aMU @sU.eq_2<|aMU @FK.eq_1<|aMU @FK.eq_2<|aMU @BT.eq_1<|aMU @BT.eq_2<|aMU @Js <|
 aMU @Ei<|aMU @Gg<|aMU @GJ<|aMU @Sb<|aMU @List.take_zero.{0} <|
 aMU @aL1.{0}<|aMU @List.take_nil.{0}<|aMU @aMq.{0}<|aMU @aMZ.{0} <|
 aMU @List.drop_nil.{0}<|aMU @aMm.{0}<|aMU @aLe<|aMU @dD.eq_1<|aMU @aMA <|
 aMU @eq_self.{1}<|aMU @ge_iff_le.{0} <| @aLM) :=
 aMU @bJ<|aMU @E4<|aMU @Ma<|aMU @Rh<|aMU @zQ<|aMU @Q0 <|
 aMU @Mf<|aMU @On<|aMU @Mg<|aMU @aQ<|aMU @cL<|aMU @aMS.{0} <|
 aMU @List.set_cons_succ.{0}<|aMU @vC<|aMU @pA<|aMU @oO.eq_1<|aMU @sU.eq_1 <|
 aMU @sU.eq_2<|aMU @FK.eq_1<|aMU @FK.eq_2<|aMU @BT.eq_1<|aMU @BT.eq_2<|aMU @Js <|
 aMU @Ei<|aMU @Gg<|aMU @GJ<|aMU @Sb<|aMU @List.take_zero.{0} <|
 aMU @aL1.{0}<|aMU @List.take_nil.{0}<|aMU @aMq.{0}<|aMU @aMZ.{0} <|
 aMU @List.drop_nil.{0}<|aMU @aMm.{0}<|aMU @aLe<|aMU @dD.eq_1<|aMU @aMA <|
 aMU @eq_self.{1}<|aMU @ge_iff_le.{0} <| @aLM
end Go.PM
namespace Go.PM
theorem TC.vt {f:Nat} {args:List VV} {r:VV} (h:TC f args r) (En:G5.contains f=false) (hp:aO args=true):VT f args r:=by
 have h1:=h 0 [] fun x _=>x=r
 unfold dP at h1
 simp only[En,hp,aLQ,if_false,if_true] at h1
 have h2:JD f args fun x=>x=r:=by rw[h1];trivial
 unfold JD tk at h2
 split at h2
 ·rename_i x hx
  rw[←h2]
  exact(TD hx).2.2
 ·exact h2.elim
theorem TC.yes {f:Nat} {args:List VV} {fB:List Value} {H:aH} (h:TC f args (.sc (.bool true))) (En:G5.contains f=false) (hp:aO args=true) (hl:VL (bare (· < H.length) H) args fB) :
  ∃v H',vB f fB H.length H=some (v,H')∧v = .bool true:=by
 obtain⟨P',pv,h1,_,h2⟩:=h.vt En hp (· < H.length) H fB H.length (fun _ h=>h) hl (aLe _)
 cases h2
 exact⟨_,P',h1,rfl⟩
theorem VR.grow {H L:aH} {x:VV} {v:Value} (h:VR (bare (· < H.length) H) x v):VR (bare (· < (H++L).length) (H++L)) x v :=
 h.Fb fun b hb=>⟨by show b<_;rw[aLp];omega,aLv hb⟩
end Go.PM
namespace Go.PM
mutual
def jL (n:Nat):VV→Bool
 | .any=>false
 | .sc v=>qM v
 | .agg cs=>Aw n cs
 | .eH vs=>Aw n vs
 | .tree es k=>es.isEmpty&&decide (k = .nil)
 | .cS _ _=>false
 | .ref b _ _ _ _=>decide (n≤b)
 | .ptr b _ _ _=>decide (n≤b)
 | .yV _ _=>false
def Aw (n:Nat):List VV→Bool
 | []=>true
 | x::xs=>jL n x&&Aw n xs
end
theorem zM {n:Nat} {es:List VV}:Aw n es=true↔∀x∈es,jL n x=true:=by
 induction es with
 | nil=>simp[Aw]
 | cons x xs ih=>simp[Aw,ih]
theorem adO {n:Nat} {es:List VV} (h:Aw n es=true):Aw n (es.flatMap aB)=true:=by
 rw[zM] at h ⊢
 intro x hx
 obtain⟨y,hy,CT⟩:=List.mem_flatMap.1 hx
 have:=h y hy
 unfold aB at CT
 split at CT
 ·exact zM.1 (by simpa[jL] using this) x CT
 ·rw[aMk] at CT;subst CT;exact this
def mP (n:Nat) (L:aA):Bool:=L.all fun
 | .row _ es _ _=>Aw n es
 | .dead=>true
theorem VR.own {V V':View} {k0:Nat} (TW:∀q,V.base≤q∧q<V.P.length→V'.base≤q∧q<V'.P.length∧∀b' g' es e w,b'<k0→V'.H[b']? = some (.row g' es e w)→V'.m b'≠q) (hl:V.H.length≤V'.H.length) (hH:∀b,k0≤b→V'.H[b]? = V.H[b]?) (hm:∀b,k0≤b→V'.m b=V.m b) {x:VV} {v:Value} (h:VR V x v):jL k0 x=true→VR V' x v:=by
 induction h using VR.rec (motive_2:=fun xs vs _=>Aw k0 xs=true→VL V' xs vs) with
 | any=>intro hx;cases hx
 | sc _ h=>intro _;exact .sc _ h
 | agg cs ps _ ih=>intro hx;exact .agg _ _ (ih hx)
 | eH cs ps _ ih=>intro hx;exact .eH _ _ (ih hx)
 | pY k hk=>intro _;exact .pY k hk
 |
  tree es k b o c r e p hF hb ho hc he hk _ _ =>
  intro hx
  simp only[jL,aLM,decide_eq_true_eq] at hx
  obtain⟨_,rfl⟩:=hx
  exact hk.elim
 | cS=>intro hx;cases hx
 |
  ref b g o n c a n' c' bH hg ha hq =>
  intro hx
  have hb:k0≤b:=by simpa[jL] using hx
  exact .ref b g o n c a n' c' (aLg bH hl) (fun g' es e w hr=>hg g' es e w (by rw[←hH b hb];exact hr)) (fun es e w hr=>by rw[hm b hb];exact ha es e w (by rw[←hH b hb];exact hr)) fun a0 h=>by
   obtain⟨q1,q2,q3⟩:=hq a0 h
   obtain⟨q4,q5,q6⟩:=TW _ ⟨q1,q2⟩
   refine⟨q4,q5,fun b' g' es e w hr fN => ?_⟩
   rcases aLh b' k0 with Om | G0
   ·exact q6 b' g' es e w Om hr
   ·rw[hm b' G0]
    exact q3 b' g' es e w (by rw[←hH b' G0];exact hr) fN
 |
  ptr b g j off a bH hg ha hq =>
  intro hx
  have hb:k0≤b:=by simpa[jL] using hx
  exact .ptr b g j off a (aLg bH hl) (fun g' es e w hr=>hg g' es e w (by rw[←hH b hb];exact hr)) (fun es e w hr=>by rw[hm b hb];exact ha es e w (by rw[←hH b hb];exact hr)) fun a0 h=>by
   obtain⟨q1,q2,q3⟩:=hq a0 h
   obtain⟨q4,q5,q6⟩:=TW _ ⟨q1,q2⟩
   refine⟨q4,q5,fun b' g' es e w hr fN => ?_⟩
   rcases aLh b' k0 with Om | G0
   ·exact q6 b' g' es e w Om hr
   ·rw[hm b' G0]
    exact q3 b' g' es e w (by rw[←hH b' G0];exact hr) fN
 | yV=>intro hx;cases hx
 | nil=>exact .nil
 |
  cons x v xs vs _ _ ih X5 =>
  rename_i hx
  simp only[Aw,aLM] at hx
  exact .cons _ _ _ _ (ih hx.1) (X5 hx.2)
theorem VL.own {V V':View} {n:Nat} (TW:∀q,V.base≤q∧q<V.P.length→V'.base≤q∧q<V'.P.length∧∀b' g' es e w,b'<n→V'.H[b']? = some (.row g' es e w)→V'.m b'≠q) (hl:V.H.length≤V'.H.length) (hH:∀b,n≤b→V'.H[b]? = V.H[b]?) (hm:∀b,n≤b→V'.m b=V.m b) {xs:List VV} {vs:List Value} (h:VL V xs vs) (hx:Aw n xs=true):VL V' xs vs:=by
 induction xs generalizing vs with
 | nil=>cases h;exact .nil
 |
  cons x xs ih=>cases h with
  |
   cons _ v _ vs h hs =>
   simp only[Aw,aLM] at hx
   exact .cons _ _ _ _ (h.own TW hl hH hm hx.1) (ih hs hx.2)
theorem VL.Fb {V':View} {G:Nat→Prop} {P:aH} {xs:List VV} {vs:List Value} (hF:∀b,G b→V'.F b∧V'.P[b]? = P[b]?) (h:VL (bare G P) xs vs):VL V' xs vs:=by
 induction xs generalizing vs with
 | nil=>cases h;exact .nil
 |
  cons x xs ih=>cases h with
  | cons _ v _ vs h hs=>exact .cons _ _ _ _ (h.Fb hF) (ih hs)
def FC (f:Nat) (args:List VV) (R:Nat→VV→aA→Prop):Prop :=
 ∀n,mB f args n (aL4 n .dead) fun r H'=>∃L,H'=aL4 n .dead++L∧jL n r=true∧mP n L=true∧R n r L
theorem FC.walk {f:Nat} {pf:aZ} {args:List VV} {R:Nat→VV→aA→Prop} (fl:Fl) (ht:gH f=some pf) (hn:args.length≤pf.ntmps)
  (h:∀n,VW fl n pf.body (CV pf.res fun r H'=>∃L,H'=aL4 n .dead++L∧jL n r=true∧mP n L=true∧R n r L) (Mc args) (aL4 n .dead)):FC f args R :=
 fun n=>mB.walk fl ht hn (h n)
theorem FC.raw {f:Nat} {args mD:List VV} {R:Nat→VV→aA→Prop} {H:aA} {lo:Nat} (h:FC f mD R) (hf:args.mapM (fz depth H)=some mD):mB f args lo H fun r H'=>∃L,H'=H++L∧R H.length r L∧jL H.length r=true∧mP H.length L=true:=by
 intro V fA fB hH hS hl
 have h1:=h H.length
 let V0:View:={ m:=V.m,F:=(· < V.P.length),H:=aL4 H.length .dead,P:=V.P,base:=V.P.length }
 have P9:∀(b g:Nat) (es:List VV) (e:Nat) (w:Bool),V0.H[b]? ≠ some (.row g es e w):=by
  intro b g es e w hb
  have:=aMp (aL8 hb)
  cases this
 have hS0:SR V0 H.length fA:=⟨fun b g es e w hb=>absurd hb (P9 _ _ _ _ _),fun b g es e hb=>absurd hb (P9 _ _ _ _ _),fun a b g es e w _ _ _ _ ha=>absurd ha (P9 _ _ _ _ _),fun b hb=>hb,hS.Xe,aLe _⟩
 have Ci:VL V0 mD fB:=by
  have:=GR hS (G:=(· < V.P.length)) (fun q hq=>hS.fr q hq) hl (by rw[hH];exact hf) (fun i _ g es e w hb=>hS.mlt hb)
  exact VL.Fb (V':=V0) (fun b hb=>⟨hb,rfl⟩) this
 obtain⟨pv,V1,r,k1,k3,k4,k5,L,k2,h2,h3,hR⟩:=h1 V0 fA fB rfl hS0 Ci
 have Zg:∀b g es e w,V1.H[b]? = some (.row g es e w)→V.P.length≤V1.m b:=by
  intro b g es e w hb
  rcases aLh (V1.m b) V.P.length with bH | G0
  ·obtain⟨g0,es0,w0,j1,_⟩:=k4.Er b g es e w hb bH
   exact absurd j1 (P9 _ _ _ _ _)
  ·exact G0
 have aB5:V1.H.length=H.length+(L).length:=by rw[k2];simp
 have Dl:∀q,q<V.P.length→V1.P[q]? = V.P[q]? := fun q hq=>k4.cW q hq fun b g es e hb=>absurd hb (P9 _ _ _ _ _)
 let V2:View:={ m:=fun b=>if b<H.length then V.m b else V1.m b,F:=V.F,H:=H++L,P:=V1.P,base:=V.base }
 have atG:∀b,H.length≤b→V2.H[b]? = V1.H[b]? := fun b hb=>by
  show (H++L)[b]? = _
  rw[k2,aLw hb,aLw (by simpa using hb),List.length_replicate]
 have mL:∀b,H.length≤b→V2.m b=V1.m b:=fun b hb=>by
  show (if b<H.length then V.m b else V1.m b)=_
  rw[if_neg (by omega)]
 have aqT:∀b,b<H.length→V2.H[b]? = V.H[b]? := fun b hb=>by
  show (H++L)[b]? = _
  rw[aLv hb,hH]
 have mS:∀b,b<H.length→V2.m b=V.m b:=fun b hb=>by
  show (if b<H.length then V.m b else V1.m b)=_
  rw[if_pos hb]
 have hU:Up V V2:=⟨fun _ h=>h,fun b hb=>Dl b (hS.fr b hb),by show V.H.length≤(H++L).length;rw[hH];simp,fun b g es e w bH hb=>⟨g,es,w,by rw[←aqT b (by rw[←hH];exact bH)];exact hb,aLe _,fun _=>mS b (by rw[←hH];exact bH)⟩,rfl,k4.GY,fun b g es e w hb hm=>by
   rcases aLh b H.length with h | h
   ·exact⟨g,es,w,by rw[←aqT b h];exact hb,mS b h,id⟩
   ·rw[mL b h] at hm
    have:=Zg b g es e w (by rw[←atG b h];exact hb)
    omega⟩
 have Z1:∀ {b g es e w},V2.H[b]? = some (.row g es e w)→(b<H.length∧V.H[b]? = some (.row g es e w))∨(H.length≤b∧V1.H[b]? = some (.row g es e w)):=by
  intro b g es e w hb
  rcases aLh b H.length with h | h
  ·exact .inl ⟨h,by rw[←aqT b h];exact hb⟩
  ·exact .inr ⟨h,by rw[←atG b h];exact hb⟩
 have avN:V1.H.length≤V2.H.length:=by show _≤(H++L).length;rw[aB5];simp
 have QT:∀ {b g es e w},H.length≤b→V1.H[b]? = some (.row g es e w)→Aw H.length es=true:=by
  intro b g es e w hb hr
  rw[k2,aLw (by simpa using hb)] at hr
  exact aLs.1 h3 _ (aL8 hr)
 have TW:∀q,V1.base≤q∧q<V1.P.length→V2.base≤q∧q<V2.P.length∧∀b' g' es e w,b'<H.length→V2.H[b']? = some (.row g' es e w)→V2.m b'≠q:=by
  intro q hq
  have Dh:V.P.length≤q:=by have:=k4.NA;rw[this] at hq;exact hq.1
  refine⟨aLf hS.NA Dh,hq.2,fun b' g' es e w bH hr hm => ?_⟩
  rw[mS b' bH] at hm
  have:=hS.mlt (by rw[←aqT b' bH];exact hr)
  omega
 refine⟨pv,V2,r,k1,⟨fun b g es e w hb => ?_,fun b g es e hb => ?_,fun a b g es e w g' oY e' w' ha hb hm => ?_,fun b hb => ?_,?_,aLf hS.NA k4.GY⟩,{ hU with cW:=fun q hq _=>Dl q hq,EY:=fun q hq => .inl hq },?_,L,rfl,hR,h2,h3⟩
 ·rcases Z1 hb with⟨h,hb⟩ | ⟨h,hb⟩
  ·obtain⟨r,p,j1,j2,j3⟩:=hS.row b g es e w hb
   exact⟨r,p,by rw[mS b h];exact(Dl _ (hS.mlt hb)).trans j1,j2,j3.mono hU⟩
  ·obtain⟨r,p,j1,j2,j3⟩:=k3.row b g es e w hb
   exact⟨r,p,by rw[mL b h];exact j1,j2,j3.own TW avN (fun b hb=>atG b hb) (fun b hb=>mL b hb) (adO (QT h hb))⟩
 ·rcases Z1 hb with⟨h,hb⟩ | ⟨h,hb⟩
  ·rw[mS b h]
   exact hS.wr b g es e hb
  ·rw[mL b h]
   have:=Zg b g es e true hb
   exact⟨fun hF=>by have:=hS.fr _ hF;omega,fun _=>aLf hS.Xe this⟩
 ·rcases Z1 ha with⟨h,ha⟩ | ⟨h,ha⟩<;>rcases Z1 hb with⟨h',hb⟩ | ⟨h',hb⟩
  ·rw[mS a h,mS b h'] at hm
   exact hS.inj a b _ _ _ _ _ _ _ _ ha hb hm
  ·rw[mS a h,mL b h'] at hm
   have:=Zg b _ _ _ _ hb
   have:=hS.mlt ha
   omega
  ·rw[mL a h,mS b h'] at hm
   have:=Zg a _ _ _ _ ha
   have:=hS.mlt hb
   omega
  ·rw[mL a h,mL b h'] at hm
   exact k3.inj a b _ _ _ _ _ _ _ _ ha hb hm
 ·exact aLg (hS.fr b hb) k4.GY
 ·exact aLf hS.Xe k4.GY
 ·exact k5.own TW avN (fun b hb=>atG b hb) (fun b hb=>mL b hb) h2
theorem iN {f:Nat} {args:List VV} {lo:Nat} {H:aA} {K:VV→aA→Prop} (En:G5.contains f=true) (h:mB f args lo H K):dP f args lo H K:=by
 unfold dP
 rw[if_pos En]
 exact h
theorem FC.call {f:Nat} {args mD:List VV} {R:Nat→VV→aA→Prop} {H:aA} {lo:Nat} {K:VV→aA→Prop} (h:FC f mD R) (En:G5.contains f=true) (hf:args.mapM (fz depth H)=some mD) (hk:∀r L,R H.length r L→K r (H++L)):dP f args lo H K :=
 iN En ((h.raw hf).mono fun r H' ⟨L,h1,h2,_⟩=>by subst h1;exact hk r L h2)
theorem FC.avL {f:Nat} {args mD:List VV} {R:Nat→VV→aA→Prop} {H:aA} {lo:Nat} {K:VV→aA→Prop} (h:FC f mD R) (En:G5.contains f=true) (hf:args.mapM (fz depth H)=some mD) (hk:∀r L,R H.length r L→jL H.length r=true→mP H.length L=true→K r (H++L)):dP f args lo H K :=
 iN En ((h.raw hf).mono fun r H' ⟨L,h1,h2,h3,h4⟩=>by subst h1;exact hk r L h2 h3 h4)
def T9 (H K:aA):Prop:=K.length=H.length∧∀(b g:Nat) (es:List VV) (e:Nat) (w:Bool),K[b]? = some (.row g es e w)→H[b]? = some (.row g es e w)
theorem VR.kill {V:View} {K:aA} (hK:T9 V.H K) {x:VV} {v:Value} (h:VR V x v):VR { V with H:=K } x v:=by
 induction h using VR.rec (motive_2:=fun xs vs _=>VL { V with H:=K } xs vs) with
 | any=>exact .any _
 | sc _ h=>exact .sc _ h
 | agg cs ps _ ih=>exact .agg _ _ ih
 | eH cs ps _ ih=>exact .eH _ _ ih
 | pY k hk=>exact .pY k hk
 | tree es k b o c r e p hF hb ho hc he hk _ ih=>exact .tree es k b o c r e p hF hb ho hc he hk ih
 | cS x off b o r e p hF hb ho _ ih=>exact .cS x off b o r e p hF hb ho ih
 |
  ref b g o n c a n' c' bH hg ha hq =>
  exact .ref b g o n c a n' c' (by show b<K.length;rw[hK.1];exact bH) (fun g' es e w hr=>hg g' es e w (hK.2 _ _ _ _ _ hr)) (fun es e w hr=>ha es e w (hK.2 _ _ _ _ _ hr)) fun a0 h=>⟨(hq a0 h).1,(hq a0 h).2.1,fun b' g' es e w hr=>(hq a0 h).2.2 b' g' es e w (hK.2 _ _ _ _ _ hr)⟩
 |
  ptr b g j off a bH hg ha hq =>
  exact .ptr b g j off a (by show b<K.length;rw[hK.1];exact bH) (fun g' es e w hr=>hg g' es e w (hK.2 _ _ _ _ _ hr)) (fun es e w hr=>ha es e w (hK.2 _ _ _ _ _ hr)) fun a0 h=>⟨(hq a0 h).1,(hq a0 h).2.1,fun b' g' es e w hr=>(hq a0 h).2.2 b' g' es e w (hK.2 _ _ _ _ _ hr)⟩
 | yV f gU ps _ ih=>exact .yV _ _ _ ih
 | nil=>exact .nil
 | cons x v xs vs _ _ ih X5=>exact .cons _ _ _ _ ih X5
theorem VL.kill {V:View} {K:aA} (hK:T9 V.H K) {xs:List VV} {vs:List Value} (h:VL V xs vs):VL { V with H:=K } xs vs:=by
 induction xs generalizing vs with
 | nil=>cases h;exact .nil
 |
  cons x xs ih=>cases h with
  | cons _ v _ vs h hs=>exact .cons _ _ _ _ (h.kill hK) (ih hs)
theorem mB.kill {f:Nat} {args:List VV} {lo:Nat} {H:aA} {P P':VV→aA→Prop} (h:mB f args lo H P) (hk:∀v H',P v H'→∃K,T9 H' K∧P' v K):mB f args lo H P':=by
 intro V fA fB hH hS hl
 obtain⟨pv,V',v,h1,h2,h3,h4,h5⟩:=h V fA fB hH hS hl
 obtain⟨K,hK,h6⟩:=hk _ _ h5
 refine⟨pv,{ V' with H:=K },v,h1,⟨fun b g es e w hb => ?_,fun b g es e hb=>h2.wr b g es e (hK.2 _ _ _ _ _ hb),fun a b g es e w g' oY e' w' ha hb hm=>h2.inj a b _ _ _ _ _ _ _ _ (hK.2 _ _ _ _ _ ha) (hK.2 _ _ _ _ _ hb) hm,h2.fr,h2.Xe,h2.NA⟩,
  { F:=h3.F,P:=h3.P,len:=by show V.H.length≤K.length;rw[hK.1];exact h3.len,row:=fun b g es e w bH hb=>h3.row b g es e w bH (hK.2 _ _ _ _ _ hb),NA:=h3.NA,GY:=h3.GY,Er:=fun b g es e w hb hm=>h3.Er b g es e w (hK.2 _ _ _ _ _ hb) hm,cW:=h3.cW,EY:=h3.EY },h4.kill hK,h6⟩
 obtain⟨r,p,j1,j2,j3⟩:=h2.row b g es e w (hK.2 _ _ _ _ _ hb)
 exact⟨r,p,j1,j2,j3.kill hK⟩
theorem FC.aCb {f:Nat} {pf:aZ} {args:List VV} {R:Nat→VV→aA→Prop} (fl:Fl) (ht:gH f=some pf) (hn:args.length≤pf.ntmps)
  (h:∀n,VW fl n pf.body (CV pf.res fun r H'=>∃L,T9 H' (aL4 n .dead++L)∧jL n r=true∧mP n L=true∧R n r L) (Mc args) (aL4 n .dead)):FC f args R :=
 fun n=>(mB.walk fl ht hn (h n)).kill fun _ _ ⟨L,h1,h2,h3,h4⟩=>⟨_,h1,L,rfl,h2,h3,h4⟩
end Go.PM
namespace Go.PM
open Go.ChangeShapes Go.WideShapes Go.ChangeAt Go.RowKit
open Go.Proofs
def Gi (W:World):Prop:=∃(rb:Nat) (arr:Array Value) (e:TypeId) (fz:Nat×Nat),W.heap[rb]? = some (.cells arr e fz)
structure El (m m':dS) (H L:aH) (W:World) (cs Ls:List Value) (vs:List VV):Prop where
 inn:In m' (H++L) W
 ext:∀b l,m b=some l→m' b=some l
 len:Ls.length=cs.length
 rv:∀i,i<cs.length→RV m' (Ls.getD i Go.undef) (cs.getD i Go.undef)
 sc:∀v∈Ls,PM.iR v=true
 tree:VL (bare (· < (H++L).length) (H++L)) vs Ls
def Fg {T:Type} (Ah:TypeId×Value→T) (P:Program) (W:World) (t:TypeId) (k:Nat) (S:List VV→Prop):Prop :=
 ∀fuel cs y,DataW.trod Ah P W 0 (fun _=>true) true fuel t cs=some y→∀(m:dS) (H:aH),In m H W→cs.length=k∧∃m' L Ls vs,El m m' H L W cs Ls vs∧S vs
theorem VL.grow {H L:aH} {xs:List VV} {vs:List Value} (h:VL (bare (· < H.length) H) xs vs):VL (bare (· < (H++L).length) (H++L)) xs vs :=
 h.Fb fun b hb=>⟨by show b<_;rw[aLp];omega,aLv hb⟩
theorem VL.app {V:View} {xs ys:List VV} {vs ws:List Value} (h:VL V xs vs) (h':VL V ys ws):VL V (xs++ys) (vs++ws):=by
 induction xs generalizing vs with
 | nil=>cases h;exact h'
 |
  cons x xs ih=>cases h with
  | cons _ v _ vs h hs=>exact .cons _ _ _ _ h (ih hs)
theorem Lr {cs ds:List Value} {i:Nat} (h:i<cs.length):(cs++ds).getD i Go.undef=cs.getD i Go.undef:=by
 simp only[aLb,aLv h]
theorem Iy {cs ds:List Value} {i:Nat} (h:cs.length≤i):(cs++ds).getD i Go.undef=ds.getD (i-cs.length) Go.undef:=by
 simp only[aLb,aLw h]
theorem El.both {m m1 m2:dS} {H L1 L2:aH} {W:World} {cs Ls CC aBW:List Value} {vs vs':List VV} (h:El m m1 H L1 W cs Ls vs) (h':El m1 m2 (H++L1) L2 W CC aBW vs'):El m m2 H (L1++L2) W (cs++CC) (Ls++aBW) (vs++vs'):=by
 refine⟨by rw[←aM0];exact h'.inn,fun b l hb=>h'.ext _ _ (h.ext _ _ hb),by simp[h.len,h'.len],fun i hi => ?_,fun v hv => ?_,?_⟩
 ·rcases aLh i cs.length with bH | G0
  ·rw[Lr bH,Lr (by rw[h.len];exact bH)]
   exact(h.rv i bH).mono h'.ext
  ·rw[Iy G0,Iy (by rw[h.len];exact G0),h.len]
   exact h'.rv _ (by rw[aLp] at hi;omega)
 ·rcases List.mem_append.1 hv with hv | hv
  ·exact h.sc v hv
  ·exact h'.sc v hv
 ·rw[←aM0]
  exact h.tree.grow.app h'.tree
theorem El.none {m:dS} {H:aH} {W:World} (hI:In m H W):El m m H [] W [] [] [] :=
 ⟨by rw[aMm];exact hI,fun _ _ h=>h,rfl,fun i hi=>absurd hi (aMv _),fun v hv=>(by cases hv),.nil⟩
theorem Tt {T:Type} {Ah:TypeId×Value→T} {P:Program} {W:World} {t:TypeId} (ht:P.underlying t=some .string):Fg Ah P W t 1 (fun vs=>∃s:ByteArray,s.size≤maxLen∧vs=[.sc (.string s)]):=by
 intro fuel cs y h m H hI
 obtain⟨s,rfl,_,hs⟩:=DataW.trod_string ht h
 refine⟨rfl,m,[],[.string s],[.sc (.string s)],⟨by rw[aMm];exact hI,fun _ _ h=>h,rfl,fun i hi => ?_,fun v hv => ?_,.cons _ _ _ _ (.sc _ rfl) .nil⟩,s,hs,rfl⟩
 ·have:i=0:=by simpa using hi
  subst this
  exact .str s
 ·rw[aMk] at hv
  subst hv
  rfl
theorem P6 {T:Type} {Ah:TypeId×Value→T} {P:Program} {W:World} {e:TypeId} {gQ:Nat} {S:List VV→Prop} (ho:Fg Ah P W e gQ S):∀(Xf:List (List Value)),(∀cs∈Xf,∃fuel y,DataW.trod Ah P W 0 (fun _=>true) true fuel e cs=some y)→∀(m:dS) (H:aH),In m H W →
  ∃(m':dS) (L:aH) (Ls:List Value) (gs:List (List VV)),El m m' H L W Xf.flatten Ls gs.flatten∧gs.length=Xf.length∧(∀g∈gs,S g)∧∀cs∈Xf,cs.length=gQ
 | [],_,m,H,hI=>⟨m,[],[],[],El.none hI,rfl,fun g hg=>(by cases hg),fun cs OQ=>(by cases OQ)⟩
 |
  cs::Xf,h,m,H,hI=>by
  obtain⟨fuel,y,hy⟩:=h cs aLO
  obtain⟨hl,m1,L1,aEu,g,h1,hS⟩:=ho fuel cs y hy m H hI
  obtain⟨m2,L2,aEc,gs,h2,h3,h4,h5⟩:=P6 ho Xf (fun cs OQ=>h cs (aLN _ OQ)) m1 (H++L1) h1.inn
  refine⟨m2,L1++L2,aEu++aEc,g::gs,?_,by simp[h3],fun g' hg' => ?_,fun CC aAp => ?_⟩
  ·rw[aM1,aM1]
   exact h1.both h2
  ·rcases aMs.1 hg' with rfl | hg'
   ·exact hS
   ·exact h4 _ hg'
  ·rcases aMs.1 aAp with rfl | aAp
   ·exact hl
   ·exact h5 _ aAp
theorem FI {α:Type} {k:Nat}:∀ {xss:List (List α)},(∀xs∈xss,xs.length=k)→xss.flatten.length=xss.length*k
 | [],_=>by simp
 |
  xs::xss,h=>by
  rw[aM1,aLp,h xs aLO,FI fun y hy=>h y (aLN _ hy),aLo,aL3,Nat.add_comm]
theorem Jl {α:Type} {k:Nat}:∀ {xss:List (List α)} (n:Nat),(∀xs∈xss,xs.length=k)→xss.flatten.take (n*k)=(xss.take n).flatten
 | [],n,_=>by simp
 | xs::xss,0,_=>by simp
 |
  xs::xss,n+1,h=>by
  have hl:=h xs aLO
  rw[aM1,aL1,aM1,←Jl n fun y hy=>h y (aLN _ hy),show (n+1)*k=xs.length+n*k by rw[hl,aL3,Nat.add_comm],List.take_length_add_append]
theorem SG {k:Nat} (hk:1≤k) {Xf:List (List Value)} (h:∀cs∈Xf,cs.length=k) {i:Nat} (hi:i<Xf.length*k):∃cs,Xf[i / k]? = some cs∧Xf.flatten.getD i Go.undef=cs.getD (i % k) Go.undef:=by
 induction Xf generalizing i with
 | nil=>simp at hi
 |
  cons cs Xf ih =>
  have hl:=h cs aLO
  rw[aM1]
  rcases aLh i k with bH | G0
  ·refine⟨cs,by rw[aML bH];rfl,?_⟩
   rw[Lr (by omega),aMI bH]
  ·obtain⟨c',h1,h2⟩:=ih (fun y hy=>h y (aLN _ hy)) (i:=i-k) (by rw[aLo,aL3] at hi;omega)
   have e1:i / k=(i-k) / k+1:=by rw[Nat.div_eq_sub_div (by omega) G0]
   have e2:i % k=(i-k) % k:=by rw[Nat.mod_eq_sub_mod G0]
   exact⟨c',by rw[e1];exact h1,by rw[Iy (by omega),hl,h2,e2]⟩
theorem ME {T:Type} {Ah:TypeId×Value→T} {α:Type} {f:α→VV} {amX:α→Prop} {P:Program} {W:World} {t e:TypeId} {gQ:Nat} (ht:P.underlying t=some (.slice e)) (aEU:P.cellsOf e=gQ) (pos:1≤gQ) (hB:Gi W)
  (hf:∀x,(aB (f x)).length=gQ) (ho:Fg Ah P W e gQ fun g=>∃x:α,amX x∧g=aB (f x)):Fg Ah P W t 1 fun vs=>∃xs:List α,xs.length≤maxLen∧(∀x∈xs,amX x)∧vs=[aC f xs]:=by
 intro fuel cs y h m H hI
 rcases DataW.trod_slice ht h with⟨rfl,_⟩ | ⟨a,n,c,elems,rest,k,_,rfl,_,_,hnc,hmx,hlen,hE,hR,_⟩
 ·refine⟨rfl,m,[],[.slice none 0 0],[.tree [] .op],⟨by rw[aMm];exact hI,fun _ _ h=>h,rfl,fun i hi => ?_,fun v hv => ?_,.cons _ _ _ _ (.pY _ (.inl rfl)) .nil⟩,[],aLI _,fun x hx=>(by cases hx),rfl⟩
  ·have:i=0:=by simpa using hi
   subst this
   exact .M5
  ·rw[aMk] at hv
   subst hv
   rfl
 ·obtain⟨B7,hR⟩:=hR rfl
  have Zt:∀i,i<c→∃cs,W.cells? 0 (a.add (i*gQ)) gQ=some cs∧∃fuel y,DataW.trod Ah P W 0 (fun _=>true) true fuel e cs=some y:=by
   intro i hi
   have key:∃y,(W.cells? 0 (a.add (i*P.cellsOf e)) (P.cellsOf e)).bind (DataW.trod Ah P W 0 (fun _=>true) true k e)=some y:=by
    rcases aLh i n with bX | bX
    ·exact⟨elems[i]'(by omega),by rw[hE i bX];exact aLl _⟩
    ·have:=hR (i-n) (by omega)
     rw[show n+(i-n)=i by omega] at this
     exact⟨rest[i-n]'(by omega),by rw[this];exact aLl _⟩
   obtain⟨y,hy⟩:=key
   rw[Option.bind_eq_some_iff,aEU] at hy
   obtain⟨cs,h1,h2⟩:=hy
   exact⟨cs,h1,k,y,h2⟩
  obtain⟨Xf,mN,OQ⟩:=Z9 (fun i cs=>W.cells? 0 (a.add (i*gQ)) gQ=some cs∧∃fuel y,DataW.trod Ah P W 0 (fun _=>true) true fuel e cs=some y) c Zt
  obtain⟨m1,L1,Ls,gs,hO,hgl,hgS,awX⟩:=P6 ho Xf (fun cs hc=>by
   obtain⟨i,hi⟩:=List.getElem?_of_mem hc
   exact(OQ i cs hi).2) m H hI
  obtain⟨xs,hxg,Nd⟩:∃xs:List α,(∀x∈xs,amX x)∧gs=xs.map fun x=>aB (f x):=by
   clear hO hgl
   induction gs with
   | nil=>exact⟨[],fun x hx=>(by cases hx),rfl⟩
   |
    cons g gs ih =>
    obtain⟨xs,h1,h2⟩:=ih fun g hg=>hgS g (aLN _ hg)
    obtain⟨x,h3,h4⟩:=hgS g aLO
    exact⟨x::xs,fun y hy=>by
     rcases aMs.1 hy with rfl | hy
     ·exact h3
     ·exact h1 y hy,by rw[aMQ,←h2,h4]⟩
  have hxl:xs.length=c:=by rw[←mN,←hgl,Nd,aMV]
  have Qc:Ls.length=c*gQ:=by rw[hO.len,FI awX,mN]
  obtain⟨rb,base,arr,e',fz,aB2,QB,Dh⟩:∃(rb base:Nat) (arr:Array Value) (e':TypeId) (fz:Nat×Nat),W.heap[rb]? = some (.cells arr e' fz)∧(c=0→base=0)∧(c≠0→a=⟨rb,base,none⟩):=by
   by_cases h0:c=0
   ·obtain⟨rb,arr,e',fz,hb⟩:=hB
    exact⟨rb,0,arr,e',fz,hb,fun _=>rfl,fun h=>absurd h0 h⟩
   ·obtain⟨cs,h1,_⟩:=Zt 0 (by omega)
    have h2:=(World.cells?_some h1).2
    have h3:=h2.2 0 (by omega)
    rw[aLl (by omega)] at h3
    have:(a.add (0*gQ)).add 0=a:=by simp[Addr.add]
    rw[this] at h3
    unfold World.cell? at h3
    split at h3
    ·rename_i arr e' fz hb
     split at h3
     ·cases h3
     ·rename_i US
      refine⟨a.block,a.off,arr,e',fz,hb,fun h=>absurd h h0,fun _ => ?_⟩
      obtain⟨b,o,sp⟩:=a
      cases sp with
      | none=>rfl
      | some x=>simp at US
    ·cases h3
  have TZ:∀i,i<c*gQ→W.cell? ⟨rb,base+i,none⟩=some (Xf.flatten.getD i Go.undef):=by
   intro i hi
   obtain⟨cs,h1,h2⟩:=SG pos awX (i:=i) (by rw[mN];exact hi)
   have h0:c≠0:=by intro h0;rw[h0] at hi;simp at hi
   have ha:=Dh h0
   have h3:=(World.cells?_some (OQ _ _ h1).1).2
   have hr:i % gQ<gQ:=Nat.mod_lt _ pos
   have h4:=h3.2 (i % gQ) hr
   have Qg:∀o k:Nat,(⟨rb,o,none⟩:Addr).add k=⟨rb,o+k,none⟩:=by
    intro o k
    unfold Addr.add
    split
    ·rename_i h0;subst h0;rfl
    ·rfl
   have amJ:i / gQ*gQ+i % gQ=i:=by rw[aMG];exact Nat.div_add_mod i gQ
   rw[ha,Qg,Qg,Nat.add_assoc,amJ] at h4
   rw[h2,aLb,h4]
   have bH:i % gQ<cs.length:=by rw[h3.1];exact hr
   rw[aLl bH]
   rfl
  have Bn:base+Ls.length≤arr.size:=by
   rw[Qc]
   by_cases h0:c=0
   ·rw[QB h0,h0];simp
   ·have Oj:1≤c*gQ:=Nat.mul_pos (by omega) pos
    have h3:=TZ (c*gQ-1) (by omega)
    unfold World.cell? at h3
    simp only[aB2,aLT,aLQ,if_false] at h3
    have:=(Array.getElem?_eq_some_iff.1 h3).1
    omega
  have Qg:=hO.inn.add (gQ:=gQ) (cs:=Ls) (base:=base) aB2 Bn (fun i hi=>by
   rw[Qc] at hi
   refine⟨_,TZ i hi,(hO.rv i (by rw[FI awX,mN];exact hi)).mono (xT (hO.inn.WH (aLe _))),?_⟩
   rw[aLb,aLl (by rw[Qc];exact hi)]
   exact hO.sc _ (List.getElem_mem _))
  refine⟨rfl,_,L1++[.row Ls gQ false],[.slice (some ⟨(H++L1).length,0,none⟩) n c],[aC f (xs.take n)],⟨by rw[←aM0];exact Qg,fun b l hb=>xT (hO.inn.WH (aLe _)) _ _ (hO.ext b l hb),rfl,fun i hi => ?_,fun v hv => ?_,?_⟩,xs.take n,by rw[aMN];omega,fun x hx=>hxg x (aMb hx),rfl⟩
  ·have:i=0:=by simpa using hi
   subst this
   refine .slice (H++L1).length 0 n c _ _ c (bZ _ _ _) hnc (aLe _) (fun _=>rfl) ?_
   by_cases h0:c=0
   ·exact .inl h0
   ·exact .inr ⟨by simpa using Dh h0,by simpa[Qc] using Bn⟩
  ·rw[aMk] at hv
   subst hv
   rfl
  ·rw[←aM0]
   refine .cons _ _ _ _ ?_ .nil
   have hl:(xs.take n).length=n:=by rw[aMN];omega
   have HG:∀g∈gs,g.length=gQ:=fun g hg=>by
    obtain⟨x,_,rfl⟩:=hgS g hg
    exact hf x
   have key:=hO.tree.grow (L:=[QG.row Ls gQ false])
   have key:=key.take (n*gQ)
   rw[Jl n HG,Nd,←List.map_take] at key
   have:=VR.tree (V:=bare (· < (H++L1++[QG.row Ls gQ false]).length) (H++L1++[QG.row Ls gQ false])) ((xs.take n).map f) .op (H++L1).length 0 c Ls gQ false (by show (H++L1).length<_;simp) (by show (H++L1++[QG.row Ls gQ false])[(H++L1).length]? = _;rw[aLw (aLe _),Nat.sub_self];rfl)
    (by rw[aMV,hl,Qc];simp only[aMM];exact aLF _ hnc) (by rw[aMV,hl];exact hnc) (fun y hy=>by
     obtain⟨x,_,rfl⟩:=aMP.1 hy
     exact hf x) trivial (by rw[aMV,hl,aMq,List.flatMap_map,List.flatMap_def];exact key)
   rw[aMV,hl] at this
   exact this
theorem Vo {T:Type} {Ah:TypeId×Value→T} {P:Program} {W:World} {t t0 t1 t2:TypeId} {fs:Array Field} {S0 S1 S2:List VV→Prop} (ht:P.underlying t=some (.struct fs)) (hc:P.cellsOf t=3)
  (h0:∃f,fs[0]? = some f∧f.type=t0∧f.offset=0) (h1:∃f,fs[1]? = some f∧f.type=t1∧f.offset=1) (h2:∃f,fs[2]? = some f∧f.type=t2∧f.offset=2) (hs:fs.size=3) (c0:P.cellsOf t0=1) (c1:P.cellsOf t1=1) (c2:P.cellsOf t2=1)
  (o0:Fg Ah P W t0 1 S0) (o1:Fg Ah P W t1 1 S1) (o2:Fg Ah P W t2 1 S2):Fg Ah P W t 3 fun vs=>∃a b c,S0 a∧S1 b∧S2 c∧vs=a++(b++c):=by
 intro fuel cs y h m H hI
 obtain⟨xs,n,_,_,hl,hlen,hf⟩:=DataW.trod_struct ht h
 rw[hc] at hl
 obtain⟨f0,g0,rfl,z0⟩:=h0
 obtain⟨f1,g1,rfl,z1⟩:=h1
 obtain⟨f2,g2,rfl,z2⟩:=h2
 have k0:=hf 0 f0 g0
 have k1:=hf 1 f1 g1
 have k2:=hf 2 f2 g2
 rw[z0,c0,aLl (by omega)] at k0
 rw[z1,c1,aLl (by omega)] at k1
 rw[z2,c2,aLl (by omega)] at k2
 match cs,hl with
 |
  [u,v,w],_ =>
  obtain⟨_,m1,L1,p1,v1,q1,s1⟩:=o0 _ _ _ k0 m H hI
  obtain⟨_,m2,L2,p2,v2,q2,s2⟩:=o1 _ _ _ k1 m1 (H++L1) q1.inn
  obtain⟨_,m3,L3,p3,v3,q3,s3⟩:=o2 _ _ _ k2 m2 (H++L1++L2) q2.inn
  exact⟨rfl,m3,L1++(L2++L3),p1++(p2++p3),v1++(v2++v3),q1.both (q2.both q3),v1,v2,v3,s1,s2,s3,rfl⟩
end Go.PM