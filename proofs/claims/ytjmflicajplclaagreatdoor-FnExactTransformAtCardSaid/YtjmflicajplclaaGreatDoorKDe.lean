/- Texts of a claim, in one: part 5. -/
import Derived.Test.YtjmflicajplclaaGreatDoorKDd
open And renaming intro → aL1
open Bool renaming and_eq_true → aKT,and_self → aLJ,false_eq_true → aKX
open Int renaming toNat_natCast → aLH
open List renaming all_cons → aLd,all_eq_true → aKz,all_nil → aLF,append_assoc → aL7,append_nil → aLt,cons_append → aLL,drop_succ_cons → aL6,drop_zero → aLx,eq_of_mem_replicate → aLw,exists_cons_of_ne_nil → aLQ,flatten_cons → aL8,getD_cons_succ → aL4,getD_cons_zero → aL3,getD_eq_getElem?_getD → aKi,getElem?_append_left → aKC,getElem?_append_right → aKD,getElem?_cons_succ → aL5,getElem?_cons_zero → aKF,getElem?_eq_getElem → aKs,getElem?_eq_some_iff → aKk,getElem?_take → aLE,getLast?_cons_cons → aLR,length_append → aKw,length_cons → aKv,length_map → aL2,length_nil → aLY,length_take → aLU,mapM_cons → aLI,map_cons → aLX,mem_cons → aLz,mem_cons_of_mem → aKU,mem_cons_self → aKV,mem_map → aLW,mem_of_getElem? → aLf,mem_of_mem_take → aLi,mem_singleton → aLr,nil_append → aLD,replicate → aLb,replicate_succ → aLv,set_append_right → aL0,set_cons_zero → aLZ,take_append → aLV,take_of_length_le → aLe,take_succ_cons → aK8
open Nat renaming div_eq_of_lt → aLS,div_lt_self → aLK,le_refl → aKl,le_trans → aKm,lt_of_lt_of_le → aKn,lt_or_ge → aKo,min_eq_left → aLm,mod_eq_of_lt → aLP,mul_comm → aLN,mul_le_mul_right → aKM,not_lt_zero → aLC,pow_succ → aLM,strongRecOn → aLO,succ_mul → aLa,zero_add → aLT,zero_le → aKP
open Option renaming isSome_none → aK0,map_some → aLG
set_option linter.unusedSimpArgs false
set_option linter.unusedVariables false
namespace Go.PM
def VT (f:Nat) (args:List VV) (r:VV):Prop :=
 ∀(F:Nat→Prop) (P:aJ) (eW:List Value) (eV:Nat),(∀b,F b→b<P.length)→VL (bare F P) args eW→eV≤P.length →
  ∃P' pv,uX f eW eV P=some (pv,P')∧P <+: P'∧VR (bare (fun q=>F q∨(P.length≤q∧q<P'.length)) P') r pv
def Sd (lo eV:Nat) (V:View) (r:Option (Value×aJ)) (K:VV→aA→Prop):Prop :=
 ∃pv V' v,r=some (pv,V'.P)∧SR V' lo eV∧Hh lo V V'∧VR V' v pv∧K v V'.H
def jA (f:Nat) (args:List VV) (lo:Nat) (H:aA) (K:VV→aA→Prop):Prop :=
 ∀(V:View) (eV:Nat) (eW:List Value),V.H=H→SR V lo eV→VL V args eW→Sd lo eV V (uX f eW eV V.P) K
theorem jA.mono {f:Nat} {args:List VV} {lo:Nat} {H:aA} {K K':VV→aA→Prop} (hk:∀v H,K v H→K' v H) (h:jA f args lo H K):jA f args lo H K':=by
 intro V eV eW hH hS hl
 obtain⟨pv,V',v,h1,h2,h3,h4,h5⟩:=h V eV eW hH hS hl
 exact⟨pv,V',v,h1,h2,h3,h4,hk _ _ h5⟩
theorem VT.uniq {f:Nat} {args:List VV} {r r':VV} (h:VT f args r) (h':VT f args r') (ha:aO args=true) (hr:gW r=true) (IY:gW r'=true):r=r':=by
 obtain⟨P,ps,_,hl⟩:=RH args ha []
 obtain⟨P',pv,h1,_,h2⟩:=h (· < P.length) P ps 0 (fun _ h=>h) hl (aKP _)
 obtain⟨P'',pv',h3,_,h4⟩:=h' (· < P.length) P ps 0 (fun _ h=>h) hl (aKP _)
 rw[h1] at h3
 injection h3 with h3
 injection h3 with h3 h5
 subst h3 h5
 exact h2.uniq h4 hr IY
open Classical in
noncomputable def vT (f:Nat) (args:List VV):Option VV:=if h:∃r,aO args=true∧gW r=true∧VT f args r then some (Classical.choose h) else none
theorem S8 {f:Nat} {args:List VV} {r:VV} (h:vT f args=some r):aO args=true∧gW r=true∧VT f args r:=by
 unfold vT at h
 split at h
 ·rename_i hx
  cases h
  exact Classical.choose_spec hx
 ·cases h
theorem auT {f:Nat} {args:List VV} {r:VV} (ha:aO args=true) (hr:gW r=true) (h:VT f args r):vT f args=some r:=by
 have hx:∃r,aO args=true∧gW r=true∧VT f args r:=⟨r,ha,hr,h⟩
 unfold vT
 rw[dif_pos hx]
 obtain⟨_,h2,h3⟩:=Classical.choose_spec hx
 rw[h3.uniq h ha h2 hr]
def tk (r:Option VV) (K:VV→Prop):Prop:=match r with
 | some r=>K r
 | none=>False
noncomputable def IP (f:Nat) (args:List VV) (K:VV→Prop):Prop:=tk (vT f args) K
noncomputable def dH (f:Nat) (args:List VV) (lo:Nat) (H:aA) (K:VV→aA→Prop):Prop :=
 if Fm.contains f=true then jA f args lo H K
 else if aO args=true then IP f args fun r=>K r H
 else match args.mapM (fz depth H) with
  | some mB=>IP f mB fun r=>if Hn r=true then K r H else K r (cZ H (args.flatMap (iX depth H)))
  | none=>False
noncomputable def eZ (fl:Fl) (lo:Nat) (q:Bool) (op:qF) (ρ:cT) (H:aA) (K:VV→aA→Prop):Prop :=
 match op with
 | .call f args=>dH f (args.map (fG ρ)) (if q then H.length else lo) H K
 |
  .callv fv args=>match fG ρ fv with
  | .wX f fU=>dH f (args.map (fG ρ)++fU) (if q then H.length else lo) H K
  | _=>False
 |
  o=>match vop fl lo o ρ H with
  | some (v,H')=>K v H'
  | none=>False
noncomputable def VS (fl:Fl) (lo:Nat):List PI→(cT→aA→Prop)→cT→aA→Prop
 | [],K,ρ,H=>K ρ H
 |
  i::is,K,ρ,H=>match DW i.g ρ with
  | none=>False
  | some false=>VS fl lo is K (MN ρ i.dst tB) H
  | some true=>i.cf.all (gO ρ H)=true∧eZ fl lo i.quiet i.op ρ H fun v H'=>VS fl lo is K (MN ρ i.dst v) H'
def apU:List Nat→cT→aA→Option (cT×aA)
 | [],ρ,H=>some (ρ,H)
 |
  t::ts,ρ,H=>match fz depth H (ρ t) with
  | some v=>apU ts (MN ρ (some t) v) (cZ H (iX depth H (ρ t)))
  | none=>none
def NC (r:Option VV) (H:aA) (K:VV→aA→Prop):Prop:=match r with
 | some v=>K v H
 | none=>False
def gh (K:cT→aA→Prop) (ρ:cT) (H:aA):Prop:=∃ts aP H',apU ts ρ H=some (aP,H')∧K aP H'
def nR (k:Nat) (H:aA):Bool:=H.all fun
 | .row _ es _ _=>oH k es
 | .dead=>true
def rN (k:Nat) (ρ:cT):cT:=fun t=>Mg k (ρ t)
abbrev VQ:=Ex→cT→aA→Prop
def pO (K:cT→aA→Prop) (Q:VQ):VQ
 | .normal=>K
 | x=>Q x
def tI (id:Nat) (Q:VQ):VQ
 | .exit Vv=>fun ρ H=>if Vv=id then Q .normal ρ H else Q (.exit Vv) ρ H
 | x=>Q x
def UK (body:VQ→cT→aA→Prop) (Q:VQ):Nat→cT→aA→Prop
 | 0,_,_=>False
 | n+1,ρ,H=>body (pO (fun aP H'=>UK body Q n aP H'∨(nR H.length (H'.take H.length)=true∧UK body Q n (rN H.length aP) (H'.take H.length))) Q) ρ H
noncomputable def VW (fl:Fl) (lo:Nat):aE→VQ→cT→aA→Prop
 | .skip,Q,ρ,H=>Q .normal ρ H
 | .cV ops,Q,ρ,H=>VS fl lo ops (Q .normal) ρ H
 | .seq a b,Q,ρ,H=>VW fl lo a (pO (VW fl lo b Q) Q) ρ H
 |
  .cond c a b,Q,ρ,H=>match fG ρ c with
  | .sc (.bool t)=>if t=true then VW fl lo a Q ρ H else VW fl lo b Q ρ H
  | _=>False
 | .block id a,Q,ρ,H=>VW fl lo a (tI id Q) ρ H
 | .loop a,Q,ρ,H=>∃n,UK (VW fl lo a) (fun x=>gh (Q x)) n ρ H
 | .exit id,Q,ρ,H=>Q (.exit id) ρ H
 | .ret,Q,ρ,H=>Q .ret ρ H
def F3 (ρ:cT) (H:aA):Dh→Option VV
 | .tmp t=>some (ρ t)
 | .cell t agg size=>bI agg size (ρ t) H
def sK (ρ:cT) (H:aA):List Dh→Option (List VV)
 | []=>some []
 |
  r::rs=>match F3 ρ H r,sK ρ H rs with
  | some v,some vs=>some (v::vs)
  | _,_=>none
def oT (res:List Dh) (ρ:cT) (H:aA):Option VV :=
 match sK ρ H res with
 | some [v]=>some v
 | some vs=>some (.dU vs)
 | none=>none
def I9 (R:VV→aA→Prop):Option VV→aA→Prop
 | some v,H=>R v H
 | none,_=>False
def CQ (res:List Dh) (R:VV→aA→Prop):VQ
 | .exit _,_,_=>False
 | .normal,ρ,H=>I9 R (oT res ρ H) H
 | .ret,ρ,H=>I9 R (oT res ρ H) H
def LU (args:List VV):cT:=fun k=>args.getD k tB
section
variable {lo eV:Nat}
theorem Ij {V:View} (hS:SR V lo eV) {P':aJ} (hp:V.P <+: P'):SR { V with P:=P',F:=fun q=>V.F q∨(V.P.length≤q∧q<P'.length) } lo eV∧Hh lo V { V with P:=P',F:=fun q=>V.F q∨(V.P.length≤q∧q<P'.length) }:=by
 obtain⟨L,rfl⟩:=hp
 have hU:Up V { V with P:=V.P++L,F:=fun q=>V.F q∨(V.P.length≤q∧q<(V.P++L).length) }:=⟨fun _ h => .inl h,fun b hb=>aKC (hS.fr b hb),aKl _,fun b g es e w _ h=>⟨g,es,w,h,aKl _,fun _=>rfl⟩,rfl,by simp,fun b g es e w hb _=>⟨g,es,w,hb,rfl,id⟩⟩
 refine⟨⟨fun b g es e w hb => ?_,fun b g es e hb=>⟨fun hF => ?_,(hS.wr b g es e hb).2⟩,hS.inj,fun b hb => ?_,by have:=hS.WJ;simp;omega,by have:=hS.Nk;simp;omega⟩,{ hU with dB:=fun q hq _=>aKC hq,EK:=fun q hq => ?_ }⟩
 ·obtain⟨r,p,h1,h2,h3⟩:=hS.row b g es e w hb
  exact⟨r,p,by rw[←h1];exact aKC (hS.mlt hb),h2,h3.mono hU⟩
 ·rcases hF with hF | hF
  ·exact(hS.wr b g es e hb).1 hF
  ·have h1:=hS.mlt hb
   have h2:V.P.length≤V.m b:=hF.1
   omega
 ·rcases hb with hb | hb
  ·have:=hS.fr b hb
   simp;omega
  ·exact hb.2
 ·rcases hq with hq | hq
  ·exact .inl hq
  ·exact .inr (.inl hq.1)
theorem alW {V V':View} {x:VV} {v:Value} (h:VR V x v):Hn x=true→VR V' x v:=by
 induction h using VR.rec (motive_2:=fun xs vs _=>WB xs=true→VL V' xs vs) with
 | sc _ h=>intro _;exact .sc _ h
 | agg cs ps _ ih=>intro hx;exact .agg _ _ (ih hx)
 | dU cs ps _ ih=>intro hx;exact .dU _ _ (ih hx)
 | any=>intro hx;cases hx
 | oS=>intro hx;cases hx
 | tree=>intro hx;cases hx
 | cF=>intro hx;cases hx
 | ref=>intro hx;cases hx
 | ptr=>intro hx;cases hx
 | wX=>intro hx;cases hx
 | nil=>exact .nil
 |
  cons x v xs vs _ _ ih Xl =>
  rename_i hx
  simp only[WB,aKT] at hx
  exact .cons _ _ _ _ (ih hx.1) (Xl hx.2)
theorem VR.Fa {V':View} {G:Nat→Prop} {P:aJ} {x:VV} {v:Value} (hF:∀b,G b→V'.F b∧V'.P[b]? = P[b]?) (h:VR (bare G P) x v):VR V' x v:=by
 induction h using VR.rec (motive_2:=fun xs vs _=>VL V' xs vs) with
 | any=>exact .any _
 | sc _ h=>exact .sc _ h
 | agg cs ps _ ih=>exact .agg _ _ ih
 | dU cs ps _ ih=>exact .dU _ _ ih
 | oS k hk=>exact .oS k hk
 | tree es k b o c r e p Yk hb ho hc he hk _ ih=>exact .tree es k b o c r e p (hF _ Yk).1 (by rw[(hF _ Yk).2];exact hb) ho hc he hk ih
 | cF x off b o r e p Yk hb ho _ ih=>exact .cF x off b o r e p (hF _ Yk).1 (by rw[(hF _ Yk).2];exact hb) ho ih
 | ref b g o n c a n' c' bF hg ha hq=>exact absurd bF (aLC _)
 | ptr b g j off a bF hg ha hq=>exact absurd bF (aLC _)
 | wX f fU ps _ ih=>exact .wX _ _ _ ih
 | nil=>exact .nil
 | cons x v xs vs _ _ ih Xl=>exact .cons _ _ _ _ ih Xl
theorem V3 {V:View} (hS:SR V lo eV) {f asJ:Nat} (aqX:asJ≤V.P.length) {args:List VV} {eW:List Value} {G:Nat→Prop} (hG:∀b,G b→b<V.P.length) (hl:VL (bare G V.P) args eW) {K:VV→Prop} (h:IP f args K) :
  ∃P' pv r,uX f eW asJ V.P=some (pv,P')∧V.P <+: P'∧VR (bare (fun q=>G q∨(V.P.length≤q∧q<P'.length)) P') r pv∧aX r=true∧K r:=by
 unfold IP tk at h
 split at h
 ·rename_i r hr
  obtain⟨h1,h2,h3⟩:=S8 hr
  obtain⟨P',pv,h4,h5,h6⟩:=h3 G V.P eW asJ hG hl aqX
  exact⟨P',pv,r,h4,h5,h6,UY r h2,h⟩
 ·cases h
theorem JY {V:View} (hS:SR V lo eV) {f:Nat} {args:List VV} {eW:List Value} (hl:VL V args eW) {q:Bool} {K:VV→aA→Prop} (h:dH f args (if q then V.H.length else lo) V.H K):Sd lo eV V (uX f eW (if q then V.P.length else eV) V.P) K:=by
 have hlq:(if q=true then V.P.length else eV)≤V.P.length:=by split;exact aKl _;exact hS.WJ
 unfold dH at h
 split at h
 ·cases q with
  | false=>exact h V eV eW rfl hS hl
  |
   true =>
   have hS':SR V V.H.length V.P.length:=⟨hS.row,fun b g es e hb=>⟨(hS.wr b g es e hb).1,fun hl=>by have:=(aKk.1 hb).1;omega⟩,hS.inj,hS.fr,aKl _,hS.Nk⟩
   obtain⟨pv,V',r,g1,g3,g4,g5,g6⟩:=h V V.P.length eW rfl hS' hl
   refine⟨pv,V',r,g1,⟨g3.row,fun b g es e hb=>⟨(g3.wr b g es e hb).1,fun Hy => ?_⟩,g3.inj,g3.fr,aKm hS.WJ g4.G3,g3.Nk⟩,{ g4.toUp with dB:=fun p hp _=>g4.dB p hp fun b g es e hb Hy => ?_,EK:=g4.EK },g5,g6⟩
   ·rcases aKo (V'.m b) V.P.length with bF | GY
    ·obtain⟨g0,es0,w0,k1,k2,k3⟩:=g4.DM b g es e true hb bF
     have:=k3 rfl
     subst this
     rw[k2]
     exact(hS.wr _ _ _ _ k1).2 Hy
    ·exact aKm hS.WJ GY
   ·have:=(aKk.1 hb).1
    have Hy:V.H.length≤b:=Hy
    omega
 ·split at h
  ·rename_i hp
   obtain⟨P',pv,r,g1,g2,g3,g4,g5⟩:=V3 hS (asJ:=if q=true then V.P.length else eV) hlq (G:=V.F) hS.fr (VL.pure (V:=V) (V':=bare V.F V.P) (fun b hb=>⟨hb,rfl⟩) hl hp) h
   obtain⟨k1,k2⟩:=Ij hS g2
   exact⟨pv,_,r,g1,k1,k2,g3.Fa (fun b hb=>⟨hb,rfl⟩),g5⟩
  ·split at h
   case h_2=>cases h
   rename_i mB hfz
   unfold IP tk at h
   split at h
   case h_2=>cases h
   rename_i r hr
   obtain⟨h1,h2,h3⟩:=S8 hr
   split at h
   ·rename_i hfl
    have EZ:=Gs hS (G:=(· < V.P.length)) (fun q hq=>hS.fr q hq) hl hfz (fun i _ g es e w hb=>hS.mlt hb)
    obtain⟨P',pv,g1,g2,g3⟩:=h3 _ V.P eW _ (fun _ h=>h) EZ hlq
    obtain⟨k1,k2⟩:=Ij hS g2
    exact⟨pv,_,r,g1,k1,k2,alW g3 hfl,h⟩
   ·obtain⟨k1,k2,k3,k4,k5,k6⟩:=Aa (args.flatMap (iX depth V.H)) hS
    have EZ:=Gs hS (G:=(V.cZ (args.flatMap (iX depth V.H))).F) (fun q hq=>k2.F q hq) hl hfz k6
    rw[←k4] at EZ
    obtain⟨P',pv,g1,g2,g3⟩:=h3 _ _ eW _ k1.fr EZ (by rw[k4];exact hlq)
    obtain⟨j1,j2⟩:=Ij k1 g2
    rw[k4] at g1
    refine⟨pv,_,r,g1,j1,k2.trans j2,g3.Fa (fun b hb=>⟨hb,rfl⟩),?_⟩
    show K r (V.cZ (args.flatMap (iX depth V.H))).H
    rw[k3]
    exact h
def Cz (lo eV:Nat) (V:View) (c:aE) (Q:VQ) (mK:Env):Prop :=
 W eV c (fun x Qt P'=>∃V' aP,V'.P=P'∧SR V' lo eV∧Hh lo V V'∧ER V' aP Qt∧Q x aP V'.H) mK V.P
theorem JH {V:View} {ρ:cT} {mK:Env} (hE:ER V ρ mK) {g:Option (Nat×Bool)} {t:Bool} (h:DW g ρ=some t):B1 g mK=some t:=by
 unfold DW at h
 unfold B1
 split at h
 ·exact h
 ·rename_i t' want
  have ht:=hE t'
  split at h
  ·rename_i b hb
   obtain⟨e,_⟩:=uM ht hb
   simp only[e]
   exact h
  ·rename_i vs hb
   rw[hb] at ht
   generalize hu:mK t'=u at ht
   cases ht with
   | dU cs ps hl=>simp only[hu];exact h
  ·cases h
theorem Ye {V:View} (hS:SR V lo eV) {x y:VV} {u w:Value} (hx:VR V x u) (hy:VR V y w) (h:lQ V.H x y=true):aBI u w=true:=by
 have key:∀ {z:VV} {v:Value},VR V z v→(match pT V.H z with
   | .bad=>True
   | .no=>kP v=none
   | .row i wr=>kP v=some (V.m i)∧∃g es e,V.H[i]? = some (.row g es e wr)
   | .DM i=>∀q,kP v=some q→∀b' g' es e w,V.H[b']? = some (.row g' es e w)→b'≠i→V.m b'≠q
   | .tree=>∀b,kP v=some b→V.F b):=by
  intro z v hz
  cases hz with
  | any=>simp only[pT]
  | sc v h =>
      cases v<;>first | rfl | cases h | skip
      rename_i a;cases a<;>first | rfl | cases h
  | agg=>rfl
  | dU=>rfl
  | oS k hk =>
       rcases hk with rfl | rfl
       ·intro b hb;cases hb
       ·rfl
  |
   tree es k b o c r e p hF hb ho hc he hk hl =>
   cases es with
   |
    nil=>cases k with
    | nil=>exact hk.elim
    | op=>intro b' xD;cases xD;exact hF
    | cl=>intro b' xD;cases xD;exact hF
   | cons=>intro b' xD;cases xD;exact hF
  | cF x off b o r e p hF hb ho hl=>intro b' xD;cases xD;exact hF
  |
   ref b g o n c a n' c' bF hg ha hq =>
   simp only[pT]
   cases hr:aG V.H b g with
   | none=>exact fun q h=>(by
     cases a with
     | none=>cases h
     | some a0=>cases h;exact(hq a0 rfl).2.2)
   |
    some q =>
    obtain⟨es,e,wr⟩:=q
    rw[cH] at hr
    obtain⟨rfl,rfl,rfl⟩:=ha _ _ _ hr
    exact⟨rfl,g,es,e,hr⟩
  |
   ptr b g j off a bF hg ha hq =>
   simp only[pT]
   cases hr:aG V.H b g with
   | none=>exact fun q h=>(by
     cases a with
     | none=>cases h
     | some a0=>cases h;exact(hq a0 rfl).2.2)
   |
    some q =>
    obtain⟨es,e,wr⟩:=q
    rw[cH] at hr
    have:=ha _ _ _ hr
    subst this
    exact⟨rfl,g,es,e,hr⟩
  | wX=>rfl
 have kx:=key hx
 have ky:=key hy
 unfold lQ at h
 unfold aBI
 cases hbx:pT V.H x with
 | bad=>rw[hbx] at h;have h:false=true:=h;cases h
 |
  no =>
  rw[hbx] at kx
  have kx:kP u=none:=kx
  rw[kx]
 |
  DM i =>
  rw[hbx] at kx h
  have kx:∀q,kP u=some q→∀b' g' es e w,V.H[b']? = some (.row g' es e w)→b'≠i→V.m b'≠q:=kx
  cases Wa:pT V.H y with
  | bad=>rw[Wa] at h;have h:false=true:=h;cases h
  |
   no =>
   rw[Wa] at ky
   have ky:kP w=none:=ky
   rw[ky]
   cases kP u<;>rfl
  | DM j=>rw[Wa] at h;have h:false=true:=h;cases h
  | tree=>rw[Wa] at h;have h:false=true:=h;cases h
  |
   row j wj =>
   rw[Wa] at ky h
   obtain⟨k3,g2,SB,e2,k4⟩:kP w=some (V.m j)∧∃g es e,V.H[j]? = some (.row g es e wj):=ky
   have h:(i != j)=true:=h
   simp only[bne_iff_ne,ne_eq] at h
   rw[k3]
   cases hu:kP u with
   | none=>rfl
   |
    some q =>
    simp only[bne_iff_ne,ne_eq]
    exact fun hm=>kx q hu j _ _ _ _ k4 (Ne.symm h) hm.symm
 |
  row i wi =>
  rw[hbx] at kx h
  obtain⟨k1,g1,Et,e1,k2⟩:kP u=some (V.m i)∧∃g es e,V.H[i]? = some (.row g es e wi):=kx
  cases Wa:pT V.H y with
  | bad=>rw[Wa] at h;have h:false=true:=h;cases h
  |
   no =>
   rw[Wa] at ky
   have ky:kP w=none:=ky
   rw[ky]
   cases kP u<;>rfl
  |
   DM j =>
   rw[Wa] at ky h
   have ky:∀q,kP w=some q→∀b' g' es e w,V.H[b']? = some (.row g' es e w)→b'≠j→V.m b'≠q:=ky
   have h:(i != j)=true:=h
   simp only[bne_iff_ne,ne_eq] at h
   rw[k1]
   cases hw:kP w with
   | none=>rfl
   |
    some q =>
    simp only[bne_iff_ne,ne_eq]
    exact fun hm=>ky q hw i _ _ _ _ k2 h hm
  |
   row j wj =>
   rw[Wa] at ky h
   obtain⟨k3,g2,SB,e2,k4⟩:kP w=some (V.m j)∧∃g es e,V.H[j]? = some (.row g es e wj):=ky
   rw[k1,k3]
   have h:(i != j)=true:=h
   simp only[bne_iff_ne,ne_eq] at h ⊢
   exact fun hm=>h (hS.inj _ _ _ _ _ _ _ _ _ _ k2 k4 hm)
  |
   tree =>
   rw[Wa] at ky h
   have ky:∀b,kP w=some b→V.F b:=ky
   have h:wi=true:=h
   subst h
   cases hw:kP w with
   | none=>rw[k1]
   |
    some b =>
    rw[k1]
    simp only[bne_iff_ne,ne_eq]
    exact fun hm=>(hS.wr _ _ _ _ k2).1 (by rw[hm];exact ky b hw)
 |
  tree =>
  rw[hbx] at kx h
  have kx:∀b,kP u=some b→V.F b:=kx
  cases Wa:pT V.H y with
  | bad=>rw[Wa] at h;have h:false=true:=h;cases h
  |
   no =>
   rw[Wa] at ky
   have ky:kP w=none:=ky
   rw[ky]
   cases kP u<;>rfl
  | tree=>rw[Wa] at h;have h:false=true:=h;cases h
  | DM j=>rw[Wa] at h;have h:false=true:=h;cases h
  |
   row j wj =>
   rw[Wa] at ky h
   obtain⟨k1,g1,Et,e1,k2⟩:kP w=some (V.m j)∧∃g es e,V.H[j]? = some (.row g es e wj):=ky
   have h:wj=true:=h
   subst h
   cases hw:kP u with
   | none=>rfl
   |
    some b =>
    rw[k1]
    simp only[bne_iff_ne,ne_eq]
    exact fun hm=>(hS.wr _ _ _ _ k2).1 (by rw[←hm];exact kx b hw)
theorem WE {V:View} (hS:SR V lo eV) {ρ:cT} {mK:Env} (hE:ER V ρ mK) {fl:Fl} {q:Bool} {op:qF} {K:VV→aA→Prop} (h:eZ fl lo q op ρ V.H K):Sd lo eV V (lM eV q op mK V.P) K:=by
 have other:∀ {v H'},vop fl lo op ρ V.H=some (v,H')→K v H'→Sd lo eV V (lM eV q op mK V.P) K:=by
  intro v H' h1 h2
  obtain⟨pv,V',g1,g2,g3,g4,g5⟩:=abT hS hE (q:=q) h1
  exact⟨pv,V',v,g1,g3,g4,g5,by rw[g2];exact h2⟩
 unfold eZ at h
 split at h
 ·rw[aeM]
  exact JY hS (hE.evs _) h
 ·rename_i fv args
  rw[Xw]
  have hf:=hE.ev fv
  split at h
  ·rename_i f fU hfv
   rw[hfv] at hf
   generalize ev mK fv=u at hf ⊢
   cases hf with
   |
    wX f fU ps hl =>
    unfold amI
    simp only[aLD]
    exact JY hS ((hE.evs args).append hl) h
  ·cases h
 ·split at h
  ·rename_i v H' h1
   exact other h1 h
  ·cases h
theorem OH {fl:Fl} {K:cT→aA→Prop}:∀(is:List PI) {V:View} {ρ:cT} {mK:Env},SR V lo eV→ER V ρ mK→VS fl lo is K ρ V.H →
  WS eV is (fun Qt P'=>∃V' aP,V'.P=P'∧SR V' lo eV∧Hh lo V V'∧ER V' aP Qt∧K aP V'.H) mK V.P
 |
  [],V,ρ,mK,hS,hE,h=>by
  rw[azJ]
  exact⟨V,ρ,rfl,hS,Hh.refl _ _,hE,h⟩
 |
  i::is,V,ρ,mK,hS,hE,h=>by
  unfold VS at h
  rw[aAK]
  unfold BI
  split at h
  ·cases h
  ·rename_i hw
   rw[JH hE hw]
   exact⟨_,_,rfl,OH is hS (hE.put (.dU [] [] .nil)) h⟩
  ·rename_i hw
   rw[JH hE hw]
   obtain⟨TL,h⟩:=h
   have aE2:i.cf.all (CF mK)=true:=by
    rw[aKz] at TL ⊢
    intro c hc
    exact Ye hS (hE.ev c.1) (hE.ev c.2) (TL c hc)
   simp only[aE2,if_true]
   obtain⟨pv,V',v,g1,g2,g3,g4,g5⟩:=WE hS hE h
   refine⟨pv,V'.P,?_,?_⟩
   ·unfold lM at g1
    exact g1
   ·obtain⟨YT,P'',k1,Vy,BK,k2,k3,k4,k5,k6⟩:=OH is g2 ((hE.mono g3.toUp).put g4) g5
    exact⟨YT,P'',k1,Vy,BK,k2,k3,g3.trans k4,k5,k6⟩
theorem Pj:∀(ts:List Nat) {V:View} {ρ aP:cT} {mK:Env} {H':aA},SR V lo eV→ER V ρ mK→apU ts ρ V.H=some (aP,H')→∃V',V'.P=V.P∧V'.H=H'∧SR V' lo eV∧Hh lo V V'∧ER V' aP mK
 |
  [],V,ρ,aP,mK,H',hS,hE,h=>by
  cases h
  exact⟨V,rfl,rfl,hS,Hh.refl _ _,hE⟩
 |
  t::ts,V,ρ,aP,mK,H',hS,hE,h=>by
  unfold apU at h
  split at h
  case h_2=>cases h
  rename_i v hv
  obtain⟨k1,k2,k3,k4,k5,k6⟩:=Aa (iX depth V.H (ρ t)) hS
  have hx:=OP hS (G:=(V.cZ (iX depth V.H (ρ t))).F) (fun q hq=>k2.F q hq) depth (ρ t) v (mK t) (hE t) hv k6
  have I1:VR (V.cZ (iX depth V.H (ρ t))) v (mK t):=hx.Fa (fun b hb=>⟨hb,by rw[k4]⟩)
  rw[←k3] at h
  obtain⟨V',g1,g2,g3,g4,g5⟩:=Pj ts (mK:=mK) k1 (by
   have e:=(hE.mono k2.toUp).put (d:=some t) I1
   have ee:put mK (some t) (mK t)=mK:=by
    funext k
    simp only[put]
    split
    ·rename_i hk;rw[hk]
    ·rfl
   rw[ee] at e
   exact e) h
  exact⟨V',g1.trans k4,g2,g3,k2.trans g4,g5⟩
theorem V6 {V:View} (hS:SR V lo eV) {ρ:cT} {mK:Env} (hE:ER V ρ mK) {K:cT→aA→Prop} (h:gh K ρ V.H):∃V' aP,V'.P=V.P∧SR V' lo eV∧Hh lo V V'∧ER V' aP mK∧K aP V'.H:=by
 obtain⟨ts,aP,H',h1,h2⟩:=h
 obtain⟨V',g1,g2,g3,g4,g5⟩:=Pj ts hS hE h1
 exact⟨V',aP,g1,g3,g4,g5,by rw[g2];exact h2⟩
theorem OL {k:Nat} {es:List VV}:oH k es=true↔∀x∈es,below k x=true:=by
 induction es with
 | nil=>simp[oH]
 | cons x xs ih=>simp[oH,ih]
theorem FN {k:Nat} {es:List VV} (h:oH k es=true):oH k (es.flatMap aB)=true:=by
 rw[OL] at h ⊢
 intro x hx
 obtain⟨y,hy,CB⟩:=List.mem_flatMap.1 hx
 have:=h y hy
 unfold aB at CB
 split at CB
 ·exact OL.1 (by simpa[below] using this) x CB
 ·rw[aLr] at CB;subst CB;exact this
theorem Uv {k:Nat} {x:VV} (h:below k x=true):oH k (aB x)=true:=by
 have:=FN (k:=k) (es:=[x]) (by simp[oH,h])
 simpa using this
def View.B3 (V:View) (k:Nat):View:={ V with H:=V.H.take k }
theorem VR.B3 {V:View} {k:Nat} (hk:k≤V.H.length) {x:VV} {v:Value} (h:VR V x v):PM.below k x=true→VR (V.B3 k) x v:=by
 have he:∀ {b:Nat},b<k→∀y,(V.B3 k).H[b]? = some y→V.H[b]? = some y:=fun hbk y hy=>by
  have:(V.H.take k)[_]? = some y:=hy
  rw[aLE,if_pos hbk] at this
  exact this
 have hT:∀ {b:Nat} {y:fK},(V.B3 k).H[b]? = some y→V.H[b]? = some y:=fun {b y} hy=>by
  have h:(V.H.take k)[b]? = some y:=hy
  rw[aLE] at h
  split at h
  ·exact h
  ·cases h
 induction h using VR.rec (motive_2:=fun xs vs _=>oH k xs=true→VL (V.B3 k) xs vs) with
 | any=>intro _;exact .any _
 | sc _ h=>intro _;exact .sc _ h
 | agg cs ps _ ih=>intro hb;exact .agg _ _ (ih hb)
 | dU cs ps _ ih=>intro hb;exact .dU _ _ (ih hb)
 | oS k hk=>intro _;exact .oS k hk
 | tree es k b o c r e p Yk yW ho hc he hk' _ ih=>intro hb;exact .tree es k b o c r e p Yk yW ho hc he hk' (ih (FN hb))
 | cF x off b o r e p Yk yW ho _ ih=>intro hb;exact .cF x off b o r e p Yk yW ho (ih (Uv hb))
 |
  ref b g o n c a n' c' bF hg ha hq =>
  intro hb
  have hbk:b<k:=by simpa[PM.below] using hb
  exact .ref b g o n c a n' c' (by show b<(V.H.take k).length;simp;omega) (fun g' es e w hr=>hg _ _ _ _ (he hbk _ hr)) (fun es e w hr=>ha _ _ _ (he hbk _ hr)) fun a0 h=>⟨(hq a0 h).1,(hq a0 h).2.1,fun b' g' es e w hr=>(hq a0 h).2.2 b' g' es e w (hT hr)⟩
 |
  ptr b g j off a bF hg ha hq =>
  intro hb
  have hbk:b<k:=by simpa[PM.below] using hb
  exact .ptr b g j off a (by show b<(V.H.take k).length;simp;omega) (fun g' es e w hr=>hg _ _ _ _ (he hbk _ hr)) (fun es e w hr=>ha _ _ _ (he hbk _ hr)) fun a0 h=>⟨(hq a0 h).1,(hq a0 h).2.1,fun b' g' es e w hr=>(hq a0 h).2.2 b' g' es e w (hT hr)⟩
 | wX f fU ps _ ih=>intro hb;exact .wX _ _ _ (ih hb)
 | nil=>exact .nil
 |
  cons x v xs vs _ _ ih Xl =>
  rename_i hb
  simp only[oH,aKT] at hb
  exact .cons _ _ _ _ (ih hb.1) (Xl hb.2)
theorem VL.B3 {V:View} {k:Nat} (hk:k≤V.H.length) {xs:List VV} {vs:List Value} (h:VL V xs vs) (hb:oH k xs=true):VL (V.B3 k) xs vs:=by
 induction xs generalizing vs with
 | nil=>cases h;exact .nil
 |
  cons x xs ih=>cases h with
  |
   cons _ v _ vs h hs =>
   simp only[oH,aKT] at hb
   exact .cons _ _ _ _ (h.B3 hk hb.1) (ih hs hb.2)
theorem T1 {V V':View} (hS:SR V' lo eV) {ρ:cT} {mK:Env} (hE:ER V' ρ mK) (hx:Hh lo V V') (hr:nR V.H.length (V'.H.take V.H.length)=true) :
  SR (V'.B3 V.H.length) lo eV∧Hh lo V (V'.B3 V.H.length)∧ER (V'.B3 V.H.length) (rN V.H.length ρ) mK:=by
 have hk:=hx.len
 have get:∀ {b:Nat} {y:fK},(V'.B3 V.H.length).H[b]? = some y→V'.H[b]? = some y:=by
  intro b y h
  have h:(V'.H.take V.H.length)[b]? = some y:=h
  rw[aLE] at h
  split at h
  ·exact h
  ·cases h
 refine⟨⟨fun b g es e w hb => ?_,fun b g es e hb=>hS.wr b g es e (get hb),fun a b g es e w g' pJ e' w' ha hb hm=>hS.inj a b _ _ _ _ _ _ _ _ (get ha) (get hb) hm,hS.fr,hS.WJ,hS.Nk⟩,
  { F:=hx.F,P:=hx.P,len:=by show V.H.length≤(V'.H.take V.H.length).length;simp;omega,row:=fun b g es e w bF hb=>hx.row b g es e w bF (get hb),Nk:=hx.Nk,G3:=hx.G3,DM:=fun b g es e w hb hm=>hx.DM b g es e w (get hb) hm,dB:=hx.dB,EK:=hx.EK },fun t => ?_⟩
 ·obtain⟨r,p,h1,h2,h3⟩:=hS.row b g es e w (get hb)
  refine⟨r,p,h1,h2,h3.B3 hk (FN ?_)⟩
  have:=aKz.1 hr _ (aLf (show (V'.H.take V.H.length)[b]? = some _ from hb))
  exact this
 ·unfold rN Mg
  split
  ·rename_i hb
   exact(hE t).B3 hk hb
  ·exact .any _
theorem V4 {c:aE} {Q:Ex→Env→aJ→Prop} {ρ:Env} {H:aJ} (h:W eV c (aBe (fun aP H'=>W eV (.loop c) Q aP H') Q) ρ H):W eV (.loop c) Q ρ H:=by
 obtain⟨x,aP,H',h1,h2⟩:=h
 unfold W
 rw[adC,h1]
 cases x with
 |
  normal =>
  obtain⟨y,BK,Vr,h3,h4⟩:=h2
  exact⟨y,BK,Vr,h3,h4⟩
 | exit i=>exact⟨_,_,_,rfl,h2⟩
 | ret=>exact⟨_,_,_,rfl,h2⟩
theorem zO {fl:Fl}:∀(c:aE) {V:View} {ρ:cT} {mK:Env} {Q:VQ},SR V lo eV→ER V ρ mK→VW fl lo c Q ρ V.H→Cz lo eV V c Q mK
 |
  .skip,V,ρ,mK,Q,hS,hE,h=>by
  unfold Cz
  rw[azL]
  exact⟨V,ρ,rfl,hS,Hh.refl _ _,hE,h⟩
 |
  .exit id,V,ρ,mK,Q,hS,hE,h=>by
  unfold Cz
  rw[axH]
  exact⟨V,ρ,rfl,hS,Hh.refl _ _,hE,h⟩
 |
  .ret,V,ρ,mK,Q,hS,hE,h=>by
  unfold Cz
  rw[aBa]
  exact⟨V,ρ,rfl,hS,Hh.refl _ _,hE,h⟩
 |
  .cV ops,V,ρ,mK,Q,hS,hE,h=>by
  unfold Cz
  rw[aBL]
  exact OH ops hS hE h
 |
  .seq a b,V,ρ,mK,Q,hS,hE,h=>by
  unfold Cz
  rw[aBc]
  refine(zO a hS hE h).mono ?_
  rintro x Qt P' ⟨V',aP,rfl,g2,g3,g4,g5⟩
  cases x with
  |
   normal =>
   refine(zO b g2 g4 g5).mono ?_
   rintro y YT P'' ⟨Vy,BK,k1,k2,k3,k4,k5⟩
   exact⟨Vy,BK,k1,k2,g3.trans k3,k4,k5⟩
  | exit i=>exact⟨V',aP,rfl,g2,g3,g4,g5⟩
  | ret=>exact⟨V',aP,rfl,g2,g3,g4,g5⟩
 |
  .cond c a b,V,ρ,mK,Q,hS,hE,h=>by
  unfold Cz
  rw[ayS]
  unfold VW at h
  split at h
  ·rename_i t hc
   obtain⟨e,_⟩:=uM (hE.ev c) hc
   refine⟨t,e,fun ht => ?_,fun ht => ?_⟩
   ·rw[if_pos ht] at h
    exact zO a hS hE h
   ·rw[if_neg (by simp[ht])] at h
    exact zO b hS hE h
  ·cases h
 |
  .block id a,V,ρ,mK,Q,hS,hE,h=>by
  unfold Cz
  rw[atG]
  refine(zO a hS hE h).mono ?_
  rintro x Qt P' ⟨V',aP,rfl,g2,g3,g4,g5⟩
  cases x with
  | normal=>exact⟨V',aP,rfl,g2,g3,g4,g5⟩
  |
   exit i =>
   rw[Kz]
   have g5:if i=id then Q .normal aP V'.H else Q (.exit i) aP V'.H:=g5
   split at g5
   ·rename_i hi
    rw[if_pos hi]
    exact⟨V',aP,rfl,g2,g3,g4,g5⟩
   ·rename_i hi
    rw[if_neg hi]
    exact⟨V',aP,rfl,g2,g3,g4,g5⟩
  | ret=>exact⟨V',aP,rfl,g2,g3,g4,g5⟩
 |
  .loop a,V,ρ,mK,Q,hS,hE,h=>by
  obtain⟨n,h⟩:=h
  have key:∀n {V:View} {ρ:cT} {mK:Env},SR V lo eV→ER V ρ mK→UK (VW fl lo a) (fun x=>gh (Q x)) n ρ V.H→Cz lo eV V (.loop a) Q mK:=by
   intro n
   induction n with
   | zero=>intro V ρ mK _ _ h;cases h
   |
    succ n ih =>
    intro V ρ mK hS hE h
    unfold Cz
    refine V4 ?_
    refine(zO a hS hE h).mono ?_
    rintro x Qt P' ⟨V',aP,rfl,g2,g3,g4,g5⟩
    cases x with
    |
     normal =>
     rcases g5 with g5 | ⟨g5,g6⟩
     ·refine(ih g2 g4 g5).mono ?_
      rintro y YT P'' ⟨Vy,BK,k1,k2,k3,k4,k5⟩
      exact⟨Vy,BK,k1,k2,g3.trans k3,k4,k5⟩
     ·obtain⟨t1,t2,t3⟩:=T1 g2 g4 g3 g5
      refine(ih t1 t3 g6).mono ?_
      rintro y YT P'' ⟨Vy,BK,k1,k2,k3,k4,k5⟩
      exact⟨Vy,BK,k1,k2,t2.trans k3,k4,k5⟩
    |
     exit i =>
     obtain⟨Vy,BK,k1,k2,k3,k4,k5⟩:=V6 g2 g4 g5
     exact⟨Vy,BK,k1,k2,g3.trans k3,k4,k5⟩
    |
     ret =>
     obtain⟨Vy,BK,k1,k2,k3,k4,k5⟩:=V6 g2 g4 g5
     exact⟨Vy,BK,k1,k2,g3.trans k3,k4,k5⟩
  exact key n hS hE h
theorem As {V:View} (hS:SR V lo eV) {ρ:cT} {mK:Env} (hE:ER V ρ mK) {res:List Dh} {v:VV} (h:oT res ρ V.H=some v):∃pv,uC res mK V.P=some pv∧VR V v pv:=by
 have one:∀ {r:Dh} {v:VV},F3 ρ V.H r=some v→∃pv,Zw mK V.P r=some pv∧VR V v pv:=by
  intro r v h
  cases r with
  | tmp t=>cases h;exact⟨_,rfl,hE t⟩
  | cell t agg size=>exact Ov hS (hE t) h
 have all:∀ {rs:List Dh} {vs:List VV},sK ρ V.H rs=some vs→∃ps,D5 mK V.P rs=some ps∧VL V vs ps:=by
  intro rs
  induction rs with
  | nil=>intro vs h;cases h;exact⟨[],rfl,.nil⟩
  |
   cons r rs ih =>
   intro vs h
   unfold sK at h
   split at h
   ·rename_i v vs' h1 h2
    cases h
    obtain⟨pv,k1,k2⟩:=one h1
    obtain⟨ps,k3,k4⟩:=ih h2
    exact⟨pv::ps,by unfold D5;rw[k1,k3],.cons _ _ _ _ k2 k4⟩
   ·cases h
 unfold oT at h
 split at h
 ·rename_i v' hv
  cases h
  obtain⟨ps,k1,k2⟩:=all hv
  cases k2 with
  |
   cons _ pv _ _ hx Na =>
   cases Na
   exact⟨pv,by unfold uC;rw[k1],hx⟩
 ·rename_i vs gD hv
  cases h
  obtain⟨ps,k1,k2⟩:=all hv
  refine⟨.tuple ps.toArray,?_,.dU _ _ k2⟩
  unfold uC
  rw[k1]
  split
  ·rename_i pv he
   injection he with he
   subst he
   cases k2 with
   | cons x _ _ _ hx Na=>cases Na;exact absurd rfl (gD x)
  ·rename_i he
   injection he with he
   rw[he]
  ·rename_i he;cases he
 ·cases h
theorem V7 {V:View} {args:List VV} {eW:List Value} (h:VL V args eW):ER V (LU args) (acK eW):=by
 intro t
 unfold LU acK
 rw[aKi,aKi]
 cases hx:args[t]? with
 |
  none =>
  have:eW[t]? = none:=by
   rw[List.getElem?_eq_none_iff] at hx ⊢
   rw[h.length]
   exact hx
  rw[this]
  exact .dU [] [] .nil
 |
  some x =>
  obtain⟨v,h1,h2⟩:=h.get hx
  rw[h1]
  exact h2
theorem jA.walk {f:Nat} {pf:aU} {args:List VV} {H:aA} {K:VV→aA→Prop} (fl:Fl) (ht:fQ f=some pf) (ha:args.length≤pf.ntmps) (h:VW fl lo pf.body (CQ pf.res K) (LU args) H):jA f args lo H K:=by
 intro V eV eW hH hS hl
 subst hH
 obtain⟨x,Qt,P',h1,V',aP,rfl,g2,g3,g4,g5⟩:=zO pf.body hS (V7 hl) h
 have key:∃pv P'',uX f eW eV V.P=some (pv,P'')∧P''=V'.P∧∃r,VR V' r pv∧K r V'.H:=by
  refine amY ht (by rw[hl.length];exact ha) ?_
  refine⟨x,Qt,V'.P,h1,?_⟩
  cases x with
  | exit i=>exact g5.elim
  |
   normal =>
   simp only[CQ,I9] at g5
   split at g5
   ·rename_i v hv
    obtain⟨pv,k2,k3⟩:=As g2 g4 hv
    exact⟨pv,k2,rfl,v,k3,g5⟩
   ·cases g5
  |
   ret =>
   simp only[CQ,I9] at g5
   split at g5
   ·rename_i v hv
    obtain⟨pv,k2,k3⟩:=As g2 g4 hv
    exact⟨pv,k2,rfl,v,k3,g5⟩
   ·cases g5
 obtain⟨pv,P'',k1,rfl,r,k2,k3⟩:=key
 exact⟨pv,V',r,k1,g2,g3,k2,k3⟩
theorem VT.walk {f:Nat} {pf:aU} {args:List VV} {r:VV} (fl:Fl) (ht:fQ f=some pf) (ha:args.length≤pf.ntmps) (h:VW fl 0 pf.body (CQ pf.res fun v H=>fz depth H v=some r) (LU args) []):VT f args r:=by
 intro F P eW eV hF hl aqX
 have hS:SR (bare F P) 0 eV:=⟨fun b g es e w hb=>by simp[bare] at hb,fun b g es e hb=>by simp[bare] at hb,fun a b g es e w g' pJ e' w' ha=>by simp[bare] at ha,hF,aqX,aKP _⟩
 obtain⟨x,Qt,P',h1,V',aP,rfl,g2,g3,g4,g5⟩:=zO pf.body hS (V7 hl) h
 have fin:∀ {v:VV} {pv:Value},VR V' v pv→fz depth V'.H v=some r→VR (bare (fun q=>F q∨(P.length≤q∧q<V'.P.length)) V'.P) r pv:=by
  intro v pv hv hf
  refine OP g2 (fun q hq => ?_) depth v r pv hv hf fun i _ g es e w hr => ?_
  ·rcases g3.EK q hq with h | h | ⟨b,g,es,e,w,h,_⟩
   ·exact .inl h
   ·exact .inr ⟨h,g2.fr q hq⟩
   ·simp[bare] at h
  ·rcases aKo (V'.m i) P.length with bF | GY
   ·obtain⟨g0,es0,w0,k1,_⟩:=g3.DM i g es e w hr bF
    simp[bare] at k1
   ·exact .inr ⟨GY,g2.mlt hr⟩
 have key:∃pv P'',uX f eW eV P=some (pv,P'')∧P''=V'.P∧VR (bare (fun q=>F q∨(P.length≤q∧q<V'.P.length)) V'.P) r pv:=by
  refine amY ht (by rw[hl.length];exact ha) ?_
  refine⟨x,Qt,V'.P,h1,?_⟩
  cases x with
  | exit i=>exact g5.elim
  |
   normal =>
   simp only[CQ,I9] at g5
   split at g5
   ·rename_i v hv
    obtain⟨pv,k2,k3⟩:=As g2 g4 hv
    exact⟨pv,k2,rfl,fin k3 g5⟩
   ·cases g5
  |
   ret =>
   simp only[CQ,I9] at g5
   split at g5
   ·rename_i v hv
    obtain⟨pv,k2,k3⟩:=As g2 g4 hv
    exact⟨pv,k2,rfl,fin k3 g5⟩
   ·cases g5
 obtain⟨pv,P'',k1,rfl,k3⟩:=key
 refine⟨V'.P,pv,k1,?_,k3⟩
 refine⟨V'.P.drop P.length,List.ext_getElem? fun i => ?_⟩
 rcases aKo i P.length with hi | hi
 ·rw[aKC hi]
  exact(g3.dB i hi fun b g es e hb=>by simp[bare] at hb).symm
 ·rw[aKD hi,List.getElem?_drop,show P.length+(i-P.length)=i by omega]
end
end Go.PM
namespace Go.PM
section
variable {fl:Fl} {lo:Nat} {ρ:cT} {H:aA} {Q:VQ} {K:cT→aA→Prop} {k:VV→aA→Prop} {a b:aE} {d:Option Nat} {is:List PI} {q:Bool} {op:qF}
def UQ (fl:Fl) (lo:Nat) (d:Option Nat) (is:List PI) (K:cT→aA→Prop) (ρ:cT):VV→aA→Prop:=fun v H'=>VS fl lo is K (MN ρ d v) H'
def R7 (r:Option (VV×aA)) (k:VV→aA→Prop):Prop:=match r with
 | some (v,H')=>k v H'
 | none=>False
theorem Q9 {v:VV} {H':aA}:UQ fl lo d is K ρ v H'=VS fl lo is K (MN ρ d v) H':=rfl
theorem Ux {v:VV}:NC (some v) H k=k v H:=rfl
theorem Q3 {v:VV} {H':aA}:R7 (some (v,H')) k=k v H':=rfl
theorem asK {r:VV} {K:VV→Prop}:tk (some r) K=K r:=rfl
theorem aaN:VW fl lo .skip Q ρ H=Q .normal ρ H:=rfl
theorem Zz {i:Nat}:VW fl lo (.exit i) Q ρ H=Q (.exit i) ρ H:=rfl
theorem ajN:VW fl lo .ret Q ρ H=Q .ret ρ H:=rfl
theorem alI {ops:List PI}:VW fl lo (.cV ops) Q ρ H=VS fl lo ops (Q .normal) ρ H:=rfl
theorem alN:VW fl lo (.seq a b) Q ρ H=VW fl lo a (pO (VW fl lo b Q) Q) ρ H:=rfl
theorem Vk {i:Nat}:VW fl lo (.block i a) Q ρ H=VW fl lo a (tI i Q) ρ H:=rfl
theorem ZW {c:Operand} {t:Bool} (h:fG ρ c = .sc (.bool t)):VW fl lo (.cond c a b) Q ρ H=if t=true then VW fl lo a Q ρ H else VW fl lo b Q ρ H:=by
 simp only[VW,h]
theorem Ev:pO K Q .normal=K:=rfl
theorem Hj {i:Nat}:pO K Q (.exit i)=Q (.exit i):=rfl
theorem JO:pO K Q .ret=Q .ret:=rfl
theorem HM {i:Nat}:tI i Q .normal=Q .normal:=rfl
theorem FQ {i j:Nat}:tI i Q (.exit j) ρ H=if j=i then Q .normal ρ H else Q (.exit j) ρ H:=rfl
theorem O8 {i:Nat}:tI i Q .ret=Q .ret:=rfl
theorem Ju {res:List Dh} {R:VV→aA→Prop}:CQ res R .normal ρ H=I9 R (oT res ρ H) H:=rfl
theorem QX {res:List Dh} {R:VV→aA→Prop}:CQ res R .ret ρ H=I9 R (oT res ρ H) H:=rfl
theorem ND {R:VV→aA→Prop} {v:VV}:I9 R (some v) H=R v H:=rfl
theorem Ve {t:Nat}:oT [.tmp t] ρ H=some (ρ t):=rfl
theorem U4 {t u:Nat}:oT [.tmp t,.tmp u] ρ H=some (.dU [ρ t,ρ u]):=rfl
theorem N0 {t u v:Nat}:oT [.tmp t,.tmp u,.tmp v] ρ H=some (.dU [ρ t,ρ u,ρ v]):=rfl
theorem QJ:oT [] ρ H=some (.dU []):=rfl
theorem ahX:VS fl lo [] K ρ H=K ρ H:=rfl
theorem auI:VS fl lo (⟨d,op,none,q,[]⟩::is) K ρ H=eZ fl lo q op ρ H (UQ fl lo d is K ρ):=by
 simp only[VS,DW,aLF,true_and]
 rfl
theorem nH {c:Operand×Operand} {cs:List (Operand×Operand)}:VS fl lo (⟨d,op,none,q,c::cs⟩::is) K ρ H=((c::cs).all (gO ρ H)=true∧eZ fl lo q op ρ H (UQ fl lo d is K ρ)):=by
 simp only[VS,DW]
 rfl
theorem V8 {t:Nat} {want x:Bool} {cf:List (Operand×Operand)} (h:ρ t = .sc (.bool x)):VS fl lo (⟨d,op,some (t,want),q,cf⟩::is) K ρ H =
  if (x == want)=true then (cf.all (gO ρ H)=true∧eZ fl lo q op ρ H (UQ fl lo d is K ρ)) else VS fl lo is K (MN ρ d tB) H:=by
 simp only[VS,DW,h]
 cases (x == want)<;>rfl
theorem ahR {t:Nat} {want:Bool} (h:ρ t = .sc (.bool want)):VS fl lo (⟨d,op,some (t,want),q,[]⟩::is) K ρ H=eZ fl lo q op ρ H (UQ fl lo d is K ρ):=by
 rw[V8 h]
 simp
theorem auV {t:Nat} {want:Bool} {cf:List (Operand×Operand)} (h:ρ t = .sc (.bool (!want))):VS fl lo (⟨d,op,some (t,want),q,cf⟩::is) K ρ H=VS fl lo is K (MN ρ d tB) H:=by
 rw[V8 h]
 cases want<;>rfl
theorem YW {c:Operand} (h:fG ρ c = .sc (.bool true)):VW fl lo (.cond c a b) Q ρ H=VW fl lo a Q ρ H:=by
 rw[ZW h,if_pos rfl]
theorem Wk {c:Operand} (h:fG ρ c = .sc (.bool false)):VW fl lo (.cond c a b) Q ρ H=VW fl lo b Q ρ H:=by
 rw[ZW h,if_neg (by decide)]
theorem Lx {t:Nat} {want:Bool} {cf:List (Operand×Operand)} (h:ρ t=tB):VS fl lo (⟨d,op,some (t,want),q,cf⟩::is) K ρ H=VS fl lo is K (MN ρ d tB) H:=by
 simp only[VS,DW,h,tB]
theorem zI {d t:Nat} {v:VV}:MN ρ (some d) v t=if t=d then v else ρ t:=rfl
theorem RX {v:VV}:MN ρ none v=ρ:=rfl
theorem ZQ {t:Nat}:fG ρ (.tmp t)=ρ t:=rfl
theorem RB {v:Value}:fG ρ (.const v)=inj v:=rfl
theorem TS {f:Nat}:fG ρ (.func f) = .wX f []:=rfl
theorem ZG {k:IntKind} {n:Int}:inj (.int k n) = .sc (.int k n):=rfl
theorem Ug {t:Bool}:inj (.bool t) = .sc (.bool t):=rfl
theorem YO {s:ByteArray}:inj (.string s) = .sc (.string s):=rfl
theorem Zo:inj (.slice none 0 0) = .tree [] .nil:=rfl
theorem Z8 {cs:Array Value}:inj (.agg cs) = .agg (cs.toList.map kZ):=rfl
theorem UD {k:IntKind} {n:Int}:kZ (.int k n) = .sc (.int k n):=rfl
theorem Ru {t:Bool}:kZ (.bool t) = .sc (.bool t):=rfl
theorem Vs {s:ByteArray}:kZ (.string s) = .sc (.string s):=rfl
theorem UF:kZ (.slice none 0 0) = .tree [] .nil:=rfl
theorem alR {x:Operand}:eZ fl lo q (.mv x) ρ H k=k (fG ρ x) H:=rfl
theorem jK {r:Option VV}:(match r.map (fun v=>(v,H)) with | some (v,H')=>k v H' | none=>False)=NC r H k:=by cases r<;>rfl
theorem Uc {c x y:Operand}:eZ fl lo q (.pick c x y) ρ H k=NC (TT (fG ρ c) (fG ρ x) (fG ρ y)) H k:=jK
theorem Zx {o:BinOp} {x y:Operand}:eZ fl lo q (.bin o x y) ρ H k=NC (Lc (dK o) (fG ρ x) (fG ρ y)) H k:=jK
theorem ZD {n:Bool} {x y:Operand}:eZ fl lo q (.eqb n x y) ρ H k=NC (Lc (PT n) (fG ρ x) (fG ρ y)) H k:=jK
theorem QR {n:Bool} {x:Operand}:eZ fl lo q (.isnil n x) ρ H k=NC (F2 n (fG ρ x) H) H k:=jK
theorem RF {n:Bool} {ks:List CK} {x y:Operand}:eZ fl lo q (.eqagg n ks x y) ρ H k=NC (XX n ks (fG ρ x) (fG ρ y)) H k:=jK
theorem anI {o:UnOp} {x:Operand}:eZ fl lo q (.un o x) ρ H k=NC (Oz (pun o) (fG ρ x)) H k:=jK
theorem Zn {o:IntKind} {x:Operand}:eZ fl lo q (.cvt o x) ρ H k=NC (Oz (X6 o) (fG ρ x)) H k:=jK
theorem Za {x:Operand}:eZ fl lo q (.cvs x) ρ H k=NC (Oz abA (fG ρ x)) H k:=jK
theorem Z9 {x:Operand} {i:Nat}:eZ fl lo q (.ext x i) ρ H k=NC (ahZ i (fG ρ x)) H k:=jK
theorem ZR {g:Bool} {off size:Nat} {x:Operand}:eZ fl lo q (.fld g off size x) ρ H k=NC (aqS g off size (fG ρ x)) H k:=jK
theorem R4 {z:List Value} {places:List (Nat×Nat)} {parts:List (Nat×Operand)}:eZ fl lo q (.build z places parts) ρ H k=NC ((A7 places (z.map kZ) (parts.map fun(i,x)=>(i,fG ρ x))).map .agg) H k:=by
 show (match (A7 places (z.map kZ) (parts.map fun(i,x)=>(i,fG ρ x))).map fun cs=>(VV.agg cs,H) with | some (v,H')=>k v H' | none=>False)=_
 cases A7 places (z.map kZ) (parts.map fun(i,x)=>(i,fG ρ x))<;>rfl
theorem ZU {x:Operand}:eZ fl lo q (.chk x) ρ H k=NC (Qg (fG ρ x) H) H k:=jK
theorem QC {off:Nat} {x:Operand}:eZ fl lo q (.faddr off x) ρ H k=NC (yM off (fG ρ x) H) H k:=jK
theorem Rz {size:Nat} {x i:Operand}:eZ fl lo q (.iaddr size x i) ρ H k=NC (bJ size (fG ρ x) (fG ρ i) H) H k:=jK
theorem U5 {x i:Operand}:eZ fl lo q (.sidx x i) ρ H k=NC (Lc JL (fG ρ x) (fG ρ i)) H k:=jK
theorem TZ {x:Operand} {l h:Option Operand}:eZ fl lo q (.ssub x l h) ρ H k=NC (zB (fG ρ x) (l.map (fG ρ)) (h.map (fG ρ))) H k:=jK
theorem TV {f:Nat} {fU:List Operand}:eZ fl lo q (.mkfn f fU) ρ H k=k (.wX f (fU.map (fG ρ))) H:=rfl
theorem Zl {x:Operand}:eZ fl lo q (.len x) ρ H k=NC (rC (fG ρ x) H) H k:=jK
theorem U6 {x:Operand}:eZ fl lo q (.slen x) ρ H k=NC (Oz Ak (fG ρ x)) H k:=jK
theorem Y0 {x y:Operand}:eZ fl lo q (.min x y) ρ H k=NC (Lc Vx (fG ρ x) (fG ρ y)) H k:=jK
theorem aaD {x y:Operand}:eZ fl lo q (.max x y) ρ H k=NC (Lc Vn (fG ρ x) (fG ρ y)) H k:=jK
theorem Ww {g:Bool} {size:Nat} {p:Operand}:eZ fl lo q (.load g size p) ρ H k=NC (bI g size (fG ρ p) H) H k:=jK
theorem Y5 {size:Nat} {x:Operand} {l h m:Option Operand}:eZ fl lo q (.sub size x l h m) ρ H k=NC (GQ size (fG ρ x) (l.map (fG ρ)) (h.map (fG ρ)) (m.map (fG ρ)) H) H k:=jK
theorem aaB {z:List Value}:eZ fl lo q (.new z) ρ H k=R7 (if (z.map kZ).all bL then some (.ptr H.length 0 0 0,H++[.row 0 [elemOf (z.map kZ)] z.length true]) else none) k:=rfl
theorem ZP {x:Operand}:eZ fl lo q (.box x) ρ H k=R7 (if (aB (fG ρ x)).all bL then (if fl.bf then some (.cF (fG ρ x) 0,H) else some (.ptr H.length 0 0 0,H++[.row 0 [fG ρ x] (aB (fG ρ x)).length true])) else none) k:=rfl
theorem Wx {z:List Value} {bytes:Nat} {l c:Operand}:eZ fl lo q (.make z bytes l c) ρ H k=R7 (if (z.map kZ).all bL then Bc z bytes (fG ρ l) (fG ρ c) H else none) k:=rfl
theorem ZO {z:List Value} {n:Nat} {parts:List (Nat×Operand)}:eZ fl lo q (.lit z n parts) ρ H k=R7 (oD fl.lr z n (parts.map fun(i,x)=>(i,fG ρ x)) H) k:=rfl
def Z5 (r:Option aA) (k:VV→aA→Prop):Prop:=match r with
 | some H'=>k tB H'
 | none=>False
theorem NR {H':aA}:Z5 (some H') k=k tB H':=rfl
theorem QB {r:Option aA}:(match r.map (fun H'=>(tB,H')) with | some (v,H')=>k v H' | none=>False)=Z5 r k:=by cases r<;>rfl
theorem Rl {size:Nat} {p v:Operand}:eZ fl lo q (.store size p v) ρ H k=Z5 (bK lo size (fG ρ p) (fG ρ v) H) k:=QB
def aCe (lo size bytes:Nat) (x:VV) (new:Option (List VV)) (H:aA) (k:VV→aA→Prop):Prop:=match new with
 | some new=>R7 (dI lo size bytes x new H) k
 | none=>False
theorem QT {size bytes:Nat} {x:VV} {new:List VV}:aCe lo size bytes x (some new) H k=R7 (dI lo size bytes x new H) k:=rfl
theorem Z1 {size bytes:Nat} {x y:Operand}:eZ fl lo q (.app size bytes x y) ρ H k=aCe lo size bytes (fG ρ x) (dF size (fG ρ y) H) H k:=by
 show (match (match dF size (fG ρ y) H with | some new=>dI lo size bytes (fG ρ x) new H | none=>none) with | some (v,H')=>k v H' | none=>False)=_
 cases dF size (fG ρ y) H<;>rfl
theorem Wn {size:Nat} {x y:Operand}:eZ fl lo q (.copy size x y) ρ H k=R7 (Ml lo size (fG ρ x) (fG ρ y) H) k:=rfl
theorem Rj {z:List Value} {x:Operand}:eZ fl lo q (.clear z x) ρ H k=Z5 (To lo z (fG ρ x) H) k:=QB
theorem WA {f:Nat} {args:List Operand}:eZ fl lo q (.call f args) ρ H k=dH f (args.map (fG ρ)) (if q then H.length else lo) H k:=rfl
noncomputable def X0 (x:VV) (args:List VV) (lo:Nat) (H:aA) (k:VV→aA→Prop):Prop:=match x with
 | .wX f fU=>dH f (args++fU) lo H k
 | _=>False
theorem DX {f:Nat} {fU args:List VV}:X0 (.wX f fU) args lo H k=dH f (args++fU) lo H k:=rfl
theorem Ro {fv:Operand} {args:List Operand}:eZ fl lo q (.callv fv args) ρ H k=X0 (fG ρ fv) (args.map (fG ρ)) (if q then H.length else lo) H k:=by
 simp only[eZ,X0]
 all_goals (cases fG ρ fv<;>rfl)
theorem aaL {x:Operand}:eZ fl lo q (.b2s x) ρ H k=R7 (vop fl lo (.b2s x) ρ H) k:=rfl
theorem aaK {f:Value→Option Value} {x:Value}:Oz f (.sc x)=(f x).map .sc:=rfl
theorem ZT {f:Value→Value→Option Value} {x y:Value}:Lc f (.sc x) (.sc y)=(f x y).map .sc:=rfl
theorem U1 {t:Bool} {x y:VV}:TT (.sc (.bool t)) x y=some (if t=true then x else y):=rfl
theorem T0 {vs:List VV} {i:Nat}:ahZ i (.dU vs)=vs[i]? := rfl
theorem Rf {es:List VV} {t:TK}:rC (.tree es t) H=some (.sc (.int .i64 es.length)):=rfl
theorem eK {b g o n c:Nat} {r:List VV×Nat×Bool} (h:aG H b g=some r):rC (.ref b g o n c) H=some (.sc (.int .i64 n)):=by
 simp only[rC,h,aLG]
theorem Vb {x:VV} {o off:Nat}:yM off (.cF x o) H=some (.cF x (o+off)):=rfl
theorem JU {b g j o off:Nat} {r:List VV×Nat×Bool} (h:aG H b g=some r):yM off (.ptr b g j o) H=some (.ptr b g j (o+off)):=by
 simp only[yM,h,aLG]
theorem ajW {x:VV} {o:Nat}:Qg (.cF x o) H=some (.cF x o):=rfl
theorem Nr {g:Bool} {size o:Nat} {x:VV}:bI g size (.cF x o) H=dP g size x o:=rfl
theorem Tf {g:Bool} {size b gn j o:Nat} {es:List VV} {e:Nat} {w:Bool} {x:VV} (h:aG H b gn=some (es,e,w)) (hx:es[j]? = some x):bI g size (.ptr b gn j o) H=dP g size x o:=by
 simp only[bI,h,hx]
theorem aiW {size:Nat} {v:Value}:dP false size (.sc v) 0=some (.sc v):=rfl
theorem aaC {size:Nat} {es:List VV} {t:TK}:dP false size (.tree es t) 0=some (.tree es t):=rfl
theorem amS {size b g o n c:Nat}:dP false size (.ref b g o n c) 0=some (.ref b g o n c):=rfl
theorem ajR {size f:Nat} {fU:List VV}:dP false size (.wX f fU) 0=some (.wX f fU):=rfl
theorem dT {size o:Nat} {cs:List VV}:dP false size (.agg cs) o=cs[o]? := rfl
theorem ahP {size:Nat} {cs:List VV} (h:cs.length=size):dP true size (.agg cs) 0=some (.agg cs):=by
 subst h
 simp[dP,aB]
theorem amZ {size:Nat} {es:List VV} {t:TK} {kk:IntKind} {i:Int} {x:VV} (h0:0≤i) (hx:es[i.toNat]? = some x) (hs:(aB x).length=size):bJ size (.tree es t) (.sc (.int kk i)) H=some (.cF x 0):=by
 simp only[bJ,h0,hx,hs,if_true]
theorem aeC {size:Nat} {es:List VV} {t:TK} {kk:IntKind} {i:Nat} {x:VV} (hx:es[i]? = some x) (hs:(aB x).length=size):bJ size (.tree es t) (.sc (.int kk (i:Int))) H=some (.cF x 0) :=
 amZ (by omega) (by simpa using hx) hs
theorem ahB {size b g o n c:Nat} {kk:IntKind} {i:Int} {es:List VV} {w:Bool} (h:aG H b g=some (es,size,w)) (h0:0≤i) (h1:i<n):bJ size (.ref b g o n c) (.sc (.int kk i)) H=some (.ptr b g (o+i.toNat) 0):=by
 simp only[bJ,h]
 rw[if_pos ⟨trivial,h0,h1⟩]
theorem aeY {size b g o n c:Nat} {kk:IntKind} {i:Nat} {es:List VV} {w:Bool} (h:aG H b g=some (es,size,w)) (h1:i<n):bJ size (.ref b g o n c) (.sc (.int kk (i:Int))) H=some (.ptr b g (o+i) 0):=by
 rw[ahB h (by omega) (by omega),aLH]
abbrev TC (f:Nat) (args:List VV) (r:VV):Prop:=∀(lo:Nat) (H:aA) (k:VV→aA→Prop),dH f args lo H k=k r H
theorem TC.of {f:Nat} {args:List VV} {r:VV} (hr:Fm.contains f=false) (ha:aO args=true) (h:vT f args=some r):TC f args r:=by
 intro lo H k
 unfold dH IP
 simp only[hr,ha,if_true,h,aKX,if_false,asK]
theorem TC.walk {f:Nat} {pf:aU} {args:List VV} {r:VV} (fl:Fl) (ht:fQ f=some pf) (hr:Fm.contains f=false) (hn:args.length≤pf.ntmps) (ha:aO args=true) (XV:gW r=true) (h:VW fl 0 pf.body (CQ pf.res fun v H=>fz depth H v=some r) (LU args) []):TC f args r :=
 TC.of hr ha (auT ha XV (VT.walk fl ht hn h))
theorem TC.Dg {f:Nat} {args mB:List VV} {r:VV} (h:TC f mB r) (hr:Fm.contains f=false) (ha':aO mB=true) (hf:args.mapM (fz depth H)=some mB) (ha:aO args=false):dH f args lo H k=if Hn r=true then k r H else k r (cZ H (args.flatMap (iX depth H))):=by
 have e:∀K,IP f mB K=K r:=fun K=>by
  have:=h 0 [] fun r _=>K r
  unfold dH at this
  simpa only[hr,ha',if_true,aKX,if_false] using this
 unfold dH
 simp only[hr,ha,hf,aKX,if_false]
 rw[e]
theorem aL {n:Nat} {v:VV} (h:aX v=true):fz (n+1) H v=some v:=by
 unfold PM.fz
 rw[if_pos h]
theorem aH {v:VV} (h:aX v=true):fz depth H v=some v:=aL h
theorem mapM_pure {n:Nat}:∀ {es:List VV},aO es=true→es.mapM (PM.fz (n+1) H)=some es
 | [],_=>rfl
 |
  x::xs,h=>by
  simp only[aO,aKT] at h
  rw[aLI,aL h.1,mapM_pure h.2]
  rfl
theorem HN {b g n c e:Nat} {es:List VV} {w:Bool} (h:aG H b g=some (es,e,w)) (hn:n=es.length) (hc:n≤c) (hp:aO es=true):fz depth H (.ref b g 0 n c)=some (.tree es .op):=by
 have:aX (.ref b g 0 n c)=false:=rfl
 show fz (7+1) H _=_
 unfold PM.fz
 simp only[this,h,aKX,if_false]
 subst hn
 rw[if_pos ⟨by omega,hc⟩,aLx,List.take_length,mapM_pure hp]
 rfl
theorem D2 {n:Nat} {v:VV} (h:aX v=true):iX n H v=[]:=by
 cases n with
 | zero=>rfl
 | succ n=>unfold iX;rw[if_pos h]
theorem AB {n:Nat}:∀ {es:List VV},aO es=true→es.flatMap (iX n H)=[]
 | [],_=>rfl
 |
  x::xs,h=>by
  simp only[aO,aKT] at h
  rw[List.flatMap_cons,D2 h.1,AB h.2]
  rfl
theorem KH {b g n c e:Nat} {es:List VV} {w:Bool} (h:aG H b g=some (es,e,w)) (hn:n=es.length) (hp:aO es=true):iX depth H (.ref b g 0 n c)=[b]:=by
 have:aX (.ref b g 0 n c)=false:=rfl
 show iX (7+1) H _=_
 unfold iX
 simp only[this,h,aKX,if_false]
 subst hn
 rw[aLx,List.take_length,AB hp]
theorem YN {r:Option VV} {K K':VV→Prop} (hk:∀v,K v→K' v) (h:tk r K):tk r K':=by
 cases r with
 | none=>exact h
 | some v=>exact hk _ h
theorem Md {f:Nat} {args:List VV} {k k':VV→aA→Prop} (hk:∀v H,k v H→k' v H) (h:dH f args lo H k):dH f args lo H k':=by
 unfold dH at h ⊢
 split at h
 ·rename_i h1
  rw[if_pos h1]
  exact h.mono hk
 ·rename_i h1
  rw[if_neg h1]
  split at h
  ·rename_i h2
   rw[if_pos h2]
   exact YN (fun v=>hk v H) h
  ·rename_i h2
   rw[if_neg h2]
   split at h
   ·refine YN (fun v hv => ?_) h
    split at hv
    ·rename_i h3;rw[if_pos h3];exact hk _ _ hv
    ·rename_i h3;rw[if_neg h3];exact hk _ _ hv
   ·cases h
theorem W9 {k k':VV→aA→Prop} (hk:∀v H,k v H→k' v H) (h:eZ fl lo q op ρ H k):eZ fl lo q op ρ H k':=by
 unfold eZ at h ⊢
 split at h
 ·exact Md hk h
 ·split at h
  ·exact Md hk h
  ·cases h
 ·split at h
  ·exact hk _ _ h
  ·cases h
theorem SP {K K':cT→aA→Prop} (hk:∀ρ H,K ρ H→K' ρ H):∀ {is:List PI} {ρ:cT} {H:aA},VS fl lo is K ρ H→VS fl lo is K' ρ H
 | [],ρ,H,h=>hk _ _ h
 |
  i::is,ρ,H,h=>by
  unfold VS at h ⊢
  split at h
  ·cases h
  ·exact SP hk h
  ·exact⟨h.1,W9 (fun v H' hv=>SP hk hv) h.2⟩
theorem tQ {K K':cT→aA→Prop} {Q Q':VQ} (hk:∀ρ H,K ρ H→K' ρ H) (hq:∀x ρ H,Q x ρ H→Q' x ρ H):∀x ρ H,pO K Q x ρ H→pO K' Q' x ρ H
 | .normal,ρ,H,h=>hk _ _ h
 | .exit _,ρ,H,h=>hq _ _ _ h
 | .ret,ρ,H,h=>hq _ _ _ h
theorem asA {K K':cT→aA→Prop} (hk:∀ρ H,K ρ H→K' ρ H) (h:gh K ρ H):gh K' ρ H:=by
 obtain⟨ts,aP,H',h1,h2⟩:=h
 exact⟨ts,aP,H',h1,hk _ _ h2⟩
theorem Az:∀ {c:aE} {Q Q':VQ} {ρ:cT} {H:aA},(∀x ρ H,Q x ρ H→Q' x ρ H)→VW fl lo c Q ρ H→VW fl lo c Q' ρ H
 | .skip,_,_,_,_,hq,h=>hq _ _ _ h
 | .exit _,_,_,_,_,hq,h=>hq _ _ _ h
 | .ret,_,_,_,_,hq,h=>hq _ _ _ h
 | .cV _,_,_,_,_,hq,h=>SP (fun ρ H=>hq .normal ρ H) h
 | .seq a b,Q,Q',_,_,hq,h=>Az (c:=a) (tQ (fun ρ H h=>Az (c:=b) hq h) hq) h
 |
  .cond c a b,Q,Q',ρ,H,hq,h=>by
  unfold VW at h ⊢
  split at h
  ·split at h
   ·rename_i h1;rw[if_pos h1];exact Az (c:=a) hq h
   ·rename_i h1;rw[if_neg h1];exact Az (c:=b) hq h
  ·cases h
 |
  .block i a,Q,Q',_,_,hq,h=>by
  refine Az (c:=a) (fun x ρ H hx => ?_) h
  cases x with
  | normal=>exact hq _ _ _ hx
  | ret=>exact hq _ _ _ hx
  |
   exit j =>
   rw[FQ] at hx ⊢
   split at hx
   ·rename_i h1;rw[if_pos h1];exact hq _ _ _ hx
   ·rename_i h1;rw[if_neg h1];exact hq _ _ _ hx
 |
  .loop a,Q,Q',ρ,H,hq,h=>by
  obtain⟨n,h⟩:=h
  refine⟨n,?_⟩
  induction n generalizing ρ H with
  | zero=>cases h
  |
   succ n ih =>
   refine Az (c:=a) (tQ (fun ρ H h => ?_) fun x ρ H h=>asA (hq x) h) h
   rcases h with h | ⟨h1,h2⟩
   ·exact .inl (ih _ _ h)
   ·exact .inr ⟨h1,ih _ _ h2⟩
theorem atT {K:cT→aA→Prop} (h:K ρ H):gh K ρ H:=⟨[],ρ,H,rfl,h⟩
theorem U9 {α:Type} {c:aE} (I:α→cT→aA→Prop) (μ:α→Nat) (s:α) (h0:I s ρ H)
  (round:∀s ρ H,I s ρ H→VW fl lo c (pO (fun aP H'=>∃s',μ s'<μ s∧(I s' aP H'∨(nR H.length (H'.take H.length)=true∧I s' (rN H.length aP) (H'.take H.length)))) (fun x=>gh (Q x))) ρ H):VW fl lo (.loop c) Q ρ H:=by
 refine⟨μ s+1,?_⟩
 have key:∀n s ρ H,μ s<n→I s ρ H→UK (VW fl lo c) (fun x=>gh (Q x)) n ρ H:=by
  intro n
  induction n with
  | zero=>intro s ρ H h;omega
  |
   succ n ih =>
   intro s ρ H hn hI
   refine Az (tQ (fun aP H' h => ?_) fun x ρ H h=>h) (round s ρ H hI)
   obtain⟨s',h1,h2 | ⟨h2,h3⟩⟩:=h
   ·exact .inl (ih s' _ _ (by omega) h2)
   ·exact .inr ⟨h2,ih s' _ _ (by omega) h3⟩
 exact key _ s ρ H (Nat.lt_succ_self _) h0
theorem aR {α:Type} {c:aE} (I:α→cT→aA→Prop) (μ:α→Nat) (s:α) (h0:I s ρ H)
  (round:∀s ρ H,I s ρ H→VW fl lo c (pO (fun aP H'=>∃s',μ s'<μ s∧I s' aP H') Q) ρ H):VW fl lo (.loop c) Q ρ H :=
 U9 I μ s h0 fun s ρ H h=>Az (tQ (fun _ _ ⟨s',h1,h2⟩=>⟨s',h1,.inl h2⟩) fun _ _ _ h=>atT h) (round s ρ H h)
theorem O6 {α:Type} {c:aE} (I:α→cT→aA→Prop) (μ:α→Nat) (s:α) (h0:I s ρ H)
  (round:∀s ρ H,I s ρ H→VW fl lo c (pO (fun aP H'=>∃s',μ s'<μ s∧nR H.length (H'.take H.length)=true∧I s' (rN H.length aP) (H'.take H.length)) Q) ρ H):VW fl lo (.loop c) Q ρ H :=
 U9 I μ s h0 fun s ρ H h=>Az (tQ (fun _ _ ⟨s',h1,h2⟩=>⟨s',h1,.inr h2⟩) fun _ _ _ h=>atT h) (round s ρ H h)
theorem N3 {n:Nat} {v:VV} (h:below n v=true):Mg n v=v:=by
 unfold Mg
 rw[if_pos h]
mutual
theorem H7 {n:Nat} (v:VV) (h:aX v=true):below n v=true:=by
 cases v with
 | any=>rfl
 | sc=>rfl
 | agg cs=>exact oO cs h
 | dU cs=>exact oO cs h
 | tree es t=>exact oO es (K0 h).2.1
 | cF x o=>exact H7 x h
 | ref=>cases h
 | ptr=>cases h
 | wX f fU=>exact oO fU h
theorem oO {n:Nat} (vs:List VV) (h:aO vs=true):oH n vs=true:=by
 cases vs with
 | nil=>rfl
 |
  cons x xs =>
  simp only[aO,aKT] at h
  simp only[oH,H7 x h.1,oO xs h.2,aLJ]
end
end
end Go.PM
namespace Go.PM
def val (b:Nat):List Nat→Nat
 | []=>0
 | d::ds=>d+b*val b ds
def aD (b n:Nat):List Nat:=if h:n=0∨b<2 then [] else n % b::aD b (n / b)
termination_by n
decreasing_by exact aLK (by omega) (by omega)
section
variable {b:Nat}
theorem cD:aD b 0=[]:=by rw[aD];simp
theorem kO (hb:2≤b) {n:Nat} (hn:n≠0):aD b n=n % b::aD b (n / b):=by rw[aD,dif_neg (by omega)]
theorem vI {d:Nat} {ds:List Nat}:val b (d::ds)=d+b*val b ds:=rfl
theorem Bw (xs ys:List Nat):val b (xs++ys)=val b xs+b^xs.length*val b ys:=by
 induction xs with
 | nil=>simp[val]
 |
  cons x xs ih =>
  simp only[aLL,vI,ih,aKv,aLM]
  rw[Nat.mul_add,aLN (b^xs.length) b,Nat.mul_assoc,Nat.add_assoc]
theorem val_one (d:Nat):val b [d]=d:=by simp[val]
theorem wM (xs:List Nat) (d:Nat):val b (xs++[d])=val b xs+b^xs.length*d:=by rw[Bw,val_one]
theorem uZ (n:Nat):val b (aLb n 0)=0:=by
 induction n with
 | zero=>rfl
 | succ n ih=>simp[aLv,val,ih]
theorem rI {xs:List Nat} (h:∀d∈xs,d<b):val b xs<b^xs.length:=by
 induction xs with
 | nil=>simp[val]
 |
  cons x xs ih =>
  have h1:=h x aKV
  have h2:=ih fun d hd=>h d (aKU _ hd)
  simp only[vI,aKv,aLM]
  have h3:b*(val b xs+1)≤b*b^xs.length:=Nat.mul_le_mul_left _ h2
  rw[Nat.mul_add,Nat.mul_one] at h3
  rw[aLN (b^xs.length) b]
  omega
theorem cI (hb:2≤b) (n:Nat):val b (aD b n)=n:=by
 induction n using aLO with
 |
  _ n ih =>
  by_cases h:n=0
  ·subst h;rw[cD];rfl
  ·rw[kO hb h,vI,ih _ (aLK (by omega) (by omega))]
   exact Nat.mod_add_div n b
theorem gF (hb:2≤b) (n:Nat):∀d∈aD b n,d<b:=by
 induction n using aLO with
 |
  _ n ih =>
  by_cases h:n=0
  ·subst h;rw[cD];intro d hd;cases hd
  ·rw[kO hb h]
   intro d hd
   rcases aLz.1 hd with rfl | hd
   ·exact Nat.mod_lt _ (by omega)
   ·exact ih _ (aLK (by omega) (by omega)) d hd
theorem oF (hb:2≤b) {n:Nat}:aD b n=[]↔n=0:=by
 constructor
 ·intro h
  have:=cI hb n
  rw[h] at this
  exact this.symm
 ·rintro rfl;exact cD
theorem QP (hb:2≤b) (n:Nat):(aD b n).getLast? ≠ some 0:=by
 induction n using aLO with
 |
  _ n ih =>
  by_cases h:n=0
  ·subst h;rw[cD];simp
  ·rw[kO hb h]
   have h1:=ih _ (aLK (n:=n) (k:=b) (by omega) (by omega))
   by_cases h2:n / b=0
   ·rw[h2,cD]
    have:n<b:=by
     rcases Nat.div_eq_zero_iff.1 h2 with h | h<;>omega
    simp[aLP this,h]
   ·have gD:aD b (n / b)≠[]:=fun h=>h2 ((oF hb).1 h)
    obtain⟨x,xs,hx⟩:=aLQ gD
    rw[hx] at h1 ⊢
    rw[aLR]
    exact h1
theorem On (hb:2≤b) {xs:List Nat} (h:∀d∈xs,d<b) (hl:xs.getLast? ≠ some 0):aD b (val b xs)=xs:=by
 induction xs with
 | nil=>exact cD
 |
  cons x xs ih =>
  have h1:=h x aKV
  have hr:(x+b*val b xs) % b=x:=by rw[Nat.add_mul_mod_self_left,aLP h1]
  have hq:(x+b*val b xs) / b=val b xs:=by rw[Nat.add_mul_div_left _ _ (by omega),aLS h1,aLT]
  cases xs with
  |
   nil =>
   have hx:x≠0:=by rintro rfl;simp at hl
   rw[val_one,kO hb hx,aLP h1,aLS h1,cD]
  |
   cons y ys =>
   rw[aLR] at hl
   have h2:=ih (fun d hd=>h d (aKU _ hd)) hl
   have h3:val b (y::ys)≠0:=fun h0=>by rw[h0,cD] at h2;cases h2
   have h4:b*val b (y::ys)≠0:=Nat.mul_ne_zero (by omega) h3
   rw[vI,kO hb (by omega),hr,hq,h2]
theorem Ns (hb:2≤b) {n:Nat} (hn:n≠0):b^((aD b n).length-1)≤n:=by
 induction n using aLO with
 |
  _ n ih =>
  rw[kO hb hn]
  by_cases h2:n / b=0
  ·rw[h2,cD];simp;omega
  ·have h3:=ih _ (aLK (by omega) (by omega)) h2
   have gD:aD b (n / b)≠[]:=fun h=>h2 ((oF hb).1 h)
   obtain⟨x,xs,hx⟩:=aLQ gD
   rw[hx] at h3 ⊢
   simp only[aKv,Nat.add_sub_cancel] at h3 ⊢
   rw[aLM]
   calc b^xs.length*b≤n / b*b:=aKM _ h3
    _≤n:=Nat.div_mul_le_self n b
theorem iO (hb:2≤b) (n:Nat):n<b^(aD b n).length:=by
 have:=rI (gF hb n)
 rwa [cI hb] at this
theorem oN (hb:2≤b) {n k:Nat} (h:n<b^k):(aD b n).length≤k:=by
 by_cases hn:n=0
 ·subst hn;rw[cD];simp
 ·have h1:=Ns hb hn
  have h2:b^((aD b n).length-1)<b^k:=Nat.lt_of_le_of_lt h1 h
  have h3:(aD b n).length-1<k:=(Nat.pow_lt_pow_iff_right (by omega)).1 h2
  have gD:aD b n≠[]:=fun h=>hn ((oF hb).1 h)
  have:=List.length_pos_iff.2 gD
  omega
theorem eU (hb:2≤b) {m n:Nat} (h:m≤n):(aD b m).length≤(aD b n).length :=
 oN hb (Nat.lt_of_le_of_lt h (iO hb n))
theorem sQ (xs:List Nat) (i:Nat):val b xs=val b (xs.take i)+b^(xs.take i).length*val b (xs.drop i):=by
 rw[←Bw,List.take_append_drop]
theorem bE {xs:List Nat} {i d:Nat} (h:xs[i]? = some d):val b (xs.take (i+1))=val b (xs.take i)+b^i*d:=by
 have bF:=(aKk.1 h).1
 rw[List.take_add_one,h]
 simp only[Option.toList_some]
 rw[wM,aLU,aLm (by omega)]
theorem wT {xs:List Nat} {i d:Nat} (h:xs[i]? = some d):val b (xs.drop i)=d+b*val b (xs.drop (i+1)):=by
 obtain⟨bF,he⟩:=aKk.1 h
 rw[List.drop_eq_getElem_cons bF,he,vI]
theorem Ii {P A B O c x y s q r W:Nat} (h:A+B=O+P*c) (hs:c+x+y=s) (hr:r+W*q=s):(A+P*x)+(B+P*y)=(O+P*r)+(P*W)*q:=by grind
theorem Lz {P A B O l x y r W l':Nat} (h:A+P*l=O+B) (hd:r+y+l=x+W*l'):(A+P*x)+(P*W)*l'=(O+P*r)+(B+P*y):=by grind
theorem alX {xs:List Nat} {i d:Nat} (h:i<xs.length):(xs.set i d).take (i+1)=xs.take i++[d]:=by
 rw[List.set_eq_take_append_cons_drop,if_pos h,aLV]
 simp[List.take_take,aLm (by omega:i≤xs.length),Nat.min_eq_right (by omega:i≤i+1)]
theorem fB {xs:List Nat} {i d:Nat} (h:i<xs.length):val b ((xs.set i d).take (i+1))=val b (xs.take i)+b^i*d:=by
 rw[alX h,wM,aLU,aLm (by omega)]
theorem nU {xs:List Nat} {i d:Nat} (h:∀x∈xs,x<b) (hd:d<b):∀x∈xs.set i d,x<b:=by
 intro x hx
 rcases List.mem_or_eq_of_mem_set hx with h1 | h1
 ·exact h x h1
 ·subst h1;exact hd
theorem lE {xs:List Nat} {i:Nat} (h:xs.length≤i):val b (xs.take i)=val b xs:=by rw[aLe h]
theorem Cx (hb:0<b) (n:Nat):∀x∈aLb n 0,x<b:=by
 intro x hx
 rw[aLw hx]
 exact hb
theorem adE {P x y R t:Nat} (ht:t<P) (h:x<y):t+P*(x+R)<P*(y+R):=by
 have h1:P*(x+R+1)≤P*(y+R):=Nat.mul_le_mul_left _ (by omega)
 rw[Nat.mul_add,Nat.mul_one] at h1
 omega
theorem Gt {xs ys:List Nat} {i x y:Nat} (hx:∀d∈xs,d<b) (hl:xs.length=ys.length) (hi:xs[i]? = some x) (hj:ys[i]? = some y) (hd:xs.drop (i+1)=ys.drop (i+1)) (h:x<y):val b xs<val b ys:=by
 have h1:=(aKk.1 hi).1
 have ht:(xs.take i).length=i:=by simp;omega
 have ht':(ys.take i).length=i:=by simp;omega
 have h2:=rI (b:=b) (xs:=xs.take i) fun d hd=>hx d (aLi hd)
 rw[ht] at h2
 rw[sQ xs i,sQ ys i,ht,ht',wT hi,wT hj,hd]
 have:=adE (R:=b*val b (ys.drop (i+1))) h2 h
 omega
theorem UE (hb:2≤b) {m n:Nat} (h:aD b m=aD b n):m=n:=by
 have:=congrArg (val b) h
 rwa [cI hb,cI hb] at this
def fW (a b:Nat):Int:=if a<b then -1 else if a=b then 0 else 1
theorem GK (hb:2≤b) {m n:Nat} (h:(aD b m).length<(aD b n).length):m<n:=by
 rcases aKo m n with h1 | h1
 ·exact h1
 ·have:=eU hb h1
  omega
end
end Go.PM
namespace Go.PM
abbrev VI (n:Int):VV := .sc (.int .i64 n)
abbrev VK (k:IntKind) (n:Int):VV := .sc (.int k n)
abbrev VB (t:Bool):VV := .sc (.bool t)
abbrev aC {α:Type} (f:α→VV) (xs:List α):VV := .tree (xs.map f) .op
section
variable {α:Type} {f:α→VV} {xs ys:List α} {x:α} {t:TK} {H:aA} {size i:Nat} {k:IntKind}
theorem eR:rC (.tree (xs.map f) t) H=some (VI xs.length):=by simp[rC]
theorem aI (hx:xs[i]? = some x) (hs:(aB (f x)).length=size):bJ size (.tree (xs.map f) t) (VK k (i:Int)) H=some (.cF (f x) 0) :=
 aeC (by simp[hx]) hs
theorem Ue (hs:∀x,(aB (f x)).length=size):∀y∈xs.map f,(aB y).length=size:=by
 intro y hy
 obtain⟨x,_,rfl⟩:=aLW.1 hy
 exact hs x
theorem fM (hp:∀x,aX (f x)=true):aO (xs.map f)=true:=by
 rw[CN]
 intro y hy
 obtain⟨x,_,rfl⟩:=aLW.1 hy
 exact hp x
theorem aqJ (hp:∀x,gW (f x)=true):sO (xs.map f)=true:=by
 rw[Pa]
 intro y hy
 obtain⟨x,_,rfl⟩:=aLW.1 hy
 exact hp x
theorem Zr {size:Nat} (hs:∀x,(aB (f x)).length=size):uni (xs.map f)=true:=by
 cases xs with
 | nil=>rfl
 |
  cons x xs =>
  simp only[aLX,uni,aKz]
  intro y hy
  obtain⟨z,_,rfl⟩:=aLW.1 hy
  simp[hs]
theorem mN {size:Nat} (hs:∀x,(aB (f x)).length=size) (hp:∀x,aX (f x)=true):aX (aC f xs)=true:=by
 simp only[aC,aX,fM hp,Zr hs,decide_true,aLJ]
theorem zC {size:Nat} (hs:∀x,(aB (f x)).length=size) (hp:∀x,gW (f x)=true) (he:∀x,Cl (f x)=true):gW (aC f xs)=true:=by
 have h4:(xs.map f).all Cl=true:=by
  rw[aKz]
  intro y hy
  obtain⟨z,_,rfl⟩:=aLW.1 hy
  exact he z
 simp only[aC,gW,aqJ hp,Zr hs,h4,decide_true,aLJ]
theorem aqD {es:List VV} {h:Nat} (gD:0<es.length) (hs:∀x∈es,(aB x).length=size) (hh:h≤es.length) {k2:IntKind} :
  GQ size (.tree es t) none (some (VK k2 h)) none H=some (.tree (es.take h) .op):=by
 cases es with
 | nil=>simp at gD
 |
  cons y ys =>
  have hy:=hs y aKV
  simp only[aKv] at hh
  have e1:(0:Int)≤h∧(h:Int)≤((ys.length+1:Nat):Int):=by omega
  simp only[GQ,Ig,hy,if_true,fD,e1,aLH,aK0,aKX,false_and,if_false]
  simp
theorem Ud (h:0<xs.length):0<(xs.map f).length:=by simpa using h
theorem OM {b g o n c:Nat} {es:List VV} {w:Bool} {l h:Nat} (hr:aG H b g=some (es,size,w)) (hl:l≤h) (hh:h≤c) {k1 k2:IntKind} :
  GQ size (.ref b g o n c) (some (VK k1 l)) (some (VK k2 h)) none H=some (.ref b g (o+l) (h-l) (c-l)):=by
 have e1:(0:Int)≤h∧(h:Int)≤(c:Int):=by omega
 have e2:(0:Int)≤l∧(l:Int)≤(h:Int):=by omega
 simp only[GQ,Ig,hr,if_true,fD,e1,e2,aLH,aK0,aKX,false_and,if_false]
 simp[hl]
theorem rP {b g o n c:Nat} {es:List VV} {w:Bool} {h:Nat} (hr:aG H b g=some (es,size,w)) (hh:h≤c) {k2:IntKind} :
  GQ size (.ref b g o n c) none (some (VK k2 h)) none H=some (.ref b g o h c):=by
 have e1:(0:Int)≤h∧(h:Int)≤(c:Int):=by omega
 simp only[GQ,Ig,hr,if_true,fD,e1,aLH,aK0,aKX,false_and,if_false]
 simp
theorem PZ {b g o n c:Nat} {es:List VV} {w:Bool} {l:Nat} (hr:aG H b g=some (es,size,w)) (hl:l≤n) (hn:n≤c) {k1:IntKind} :
  GQ size (.ref b g o n c) (some (VK k1 l)) none none H=some (.ref b g (o+l) (n-l) (c-l)):=by
 have e2:(0:Int)≤l∧(l:Int)≤(n:Int):=by omega
 simp only[GQ,Ig,hr,if_true,fD,e2,aLH,aK0,aKX,false_and,if_false]
 simp
theorem L8 {h:Nat} (hs:∀x,(aB (f x)).length=size) (gD:0<xs.length) (hh:h≤xs.length) {k2:IntKind} :
  GQ size (.tree (xs.map f) t) none (some (VK k2 h)) none H=some (aC f (xs.take h)):=by
 rw[aqD (Ud gD) (Ue hs) (by simpa using hh)]
 simp[aC]
theorem UP {b g e:Nat} {es:List VV} {w:Bool} {L K:aA} (h:b=L.length):aG (L ++ .row g es e w::K) b g=some (es,e,w):=by
 subst h
 simp[aG]
theorem aT {g e:Nat} {es:List VV} {w:Bool} {K:aA}:aG (.row g es e w::K) 0 g=some (es,e,w):=by simp[aG]
theorem cN {n:Nat}:(n=n+1)=False:=eq_false fun h=>by omega
theorem aiC {g g' e:Nat} {es:List VV} {w:Bool} {K:aA} (h:g'≠g):aG (.row g' es e w::K) 0 g=none:=by simp[aG,h]
theorem cB {g e:Nat} {es:List VV} {w:Bool} {K:aA}:aG (.row (g+1) es e w::K) 0 g=none:=aiC (Nat.succ_ne_self g)
theorem dZ {b g:Nat} {x:fK} {K:aA}:aG (x::K) (b+1) g=aG K b g:=by simp[aG]
theorem bA {b g o n c e:Nat} {es:List VV} {w:Bool} (h:aG H b g=some (es,e,w)) (hi:i<n):bJ e (.ref b g o n c) (VK k (i:Int)) H=some (.ptr b g (o+i) 0):=aeY h hi
theorem bR {b g j e lo:Nat} {es:List VV} {v:VV} (h:aG H b g=some (es,e,true)) (hj:j<es.length) (dQ:lo≤b) (hv:(aB v).length=e) (hs:(aB v).all bL=true):bK lo e (.ptr b g j 0) v H=some (H.set b (.row g (es.set j v) e true)):=by
 obtain⟨x,hx⟩:∃x,es[j]? = some x:=⟨_,aKs hj⟩
 simp only[bK,h,hx]
 rw[if_pos ⟨hv,dQ,hs⟩,if_pos ⟨trivial,trivial⟩]
theorem oG {z:List Value} {bytes n:Nat} (hz:elemOf (z.map kZ)=f x) (hn:n*bytes≤281474976710656) (hm:n≤9223372036854775807):Bc z bytes (VI n) (VI n) H=some (.ref H.length 0 0 n n,H++[.row 0 ((aLb n x).map f) z.length true]):=by
 simp only[Bc]
 rw[if_pos ⟨by omega,by omega,by omega,by omega⟩,hz]
 simp
theorem pW {ag w:Bool} {b gn e j o:Nat} (h:aG H b gn=some (xs.map f,e,w)) (hx:xs[j]? = some x):bI ag size (.ptr b gn j o) H=dP ag size (f x) o :=
 Tf h (by simp[hx])
theorem dN {b g j e lo:Nat} (h:aG H b g=some (xs.map f,e,true)) (hj:j<xs.length) (dQ:lo≤b) (hv:(aB (f x)).length=e) (hs:(aB (f x)).all bL=true):bK lo e (.ptr b g j 0) (f x) H=some (H.set b (.row g ((xs.set j x).map f) e true)):=by
 rw[bR h (by simpa using hj) dQ hv hs,List.map_set]
theorem ZX {b gn n c e:Nat} {es:List VV} {w:Bool} (h:aG H b gn=some (es,e,w)) (hn:n≤es.length) (hc:n≤c) (hp:aO es=true):fz depth H (.ref b gn 0 n c)=some (.tree (es.take n) .op):=by
 have:aX (.ref b gn 0 n c)=false:=rfl
 show fz (7+1) H _=_
 unfold fz
 simp only[this,h,aKX,if_false]
 have BJ:aO (es.take n)=true:=CN.2 fun x hx=>CN.1 hp x (aLi hx)
 rw[if_pos ⟨by omega,hc⟩,aLx,mapM_pure BJ]
 rfl
theorem TC.flat {fn:Nat} {args mB:List VV} {r:VV} (h:TC fn mB r) (Ci:Fm.contains fn=false) (ha':aO mB=true) (hf:args.mapM (fz depth H)=some mB) (hr:Hn r=true) :
  ∀(lo:Nat) (K:VV→aA→Prop),dH fn args lo H K=K r H:=by
 intro lo K
 cases hp:aO args with
 |
  true =>
  have:=mapM_pure (n:=7) (H:=H) hp
  rw[show fz depth H=fz (7+1) H from rfl,this] at hf
  cases hf
  exact h lo H K
 | false=>rw[h.Dg Ci ha' hf hp,hr,if_pos rfl]
theorem fz1 {v v':VV} (h:fz depth H v=some v'):[v].mapM (fz depth H)=some [v']:=by rw[aLI,h];rfl
theorem fz2 {v v' u u':VV} (h:fz depth H v=some v') (hu:fz depth H u=some u'):[v,u].mapM (fz depth H)=some [v',u']:=by rw[aLI,h,fz1 hu];rfl
theorem TC.asC {fn b gn n c e size:Nat} {w:Bool} {r:VV} (h:TC fn [aC f xs] r) (hr:aG H b gn=some (xs.map f,e,w)) (hn:n=xs.length) (hc:n≤c) (hs:∀x,(aB (f x)).length=size) (hp:∀x,aX (f x)=true) (Ci:Fm.contains fn=false) (hf:Hn r=false) :
  ∀(lo:Nat) (K:VV→aA→Prop),dH fn [.ref b gn 0 n c] lo H K=K r (cZ H [b]):=by
 intro lo K
 have e1:fz depth H (.ref b gn 0 n c)=some (aC f xs):=HN hr (by simpa using hn) hc (fM hp)
 have e2:iX depth H (.ref b gn 0 n c)=[b]:=KH hr (by simpa using hn) (fM hp)
 have e3:[VV.ref b gn 0 n c].mapM (fz depth H)=some [aC f xs]:=by rw[aLI,e1];rfl
 rw[h.Dg Ci (by simp only[aO,mN hs hp,aLJ]) e3 rfl,hf]
 simp only[aKX,if_false,List.flatMap_cons,List.flatMap_nil,e2,aLt]
theorem avF {es:List VV} {e:Nat} (hp:aO es=true):fz depth H (.tree es (.cl e))=some (.tree es .op):=by
 show fz (7+1) H _=_
 unfold fz
 have:aX (.tree es (.cl e))=false:=by simp[aX]
 simp only[this,aKX,if_false,mapM_pure hp]
 rfl
theorem akB {es:List VV} {e:Nat} (hp:aO es=true):iX depth H (.tree es (.cl e))=[]:=by
 show iX (7+1) H _=_
 unfold iX
 have:aX (.tree es (.cl e))=false:=by simp[aX]
 simp only[this,aKX,if_false,AB hp]
theorem Xg:fz depth H (.tree [] .nil)=some (.tree [] .op):=by
 show fz (7+1) H _=_
 unfold fz
 have:aX (.tree [] .nil)=false:=by simp[aX]
 simp only[this,aKX,if_false]
 rfl
theorem TC.args {fn:Nat} {args mB:List VV} {r:VV} (h:TC fn mB r) (Ci:Fm.contains fn=false) (ha':aO mB=true) (hf:args.mapM (fz depth H)=some mB) (hi:args.flatMap (iX depth H)=[]) :
  ∀(lo:Nat) (K:VV→aA→Prop),dH fn args lo H K=K r H:=by
 intro lo K
 cases hp:aO args with
 |
  true =>
  have:=mapM_pure (n:=7) (H:=H) hp
  rw[show fz depth H=fz (7+1) H from rfl,this] at hf
  cases hf
  exact h lo H K
 |
  false =>
  rw[h.Dg Ci ha' hf hp,hi]
  split<;>rfl
theorem mO {lr:Bool} {z:List Value} (hz:(z.map kZ).all bL=true):oD lr z 0 [] H=some (.ref H.length 0 0 0 0,H++[.row 0 [] z.length true]):=by
 simp[oD,yP,hz]
theorem lS {z:List Value} {v:VV} (hz:(z.map kZ).all bL=true) (hv:(aB v).length=z.length) (hs:(aB v).all bL=true):oD false z 1 [(0,v)] H=some (.tree [v] (.cl z.length),H):=by
 simp only[oD,yP,aLv,List.replicate_zero,aKv,aLY,hv,hs,and_self,if_true,aLZ,hz]
 simp[hs]
theorem aiD {z:List Value} {u v:VV} (hz:(z.map kZ).all bL=true) (hu:(aB u).length=z.length) (hus:(aB u).all bL=true) (hv:(aB v).length=z.length) (hs:(aB v).all bL=true):oD false z 2 [(0,u),(1,v)] H=some (.tree [u,v] (.cl z.length),H):=by
 simp[oD,yP,hv,hs,hu,hus,hz,aLv]
end
theorem wrap32 (n:Nat):IntKind.u32.wrap (n:Int)=((n % 4294967296:Nat):Int):=by rw[IntKind.wrap_u32];omega
theorem wrap_u64 (n:Int):IntKind.u64.wrap n=n % 18446744073709551616:=by simp[IntKind.wrap,IntKind.bits,IntKind.signed]
theorem eT (n:Nat) (h:n<18446744073709551616):IntKind.u64.wrap (n:Int)=(n:Int):=by rw[wrap_u64];omega
theorem wrapN {x:Int} (n:Nat) (h:x=n) (hn:n≤9223372036854775807):IntKind.i64.wrap x=(n:Int):=by subst h;exact wrap64 (by omega) (by omega)
theorem qV (n:Nat) (k:IntKind):dK .shr (.int .u64 (n:Int)) (.int k 32)=some (.int .u64 ((n / 4294967296:Nat):Int)):=by
 simp only[dK]
 have h1:¬((32:Int)<0):=by decide
 have h2:Nat.min (Int.toNat 32) IntKind.u64.bits=32:=by decide
 rw[if_neg h1,h2]
 congr 2
 rw[Int.fdiv_eq_ediv_of_nonneg _ (by decide)]
 omega
theorem Gz (n:Nat) (k:IntKind) (h:n<4294967296):dK .shl (.int .u64 (n:Int)) (.int k 32)=some (.int .u64 ((n*4294967296:Nat):Int)):=by
 simp only[dK]
 have h1:¬((32:Int)<0):=by decide
 have h2:Nat.min (Int.toNat 32) IntKind.u64.bits=32:=by decide
 rw[if_neg h1,h2]
 congr 2
 have:(n:Int)*2^32=((n*4294967296:Nat):Int):=by omega
 rw[this]
 exact eT _ (by omega)
section
variable {n k g:Nat} {K:aA} {x y:fK}
theorem Ny:aG (aLb n fK.dead++K) n g=aG K 0 g:=by
 unfold aG
 rw[aKD (by simp)]
 simp
theorem YV:aG (aLb n fK.dead++K) (n+k) g=aG K k g:=by
 unfold aG
 rw[aKD (by simp)]
 simp
theorem akS:(aLb n fK.dead++K).set n y=aLb n fK.dead++K.set 0 y:=by
 rw[aL0 _ _ (by simp)]
 simp
theorem azW:(aLb n fK.dead++K).set (n+k) y=aLb n fK.dead++K.set k y:=by
 rw[aL0 _ _ (by simp)]
 simp
theorem aAB:(aLb n fK.dead++K).length=n+K.length:=by simp
theorem arS:(aLb n fK.dead++K).take (n+k)=aLb n fK.dead++K.take k:=by
 rw[aLV]
 simp
theorem aqE:(aLb n fK.dead++K).take n=aLb n fK.dead:=by
 rw[aLV]
 simp
end
theorem Dq {k g e:Nat} {es:List VV} {w:Bool} {K:aA} (h:oH k es=true):nR k (.row g es e w::K)=nR k K:=by
 unfold nR
 rw[aLd]
 simp only[h,Bool.true_and]
theorem K1 {k:Nat}:nR k []=true:=rfl
theorem gS {size:Nat} {v:VV} {t:TK} {H:aA} (h:(aB v).length=size) (hs:(aB v).all bL=true):dF size (.tree [v] t) H=some [v]:=by
 simp[dF,h,hs]
theorem jU {α:Type} {f:α→VV} {xs:List α} {x:α} {lo b g n e bytes:Nat} {H:aA} (h:aG H b g=some (xs.map f,e,true)) (hn:n=xs.length) (dQ:lo≤b) (he:1≤e) (hb:1≤bytes) (DO:(n+1)*bytes≤140737488355328) :
  dI lo e bytes (.ref b g 0 n n) [f x] H=some (.ref b (g+1) 0 (n+1) (n+1),H.set b (.row (g+1) ((xs++[x]).map f) e true)):=by
 subst hn
 simp only[dI,h,aKv,aLY,aLT]
 rw[if_pos ⟨hb,he⟩,if_pos ⟨trivial,dQ,by simp⟩,if_neg (by omega),if_pos DO,aLx,aLe (by simp)]
 simp
section
variable {H:aA} {b g o n c j lo size:Nat} {neg ag:Bool} {k:IntKind} {i:Int} {v:VV}
theorem bS:bI ag size (.ptr b g j o) H=(match aG H b g with
 |
  some (es,_,_)=>match es[j]? with
  | some x=>dP ag size x o
  | none=>none
 | none=>none):=rfl
theorem E8:bK lo size (.ptr b g j o) v H=(match aG H b g with
 |
  some (es,e,true)=>match es[j]? with
  |
   some x =>
   if (aB v).length=size∧lo≤b∧(aB v).all bL then
    if o=0∧size=e then some (H.set b (.row g (es.set j v) e true))
    else if 2≤e∧o+size≤e then some (H.set b (.row g (es.set j (.agg (dE (aB x) o (aB v)))) e true))
    else none
   else none
  | none=>none
 | _=>none):=rfl
theorem Q5:rC (.ref b g o n c) H=(aG H b g).map fun _ => .sc (.int .i64 n):=rfl
theorem yZ:yM size (.ptr b g j o) H=(aG H b g).map fun _ => .ptr b g j (o+size):=rfl
theorem R0:Qg (.ptr b g j o) H=(aG H b g).map fun _ => .ptr b g j o:=rfl
theorem Ms:F2 neg (.ref b g o n c) H=(aG H b g).map fun _ => .sc (.bool (false != neg)):=rfl
theorem N9:F2 neg (.tree [] .nil) H=some (.sc (.bool (true != neg))):=rfl
theorem Fz {x:VV} {xs:List VV} {t:TK}:F2 neg (.tree (x::xs) t) H=some (.sc (.bool (false != neg))):=rfl
theorem Mm:bJ size (.ref b g o n c) (.sc (.int k i)) H=(match aG H b g with
 | some (_,e,_)=>if e=size∧0≤i∧i<n then some (.ptr b g (o+i.toNat) 0) else none
 | none=>none):=rfl
end
theorem I7 {v:Value}:isAny (.sc v)=false:=rfl
theorem DI {es:List VV} {t:TK}:isAny (.tree es t)=false:=rfl
theorem Gf {b g o n c:Nat}:isAny (.ref b g o n c)=false:=rfl
theorem Gp {cs:List VV}:isAny (.agg cs)=false:=rfl
theorem Rp {f:Nat} {cs:List VV}:isAny (.wX f cs)=false:=rfl
theorem uT {x:VV}:elemOf [x]=x:=rfl
theorem rH {x y:VV} {cs:List VV}:elemOf (x::y::cs) = .agg (x::y::cs):=rfl
theorem AW {k t:Nat} {ρ:cT}:rN k ρ t=Mg k (ρ t):=rfl
theorem Pg {k:Nat} {v:Value}:Mg k (.sc v) = .sc v:=rfl
theorem CL {k:Nat} {v:VV} (h:aX v=true):Mg k v=v:=N3 (H7 v h)
theorem KS {k b g o n c:Nat} (h:b<k):Mg k (.ref b g o n c) = .ref b g o n c:=N3 (by simp[below,h])
theorem VU {v:Value}:bL (.sc v)=true:=rfl
theorem NZ {es:List VV} {t:TK}:bL (.tree es t)=true:=rfl
theorem QG {b g o n c:Nat}:bL (.ref b g o n c)=true:=rfl
theorem Rb {b g o n:Nat}:bL (.ptr b g o n)=true:=rfl
theorem NN {x:VV} {o:Nat}:bL (.cF x o)=true:=rfl
theorem RZ {f:Nat} {cs:List VV}:bL (.wX f cs)=true:=rfl
theorem QE {v:Value}:aB (.sc v)=[.sc v]:=rfl
theorem N2 {cs:List VV}:aB (.agg cs)=cs:=rfl
theorem MC {es:List VV} {t:TK}:aB (.tree es t)=[.tree es t]:=rfl
theorem Oh {b g o n c:Nat}:aB (.ref b g o n c)=[.ref b g o n c]:=rfl
theorem UM {k k':IntKind} {n:Int}:X6 k (.int k' n)=some (.int k (k.wrap n)):=rfl
theorem Rm {args:List VV} {t:Nat}:LU args t=args.getD t tB:=rfl
theorem aBb {n:Nat}:LT n = .tmp n:=rfl
theorem aCl {n:Int}:LI n = .const (.int .i64 n):=rfl
theorem aCk:LG = .const (.bool true):=rfl
theorem aBS:LF = .const (.bool false):=rfl
theorem aAM {n:Nat}:LL n = .load false 1 (.tmp n):=rfl
theorem aBo {n:Nat}:LK n = .load true 3 (.tmp n):=rfl
theorem aBY {n k:Nat}:LX n k = .ext (.tmp n) k:=rfl
theorem aB2 {k n:Nat}:LA k n = .faddr k (.tmp n):=rfl
theorem aCj {d:Nat} {p:qF}:LO d p=⟨some d,p,none,false,[]⟩:=rfl
theorem aBW {d:Nat} {p:qF}:LQ d p=⟨some d,p,none,true,[]⟩:=rfl
theorem aBf {p:qF}:LN p=⟨none,p,none,false,[]⟩:=rfl
theorem aBd {d s:Nat}:LM d s=⟨some d,.mv (.tmp s),none,false,[]⟩:=rfl
theorem aAP {g d:Nat} {p:qF}:LY g d p=⟨some d,p,some (g,true),false,[]⟩:=rfl
theorem aA0 {g d:Nat} {p:qF}:LZ g d p=⟨some d,p,some (g,false),false,[]⟩:=rfl
theorem aAD {l:List PI} {c:aE}:LS l c = .seq (.cV l) c:=rfl
theorem VX:type_of% (
 aL1 @alN<|aL1 @alI<|aL1 @Vk<|aL1 @aaN<|aL1 @Zz<|aL1 @ajN<|aL1 @YW <|
 aL1 @Wk<|aL1 @Ev<|aL1 @Hj<|aL1 @JO<|aL1 @HM<|aL1 @FQ <|
 aL1 @O8<|aL1 @Ju<|aL1 @QX<|aL1 @ND<|aL1 @Ve<|aL1 @U4 <|
 aL1 @N0<|aL1 @QJ<|aL1 @ahX<|aL1 @auI<|aL1 @ahR<|aL1 @auV<|aL1 @Lx <|
 aL1 @alR<|aL1 @Uc<|aL1 @Zx<|aL1 @ZD<|aL1 @QR<|aL1 @RF<|aL1 @anI <|
 aL1 @Zn<|aL1 @Za<|aL1 @Z9<|aL1 @ZR<|aL1 @R4<|aL1 @ZU<|aL1 @QC <|
 aL1 @Rz<|aL1 @U5<|aL1 @TZ<|aL1 @TV<|aL1 @Zl<|aL1 @U6<|aL1 @Y0 <|
 aL1 @aaD<|aL1 @Ww<|aL1 @Y5<|aL1 @aaB<|aL1 @ZP<|aL1 @Wx<|aL1 @ZO <|
 aL1 @Rl<|aL1 @Z1<|aL1 @Wn<|aL1 @Rj<|aL1 @WA<|aL1 @Ro <|
 aL1 @DX<|aL1 @Q9<|aL1 @Ux<|aL1 @Q3<|aL1 @NR<|aL1 @QT <|
 aL1 @zI<|aL1 @RX<|aL1 @ZQ<|aL1 @RB<|aL1 @TS<|aL1 @ZG<|aL1 @Ug <|
 aL1 @YO<|aL1 @Zo<|aL1 @Z8<|aL1 @UD<|aL1 @Ru<|aL1 @Vs<|aL1 @UF <|
 aL1 @aaK<|aL1 @ZT<|aL1 @U1<|aL1 @T0<|aL1 @Rf<|aL1 @Vb<|aL1 @ajW <|
 aL1 @Nr<|aL1 @aiW<|aL1 @aaC<|aL1 @amS<|aL1 @ajR<|aL1 @dT<|aL1 @ahP <|
 aL1 @aL2.{0,0}<|aL1 @aLd.{0}<|aL1 @aLF.{0}<|aL1 @VU<|aL1 @aLJ <|
 aL1 @Bool.and_true<|aL1 @UM<|aL1 @Zh<|aL1 @YK<|aL1 @Ut<|aL1 @Wg <|
 aL1 @Vl<|aL1 @TU<|aL1 @Vz<|aL1 @TO<|aL1 @Wj<|aL1 @Uh<|aL1 @Ub <|
 aL1 @Ze<|aL1 @Y6<|aL1 @Value.bool.injEq<|aL1 @decide_eq_true_eq<|aL1 @decide_eq_false_iff_not <|
 aL1 @Bool.not_true<|aL1 @Bool.not_false<|aL1 @decide_true<|aL1 @decide_false<|aL1 @Bool.not_eq_true' <|
 aL1 @Bool.not_eq_false'<|aL1 @aKX<|aL1 @false_and<|aL1 @and_false<|aL1 @aLG.{0,0} <|
 aL1 @Option.map_none.{0,0}<|aL1 @if_true.{1}<|aL1 @if_false.{1}<|aL1 @aLX.{0,0}<|aL1 @List.map_nil.{0,0} <|
 aL1 @aLL.{0}<|aL1 @aLD.{0}<|aL1 @and_true<|aL1 @true_and<|aL1 @aLT <|
 aL1 @Nat.add_zero<|aL1 @aKv.{0}<|aL1 @aLY.{0}<|aL1 @Rm<|aL1 @aL3.{0} <|
 aL1 @aL4.{0}<|aL1 @List.getD_nil.{0}<|aL1 @VV.sc.injEq<|aL1 @aKF.{0} <|
 aL1 @aL5.{0}<|aL1 @NZ<|aL1 @QG<|aL1 @Rb<|aL1 @NN <|
 aL1 @RZ<|aL1 @QE<|aL1 @N2<|aL1 @MC<|aL1 @Oh<|aL1 @aBb<|aL1 @aCl <|
 aL1 @aCk<|aL1 @aBS<|aL1 @aAM<|aL1 @aBo<|aL1 @aBY<|aL1 @aB2<|aL1 @aCj<|aL1 @aBW <|
 aL1 @aBf<|aL1 @aBd<|aL1 @aAP<|aL1 @aA0 <| @aAD) :=
 aL1 @alN<|aL1 @alI<|aL1 @Vk<|aL1 @aaN<|aL1 @Zz<|aL1 @ajN<|aL1 @YW <|
 aL1 @Wk<|aL1 @Ev<|aL1 @Hj<|aL1 @JO<|aL1 @HM<|aL1 @FQ <|
 aL1 @O8<|aL1 @Ju<|aL1 @QX<|aL1 @ND<|aL1 @Ve<|aL1 @U4 <|
 aL1 @N0<|aL1 @QJ<|aL1 @ahX<|aL1 @auI<|aL1 @ahR<|aL1 @auV<|aL1 @Lx <|
 aL1 @alR<|aL1 @Uc<|aL1 @Zx<|aL1 @ZD<|aL1 @QR<|aL1 @RF<|aL1 @anI <|
 aL1 @Zn<|aL1 @Za<|aL1 @Z9<|aL1 @ZR<|aL1 @R4<|aL1 @ZU<|aL1 @QC <|
 aL1 @Rz<|aL1 @U5<|aL1 @TZ<|aL1 @TV<|aL1 @Zl<|aL1 @U6<|aL1 @Y0 <|
 aL1 @aaD<|aL1 @Ww<|aL1 @Y5<|aL1 @aaB<|aL1 @ZP<|aL1 @Wx<|aL1 @ZO <|
 aL1 @Rl<|aL1 @Z1<|aL1 @Wn<|aL1 @Rj<|aL1 @WA<|aL1 @Ro <|
 aL1 @DX<|aL1 @Q9<|aL1 @Ux<|aL1 @Q3<|aL1 @NR<|aL1 @QT <|
 aL1 @zI<|aL1 @RX<|aL1 @ZQ<|aL1 @RB<|aL1 @TS<|aL1 @ZG<|aL1 @Ug <|
 aL1 @YO<|aL1 @Zo<|aL1 @Z8<|aL1 @UD<|aL1 @Ru<|aL1 @Vs<|aL1 @UF <|
 aL1 @aaK<|aL1 @ZT<|aL1 @U1<|aL1 @T0<|aL1 @Rf<|aL1 @Vb<|aL1 @ajW <|
 aL1 @Nr<|aL1 @aiW<|aL1 @aaC<|aL1 @amS<|aL1 @ajR<|aL1 @dT<|aL1 @ahP <|
 aL1 @aL2.{0,0}<|aL1 @aLd.{0}<|aL1 @aLF.{0}<|aL1 @VU<|aL1 @aLJ <|
 aL1 @Bool.and_true<|aL1 @UM<|aL1 @Zh<|aL1 @YK<|aL1 @Ut<|aL1 @Wg <|
 aL1 @Vl<|aL1 @TU<|aL1 @Vz<|aL1 @TO<|aL1 @Wj<|aL1 @Uh<|aL1 @Ub <|
 aL1 @Ze<|aL1 @Y6<|aL1 @Value.bool.injEq<|aL1 @decide_eq_true_eq<|aL1 @decide_eq_false_iff_not <|
 aL1 @Bool.not_true<|aL1 @Bool.not_false<|aL1 @decide_true<|aL1 @decide_false<|aL1 @Bool.not_eq_true' <|
 aL1 @Bool.not_eq_false'<|aL1 @aKX<|aL1 @false_and<|aL1 @and_false<|aL1 @aLG.{0,0} <|
 aL1 @Option.map_none.{0,0}<|aL1 @if_true.{1}<|aL1 @if_false.{1}<|aL1 @aLX.{0,0}<|aL1 @List.map_nil.{0,0} <|
 aL1 @aLL.{0}<|aL1 @aLD.{0}<|aL1 @and_true<|aL1 @true_and<|aL1 @aLT <|
 aL1 @Nat.add_zero<|aL1 @aKv.{0}<|aL1 @aLY.{0}<|aL1 @Rm<|aL1 @aL3.{0} <|
 aL1 @aL4.{0}<|aL1 @List.getD_nil.{0}<|aL1 @VV.sc.injEq<|aL1 @aKF.{0} <|
 aL1 @aL5.{0}<|aL1 @NZ<|aL1 @QG<|aL1 @Rb<|aL1 @NN <|
 aL1 @RZ<|aL1 @QE<|aL1 @N2<|aL1 @MC<|aL1 @Oh<|aL1 @aBb<|aL1 @aCl <|
 aL1 @aCk<|aL1 @aBS<|aL1 @aAM<|aL1 @aBo<|aL1 @aBY<|aL1 @aB2<|aL1 @aCj<|aL1 @aBW <|
 aL1 @aBf<|aL1 @aBd<|aL1 @aAP<|aL1 @aA0 <| @aAD
theorem fT:type_of% (
 aL1 @bS<|aL1 @E8<|aL1 @Mm<|aL1 @Q5<|aL1 @yZ<|aL1 @R0 <|
 aL1 @Ms<|aL1 @N9<|aL1 @Fz<|aL1 @aT<|aL1 @dZ<|aL1 @aLZ.{0} <|
 aL1 @List.set_cons_succ.{0}<|aL1 @uT<|aL1 @rH<|aL1 @oT.eq_1<|aL1 @sK.eq_1 <|
 aL1 @sK.eq_2<|aL1 @F3.eq_1<|aL1 @F3.eq_2<|aL1 @A7.eq_1<|aL1 @A7.eq_2<|aL1 @I7 <|
 aL1 @DI<|aL1 @Gf<|aL1 @Gp<|aL1 @Rp<|aL1 @List.take_zero.{0} <|
 aL1 @aK8.{0}<|aL1 @List.take_nil.{0}<|aL1 @aLx.{0}<|aL1 @aL6.{0} <|
 aL1 @List.drop_nil.{0}<|aL1 @aLt.{0}<|aL1 @aKl<|aL1 @dE.eq_1<|aL1 @aLH <|
 aL1 @eq_self.{1}<|aL1 @ge_iff_le.{0} <| @aKT) :=
 aL1 @bS<|aL1 @E8<|aL1 @Mm<|aL1 @Q5<|aL1 @yZ<|aL1 @R0 <|
 aL1 @Ms<|aL1 @N9<|aL1 @Fz<|aL1 @aT<|aL1 @dZ<|aL1 @aLZ.{0} <|
 aL1 @List.set_cons_succ.{0}<|aL1 @uT<|aL1 @rH<|aL1 @oT.eq_1<|aL1 @sK.eq_1 <|
 aL1 @sK.eq_2<|aL1 @F3.eq_1<|aL1 @F3.eq_2<|aL1 @A7.eq_1<|aL1 @A7.eq_2<|aL1 @I7 <|
 aL1 @DI<|aL1 @Gf<|aL1 @Gp<|aL1 @Rp<|aL1 @List.take_zero.{0} <|
 aL1 @aK8.{0}<|aL1 @List.take_nil.{0}<|aL1 @aLx.{0}<|aL1 @aL6.{0} <|
 aL1 @List.drop_nil.{0}<|aL1 @aLt.{0}<|aL1 @aKl<|aL1 @dE.eq_1<|aL1 @aLH <|
 aL1 @eq_self.{1}<|aL1 @ge_iff_le.{0} <| @aKT
end Go.PM
namespace Go.PM
theorem TC.vt {f:Nat} {args:List VV} {r:VV} (h:TC f args r) (Ci:Fm.contains f=false) (hp:aO args=true):VT f args r:=by
 have h1:=h 0 [] fun x _=>x=r
 unfold dH at h1
 simp only[Ci,hp,aKX,if_false,if_true] at h1
 have h2:IP f args fun x=>x=r:=by rw[h1];trivial
 unfold IP tk at h2
 split at h2
 ·rename_i x hx
  rw[←h2]
  exact(S8 hx).2.2
 ·exact h2.elim
theorem TC.yes {f:Nat} {args:List VV} {eW:List Value} {H:aJ} (h:TC f args (.sc (.bool true))) (Ci:Fm.contains f=false) (hp:aO args=true) (hl:VL (bare (· < H.length) H) args eW) :
  ∃v H',uX f eW H.length H=some (v,H')∧v = .bool true:=by
 obtain⟨P',pv,h1,_,h2⟩:=h.vt Ci hp (· < H.length) H eW H.length (fun _ h=>h) hl (aKl _)
 cases h2
 exact⟨_,P',h1,rfl⟩
theorem VR.grow {H L:aJ} {x:VV} {v:Value} (h:VR (bare (· < H.length) H) x v):VR (bare (· < (H++L).length) (H++L)) x v :=
 h.Fa fun b hb=>⟨by show b<_;rw[aKw];omega,aKC hb⟩
end Go.PM
namespace Go.PM
mutual
def jS (n:Nat):VV→Bool
 | .any=>false
 | .sc v=>qD v
 | .agg cs=>Ap n cs
 | .dU vs=>Ap n vs
 | .tree es k=>es.isEmpty&&decide (k = .nil)
 | .cF _ _=>false
 | .ref b _ _ _ _=>decide (n≤b)
 | .ptr b _ _ _=>decide (n≤b)
 | .wX _ _=>false
def Ap (n:Nat):List VV→Bool
 | []=>true
 | x::xs=>jS n x&&Ap n xs
end
theorem zA {n:Nat} {es:List VV}:Ap n es=true↔∀x∈es,jS n x=true:=by
 induction es with
 | nil=>simp[Ap]
 | cons x xs ih=>simp[Ap,ih]
theorem aaX {n:Nat} {es:List VV} (h:Ap n es=true):Ap n (es.flatMap aB)=true:=by
 rw[zA] at h ⊢
 intro x hx
 obtain⟨y,hy,CB⟩:=List.mem_flatMap.1 hx
 have:=h y hy
 unfold aB at CB
 split at CB
 ·exact zA.1 (by simpa[jS] using this) x CB
 ·rw[aLr] at CB;subst CB;exact this
def mX (n:Nat) (L:aA):Bool:=L.all fun
 | .row _ es _ _=>Ap n es
 | .dead=>true
theorem VR.own {V V':View} {k0:Nat} (TJ:∀q,V.base≤q∧q<V.P.length→V'.base≤q∧q<V'.P.length∧∀b' g' es e w,b'<k0→V'.H[b']? = some (.row g' es e w)→V'.m b'≠q) (hl:V.H.length≤V'.H.length) (hH:∀b,k0≤b→V'.H[b]? = V.H[b]?) (hm:∀b,k0≤b→V'.m b=V.m b) {x:VV} {v:Value} (h:VR V x v):jS k0 x=true→VR V' x v:=by
 induction h using VR.rec (motive_2:=fun xs vs _=>Ap k0 xs=true→VL V' xs vs) with
 | any=>intro hx;cases hx
 | sc _ h=>intro _;exact .sc _ h
 | agg cs ps _ ih=>intro hx;exact .agg _ _ (ih hx)
 | dU cs ps _ ih=>intro hx;exact .dU _ _ (ih hx)
 | oS k hk=>intro _;exact .oS k hk
 |
  tree es k b o c r e p hF hb ho hc he hk _ _ =>
  intro hx
  simp only[jS,aKT,decide_eq_true_eq] at hx
  obtain⟨_,rfl⟩:=hx
  exact hk.elim
 | cF=>intro hx;cases hx
 |
  ref b g o n c a n' c' bF hg ha hq =>
  intro hx
  have hb:k0≤b:=by simpa[jS] using hx
  exact .ref b g o n c a n' c' (aKn bF hl) (fun g' es e w hr=>hg g' es e w (by rw[←hH b hb];exact hr)) (fun es e w hr=>by rw[hm b hb];exact ha es e w (by rw[←hH b hb];exact hr)) fun a0 h=>by
   obtain⟨q1,q2,q3⟩:=hq a0 h
   obtain⟨q4,q5,q6⟩:=TJ _ ⟨q1,q2⟩
   refine⟨q4,q5,fun b' g' es e w hr gD => ?_⟩
   rcases aKo b' k0 with NM | GY
   ·exact q6 b' g' es e w NM hr
   ·rw[hm b' GY]
    exact q3 b' g' es e w (by rw[←hH b' GY];exact hr) gD
 |
  ptr b g j off a bF hg ha hq =>
  intro hx
  have hb:k0≤b:=by simpa[jS] using hx
  exact .ptr b g j off a (aKn bF hl) (fun g' es e w hr=>hg g' es e w (by rw[←hH b hb];exact hr)) (fun es e w hr=>by rw[hm b hb];exact ha es e w (by rw[←hH b hb];exact hr)) fun a0 h=>by
   obtain⟨q1,q2,q3⟩:=hq a0 h
   obtain⟨q4,q5,q6⟩:=TJ _ ⟨q1,q2⟩
   refine⟨q4,q5,fun b' g' es e w hr gD => ?_⟩
   rcases aKo b' k0 with NM | GY
   ·exact q6 b' g' es e w NM hr
   ·rw[hm b' GY]
    exact q3 b' g' es e w (by rw[←hH b' GY];exact hr) gD
 | wX=>intro hx;cases hx
 | nil=>exact .nil
 |
  cons x v xs vs _ _ ih Xl =>
  rename_i hx
  simp only[Ap,aKT] at hx
  exact .cons _ _ _ _ (ih hx.1) (Xl hx.2)
theorem VL.own {V V':View} {n:Nat} (TJ:∀q,V.base≤q∧q<V.P.length→V'.base≤q∧q<V'.P.length∧∀b' g' es e w,b'<n→V'.H[b']? = some (.row g' es e w)→V'.m b'≠q) (hl:V.H.length≤V'.H.length) (hH:∀b,n≤b→V'.H[b]? = V.H[b]?) (hm:∀b,n≤b→V'.m b=V.m b) {xs:List VV} {vs:List Value} (h:VL V xs vs) (hx:Ap n xs=true):VL V' xs vs:=by
 induction xs generalizing vs with
 | nil=>cases h;exact .nil
 |
  cons x xs ih=>cases h with
  |
   cons _ v _ vs h hs =>
   simp only[Ap,aKT] at hx
   exact .cons _ _ _ _ (h.own TJ hl hH hm hx.1) (ih hs hx.2)
theorem VL.Fa {V':View} {G:Nat→Prop} {P:aJ} {xs:List VV} {vs:List Value} (hF:∀b,G b→V'.F b∧V'.P[b]? = P[b]?) (h:VL (bare G P) xs vs):VL V' xs vs:=by
 induction xs generalizing vs with
 | nil=>cases h;exact .nil
 |
  cons x xs ih=>cases h with
  | cons _ v _ vs h hs=>exact .cons _ _ _ _ (h.Fa hF) (ih hs)
def FC (f:Nat) (args:List VV) (R:Nat→VV→aA→Prop):Prop :=
 ∀n,jA f args n (aLb n .dead) fun r H'=>∃L,H'=aLb n .dead++L∧jS n r=true∧mX n L=true∧R n r L
theorem FC.walk {f:Nat} {pf:aU} {args:List VV} {R:Nat→VV→aA→Prop} (fl:Fl) (ht:fQ f=some pf) (hn:args.length≤pf.ntmps)
  (h:∀n,VW fl n pf.body (CQ pf.res fun r H'=>∃L,H'=aLb n .dead++L∧jS n r=true∧mX n L=true∧R n r L) (LU args) (aLb n .dead)):FC f args R :=
 fun n=>jA.walk fl ht hn (h n)
theorem FC.raw {f:Nat} {args mB:List VV} {R:Nat→VV→aA→Prop} {H:aA} {lo:Nat} (h:FC f mB R) (hf:args.mapM (fz depth H)=some mB):jA f args lo H fun r H'=>∃L,H'=H++L∧R H.length r L∧jS H.length r=true∧mX H.length L=true:=by
 intro V eV eW hH hS hl
 have h1:=h H.length
 let V0:View:={ m:=V.m,F:=(· < V.P.length),H:=aLb H.length .dead,P:=V.P,base:=V.P.length }
 have Oi:∀(b g:Nat) (es:List VV) (e:Nat) (w:Bool),V0.H[b]? ≠ some (.row g es e w):=by
  intro b g es e w hb
  have:=aLw (aLf hb)
  cases this
 have hS0:SR V0 H.length eV:=⟨fun b g es e w hb=>absurd hb (Oi _ _ _ _ _),fun b g es e hb=>absurd hb (Oi _ _ _ _ _),fun a b g es e w _ _ _ _ ha=>absurd ha (Oi _ _ _ _ _),fun b hb=>hb,hS.WJ,aKl _⟩
 have Cf:VL V0 mB eW:=by
  have:=Gs hS (G:=(· < V.P.length)) (fun q hq=>hS.fr q hq) hl (by rw[hH];exact hf) (fun i _ g es e w hb=>hS.mlt hb)
  exact VL.Fa (V':=V0) (fun b hb=>⟨hb,rfl⟩) this
 obtain⟨pv,V1,r,k1,k3,k4,k5,L,k2,h2,h3,hR⟩:=h1 V0 eV eW rfl hS0 Cf
 have Zy:∀b g es e w,V1.H[b]? = some (.row g es e w)→V.P.length≤V1.m b:=by
  intro b g es e w hb
  rcases aKo (V1.m b) V.P.length with bF | GY
  ·obtain⟨g0,es0,w0,j1,_⟩:=k4.DM b g es e w hb bF
   exact absurd j1 (Oi _ _ _ _ _)
  ·exact GY
 have aBt:V1.H.length=H.length+(L).length:=by rw[k2];simp
 have AZ:∀q,q<V.P.length→V1.P[q]? = V.P[q]? := fun q hq=>k4.dB q hq fun b g es e hb=>absurd hb (Oi _ _ _ _ _)
 let V2:View:={ m:=fun b=>if b<H.length then V.m b else V1.m b,F:=V.F,H:=H++L,P:=V1.P,base:=V.base }
 have aqA:∀b,H.length≤b→V2.H[b]? = V1.H[b]? := fun b hb=>by
  show (H++L)[b]? = _
  rw[k2,aKD hb,aKD (by simpa using hb),List.length_replicate]
 have mL:∀b,H.length≤b→V2.m b=V1.m b:=fun b hb=>by
  show (if b<H.length then V.m b else V1.m b)=_
  rw[if_neg (by omega)]
 have arV:∀b,b<H.length→V2.H[b]? = V.H[b]? := fun b hb=>by
  show (H++L)[b]? = _
  rw[aKC hb,hH]
 have mS:∀b,b<H.length→V2.m b=V.m b:=fun b hb=>by
  show (if b<H.length then V.m b else V1.m b)=_
  rw[if_pos hb]
 have hU:Up V V2:=⟨fun _ h=>h,fun b hb=>AZ b (hS.fr b hb),by show V.H.length≤(H++L).length;rw[hH];simp,fun b g es e w bF hb=>⟨g,es,w,by rw[←arV b (by rw[←hH];exact bF)];exact hb,aKl _,fun _=>mS b (by rw[←hH];exact bF)⟩,rfl,k4.G3,fun b g es e w hb hm=>by
   rcases aKo b H.length with h | h
   ·exact⟨g,es,w,by rw[←arV b h];exact hb,mS b h,id⟩
   ·rw[mL b h] at hm
    have:=Zy b g es e w (by rw[←aqA b h];exact hb)
    omega⟩
 have aaE:∀ {b g es e w},V2.H[b]? = some (.row g es e w)→(b<H.length∧V.H[b]? = some (.row g es e w))∨(H.length≤b∧V1.H[b]? = some (.row g es e w)):=by
  intro b g es e w hb
  rcases aKo b H.length with h | h
  ·exact .inl ⟨h,by rw[←arV b h];exact hb⟩
  ·exact .inr ⟨h,by rw[←aqA b h];exact hb⟩
 have auP:V1.H.length≤V2.H.length:=by show _≤(H++L).length;rw[aBt];simp
 have Ra:∀ {b g es e w},H.length≤b→V1.H[b]? = some (.row g es e w)→Ap H.length es=true:=by
  intro b g es e w hb hr
  rw[k2,aKD (by simpa using hb)] at hr
  exact aKz.1 h3 _ (aLf hr)
 have TJ:∀q,V1.base≤q∧q<V1.P.length→V2.base≤q∧q<V2.P.length∧∀b' g' es e w,b'<H.length→V2.H[b']? = some (.row g' es e w)→V2.m b'≠q:=by
  intro q hq
  have EU:V.P.length≤q:=by have:=k4.Nk;rw[this] at hq;exact hq.1
  refine⟨aKm hS.Nk EU,hq.2,fun b' g' es e w bF hr hm => ?_⟩
  rw[mS b' bF] at hm
  have:=hS.mlt (by rw[←arV b' bF];exact hr)
  omega
 refine⟨pv,V2,r,k1,⟨fun b g es e w hb => ?_,fun b g es e hb => ?_,fun a b g es e w g' pJ e' w' ha hb hm => ?_,fun b hb => ?_,?_,aKm hS.Nk k4.G3⟩,{ hU with dB:=fun q hq _=>AZ q hq,EK:=fun q hq => .inl hq },?_,L,rfl,hR,h2,h3⟩
 ·rcases aaE hb with⟨h,hb⟩ | ⟨h,hb⟩
  ·obtain⟨r,p,j1,j2,j3⟩:=hS.row b g es e w hb
   exact⟨r,p,by rw[mS b h];exact(AZ _ (hS.mlt hb)).trans j1,j2,j3.mono hU⟩
  ·obtain⟨r,p,j1,j2,j3⟩:=k3.row b g es e w hb
   exact⟨r,p,by rw[mL b h];exact j1,j2,j3.own TJ auP (fun b hb=>aqA b hb) (fun b hb=>mL b hb) (aaX (Ra h hb))⟩
 ·rcases aaE hb with⟨h,hb⟩ | ⟨h,hb⟩
  ·rw[mS b h]
   exact hS.wr b g es e hb
  ·rw[mL b h]
   have:=Zy b g es e true hb
   exact⟨fun hF=>by have:=hS.fr _ hF;omega,fun _=>aKm hS.WJ this⟩
 ·rcases aaE ha with⟨h,ha⟩ | ⟨h,ha⟩<;>rcases aaE hb with⟨h',hb⟩ | ⟨h',hb⟩
  ·rw[mS a h,mS b h'] at hm
   exact hS.inj a b _ _ _ _ _ _ _ _ ha hb hm
  ·rw[mS a h,mL b h'] at hm
   have:=Zy b _ _ _ _ hb
   have:=hS.mlt ha
   omega
  ·rw[mL a h,mS b h'] at hm
   have:=Zy a _ _ _ _ ha
   have:=hS.mlt hb
   omega
  ·rw[mL a h,mL b h'] at hm
   exact k3.inj a b _ _ _ _ _ _ _ _ ha hb hm
 ·exact aKn (hS.fr b hb) k4.G3
 ·exact aKm hS.WJ k4.G3
 ·exact k5.own TJ auP (fun b hb=>aqA b hb) (fun b hb=>mL b hb) h2
theorem fS {f:Nat} {args:List VV} {lo:Nat} {H:aA} {K:VV→aA→Prop} (Ci:Fm.contains f=true) (h:jA f args lo H K):dH f args lo H K:=by
 unfold dH
 rw[if_pos Ci]
 exact h
theorem FC.call {f:Nat} {args mB:List VV} {R:Nat→VV→aA→Prop} {H:aA} {lo:Nat} {K:VV→aA→Prop} (h:FC f mB R) (Ci:Fm.contains f=true) (hf:args.mapM (fz depth H)=some mB) (hk:∀r L,R H.length r L→K r (H++L)):dH f args lo H K :=
 fS Ci ((h.raw hf).mono fun r H' ⟨L,h1,h2,_⟩=>by subst h1;exact hk r L h2)
theorem FC.atZ {f:Nat} {args mB:List VV} {R:Nat→VV→aA→Prop} {H:aA} {lo:Nat} {K:VV→aA→Prop} (h:FC f mB R) (Ci:Fm.contains f=true) (hf:args.mapM (fz depth H)=some mB) (hk:∀r L,R H.length r L→jS H.length r=true→mX H.length L=true→K r (H++L)):dH f args lo H K :=
 fS Ci ((h.raw hf).mono fun r H' ⟨L,h1,h2,h3,h4⟩=>by subst h1;exact hk r L h2 h3 h4)
def Wm (H K:aA):Prop:=K.length=H.length∧∀(b g:Nat) (es:List VV) (e:Nat) (w:Bool),K[b]? = some (.row g es e w)→H[b]? = some (.row g es e w)
theorem VR.kill {V:View} {K:aA} (hK:Wm V.H K) {x:VV} {v:Value} (h:VR V x v):VR { V with H:=K } x v:=by
 induction h using VR.rec (motive_2:=fun xs vs _=>VL { V with H:=K } xs vs) with
 | any=>exact .any _
 | sc _ h=>exact .sc _ h
 | agg cs ps _ ih=>exact .agg _ _ ih
 | dU cs ps _ ih=>exact .dU _ _ ih
 | oS k hk=>exact .oS k hk
 | tree es k b o c r e p hF hb ho hc he hk _ ih=>exact .tree es k b o c r e p hF hb ho hc he hk ih
 | cF x off b o r e p hF hb ho _ ih=>exact .cF x off b o r e p hF hb ho ih
 |
  ref b g o n c a n' c' bF hg ha hq =>
  exact .ref b g o n c a n' c' (by show b<K.length;rw[hK.1];exact bF) (fun g' es e w hr=>hg g' es e w (hK.2 _ _ _ _ _ hr)) (fun es e w hr=>ha es e w (hK.2 _ _ _ _ _ hr)) fun a0 h=>⟨(hq a0 h).1,(hq a0 h).2.1,fun b' g' es e w hr=>(hq a0 h).2.2 b' g' es e w (hK.2 _ _ _ _ _ hr)⟩
 |
  ptr b g j off a bF hg ha hq =>
  exact .ptr b g j off a (by show b<K.length;rw[hK.1];exact bF) (fun g' es e w hr=>hg g' es e w (hK.2 _ _ _ _ _ hr)) (fun es e w hr=>ha es e w (hK.2 _ _ _ _ _ hr)) fun a0 h=>⟨(hq a0 h).1,(hq a0 h).2.1,fun b' g' es e w hr=>(hq a0 h).2.2 b' g' es e w (hK.2 _ _ _ _ _ hr)⟩
 | wX f fU ps _ ih=>exact .wX _ _ _ ih
 | nil=>exact .nil
 | cons x v xs vs _ _ ih Xl=>exact .cons _ _ _ _ ih Xl
theorem VL.kill {V:View} {K:aA} (hK:Wm V.H K) {xs:List VV} {vs:List Value} (h:VL V xs vs):VL { V with H:=K } xs vs:=by
 induction xs generalizing vs with
 | nil=>cases h;exact .nil
 |
  cons x xs ih=>cases h with
  | cons _ v _ vs h hs=>exact .cons _ _ _ _ (h.kill hK) (ih hs)
theorem jA.kill {f:Nat} {args:List VV} {lo:Nat} {H:aA} {P P':VV→aA→Prop} (h:jA f args lo H P) (hk:∀v H',P v H'→∃K,Wm H' K∧P' v K):jA f args lo H P':=by
 intro V eV eW hH hS hl
 obtain⟨pv,V',v,h1,h2,h3,h4,h5⟩:=h V eV eW hH hS hl
 obtain⟨K,hK,h6⟩:=hk _ _ h5
 refine⟨pv,{ V' with H:=K },v,h1,⟨fun b g es e w hb => ?_,fun b g es e hb=>h2.wr b g es e (hK.2 _ _ _ _ _ hb),fun a b g es e w g' pJ e' w' ha hb hm=>h2.inj a b _ _ _ _ _ _ _ _ (hK.2 _ _ _ _ _ ha) (hK.2 _ _ _ _ _ hb) hm,h2.fr,h2.WJ,h2.Nk⟩,
  { F:=h3.F,P:=h3.P,len:=by show V.H.length≤K.length;rw[hK.1];exact h3.len,row:=fun b g es e w bF hb=>h3.row b g es e w bF (hK.2 _ _ _ _ _ hb),Nk:=h3.Nk,G3:=h3.G3,DM:=fun b g es e w hb hm=>h3.DM b g es e w (hK.2 _ _ _ _ _ hb) hm,dB:=h3.dB,EK:=h3.EK },h4.kill hK,h6⟩
 obtain⟨r,p,j1,j2,j3⟩:=h2.row b g es e w (hK.2 _ _ _ _ _ hb)
 exact⟨r,p,j1,j2,j3.kill hK⟩
theorem FC.aBA {f:Nat} {pf:aU} {args:List VV} {R:Nat→VV→aA→Prop} (fl:Fl) (ht:fQ f=some pf) (hn:args.length≤pf.ntmps)
  (h:∀n,VW fl n pf.body (CQ pf.res fun r H'=>∃L,Wm H' (aLb n .dead++L)∧jS n r=true∧mX n L=true∧R n r L) (LU args) (aLb n .dead)):FC f args R :=
 fun n=>(jA.walk fl ht hn (h n)).kill fun _ _ ⟨L,h1,h2,h3,h4⟩=>⟨_,h1,L,rfl,h2,h3,h4⟩
end Go.PM
namespace Go.PM
open Go.ChangeShapes Go.WideShapes Go.ChangeAt Go.RowKit
open Go.Proofs
def GC (W:World):Prop:=∃(rb:Nat) (arr:Array Value) (e:TypeId) (fz:Nat×Nat),W.heap[rb]? = some (.cells arr e fz)
structure DG (m m':dL) (H L:aJ) (W:World) (cs KP:List Value) (vs:List VV):Prop where
 inn:In m' (H++L) W
 ext:∀b l,m b=some l→m' b=some l
 len:KP.length=cs.length
 rv:∀i,i<cs.length→RV m' (KP.getD i Go.undef) (cs.getD i Go.undef)
 sc:∀v∈KP,PM.iQ v=true
 tree:VL (bare (· < (H++L).length) (H++L)) vs KP
def FK {T:Type} (uA:TypeId×Value→T) (P:Program) (W:World) (t:TypeId) (k:Nat) (S:List VV→Prop):Prop :=
 ∀fuel cs y,DataW.trod uA P W 0 (fun _=>true) true fuel t cs=some y→∀(m:dL) (H:aJ),In m H W→cs.length=k∧∃m' L KP vs,DG m m' H L W cs KP vs∧S vs
theorem VL.grow {H L:aJ} {xs:List VV} {vs:List Value} (h:VL (bare (· < H.length) H) xs vs):VL (bare (· < (H++L).length) (H++L)) xs vs :=
 h.Fa fun b hb=>⟨by show b<_;rw[aKw];omega,aKC hb⟩
theorem VL.app {V:View} {xs ys:List VV} {vs ws:List Value} (h:VL V xs vs) (h':VL V ys ws):VL V (xs++ys) (vs++ws):=by
 induction xs generalizing vs with
 | nil=>cases h;exact h'
 |
  cons x xs ih=>cases h with
  | cons _ v _ vs h hs=>exact .cons _ _ _ _ h (ih hs)
theorem Kf {cs ds:List Value} {i:Nat} (h:i<cs.length):(cs++ds).getD i Go.undef=cs.getD i Go.undef:=by
 simp only[aKi,aKC h]
theorem IJ {cs ds:List Value} {i:Nat} (h:cs.length≤i):(cs++ds).getD i Go.undef=ds.getD (i-cs.length) Go.undef:=by
 simp only[aKi,aKD h]
theorem DG.both {m m1 m2:dL} {H L1 L2:aJ} {W:World} {cs KP Cv aBP:List Value} {vs vs':List VV} (h:DG m m1 H L1 W cs KP vs) (h':DG m1 m2 (H++L1) L2 W Cv aBP vs'):DG m m2 H (L1++L2) W (cs++Cv) (KP++aBP) (vs++vs'):=by
 refine⟨by rw[←aL7];exact h'.inn,fun b l hb=>h'.ext _ _ (h.ext _ _ hb),by simp[h.len,h'.len],fun i hi => ?_,fun v hv => ?_,?_⟩
 ·rcases aKo i cs.length with bF | GY
  ·rw[Kf bF,Kf (by rw[h.len];exact bF)]
   exact(h.rv i bF).mono h'.ext
  ·rw[IJ GY,IJ (by rw[h.len];exact GY),h.len]
   exact h'.rv _ (by rw[aKw] at hi;omega)
 ·rcases List.mem_append.1 hv with hv | hv
  ·exact h.sc v hv
  ·exact h'.sc v hv
 ·rw[←aL7]
  exact h.tree.grow.app h'.tree
theorem DG.none {m:dL} {H:aJ} {W:World} (hI:In m H W):DG m m H [] W [] [] [] :=
 ⟨by rw[aLt];exact hI,fun _ _ h=>h,rfl,fun i hi=>absurd hi (aLC _),fun v hv=>(by cases hv),.nil⟩
theorem Tk {T:Type} {uA:TypeId×Value→T} {P:Program} {W:World} {t:TypeId} (ht:P.underlying t=some .string):FK uA P W t 1 (fun vs=>∃s:ByteArray,s.size≤maxLen∧vs=[.sc (.string s)]):=by
 intro fuel cs y h m H hI
 obtain⟨s,rfl,_,hs⟩:=DataW.trod_string ht h
 refine⟨rfl,m,[],[.string s],[.sc (.string s)],⟨by rw[aLt];exact hI,fun _ _ h=>h,rfl,fun i hi => ?_,fun v hv => ?_,.cons _ _ _ _ (.sc _ rfl) .nil⟩,s,hs,rfl⟩
 ·have:i=0:=by simpa using hi
  subst this
  exact .str s
 ·rw[aLr] at hv
  subst hv
  rfl
theorem OO {T:Type} {uA:TypeId×Value→T} {P:Program} {W:World} {e:TypeId} {gV:Nat} {S:List VV→Prop} (ho:FK uA P W e gV S):∀(WQ:List (List Value)),(∀cs∈WQ,∃fuel y,DataW.trod uA P W 0 (fun _=>true) true fuel e cs=some y)→∀(m:dL) (H:aJ),In m H W →
  ∃(m':dL) (L:aJ) (KP:List Value) (gs:List (List VV)),DG m m' H L W WQ.flatten KP gs.flatten∧gs.length=WQ.length∧(∀g∈gs,S g)∧∀cs∈WQ,cs.length=gV
 | [],_,m,H,hI=>⟨m,[],[],[],DG.none hI,rfl,fun g hg=>(by cases hg),fun cs MD=>(by cases MD)⟩
 |
  cs::WQ,h,m,H,hI=>by
  obtain⟨fuel,y,hy⟩:=h cs aKV
  obtain⟨hl,m1,L1,aDh,g,h1,hS⟩:=ho fuel cs y hy m H hI
  obtain⟨m2,L2,aEb,gs,h2,h3,h4,h5⟩:=OO ho WQ (fun cs MD=>h cs (aKU _ MD)) m1 (H++L1) h1.inn
  refine⟨m2,L1++L2,aDh++aEb,g::gs,?_,by simp[h3],fun g' hg' => ?_,fun Cv awL => ?_⟩
  ·rw[aL8,aL8]
   exact h1.both h2
  ·rcases aLz.1 hg' with rfl | hg'
   ·exact hS
   ·exact h4 _ hg'
  ·rcases aLz.1 awL with rfl | awL
   ·exact hl
   ·exact h5 _ awL
theorem Fc {α:Type} {k:Nat}:∀ {xss:List (List α)},(∀xs∈xss,xs.length=k)→xss.flatten.length=xss.length*k
 | [],_=>by simp
 |
  xs::xss,h=>by
  rw[aL8,aKw,h xs aKV,Fc fun y hy=>h y (aKU _ hy),aKv,aLa,Nat.add_comm]
theorem Jh {α:Type} {k:Nat}:∀ {xss:List (List α)} (n:Nat),(∀xs∈xss,xs.length=k)→xss.flatten.take (n*k)=(xss.take n).flatten
 | [],n,_=>by simp
 | xs::xss,0,_=>by simp
 |
  xs::xss,n+1,h=>by
  have hl:=h xs aKV
  rw[aL8,aK8,aL8,←Jh n fun y hy=>h y (aKU _ hy),show (n+1)*k=xs.length+n*k by rw[hl,aLa,Nat.add_comm],List.take_length_add_append]
theorem SK {k:Nat} (hk:1≤k) {WQ:List (List Value)} (h:∀cs∈WQ,cs.length=k) {i:Nat} (hi:i<WQ.length*k):∃cs,WQ[i / k]? = some cs∧WQ.flatten.getD i Go.undef=cs.getD (i % k) Go.undef:=by
 induction WQ generalizing i with
 | nil=>simp at hi
 |
  cons cs WQ ih =>
  have hl:=h cs aKV
  rw[aL8]
  rcases aKo i k with bF | GY
  ·refine⟨cs,by rw[aLS bF];rfl,?_⟩
   rw[Kf (by omega),aLP bF]
  ·obtain⟨c',h1,h2⟩:=ih (fun y hy=>h y (aKU _ hy)) (i:=i-k) (by rw[aKv,aLa] at hi;omega)
   have e1:i / k=(i-k) / k+1:=by rw[Nat.div_eq_sub_div (by omega) GY]
   have e2:i % k=(i-k) % k:=by rw[Nat.mod_eq_sub_mod GY]
   exact⟨c',by rw[e1];exact h1,by rw[IJ (by omega),hl,h2,e2]⟩
theorem LC {T:Type} {uA:TypeId×Value→T} {α:Type} {f:α→VV} {anY:α→Prop} {P:Program} {W:World} {t e:TypeId} {gV:Nat} (ht:P.underlying t=some (.slice e)) (aDn:P.cellsOf e=gV) (pos:1≤gV) (hB:GC W)
  (hf:∀x,(aB (f x)).length=gV) (ho:FK uA P W e gV fun g=>∃x:α,anY x∧g=aB (f x)):FK uA P W t 1 fun vs=>∃xs:List α,xs.length≤maxLen∧(∀x∈xs,anY x)∧vs=[aC f xs]:=by
 intro fuel cs y h m H hI
 rcases DataW.trod_slice ht h with⟨rfl,_⟩ | ⟨a,n,c,elems,rest,k,_,rfl,_,_,hnc,hmx,hlen,hE,hR,_⟩
 ·refine⟨rfl,m,[],[.slice none 0 0],[.tree [] .op],⟨by rw[aLt];exact hI,fun _ _ h=>h,rfl,fun i hi => ?_,fun v hv => ?_,.cons _ _ _ _ (.oS _ (.inl rfl)) .nil⟩,[],aKP _,fun x hx=>(by cases hx),rfl⟩
  ·have:i=0:=by simpa using hi
   subst this
   exact .M8
  ·rw[aLr] at hv
   subst hv
   rfl
 ·obtain⟨AU,hR⟩:=hR rfl
  have YM:∀i,i<c→∃cs,W.cells? 0 (a.add (i*gV)) gV=some cs∧∃fuel y,DataW.trod uA P W 0 (fun _=>true) true fuel e cs=some y:=by
   intro i hi
   have key:∃y,(W.cells? 0 (a.add (i*P.cellsOf e)) (P.cellsOf e)).bind (DataW.trod uA P W 0 (fun _=>true) true k e)=some y:=by
    rcases aKo i n with bX | bX
    ·exact⟨elems[i]'(by omega),by rw[hE i bX];exact aKs _⟩
    ·have:=hR (i-n) (by omega)
     rw[show n+(i-n)=i by omega] at this
     exact⟨rest[i-n]'(by omega),by rw[this];exact aKs _⟩
   obtain⟨y,hy⟩:=key
   rw[Option.bind_eq_some_iff,aDn] at hy
   obtain⟨cs,h1,h2⟩:=hy
   exact⟨cs,h1,k,y,h2⟩
  obtain⟨WQ,mM,MD⟩:=Zp (fun i cs=>W.cells? 0 (a.add (i*gV)) gV=some cs∧∃fuel y,DataW.trod uA P W 0 (fun _=>true) true fuel e cs=some y) c YM
  obtain⟨m1,L1,KP,gs,hO,hgl,hgS,avP⟩:=OO ho WQ (fun cs hc=>by
   obtain⟨i,hi⟩:=List.getElem?_of_mem hc
   exact(MD i cs hi).2) m H hI
  obtain⟨xs,hxg,Na⟩:∃xs:List α,(∀x∈xs,anY x)∧gs=xs.map fun x=>aB (f x):=by
   clear hO hgl
   induction gs with
   | nil=>exact⟨[],fun x hx=>(by cases hx),rfl⟩
   |
    cons g gs ih =>
    obtain⟨xs,h1,h2⟩:=ih fun g hg=>hgS g (aKU _ hg)
    obtain⟨x,h3,h4⟩:=hgS g aKV
    exact⟨x::xs,fun y hy=>by
     rcases aLz.1 hy with rfl | hy
     ·exact h3
     ·exact h1 y hy,by rw[aLX,←h2,h4]⟩
  have hxl:xs.length=c:=by rw[←mM,←hgl,Na,aL2]
  have PW:KP.length=c*gV:=by rw[hO.len,Fc avP,mM]
  obtain⟨rb,base,arr,e',fz,aAZ,Qw,EU⟩:∃(rb base:Nat) (arr:Array Value) (e':TypeId) (fz:Nat×Nat),W.heap[rb]? = some (.cells arr e' fz)∧(c=0→base=0)∧(c≠0→a=⟨rb,base,none⟩):=by
   by_cases h0:c=0
   ·obtain⟨rb,arr,e',fz,hb⟩:=hB
    exact⟨rb,0,arr,e',fz,hb,fun _=>rfl,fun h=>absurd h0 h⟩
   ·obtain⟨cs,h1,_⟩:=YM 0 (by omega)
    have h2:=(World.cells?_some h1).2
    have h3:=h2.2 0 (by omega)
    rw[aKs (by omega)] at h3
    have:(a.add (0*gV)).add 0=a:=by simp[Addr.add]
    rw[this] at h3
    unfold World.cell? at h3
    split at h3
    ·rename_i arr e' fz hb
     split at h3
     ·cases h3
     ·rename_i Wq
      refine⟨a.block,a.off,arr,e',fz,hb,fun h=>absurd h h0,fun _ => ?_⟩
      obtain⟨b,o,sp⟩:=a
      cases sp with
      | none=>rfl
      | some x=>simp at Wq
    ·cases h3
  have Sp:∀i,i<c*gV→W.cell? ⟨rb,base+i,none⟩=some (WQ.flatten.getD i Go.undef):=by
   intro i hi
   obtain⟨cs,h1,h2⟩:=SK pos avP (i:=i) (by rw[mM];exact hi)
   have h0:c≠0:=by intro h0;rw[h0] at hi;simp at hi
   have ha:=EU h0
   have h3:=(World.cells?_some (MD _ _ h1).1).2
   have hr:i % gV<gV:=Nat.mod_lt _ pos
   have h4:=h3.2 (i % gV) hr
   have PX:∀o k:Nat,(⟨rb,o,none⟩:Addr).add k=⟨rb,o+k,none⟩:=by
    intro o k
    unfold Addr.add
    split
    ·rename_i h0;subst h0;rfl
    ·rfl
   have Yt:i / gV*gV+i % gV=i:=by rw[aLN];exact Nat.div_add_mod i gV
   rw[ha,PX,PX,Nat.add_assoc,Yt] at h4
   rw[h2,aKi,h4]
   have bF:i % gV<cs.length:=by rw[h3.1];exact hr
   rw[aKs bF]
   rfl
  have xB:base+KP.length≤arr.size:=by
   rw[PW]
   by_cases h0:c=0
   ·rw[Qw h0,h0];simp
   ·have Qe:1≤c*gV:=Nat.mul_pos (by omega) pos
    have h3:=Sp (c*gV-1) (by omega)
    unfold World.cell? at h3
    simp only[aAZ,aK0,aKX,if_false] at h3
    have:=(Array.getElem?_eq_some_iff.1 h3).1
    omega
  have PX:=hO.inn.add (gV:=gV) (cs:=KP) (base:=base) aAZ xB (fun i hi=>by
   rw[PW] at hi
   refine⟨_,Sp i hi,(hO.rv i (by rw[Fc avP,mM];exact hi)).mono (xP (hO.inn.V5 (aKl _))),?_⟩
   rw[aKi,aKs (by rw[PW];exact hi)]
   exact hO.sc _ (List.getElem_mem _))
  refine⟨rfl,_,L1++[.row KP gV false],[.slice (some ⟨(H++L1).length,0,none⟩) n c],[aC f (xs.take n)],⟨by rw[←aL7];exact PX,fun b l hb=>xP (hO.inn.V5 (aKl _)) _ _ (hO.ext b l hb),rfl,fun i hi => ?_,fun v hv => ?_,?_⟩,xs.take n,by rw[aLU];omega,fun x hx=>hxg x (aLi hx),rfl⟩
  ·have:i=0:=by simpa using hi
   subst this
   refine .slice (H++L1).length 0 n c _ _ c (bZ _ _ _) hnc (aKl _) (fun _=>rfl) ?_
   by_cases h0:c=0
   ·exact .inl h0
   ·exact .inr ⟨by simpa using EU h0,by simpa[PW] using xB⟩
  ·rw[aLr] at hv
   subst hv
   rfl
  ·rw[←aL7]
   refine .cons _ _ _ _ ?_ .nil
   have hl:(xs.take n).length=n:=by rw[aLU];omega
   have G7:∀g∈gs,g.length=gV:=fun g hg=>by
    obtain⟨x,_,rfl⟩:=hgS g hg
    exact hf x
   have key:=hO.tree.grow (L:=[Qx.row KP gV false])
   have key:=key.take (n*gV)
   rw[Jh n G7,Na,←List.map_take] at key
   have:=VR.tree (V:=bare (· < (H++L1++[Qx.row KP gV false]).length) (H++L1++[Qx.row KP gV false])) ((xs.take n).map f) .op (H++L1).length 0 c KP gV false (by show (H++L1).length<_;simp) (by show (H++L1++[Qx.row KP gV false])[(H++L1).length]? = _;rw[aKD (aKl _),Nat.sub_self];rfl)
    (by rw[aL2,hl,PW];simp only[aLT];exact aKM _ hnc) (by rw[aL2,hl];exact hnc) (fun y hy=>by
     obtain⟨x,_,rfl⟩:=aLW.1 hy
     exact hf x) trivial (by rw[aL2,hl,aLx,List.flatMap_map,List.flatMap_def];exact key)
   rw[aL2,hl] at this
   exact this
theorem Vu {T:Type} {uA:TypeId×Value→T} {P:Program} {W:World} {t t0 t1 t2:TypeId} {fs:Array Field} {S0 S1 S2:List VV→Prop} (ht:P.underlying t=some (.struct fs)) (hc:P.cellsOf t=3)
  (h0:∃f,fs[0]? = some f∧f.type=t0∧f.offset=0) (h1:∃f,fs[1]? = some f∧f.type=t1∧f.offset=1) (h2:∃f,fs[2]? = some f∧f.type=t2∧f.offset=2) (hs:fs.size=3) (c0:P.cellsOf t0=1) (c1:P.cellsOf t1=1) (c2:P.cellsOf t2=1)
  (o0:FK uA P W t0 1 S0) (o1:FK uA P W t1 1 S1) (o2:FK uA P W t2 1 S2):FK uA P W t 3 fun vs=>∃a b c,S0 a∧S1 b∧S2 c∧vs=a++(b++c):=by
 intro fuel cs y h m H hI
 obtain⟨xs,n,_,_,hl,hlen,hf⟩:=DataW.trod_struct ht h
 rw[hc] at hl
 obtain⟨f0,g0,rfl,z0⟩:=h0
 obtain⟨f1,g1,rfl,z1⟩:=h1
 obtain⟨f2,g2,rfl,z2⟩:=h2
 have k0:=hf 0 f0 g0
 have k1:=hf 1 f1 g1
 have k2:=hf 2 f2 g2
 rw[z0,c0,aKs (by omega)] at k0
 rw[z1,c1,aKs (by omega)] at k1
 rw[z2,c2,aKs (by omega)] at k2
 match cs,hl with
 |
  [u,v,w],_ =>
  obtain⟨_,m1,L1,p1,v1,q1,s1⟩:=o0 _ _ _ k0 m H hI
  obtain⟨_,m2,L2,p2,v2,q2,s2⟩:=o1 _ _ _ k1 m1 (H++L1) q1.inn
  obtain⟨_,m3,L3,p3,v3,q3,s3⟩:=o2 _ _ _ k2 m2 (H++L1++L2) q2.inn
  exact⟨rfl,m3,L1++(L2++L3),p1++(p2++p3),v1++(v2++v3),q1.both (q2.both q3),v1,v2,v3,s1,s2,s3,rfl⟩
end Go.PM