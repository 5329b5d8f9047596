/- Texts of a claim, in one: part 5. -/
import Derived.KernelRfl
import Derived.Test.YtinhiblbgejbdaaGreatDoorKNd
set_option linter.unusedSimpArgs false
set_option linter.unusedVariables false
namespace Go.PM
def VT (f:Nat) (args:List VV) (r:VV):Prop :=
 ∀(F:Nat→Prop) (P:aF) (dQ:List Value) (dG:Nat),(∀b,F b→b<P.length)→VL (bare F P) args dQ→dG≤P.length →
  ∃P' pv,nK f dQ dG P=some (pv,P')∧P <+: P'∧VR (bare (fun q=>F q∨(P.length≤q∧q<P'.length)) P') r pv
def LH (lo dG:Nat) (V:View) (r:Option (Value×aF)) (K:VV→aC→Prop):Prop :=
 ∃pv V' v,r=some (pv,V'.P)∧SR V' lo dG∧Ct lo V V'∧VR V' v pv∧K v V'.H
def kH (f:Nat) (args:List VV) (lo:Nat) (H:aC) (K:VV→aC→Prop):Prop :=
 ∀(V:View) (dG:Nat) (dQ:List Value),V.H=H→SR V lo dG→VL V args dQ→LH lo dG V (nK f dQ dG V.P) K
theorem kH.mono {f:Nat} {args:List VV} {lo:Nat} {H:aC} {K K':VV→aC→Prop} (hk:∀v H,K v H→K' v H) (h:kH f args lo H K):kH f args lo H K':=by
 intro V dG dQ hH hS hl
 obtain⟨pv,V',v,h1,h2,h3,h4,h5⟩:=h V dG dQ hH hS hl
 exact⟨pv,V',v,h1,h2,h3,h4,hk _ _ h5⟩
theorem VT.uniq {f:Nat} {args:List VV} {r r':VV} (h:VT f args r) (h':VT f args r') (ha:aO args=true) (hr:iZ r=true) (EP:iZ r'=true):r=r':=by
 obtain⟨P,ps,_,hl⟩:=J0 args ha []
 obtain⟨P',pv,h1,_,h2⟩:=h (· < P.length) P ps 0 (fun _ h=>h) hl (Nat.zero_le _)
 obtain⟨SF,pv',h3,_,h4⟩:=h' (· < P.length) P ps 0 (fun _ h=>h) hl (Nat.zero_le _)
 rw[h1] at h3
 injection h3 with h3
 injection h3 with h3 h5
 subst h3 h5
 exact h2.uniq h4 hr EP
open Classical in
noncomputable def vT (f:Nat) (args:List VV):Option VV:=if h:∃r,aO args=true∧iZ r=true∧VT f args r then some (Classical.choose h) else none
theorem L2 {f:Nat} {args:List VV} {r:VV} (h:vT f args=some r):aO args=true∧iZ r=true∧VT f args r:=by
 unfold vT at h
 split at h
 ·rename_i hx
  cases h
  exact Classical.choose_spec hx
 ·cases h
theorem Zk {f:Nat} {args:List VV} {r:VV} (ha:aO args=true) (hr:iZ r=true) (h:VT f args r):vT f args=some r:=by
 have hx:∃r,aO args=true∧iZ r=true∧VT f args r:=⟨r,ha,hr,h⟩
 unfold vT
 rw[dif_pos hx]
 obtain⟨_,h2,h3⟩:=Classical.choose_spec hx
 rw[h3.uniq h ha h2 hr]
def tk (r:Option VV) (K:VV→Prop):Prop:=match r with
 | some r=>K r
 | none=>False
noncomputable def Eb (f:Nat) (args:List VV) (K:VV→Prop):Prop:=tk (vT f args) K
noncomputable def cS (f:Nat) (args:List VV) (lo:Nat) (H:aC) (K:VV→aC→Prop):Prop :=
 if BI.contains f=true then kH f args lo H K
 else if aO args=true then Eb f args fun r=>K r H
 else match args.mapM (fz depth H) with
  | some gX=>Eb f gX fun r=>if IG r=true then K r H else K r (cA H (args.flatMap (gQ depth H)))
  | none=>False
noncomputable def dH (fl:Fl) (lo:Nat) (q:Bool) (op:kO) (ρ:cN) (H:aC) (K:VV→aC→Prop):Prop :=
 match op with
 | .call f args=>cS f (args.map (dJ ρ)) (if q then H.length else lo) H K
 |
  .callv fv args=>match dJ ρ fv with
  | .nJ f eV=>cS f (args.map (dJ ρ)++eV) (if q then H.length else lo) H K
  | _=>False
 |
  o=>match vop fl lo o ρ H with
  | some (v,H')=>K v H'
  | none=>False
noncomputable def VS (fl:Fl) (lo:Nat):List PI→(cN→aC→Prop)→cN→aC→Prop
 | [],K,ρ,H=>K ρ H
 |
  i::is,K,ρ,H=>match yB i.g ρ with
  | none=>False
  | some false=>VS fl lo is K (Gc ρ i.dst mK) H
  | some true=>i.cf.all (nH ρ H)=true∧dH fl lo i.quiet i.op ρ H fun v H'=>VS fl lo is K (Gc ρ i.dst v) H'
def XG:List Nat→cN→aC→Option (cN×aC)
 | [],ρ,H=>some (ρ,H)
 |
  t::ts,ρ,H=>match fz depth H (ρ t) with
  | some v=>XG ts (Gc ρ (some t) v) (cA H (gQ depth H (ρ t)))
  | none=>none
def GZ (r:Option VV) (H:aC) (K:VV→aC→Prop):Prop:=match r with
 | some v=>K v H
 | none=>False
def gh (K:cN→aC→Prop) (ρ:cN) (H:aC):Prop:=∃ts aP H',XG ts ρ H=some (aP,H')∧K aP H'
def cR (k:Nat) (H:aC):Bool:=H.all fun
 | .row _ es _ _=>jK k es
 | .dead=>true
def C2 (k:Nat) (ρ:cN):cN:=fun t=>AL k (ρ t)
abbrev VQ:=Ex→cN→aC→Prop
def kG (K:cN→aC→Prop) (Q:VQ):VQ
 | .normal=>K
 | x=>Q x
def vY (id:Nat) (Q:VQ):VQ
 | .exit Ou=>fun ρ H=>if Ou=id then Q .normal ρ H else Q (.exit Ou) ρ H
 | x=>Q x
def M5 (body:VQ→cN→aC→Prop) (Q:VQ):Nat→cN→aC→Prop
 | 0,_,_=>False
 | n+1,ρ,H=>body (kG (fun aP H'=>M5 body Q n aP H'∨(cR H.length (H'.take H.length)=true∧M5 body Q n (C2 H.length aP) (H'.take H.length))) Q) ρ H
noncomputable def VW (fl:Fl) (lo:Nat):aH→VQ→cN→aC→Prop
 | .skip,Q,ρ,H=>Q .normal ρ H
 | .fG ops,Q,ρ,H=>VS fl lo ops (Q .normal) ρ H
 | .seq a b,Q,ρ,H=>VW fl lo a (kG (VW fl lo b Q) Q) ρ H
 |
  .cond c a b,Q,ρ,H=>match dJ ρ c with
  | .sc (.bool t)=>if t=true then VW fl lo a Q ρ H else VW fl lo b Q ρ H
  | _=>False
 | .block id a,Q,ρ,H=>VW fl lo a (vY id Q) ρ H
 | .loop a,Q,ρ,H=>∃n,M5 (VW fl lo a) (fun x=>gh (Q x)) n ρ H
 | .exit id,Q,ρ,H=>Q (.exit id) ρ H
 | .ret,Q,ρ,H=>Q .ret ρ H
def JY (ρ:cN) (H:aC):xK→Option VV
 | .tmp t=>some (ρ t)
 | .cell t agg size=>eZ agg size (ρ t) H
def vI (ρ:cN) (H:aC):List xK→Option (List VV)
 | []=>some []
 |
  r::rs=>match JY ρ H r,vI ρ H rs with
  | some v,some vs=>some (v::vs)
  | _,_=>none
def nE (res:List xK) (ρ:cN) (H:aC):Option VV :=
 match vI ρ H res with
 | some [v]=>some v
 | some vs=>some (.eX vs)
 | none=>none
def C9 (R:VV→aC→Prop):Option VV→aC→Prop
 | some v,H=>R v H
 | none,_=>False
def yU (res:List xK) (R:VV→aC→Prop):VQ
 | .exit _,_,_=>False
 | .normal,ρ,H=>C9 R (nE res ρ H) H
 | .ret,ρ,H=>C9 R (nE res ρ H) H
def H9 (args:List VV):cN:=fun k=>args.getD k mK
section
variable {lo dG:Nat}
theorem CQ {V:View} (hS:SR V lo dG) {P':aF} (hp:V.P <+: P'):SR { V with P:=P',F:=fun q=>V.F q∨(V.P.length≤q∧q<P'.length) } lo dG∧Ct lo V { V with P:=P',F:=fun q=>V.F q∨(V.P.length≤q∧q<P'.length) }:=by
 obtain⟨L,rfl⟩:=hp
 have hU:Up V { V with P:=V.P++L,F:=fun q=>V.F q∨(V.P.length≤q∧q<(V.P++L).length) }:=⟨fun _ h => .inl h,fun b hb=>List.getElem?_append_left (hS.fr b hb),Nat.le_refl _,fun b g es e w _ h=>⟨g,es,w,h,Nat.le_refl _,fun _=>rfl⟩,rfl,by simp,fun b g es e w hb _=>⟨g,es,w,hb,rfl,id⟩⟩
 refine⟨⟨fun b g es e w hb => ?_,fun b g es e hb=>⟨fun hF => ?_,(hS.wr b g es e hb).2⟩,hS.inj,fun b hb => ?_,by have:=hS.O1;simp;omega,by have:=hS.Jh;simp;omega⟩,{ hU with oB:=fun q hq _=>List.getElem?_append_left hq,BU:=fun q hq => ?_ }⟩
 ·obtain⟨r,p,h1,h2,h3⟩:=hS.row b g es e w hb
  exact⟨r,p,by rw[←h1];exact List.getElem?_append_left (hS.mlt hb),h2,h3.mono hU⟩
 ·rcases hF with hF | hF
  ·exact(hS.wr b g es e hb).1 hF
  ·have h1:=hS.mlt hb
   have h2:V.P.length≤V.m b:=hF.1
   omega
 ·rcases hb with hb | hb
  ·have:=hS.fr b hb
   simp;omega
  ·exact hb.2
 ·rcases hq with hq | hq
  ·exact .inl hq
  ·exact .inr (.inl hq.1)
theorem UY {V V':View} {x:VV} {v:Value} (h:VR V x v):IG x=true→VR V' x v:=by
 induction h using VR.rec (motive_2:=fun xs vs _=>M0 xs=true→VL V' xs vs) with
 | sc _ h=>intro _;exact .sc _ h
 | agg cs ps _ ih=>intro hx;exact .agg _ _ (ih hx)
 | eX cs ps _ ih=>intro hx;exact .eX _ _ (ih hx)
 | any=>intro hx;cases hx
 | mN=>intro hx;cases hx
 | tree=>intro hx;cases hx
 | cD=>intro hx;cases hx
 | ref=>intro hx;cases hx
 | ptr=>intro hx;cases hx
 | nJ=>intro hx;cases hx
 | nil=>exact .nil
 |
  cons x v xs vs _ _ ih Tb =>
  rename_i hx
  simp only[M0,Bool.and_eq_true] at hx
  exact .cons _ _ _ _ (ih hx.1) (Tb hx.2)
theorem VR.CR {V':View} {G:Nat→Prop} {P:aF} {x:VV} {v:Value} (hF:∀b,G b→V'.F b∧V'.P[b]? = P[b]?) (h:VR (bare G P) x v):VR V' x v:=by
 induction h using VR.rec (motive_2:=fun xs vs _=>VL V' xs vs) with
 | any=>exact .any _
 | sc _ h=>exact .sc _ h
 | agg cs ps _ ih=>exact .agg _ _ ih
 | eX cs ps _ ih=>exact .eX _ _ ih
 | mN k hk=>exact .mN k hk
 | tree es k b o c r e p PH hb ho hc he hk _ ih=>exact .tree es k b o c r e p (hF _ PH).1 (by rw[(hF _ PH).2];exact hb) ho hc he hk ih
 | cD x off b o r e p PH hb ho _ ih=>exact .cD x off b o r e p (hF _ PH).1 (by rw[(hF _ PH).2];exact hb) ho ih
 | ref b g o n c a n' c' aR hg ha hq=>exact absurd aR (Nat.not_lt_zero _)
 | ptr b g j off a aR hg ha hq=>exact absurd aR (Nat.not_lt_zero _)
 | nJ f eV ps _ ih=>exact .nJ _ _ _ ih
 | nil=>exact .nil
 | cons x v xs vs _ _ ih Tb=>exact .cons _ _ _ _ ih Tb
theorem NB {V:View} (hS:SR V lo dG) {f X8:Nat} (YY:X8≤V.P.length) {args:List VV} {dQ:List Value} {G:Nat→Prop} (hG:∀b,G b→b<V.P.length) (hl:VL (bare G V.P) args dQ) {K:VV→Prop} (h:Eb f args K) :
  ∃P' pv r,nK f dQ X8 V.P=some (pv,P')∧V.P <+: P'∧VR (bare (fun q=>G q∨(V.P.length≤q∧q<P'.length)) P') r pv∧aX r=true∧K r:=by
 unfold Eb tk at h
 split at h
 ·rename_i r hr
  obtain⟨h1,h2,h3⟩:=L2 hr
  obtain⟨P',pv,h4,h5,h6⟩:=h3 G V.P dQ X8 hG hl YY
  exact⟨P',pv,r,h4,h5,h6,MG r h2,h⟩
 ·cases h
theorem D8 {V:View} (hS:SR V lo dG) {f:Nat} {args:List VV} {dQ:List Value} (hl:VL V args dQ) {q:Bool} {K:VV→aC→Prop} (h:cS f args (if q then V.H.length else lo) V.H K):LH lo dG V (nK f dQ (if q then V.P.length else dG) V.P) K:=by
 have hlq:(if q=true then V.P.length else dG)≤V.P.length:=by split;exact Nat.le_refl _;exact hS.O1
 unfold cS at h
 split at h
 ·cases q with
  | false=>exact h V dG dQ rfl hS hl
  |
   true =>
   have hS':SR V V.H.length V.P.length:=⟨hS.row,fun b g es e hb=>⟨(hS.wr b g es e hb).1,fun hl=>by have:=(List.getElem?_eq_some_iff.1 hb).1;omega⟩,hS.inj,hS.fr,Nat.le_refl _,hS.Jh⟩
   obtain⟨pv,V',r,g1,g3,g4,g5,g6⟩:=h V V.P.length dQ rfl hS' hl
   refine⟨pv,V',r,g1,⟨g3.row,fun b g es e hb=>⟨(g3.wr b g es e hb).1,fun Ch => ?_⟩,g3.inj,g3.fr,Nat.le_trans hS.O1 g4.DT,g3.Jh⟩,{ g4.toUp with oB:=fun p hp _=>g4.oB p hp fun b g es e hb Ch => ?_,BU:=g4.BU },g5,g6⟩
   ·rcases Nat.lt_or_ge (V'.m b) V.P.length with aR | vZ
    ·obtain⟨g0,es0,w0,k1,k2,k3⟩:=g4.Am b g es e true hb aR
     have:=k3 rfl
     subst this
     rw[k2]
     exact(hS.wr _ _ _ _ k1).2 Ch
    ·exact Nat.le_trans hS.O1 vZ
   ·have:=(List.getElem?_eq_some_iff.1 hb).1
    have Ch:V.H.length≤b:=Ch
    omega
 ·split at h
  ·rename_i hp
   obtain⟨P',pv,r,g1,g2,g3,g4,g5⟩:=NB hS (X8:=if q=true then V.P.length else dG) hlq (G:=V.F) hS.fr (VL.pure (V:=V) (V':=bare V.F V.P) (fun b hb=>⟨hb,rfl⟩) hl hp) h
   obtain⟨k1,k2⟩:=CQ hS g2
   exact⟨pv,_,r,g1,k1,k2,g3.CR (fun b hb=>⟨hb,rfl⟩),g5⟩
  ·split at h
   case h_2=>cases h
   rename_i gX Oh
   unfold Eb tk at h
   split at h
   case h_2=>cases h
   rename_i r hr
   obtain⟨h1,h2,h3⟩:=L2 hr
   split at h
   ·rename_i hfl
    have AR:=Bq hS (G:=(· < V.P.length)) (fun q hq=>hS.fr q hq) hl Oh (fun i _ g es e w hb=>hS.mlt hb)
    obtain⟨P',pv,g1,g2,g3⟩:=h3 _ V.P dQ _ (fun _ h=>h) AR hlq
    obtain⟨k1,k2⟩:=CQ hS g2
    exact⟨pv,_,r,g1,k1,k2,UY g3 hfl,h⟩
   ·obtain⟨k1,k2,k3,k4,k5,k6⟩:=rI (args.flatMap (gQ depth V.H)) hS
    have AR:=Bq hS (G:=(V.cA (args.flatMap (gQ depth V.H))).F) (fun q hq=>k2.F q hq) hl Oh k6
    rw[←k4] at AR
    obtain⟨P',pv,g1,g2,g3⟩:=h3 _ _ dQ _ k1.fr AR (by rw[k4];exact hlq)
    obtain⟨j1,j2⟩:=CQ k1 g2
    rw[k4] at g1
    refine⟨pv,_,r,g1,j1,k2.trans j2,g3.CR (fun b hb=>⟨hb,rfl⟩),?_⟩
    show K r (V.cA (args.flatMap (gQ depth V.H))).H
    rw[k3]
    exact h
def vM (lo dG:Nat) (V:View) (c:aH) (Q:VQ) (iR:Env):Prop :=
 W dG c (fun x IZ P'=>∃V' aP,V'.P=P'∧SR V' lo dG∧Ct lo V V'∧ER V' aP IZ∧Q x aP V'.H) iR V.P
theorem Dc {V:View} {ρ:cN} {iR:Env} (hE:ER V ρ iR) {g:Option (Nat×Bool)} {t:Bool} (h:yB g ρ=some t):uX g iR=some t:=by
 unfold yB at h
 unfold uX
 split at h
 ·exact h
 ·rename_i t' want
  have ht:=hE t'
  split at h
  ·rename_i b hb
   obtain⟨e,_⟩:=nM ht hb
   simp only[e]
   exact h
  ·rename_i vs hb
   rw[hb] at ht
   generalize hu:iR t'=u at ht
   cases ht with
   | eX cs ps hl=>simp only[hu];exact h
  ·cases h
theorem P4 {V:View} (hS:SR V lo dG) {x y:VV} {u w:Value} (hx:VR V x u) (hy:VR V y w) (h:tA V.H x y=true):agG u w=true:=by
 have key:∀ {z:VV} {v:Value},VR V z v→(match uE V.H z with
   | .bad=>True
   | .no=>gP v=none
   | .row i wr=>gP v=some (V.m i)∧∃g es e,V.H[i]? = some (.row g es e wr)
   | .Am i=>∀q,gP v=some q→∀b' g' es e w,V.H[b']? = some (.row g' es e w)→b'≠i→V.m b'≠q
   | .tree=>∀b,gP v=some b→V.F b):=by
  intro z v hz
  cases hz with
  | any=>simp only[uE]
  | sc v h =>
      cases v<;>first | rfl | cases h | skip
      rename_i a;cases a<;>first | rfl | cases h
  | agg=>rfl
  | eX=>rfl
  | mN k hk =>
       rcases hk with rfl | rfl
       ·intro b hb;cases hb
       ·rfl
  |
   tree es k b o c r e p hF hb ho hc he hk hl =>
   cases es with
   |
    nil=>cases k with
    | nil=>exact hk.elim
    | op=>intro b' xT;cases xT;exact hF
    | cl=>intro b' xT;cases xT;exact hF
   | cons=>intro b' xT;cases xT;exact hF
  | cD x off b o r e p hF hb ho hl=>intro b' xT;cases xT;exact hF
  |
   ref b g o n c a n' c' aR hg ha hq =>
   simp only[uE]
   cases hr:aM V.H b g with
   | none=>exact fun q h=>(by
     cases a with
     | none=>cases h
     | some a0=>cases h;exact(hq a0 rfl).2.2)
   |
    some q =>
    obtain⟨es,e,wr⟩:=q
    rw[bF] at hr
    obtain⟨rfl,rfl,rfl⟩:=ha _ _ _ hr
    exact⟨rfl,g,es,e,hr⟩
  |
   ptr b g j off a aR hg ha hq =>
   simp only[uE]
   cases hr:aM V.H b g with
   | none=>exact fun q h=>(by
     cases a with
     | none=>cases h
     | some a0=>cases h;exact(hq a0 rfl).2.2)
   |
    some q =>
    obtain⟨es,e,wr⟩:=q
    rw[bF] at hr
    have:=ha _ _ _ hr
    subst this
    exact⟨rfl,g,es,e,hr⟩
  | nJ=>rfl
 have kx:=key hx
 have ky:=key hy
 unfold tA at h
 unfold agG
 cases hbx:uE V.H x with
 | bad=>rw[hbx] at h;have h:false=true:=h;cases h
 |
  no =>
  rw[hbx] at kx
  have kx:gP u=none:=kx
  rw[kx]
 |
  Am i =>
  rw[hbx] at kx h
  have kx:∀q,gP u=some q→∀b' g' es e w,V.H[b']? = some (.row g' es e w)→b'≠i→V.m b'≠q:=kx
  cases MO:uE V.H y with
  | bad=>rw[MO] at h;have h:false=true:=h;cases h
  |
   no =>
   rw[MO] at ky
   have ky:gP w=none:=ky
   rw[ky]
   cases gP u<;>rfl
  | Am j=>rw[MO] at h;have h:false=true:=h;cases h
  | tree=>rw[MO] at h;have h:false=true:=h;cases h
  |
   row j wj =>
   rw[MO] at ky h
   obtain⟨k3,g2,Wd,e2,k4⟩:gP w=some (V.m j)∧∃g es e,V.H[j]? = some (.row g es e wj):=ky
   have h:(i != j)=true:=h
   simp only[bne_iff_ne,ne_eq] at h
   rw[k3]
   cases hu:gP u with
   | none=>rfl
   |
    some q =>
    simp only[bne_iff_ne,ne_eq]
    exact fun hm=>kx q hu j _ _ _ _ k4 (Ne.symm h) hm.symm
 |
  row i wi =>
  rw[hbx] at kx h
  obtain⟨k1,g1,Ab,e1,k2⟩:gP u=some (V.m i)∧∃g es e,V.H[i]? = some (.row g es e wi):=kx
  cases MO:uE V.H y with
  | bad=>rw[MO] at h;have h:false=true:=h;cases h
  |
   no =>
   rw[MO] at ky
   have ky:gP w=none:=ky
   rw[ky]
   cases gP u<;>rfl
  |
   Am j =>
   rw[MO] at ky h
   have ky:∀q,gP w=some q→∀b' g' es e w,V.H[b']? = some (.row g' es e w)→b'≠j→V.m b'≠q:=ky
   have h:(i != j)=true:=h
   simp only[bne_iff_ne,ne_eq] at h
   rw[k1]
   cases hw:gP w with
   | none=>rfl
   |
    some q =>
    simp only[bne_iff_ne,ne_eq]
    exact fun hm=>ky q hw i _ _ _ _ k2 h hm
  |
   row j wj =>
   rw[MO] at ky h
   obtain⟨k3,g2,Wd,e2,k4⟩:gP w=some (V.m j)∧∃g es e,V.H[j]? = some (.row g es e wj):=ky
   rw[k1,k3]
   have h:(i != j)=true:=h
   simp only[bne_iff_ne,ne_eq] at h ⊢
   exact fun hm=>h (hS.inj _ _ _ _ _ _ _ _ _ _ k2 k4 hm)
  |
   tree =>
   rw[MO] at ky h
   have ky:∀b,gP w=some b→V.F b:=ky
   have h:wi=true:=h
   subst h
   cases hw:gP w with
   | none=>rw[k1]
   |
    some b =>
    rw[k1]
    simp only[bne_iff_ne,ne_eq]
    exact fun hm=>(hS.wr _ _ _ _ k2).1 (by rw[hm];exact ky b hw)
 |
  tree =>
  rw[hbx] at kx h
  have kx:∀b,gP u=some b→V.F b:=kx
  cases MO:uE V.H y with
  | bad=>rw[MO] at h;have h:false=true:=h;cases h
  |
   no =>
   rw[MO] at ky
   have ky:gP w=none:=ky
   rw[ky]
   cases gP u<;>rfl
  | tree=>rw[MO] at h;have h:false=true:=h;cases h
  | Am j=>rw[MO] at h;have h:false=true:=h;cases h
  |
   row j wj =>
   rw[MO] at ky h
   obtain⟨k1,g1,Ab,e1,k2⟩:gP w=some (V.m j)∧∃g es e,V.H[j]? = some (.row g es e wj):=ky
   have h:wj=true:=h
   subst h
   cases hw:gP u with
   | none=>rfl
   |
    some b =>
    rw[k1]
    simp only[bne_iff_ne,ne_eq]
    exact fun hm=>(hS.wr _ _ _ _ k2).1 (by rw[←hm];exact kx b hw)
theorem Ok {V:View} (hS:SR V lo dG) {ρ:cN} {iR:Env} (hE:ER V ρ iR) {fl:Fl} {q:Bool} {op:kO} {K:VV→aC→Prop} (h:dH fl lo q op ρ V.H K):LH lo dG V (iL dG q op iR V.P) K:=by
 have other:∀ {v H'},vop fl lo op ρ V.H=some (v,H')→K v H'→LH lo dG V (iL dG q op iR V.P) K:=by
  intro v H' h1 h2
  obtain⟨pv,V',g1,g2,g3,g4,g5⟩:=Se hS hE (q:=q) h1
  exact⟨pv,V',v,g1,g3,g4,g5,by rw[g2];exact h2⟩
 unfold dH at h
 split at h
 ·rw[Sl]
  exact D8 hS (hE.evs _) h
 ·rename_i fv args
  rw[Pv]
  have hf:=hE.ev fv
  split at h
  ·rename_i f eV hfv
   rw[hfv] at hf
   generalize ev iR fv=u at hf ⊢
   cases hf with
   |
    nJ f eV ps hl =>
    unfold Xj
    simp only[List.nil_append]
    exact D8 hS ((hE.evs args).append hl) h
  ·cases h
 ·split at h
  ·rename_i v H' h1
   exact other h1 h
  ·cases h
theorem Hc {fl:Fl} {K:cN→aC→Prop}:∀(is:List PI) {V:View} {ρ:cN} {iR:Env},SR V lo dG→ER V ρ iR→VS fl lo is K ρ V.H →
  WS dG is (fun IZ P'=>∃V' aP,V'.P=P'∧SR V' lo dG∧Ct lo V V'∧ER V' aP IZ∧K aP V'.H) iR V.P
 |
  [],V,ρ,iR,hS,hE,h=>by
  rw[abD]
  exact⟨V,ρ,rfl,hS,Ct.refl _ _,hE,h⟩
 |
  i::is,V,ρ,iR,hS,hE,h=>by
  unfold VS at h
  rw[aeD]
  unfold uC
  split at h
  ·cases h
  ·rename_i hw
   rw[Dc hE hw]
   exact⟨_,_,rfl,Hc is hS (hE.put (.eX [] [] .nil)) h⟩
  ·rename_i hw
   rw[Dc hE hw]
   obtain⟨Ma,h⟩:=h
   have aoV:i.cf.all (wG iR)=true:=by
    rw[List.all_eq_true] at Ma ⊢
    intro c hc
    exact P4 hS (hE.ev c.1) (hE.ev c.2) (Ma c hc)
   simp only[aoV,if_true]
   obtain⟨pv,V',v,g1,g2,g3,g4,g5⟩:=Ok hS hE h
   refine⟨pv,V'.P,?_,?_⟩
   ·unfold iL at g1
    exact g1
   ·obtain⟨RH,SF,k1,Mh,BW,k2,k3,k4,k5,k6⟩:=Hc is g2 ((hE.mono g3.toUp).put g4) g5
    exact⟨RH,SF,k1,Mh,BW,k2,k3,g3.trans k4,k5,k6⟩
theorem IN:∀(ts:List Nat) {V:View} {ρ aP:cN} {iR:Env} {H':aC},SR V lo dG→ER V ρ iR→XG ts ρ V.H=some (aP,H')→∃V',V'.P=V.P∧V'.H=H'∧SR V' lo dG∧Ct lo V V'∧ER V' aP iR
 |
  [],V,ρ,aP,iR,H',hS,hE,h=>by
  cases h
  exact⟨V,rfl,rfl,hS,Ct.refl _ _,hE⟩
 |
  t::ts,V,ρ,aP,iR,H',hS,hE,h=>by
  unfold XG at h
  split at h
  case h_2=>cases h
  rename_i v hv
  obtain⟨k1,k2,k3,k4,k5,k6⟩:=rI (gQ depth V.H (ρ t)) hS
  have hx:=Ik hS (G:=(V.cA (gQ depth V.H (ρ t))).F) (fun q hq=>k2.F q hq) depth (ρ t) v (iR t) (hE t) hv k6
  have YD:VR (V.cA (gQ depth V.H (ρ t))) v (iR t):=hx.CR (fun b hb=>⟨hb,by rw[k4]⟩)
  rw[←k3] at h
  obtain⟨V',g1,g2,g3,g4,g5⟩:=IN ts (iR:=iR) k1 (by
   have e:=(hE.mono k2.toUp).put (d:=some t) YD
   have ee:put iR (some t) (iR t)=iR:=by
    funext k
    simp only[put]
    split
    ·rename_i hk;rw[hk]
    ·rfl
   rw[ee] at e
   exact e) h
  exact⟨V',g1.trans k4,g2,g3,k2.trans g4,g5⟩
theorem MJ {V:View} (hS:SR V lo dG) {ρ:cN} {iR:Env} (hE:ER V ρ iR) {K:cN→aC→Prop} (h:gh K ρ V.H):∃V' aP,V'.P=V.P∧SR V' lo dG∧Ct lo V V'∧ER V' aP iR∧K aP V'.H:=by
 obtain⟨ts,aP,H',h1,h2⟩:=h
 obtain⟨V',g1,g2,g3,g4,g5⟩:=IN ts hS hE h1
 exact⟨V',aP,g1,g3,g4,g5,by rw[g2];exact h2⟩
theorem H5 {k:Nat} {es:List VV}:jK k es=true↔∀x∈es,below k x=true:=by
 induction es with
 | nil=>simp[jK]
 | cons x xs ih=>simp[jK,ih]
theorem Ay {k:Nat} {es:List VV} (h:jK k es=true):jK k (es.flatMap aB)=true:=by
 rw[H5] at h ⊢
 intro x hx
 obtain⟨y,hy,C4⟩:=List.mem_flatMap.1 hx
 have:=h y hy
 unfold aB at C4
 split at C4
 ·exact H5.1 (by simpa[below] using this) x C4
 ·rw[List.mem_singleton] at C4;subst C4;exact this
theorem N2 {k:Nat} {x:VV} (h:below k x=true):jK k (aB x)=true:=by
 have:=Ay (k:=k) (es:=[x]) (by simp[jK,h])
 simpa using this
def View.vE (V:View) (k:Nat):View:={ V with H:=V.H.take k }
theorem VR.vE {V:View} {k:Nat} (hk:k≤V.H.length) {x:VV} {v:Value} (h:VR V x v):PM.below k x=true→VR (V.vE k) x v:=by
 have he:∀ {b:Nat},b<k→∀y,(V.vE k).H[b]? = some y→V.H[b]? = some y:=fun Qx y hy=>by
  have:(V.H.take k)[_]? = some y:=hy
  rw[List.getElem?_take,if_pos Qx] at this
  exact this
 have hT:∀ {b:Nat} {y:cZ},(V.vE k).H[b]? = some y→V.H[b]? = some y:=fun {b y} hy=>by
  have h:(V.H.take k)[b]? = some y:=hy
  rw[List.getElem?_take] at h
  split at h
  ·exact h
  ·cases h
 induction h using VR.rec (motive_2:=fun xs vs _=>jK k xs=true→VL (V.vE k) xs vs) with
 | any=>intro _;exact .any _
 | sc _ h=>intro _;exact .sc _ h
 | agg cs ps _ ih=>intro hb;exact .agg _ _ (ih hb)
 | eX cs ps _ ih=>intro hb;exact .eX _ _ (ih hb)
 | mN k hk=>intro _;exact .mN k hk
 | tree es k b o c r e p PH oY ho hc he So _ ih=>intro hb;exact .tree es k b o c r e p PH oY ho hc he So (ih (Ay hb))
 | cD x off b o r e p PH oY ho _ ih=>intro hb;exact .cD x off b o r e p PH oY ho (ih (N2 hb))
 |
  ref b g o n c a n' c' aR hg ha hq =>
  intro hb
  have Qx:b<k:=by simpa[PM.below] using hb
  exact .ref b g o n c a n' c' (by show b<(V.H.take k).length;simp;omega) (fun g' es e w hr=>hg _ _ _ _ (he Qx _ hr)) (fun es e w hr=>ha _ _ _ (he Qx _ hr)) fun a0 h=>⟨(hq a0 h).1,(hq a0 h).2.1,fun b' g' es e w hr=>(hq a0 h).2.2 b' g' es e w (hT hr)⟩
 |
  ptr b g j off a aR hg ha hq =>
  intro hb
  have Qx:b<k:=by simpa[PM.below] using hb
  exact .ptr b g j off a (by show b<(V.H.take k).length;simp;omega) (fun g' es e w hr=>hg _ _ _ _ (he Qx _ hr)) (fun es e w hr=>ha _ _ _ (he Qx _ hr)) fun a0 h=>⟨(hq a0 h).1,(hq a0 h).2.1,fun b' g' es e w hr=>(hq a0 h).2.2 b' g' es e w (hT hr)⟩
 | nJ f eV ps _ ih=>intro hb;exact .nJ _ _ _ (ih hb)
 | nil=>exact .nil
 |
  cons x v xs vs _ _ ih Tb =>
  rename_i hb
  simp only[jK,Bool.and_eq_true] at hb
  exact .cons _ _ _ _ (ih hb.1) (Tb hb.2)
theorem VL.vE {V:View} {k:Nat} (hk:k≤V.H.length) {xs:List VV} {vs:List Value} (h:VL V xs vs) (hb:jK k xs=true):VL (V.vE k) xs vs:=by
 induction xs generalizing vs with
 | nil=>cases h;exact .nil
 |
  cons x xs ih=>cases h with
  |
   cons _ v _ vs h hs =>
   simp only[jK,Bool.and_eq_true] at hb
   exact .cons _ _ _ _ (h.vE hk hb.1) (ih hs hb.2)
theorem M4 {V V':View} (hS:SR V' lo dG) {ρ:cN} {iR:Env} (hE:ER V' ρ iR) (hx:Ct lo V V') (hr:cR V.H.length (V'.H.take V.H.length)=true) :
  SR (V'.vE V.H.length) lo dG∧Ct lo V (V'.vE V.H.length)∧ER (V'.vE V.H.length) (C2 V.H.length ρ) iR:=by
 have hk:=hx.len
 have get:∀ {b:Nat} {y:cZ},(V'.vE V.H.length).H[b]? = some y→V'.H[b]? = some y:=by
  intro b y h
  have h:(V'.H.take V.H.length)[b]? = some y:=h
  rw[List.getElem?_take] at h
  split at h
  ·exact h
  ·cases h
 refine⟨⟨fun b g es e w hb => ?_,fun b g es e hb=>hS.wr b g es e (get hb),fun a b g es e w g' kD e' w' ha hb hm=>hS.inj a b _ _ _ _ _ _ _ _ (get ha) (get hb) hm,hS.fr,hS.O1,hS.Jh⟩,
  { F:=hx.F,P:=hx.P,len:=by show V.H.length≤(V'.H.take V.H.length).length;simp;omega,row:=fun b g es e w aR hb=>hx.row b g es e w aR (get hb),Jh:=hx.Jh,DT:=hx.DT,Am:=fun b g es e w hb hm=>hx.Am b g es e w (get hb) hm,oB:=hx.oB,BU:=hx.BU },fun t => ?_⟩
 ·obtain⟨r,p,h1,h2,h3⟩:=hS.row b g es e w (get hb)
  refine⟨r,p,h1,h2,h3.vE hk (Ay ?_)⟩
  have:=List.all_eq_true.1 hr _ (List.mem_of_getElem? (show (V'.H.take V.H.length)[b]? = some _ from hb))
  exact this
 ·unfold C2 AL
  split
  ·rename_i hb
   exact(hE t).vE hk hb
  ·exact .any _
theorem N5 {c:aH} {Q:Ex→Env→aF→Prop} {ρ:Env} {H:aF} (h:W dG c (ahR (fun aP H'=>W dG (.loop c) Q aP H') Q) ρ H):W dG (.loop c) Q ρ H:=by
 obtain⟨x,aP,H',h1,h2⟩:=h
 unfold W
 rw[Tf,h1]
 cases x with
 |
  normal =>
  obtain⟨y,BW,H'',h3,h4⟩:=h2
  exact⟨y,BW,H'',h3,h4⟩
 | exit i=>exact⟨_,_,_,rfl,h2⟩
 | ret=>exact⟨_,_,_,rfl,h2⟩
theorem qQ {fl:Fl}:∀(c:aH) {V:View} {ρ:cN} {iR:Env} {Q:VQ},SR V lo dG→ER V ρ iR→VW fl lo c Q ρ V.H→vM lo dG V c Q iR
 |
  .skip,V,ρ,iR,Q,hS,hE,h=>by
  unfold vM
  rw[aaI]
  exact⟨V,ρ,rfl,hS,Ct.refl _ _,hE,h⟩
 |
  .exit id,V,ρ,iR,Q,hS,hE,h=>by
  unfold vM
  rw[ZV]
  exact⟨V,ρ,rfl,hS,Ct.refl _ _,hE,h⟩
 |
  .ret,V,ρ,iR,Q,hS,hE,h=>by
  unfold vM
  rw[afK]
  exact⟨V,ρ,rfl,hS,Ct.refl _ _,hE,h⟩
 |
  .fG ops,V,ρ,iR,Q,hS,hE,h=>by
  unfold vM
  rw[agZ]
  exact Hc ops hS hE h
 |
  .seq a b,V,ρ,iR,Q,hS,hE,h=>by
  unfold vM
  rw[afQ]
  refine(qQ a hS hE h).mono ?_
  rintro x IZ P' ⟨V',aP,rfl,g2,g3,g4,g5⟩
  cases x with
  |
   normal =>
   refine(qQ b g2 g4 g5).mono ?_
   rintro y RH SF ⟨Mh,BW,k1,k2,k3,k4,k5⟩
   exact⟨Mh,BW,k1,k2,g3.trans k3,k4,k5⟩
  | exit i=>exact⟨V',aP,rfl,g2,g3,g4,g5⟩
  | ret=>exact⟨V',aP,rfl,g2,g3,g4,g5⟩
 |
  .cond c a b,V,ρ,iR,Q,hS,hE,h=>by
  unfold vM
  rw[acJ]
  unfold VW at h
  split at h
  ·rename_i t hc
   obtain⟨e,_⟩:=nM (hE.ev c) hc
   refine⟨t,e,fun ht => ?_,fun ht => ?_⟩
   ·rw[if_pos ht] at h
    exact qQ a hS hE h
   ·rw[if_neg (by simp[ht])] at h
    exact qQ b hS hE h
  ·cases h
 |
  .block id a,V,ρ,iR,Q,hS,hE,h=>by
  unfold vM
  rw[YZ]
  refine(qQ a hS hE h).mono ?_
  rintro x IZ P' ⟨V',aP,rfl,g2,g3,g4,g5⟩
  cases x with
  | normal=>exact⟨V',aP,rfl,g2,g3,g4,g5⟩
  |
   exit i =>
   rw[Fi]
   have g5:if i=id then Q .normal aP V'.H else Q (.exit i) aP V'.H:=g5
   split at g5
   ·rename_i hi
    rw[if_pos hi]
    exact⟨V',aP,rfl,g2,g3,g4,g5⟩
   ·rename_i hi
    rw[if_neg hi]
    exact⟨V',aP,rfl,g2,g3,g4,g5⟩
  | ret=>exact⟨V',aP,rfl,g2,g3,g4,g5⟩
 |
  .loop a,V,ρ,iR,Q,hS,hE,h=>by
  obtain⟨n,h⟩:=h
  have key:∀n {V:View} {ρ:cN} {iR:Env},SR V lo dG→ER V ρ iR→M5 (VW fl lo a) (fun x=>gh (Q x)) n ρ V.H→vM lo dG V (.loop a) Q iR:=by
   intro n
   induction n with
   | zero=>intro V ρ iR _ _ h;cases h
   |
    succ n ih =>
    intro V ρ iR hS hE h
    unfold vM
    refine N5 ?_
    refine(qQ a hS hE h).mono ?_
    rintro x IZ P' ⟨V',aP,rfl,g2,g3,g4,g5⟩
    cases x with
    |
     normal =>
     rcases g5 with g5 | ⟨g5,g6⟩
     ·refine(ih g2 g4 g5).mono ?_
      rintro y RH SF ⟨Mh,BW,k1,k2,k3,k4,k5⟩
      exact⟨Mh,BW,k1,k2,g3.trans k3,k4,k5⟩
     ·obtain⟨t1,t2,t3⟩:=M4 g2 g4 g3 g5
      refine(ih t1 t3 g6).mono ?_
      rintro y RH SF ⟨Mh,BW,k1,k2,k3,k4,k5⟩
      exact⟨Mh,BW,k1,k2,t2.trans k3,k4,k5⟩
    |
     exit i =>
     obtain⟨Mh,BW,k1,k2,k3,k4,k5⟩:=MJ g2 g4 g5
     exact⟨Mh,BW,k1,k2,g3.trans k3,k4,k5⟩
    |
     ret =>
     obtain⟨Mh,BW,k1,k2,k3,k4,k5⟩:=MJ g2 g4 g5
     exact⟨Mh,BW,k1,k2,g3.trans k3,k4,k5⟩
  exact key n hS hE h
theorem sA {V:View} (hS:SR V lo dG) {ρ:cN} {iR:Env} (hE:ER V ρ iR) {res:List xK} {v:VV} (h:nE res ρ V.H=some v):∃pv,nF res iR V.P=some pv∧VR V v pv:=by
 have one:∀ {r:xK} {v:VV},JY ρ V.H r=some v→∃pv,Qj iR V.P r=some pv∧VR V v pv:=by
  intro r v h
  cases r with
  | tmp t=>cases h;exact⟨_,rfl,hE t⟩
  | cell t agg size=>exact Ho hS (hE t) h
 have all:∀ {rs:List xK} {vs:List VV},vI ρ V.H rs=some vs→∃ps,yJ iR V.P rs=some ps∧VL V vs ps:=by
  intro rs
  induction rs with
  | nil=>intro vs h;cases h;exact⟨[],rfl,.nil⟩
  |
   cons r rs ih =>
   intro vs h
   unfold vI at h
   split at h
   ·rename_i v vs' h1 h2
    cases h
    obtain⟨pv,k1,k2⟩:=one h1
    obtain⟨ps,k3,k4⟩:=ih h2
    exact⟨pv::ps,by unfold yJ;rw[k1,k3],.cons _ _ _ _ k2 k4⟩
   ·cases h
 unfold nE at h
 split at h
 ·rename_i v' hv
  cases h
  obtain⟨ps,k1,k2⟩:=all hv
  cases k2 with
  |
   cons _ pv _ _ hx PU =>
   cases PU
   exact⟨pv,by unfold nF;rw[k1],hx⟩
 ·rename_i vs cI hv
  cases h
  obtain⟨ps,k1,k2⟩:=all hv
  refine⟨.tuple ps.toArray,?_,.eX _ _ k2⟩
  unfold nF
  rw[k1]
  split
  ·rename_i pv he
   injection he with he
   subst he
   cases k2 with
   | cons x _ _ _ hx PU=>cases PU;exact absurd rfl (cI x)
  ·rename_i he
   injection he with he
   rw[he]
  ·rename_i he;cases he
 ·cases h
theorem NL {V:View} {args:List VV} {dQ:List Value} (h:VL V args dQ):ER V (H9 args) (St dQ):=by
 intro t
 unfold H9 St
 rw[List.getD_eq_getElem?_getD,List.getD_eq_getElem?_getD]
 cases hx:args[t]? with
 |
  none =>
  have:dQ[t]? = none:=by
   rw[List.getElem?_eq_none_iff] at hx ⊢
   rw[h.length]
   exact hx
  rw[this]
  exact .eX [] [] .nil
 |
  some x =>
  obtain⟨v,h1,h2⟩:=h.get hx
  rw[h1]
  exact h2
theorem kH.walk {f:Nat} {pf:aU} {args:List VV} {H:aC} {K:VV→aC→Prop} (fl:Fl) (ht:iY f=some pf) (ha:args.length≤pf.ntmps) (h:VW fl lo pf.body (yU pf.res K) (H9 args) H):kH f args lo H K:=by
 intro V dG dQ hH hS hl
 subst hH
 obtain⟨x,IZ,P',h1,V',aP,rfl,g2,g3,g4,g5⟩:=qQ pf.body hS (NL hl) h
 have key:∃pv SF,nK f dQ dG V.P=some (pv,SF)∧SF=V'.P∧∃r,VR V' r pv∧K r V'.H:=by
  refine Wn ht (by rw[hl.length];exact ha) ?_
  refine⟨x,IZ,V'.P,h1,?_⟩
  cases x with
  | exit i=>exact g5.elim
  |
   normal =>
   simp only[yU,C9] at g5
   split at g5
   ·rename_i v hv
    obtain⟨pv,k2,k3⟩:=sA g2 g4 hv
    exact⟨pv,k2,rfl,v,k3,g5⟩
   ·cases g5
  |
   ret =>
   simp only[yU,C9] at g5
   split at g5
   ·rename_i v hv
    obtain⟨pv,k2,k3⟩:=sA g2 g4 hv
    exact⟨pv,k2,rfl,v,k3,g5⟩
   ·cases g5
 obtain⟨pv,SF,k1,rfl,r,k2,k3⟩:=key
 exact⟨pv,V',r,k1,g2,g3,k2,k3⟩
theorem VT.walk {f:Nat} {pf:aU} {args:List VV} {r:VV} (fl:Fl) (ht:iY f=some pf) (ha:args.length≤pf.ntmps) (h:VW fl 0 pf.body (yU pf.res fun v H=>fz depth H v=some r) (H9 args) []):VT f args r:=by
 intro F P dQ dG hF hl YY
 have hS:SR (bare F P) 0 dG:=⟨fun b g es e w hb=>by simp[bare] at hb,fun b g es e hb=>by simp[bare] at hb,fun a b g es e w g' kD e' w' ha=>by simp[bare] at ha,hF,YY,Nat.zero_le _⟩
 obtain⟨x,IZ,P',h1,V',aP,rfl,g2,g3,g4,g5⟩:=qQ pf.body hS (NL hl) h
 have fin:∀ {v:VV} {pv:Value},VR V' v pv→fz depth V'.H v=some r→VR (bare (fun q=>F q∨(P.length≤q∧q<V'.P.length)) V'.P) r pv:=by
  intro v pv hv hf
  refine Ik g2 (fun q hq => ?_) depth v r pv hv hf fun i _ g es e w hr => ?_
  ·rcases g3.BU q hq with h | h | ⟨b,g,es,e,w,h,_⟩
   ·exact .inl h
   ·exact .inr ⟨h,g2.fr q hq⟩
   ·simp[bare] at h
  ·rcases Nat.lt_or_ge (V'.m i) P.length with aR | vZ
   ·obtain⟨g0,es0,w0,k1,_⟩:=g3.Am i g es e w hr aR
    simp[bare] at k1
   ·exact .inr ⟨vZ,g2.mlt hr⟩
 have key:∃pv SF,nK f dQ dG P=some (pv,SF)∧SF=V'.P∧VR (bare (fun q=>F q∨(P.length≤q∧q<V'.P.length)) V'.P) r pv:=by
  refine Wn ht (by rw[hl.length];exact ha) ?_
  refine⟨x,IZ,V'.P,h1,?_⟩
  cases x with
  | exit i=>exact g5.elim
  |
   normal =>
   simp only[yU,C9] at g5
   split at g5
   ·rename_i v hv
    obtain⟨pv,k2,k3⟩:=sA g2 g4 hv
    exact⟨pv,k2,rfl,fin k3 g5⟩
   ·cases g5
  |
   ret =>
   simp only[yU,C9] at g5
   split at g5
   ·rename_i v hv
    obtain⟨pv,k2,k3⟩:=sA g2 g4 hv
    exact⟨pv,k2,rfl,fin k3 g5⟩
   ·cases g5
 obtain⟨pv,SF,k1,rfl,k3⟩:=key
 refine⟨V'.P,pv,k1,?_,k3⟩
 refine⟨V'.P.drop P.length,List.ext_getElem? fun i => ?_⟩
 rcases Nat.lt_or_ge i P.length with hi | hi
 ·rw[List.getElem?_append_left hi]
  exact(g3.oB i hi fun b g es e hb=>by simp[bare] at hb).symm
 ·rw[List.getElem?_append_right hi,List.getElem?_drop,show P.length+(i-P.length)=i by omega]
end
end Go.PM
namespace Go.PM
section
variable {fl:Fl} {lo:Nat} {ρ:cN} {H:aC} {Q:VQ} {K:cN→aC→Prop} {k:VV→aC→Prop} {a b:aH} {d:Option Nat} {is:List PI} {q:Bool} {op:kO}
def N3 (fl:Fl) (lo:Nat) (d:Option Nat) (is:List PI) (K:cN→aC→Prop) (ρ:cN):VV→aC→Prop:=fun v H'=>VS fl lo is K (Gc ρ d v) H'
def Nf (r:Option (VV×aC)) (k:VV→aC→Prop):Prop:=match r with
 | some (v,H')=>k v H'
 | none=>False
theorem KD {v:VV} {H':aC}:N3 fl lo d is K ρ v H'=VS fl lo is K (Gc ρ d v) H':=rfl
theorem Mg {v:VV}:GZ (some v) H k=k v H:=rfl
theorem Ke {v:VV} {H':aC}:Nf (some (v,H')) k=k v H':=rfl
theorem XT {r:VV} {K:VV→Prop}:tk (some r) K=K r:=rfl
theorem RN:VW fl lo .skip Q ρ H=Q .normal ρ H:=rfl
theorem QM {i:Nat}:VW fl lo (.exit i) Q ρ H=Q (.exit i) ρ H:=rfl
theorem T2:VW fl lo .ret Q ρ H=Q .ret ρ H:=rfl
theorem W1 {ops:List PI}:VW fl lo (.fG ops) Q ρ H=VS fl lo ops (Q .normal) ρ H:=rfl
theorem VG:VW fl lo (.seq a b) Q ρ H=VW fl lo a (kG (VW fl lo b Q) Q) ρ H:=rfl
theorem tX {i:Nat}:VW fl lo (.block i a) Q ρ H=VW fl lo a (vY i Q) ρ H:=rfl
theorem Rq {c:Operand} {t:Bool} (h:dJ ρ c = .sc (.bool t)):VW fl lo (.cond c a b) Q ρ H=if t=true then VW fl lo a Q ρ H else VW fl lo b Q ρ H:=by
 simp only[VW,h]
theorem zS:kG K Q .normal=K:=rfl
theorem Cw {i:Nat}:kG K Q (.exit i)=Q (.exit i):=rfl
theorem Dg:kG K Q .ret=Q .ret:=rfl
theorem Ck {i:Nat}:vY i Q .normal=Q .normal:=rfl
theorem vD {i j:Nat}:vY i Q (.exit j) ρ H=if j=i then Q .normal ρ H else Q (.exit j) ρ H:=rfl
theorem HE {i:Nat}:vY i Q .ret=Q .ret:=rfl
theorem Dt {res:List xK} {R:VV→aC→Prop}:yU res R .normal ρ H=C9 R (nE res ρ H) H:=rfl
theorem KI {res:List xK} {R:VV→aC→Prop}:yU res R .ret ρ H=C9 R (nE res ρ H) H:=rfl
theorem Hi {R:VV→aC→Prop} {v:VV}:C9 R (some v) H=R v H:=rfl
theorem NU {t:Nat}:nE [.tmp t] ρ H=some (ρ t):=rfl
theorem Mv {t u:Nat}:nE [.tmp t,.tmp u] ρ H=some (.eX [ρ t,ρ u]):=rfl
theorem HT {t u v:Nat}:nE [.tmp t,.tmp u,.tmp v] ρ H=some (.eX [ρ t,ρ u,ρ v]):=rfl
theorem JC:nE [] ρ H=some (.eX []):=rfl
theorem Uf:VS fl lo [] K ρ H=K ρ H:=rfl
theorem Zn:VS fl lo (⟨d,op,none,q,[]⟩::is) K ρ H=dH fl lo q op ρ H (N3 fl lo d is K ρ):=by
 simp only[VS,yB,List.all_nil,true_and]
 rfl
theorem yX {c:Operand×Operand} {cs:List (Operand×Operand)}:VS fl lo (⟨d,op,none,q,c::cs⟩::is) K ρ H=((c::cs).all (nH ρ H)=true∧dH fl lo q op ρ H (N3 fl lo d is K ρ)):=by
 simp only[VS,yB]
 rfl
theorem Mi {t:Nat} {want x:Bool} {cf:List (Operand×Operand)} (h:ρ t = .sc (.bool x)):VS fl lo (⟨d,op,some (t,want),q,cf⟩::is) K ρ H =
  if (x == want)=true then (cf.all (nH ρ H)=true∧dH fl lo q op ρ H (N3 fl lo d is K ρ)) else VS fl lo is K (Gc ρ d mK) H:=by
 simp only[VS,yB,h]
 cases (x == want)<;>rfl
theorem Xi {t:Nat} {want:Bool} (h:ρ t = .sc (.bool want)):VS fl lo (⟨d,op,some (t,want),q,[]⟩::is) K ρ H=dH fl lo q op ρ H (N3 fl lo d is K ρ):=by
 rw[Mi h]
 simp
theorem Zf {t:Nat} {want:Bool} {cf:List (Operand×Operand)} (h:ρ t = .sc (.bool (!want))):VS fl lo (⟨d,op,some (t,want),q,cf⟩::is) K ρ H=VS fl lo is K (Gc ρ d mK) H:=by
 rw[Mi h]
 cases want<;>rfl
theorem Qi {c:Operand} (h:dJ ρ c = .sc (.bool true)):VW fl lo (.cond c a b) Q ρ H=VW fl lo a Q ρ H:=by
 rw[Rq h,if_pos rfl]
theorem Nd {c:Operand} (h:dJ ρ c = .sc (.bool false)):VW fl lo (.cond c a b) Q ρ H=VW fl lo b Q ρ H:=by
 rw[Rq h,if_neg (by decide)]
theorem F2 {t:Nat} {want:Bool} {cf:List (Operand×Operand)} (h:ρ t=mK):VS fl lo (⟨d,op,some (t,want),q,cf⟩::is) K ρ H=VS fl lo is K (Gc ρ d mK) H:=by
 simp only[VS,yB,h,mK]
theorem qZ {d t:Nat} {v:VV}:Gc ρ (some d) v t=if t=d then v else ρ t:=rfl
theorem KG {v:VV}:Gc ρ none v=ρ:=rfl
theorem QK {t:Nat}:dJ ρ (.tmp t)=ρ t:=rfl
theorem Kv {v:Value}:dJ ρ (.const v)=inj v:=rfl
theorem Nk {f:Nat}:dJ ρ (.func f) = .nJ f []:=rfl
theorem Q5 {k:IntKind} {n:Int}:inj (.int k n) = .sc (.int k n):=rfl
theorem Ni {t:Bool}:inj (.bool t) = .sc (.bool t):=rfl
theorem Qr {s:ByteArray}:inj (.string s) = .sc (.string s):=rfl
theorem QS:inj (.slice none 0 0) = .tree [] .nil:=rfl
theorem Ql {cs:Array Value}:inj (.agg cs) = .agg (cs.toList.map gL):=rfl
theorem M1 {k:IntKind} {n:Int}:gL (.int k n) = .sc (.int k n):=rfl
theorem Ks {t:Bool}:gL (.bool t) = .sc (.bool t):=rfl
theorem Mn {s:ByteArray}:gL (.string s) = .sc (.string s):=rfl
theorem On:gL (.slice none 0 0) = .tree [] .nil:=rfl
theorem Va {x:Operand}:dH fl lo q (.mv x) ρ H k=k (dJ ρ x) H:=rfl
theorem fW {r:Option VV}:(match r.map (fun v=>(v,H)) with | some (v,H')=>k v H' | none=>False)=GZ r H k:=by cases r<;>rfl
theorem NK {c x y:Operand}:dH fl lo q (.pick c x y) ρ H k=GZ (MV (dJ ρ c) (dJ ρ x) (dJ ρ y)) H k:=fW
theorem Ri {o:BinOp} {x y:Operand}:dH fl lo q (.bin o x y) ρ H k=GZ (Fe (cY o) (dJ ρ x) (dJ ρ y)) H k:=fW
theorem QQ {n:Bool} {x y:Operand}:dH fl lo q (.eqb n x y) ρ H k=GZ (Fe (Po n) (dJ ρ x) (dJ ρ y)) H k:=fW
theorem JD {n:Bool} {x:Operand}:dH fl lo q (.isnil n x) ρ H k=GZ (Cy n (dJ ρ x) H) H k:=fW
theorem JI {n:Bool} {ks:List CK} {x y:Operand}:dH fl lo q (.eqagg n ks x y) ρ H k=GZ (O5 n ks (dJ ρ x) (dJ ρ y)) H k:=fW
theorem Wq {o:UnOp} {x:Operand}:dH fl lo q (.un o x) ρ H k=GZ (Ip (TT o) (dJ ρ x)) H k:=fW
theorem Q9 {o:IntKind} {x:Operand}:dH fl lo q (.cvt o x) ρ H k=GZ (Ip (P6 o) (dJ ρ x)) H k:=fW
theorem RP {x:Operand}:dH fl lo q (.cvs x) ρ H k=GZ (Ip S9 (dJ ρ x)) H k:=fW
theorem Q0 {x:Operand} {i:Nat}:dH fl lo q (.ext x i) ρ H k=GZ (WB i (dJ ρ x)) H k:=fW
theorem QD {g:Bool} {off size:Nat} {x:Operand}:dH fl lo q (.fld g off size x) ρ H k=GZ (YI g off size (dJ ρ x)) H k:=fW
theorem Ku {z:List Value} {places:List (Nat×Nat)} {parts:List (Nat×Operand)}:dH fl lo q (.build z places parts) ρ H k=GZ ((yV places (z.map gL) (parts.map fun(i,x)=>(i,dJ ρ x))).map .agg) H k:=by
 show (match (yV places (z.map gL) (parts.map fun(i,x)=>(i,dJ ρ x))).map fun cs=>(VV.agg cs,H) with | some (v,H')=>k v H' | none=>False)=_
 cases yV places (z.map gL) (parts.map fun(i,x)=>(i,dJ ρ x))<;>rfl
theorem QU {x:Operand}:dH fl lo q (.chk x) ρ H k=GZ (R2 (dJ ρ x) H) H k:=fW
theorem JH {off:Nat} {x:Operand}:dH fl lo q (.faddr off x) ρ H k=GZ (tL off (dJ ρ x) H) H k:=fW
theorem JU {size:Nat} {x i:Operand}:dH fl lo q (.iaddr size x i) ρ H k=GZ (aZ size (dJ ρ x) (dJ ρ i) H) H k:=fW
theorem M9 {x i:Operand}:dH fl lo q (.sidx x i) ρ H k=GZ (Fe Ec (dJ ρ x) (dJ ρ i)) H k:=fW
theorem MW {x:Operand} {l h:Option Operand}:dH fl lo q (.ssub x l h) ρ H k=GZ (FW (dJ ρ x) (l.map (dJ ρ)) (h.map (dJ ρ))) H k:=fW
theorem MY {f:Nat} {eV:List Operand}:dH fl lo q (.mkfn f eV) ρ H k=k (.nJ f (eV.map (dJ ρ))) H:=rfl
theorem QX {x:Operand}:dH fl lo q (.len x) ρ H k=GZ (lY (dJ ρ x) H) H k:=fW
theorem N0 {x:Operand}:dH fl lo q (.slen x) ρ H k=GZ (Ip Da (dJ ρ x)) H k:=fW
theorem Rn {x y:Operand}:dH fl lo q (.min x y) ρ H k=GZ (Fe MX (dJ ρ x) (dJ ρ y)) H k:=fW
theorem QB {x y:Operand}:dH fl lo q (.max x y) ρ H k=GZ (Fe Ol (dJ ρ x) (dJ ρ y)) H k:=fW
theorem NV {g:Bool} {size:Nat} {p:Operand}:dH fl lo q (.load g size p) ρ H k=GZ (eZ g size (dJ ρ p) H) H k:=fW
theorem RY {size:Nat} {x:Operand} {l h m:Option Operand}:dH fl lo q (.sub size x l h m) ρ H k=GZ (AA size (dJ ρ x) (l.map (dJ ρ)) (h.map (dJ ρ)) (m.map (dJ ρ)) H) H k:=fW
theorem QA {z:List Value}:dH fl lo q (.new z) ρ H k=Nf (if (z.map gL).all cB then some (.ptr H.length 0 0 0,H++[.row 0 [elemOf (z.map gL)] z.length true]) else none) k:=rfl
theorem QG {x:Operand}:dH fl lo q (.box x) ρ H k=Nf (if (aB (dJ ρ x)).all cB then (if fl.bf then some (.cD (dJ ρ x) 0,H) else some (.ptr H.length 0 0 0,H++[.row 0 [dJ ρ x] (aB (dJ ρ x)).length true])) else none) k:=rfl
theorem Nn {z:List Value} {bytes:Nat} {l c:Operand}:dH fl lo q (.make z bytes l c) ρ H k=Nf (if (z.map gL).all cB then zY z bytes (dJ ρ l) (dJ ρ c) H else none) k:=rfl
theorem Qs {z:List Value} {n:Nat} {parts:List (Nat×Operand)}:dH fl lo q (.lit z n parts) ρ H k=Nf (oU fl.lr z n (parts.map fun(i,x)=>(i,dJ ρ x)) H) k:=rfl
def Qo (r:Option aC) (k:VV→aC→Prop):Prop:=match r with
 | some H'=>k mK H'
 | none=>False
theorem Il {H':aC}:Qo (some H') k=k mK H':=rfl
theorem KF {r:Option aC}:(match r.map (fun H'=>(mK,H')) with | some (v,H')=>k v H' | none=>False)=Qo r k:=by cases r<;>rfl
theorem JW {size:Nat} {p v:Operand}:dH fl lo q (.store size p v) ρ H k=Qo (dE lo size (dJ ρ p) (dJ ρ v) H) k:=KF
def aeK (lo size bytes:Nat) (x:VV) (new:Option (List VV)) (H:aC) (k:VV→aC→Prop):Prop:=match new with
 | some new=>Nf (dW lo size bytes x new H) k
 | none=>False
theorem KJ {size bytes:Nat} {x:VV} {new:List VV}:aeK lo size bytes x (some new) H k=Nf (dW lo size bytes x new H) k:=rfl
theorem Rj {size bytes:Nat} {x y:Operand}:dH fl lo q (.app size bytes x y) ρ H k=aeK lo size bytes (dJ ρ x) (cM size (dJ ρ y) H) H k:=by
 show (match (match cM size (dJ ρ y) H with | some new=>dW lo size bytes (dJ ρ x) new H | none=>none) with | some (v,H')=>k v H' | none=>False)=_
 cases cM size (dJ ρ y) H<;>rfl
theorem Ml {size:Nat} {x y:Operand}:dH fl lo q (.copy size x y) ρ H k=Nf (Fz lo size (dJ ρ x) (dJ ρ y) H) k:=rfl
theorem Kd {z:List Value} {x:Operand}:dH fl lo q (.clear z x) ρ H k=Qo (EV lo z (dJ ρ x) H) k:=KF
theorem MK {f:Nat} {args:List Operand}:dH fl lo q (.call f args) ρ H k=cS f (args.map (dJ ρ)) (if q then H.length else lo) H k:=rfl
noncomputable def O6 (x:VV) (args:List VV) (lo:Nat) (H:aC) (k:VV→aC→Prop):Prop:=match x with
 | .nJ f eV=>cS f (args++eV) lo H k
 | _=>False
theorem Hh {f:Nat} {eV args:List VV}:O6 (.nJ f eV) args lo H k=cS f (args++eV) lo H k:=rfl
theorem JG {fv:Operand} {args:List Operand}:dH fl lo q (.callv fv args) ρ H k=O6 (dJ ρ fv) (args.map (dJ ρ)) (if q then H.length else lo) H k:=by
 simp only[dH,O6]
 all_goals (cases dJ ρ fv<;>rfl)
theorem Rs {f:Value→Option Value} {x:Value}:Ip f (.sc x)=(f x).map .sc:=rfl
theorem RG {f:Value→Value→Option Value} {x y:Value}:Fe f (.sc x) (.sc y)=(f x y).map .sc:=rfl
theorem Nw {t:Bool} {x y:VV}:MV (.sc (.bool t)) x y=some (if t=true then x else y):=rfl
theorem Ob {vs:List VV} {i:Nat}:WB i (.eX vs)=vs[i]? := rfl
theorem J4 {es:List VV} {t:TK}:lY (.tree es t) H=some (.sc (.int .i64 es.length)):=rfl
theorem dI {b g o n c:Nat} {r:List VV×Nat×Bool} (h:aM H b g=some r):lY (.ref b g o n c) H=some (.sc (.int .i64 n)):=by
 simp only[lY,h,Option.map_some]
theorem N1 {x:VV} {o off:Nat}:tL off (.cD x o) H=some (.cD x (o+off)):=rfl
theorem HF {b g j o off:Nat} {r:List VV×Nat×Bool} (h:aM H b g=some r):tL off (.ptr b g j o) H=some (.ptr b g j (o+off)):=by
 simp only[tL,h,Option.map_some]
theorem UQ {x:VV} {o:Nat}:R2 (.cD x o) H=some (.cD x o):=rfl
theorem Rl {g:Bool} {size o:Nat} {x:VV}:eZ g size (.cD x o) H=bU g size x o:=rfl
theorem Lk {g:Bool} {size b gn j o:Nat} {es:List VV} {e:Nat} {w:Bool} {x:VV} (h:aM H b gn=some (es,e,w)) (hx:es[j]? = some x):eZ g size (.ptr b gn j o) H=bU g size x o:=by
 simp only[eZ,h,hx]
theorem V7 {size:Nat} {v:Value}:bU false size (.sc v) 0=some (.sc v):=rfl
theorem QH {size:Nat} {es:List VV} {t:TK}:bU false size (.tree es t) 0=some (.tree es t):=rfl
theorem WH {size b g o n c:Nat}:bU false size (.ref b g o n c) 0=some (.ref b g o n c):=rfl
theorem VZ {size f:Nat} {eV:List VV}:bU false size (.nJ f eV) 0=some (.nJ f eV):=rfl
theorem WZ {size o:Nat} {cs:List VV}:bU false size (.agg cs) o=cs[o]? := rfl
theorem U0 {size:Nat} {cs:List VV} (h:cs.length=size):bU true size (.agg cs) 0=some (.agg cs):=by
 subst h
 simp[bU,aB]
theorem Um {size:Nat} {es:List VV} {t:TK} {kk:IntKind} {i:Int} {x:VV} (h0:0≤i) (hx:es[i.toNat]? = some x) (hs:(aB x).length=size):aZ size (.tree es t) (.sc (.int kk i)) H=some (.cD x 0):=by
 simp only[aZ,h0,hx,hs,if_true]
theorem Tm {size:Nat} {es:List VV} {t:TK} {kk:IntKind} {i:Nat} {x:VV} (hx:es[i]? = some x) (hs:(aB x).length=size):aZ size (.tree es t) (.sc (.int kk (i:Int))) H=some (.cD x 0) :=
 Um (by omega) (by simpa using hx) hs
theorem WE {size b g o n c:Nat} {kk:IntKind} {i:Int} {es:List VV} {w:Bool} (h:aM H b g=some (es,size,w)) (h0:0≤i) (h1:i<n):aZ size (.ref b g o n c) (.sc (.int kk i)) H=some (.ptr b g (o+i.toNat) 0):=by
 simp only[aZ,h]
 rw[if_pos ⟨trivial,h0,h1⟩]
theorem Tz {size b g o n c:Nat} {kk:IntKind} {i:Nat} {es:List VV} {w:Bool} (h:aM H b g=some (es,size,w)) (h1:i<n):aZ size (.ref b g o n c) (.sc (.int kk (i:Int))) H=some (.ptr b g (o+i) 0):=by
 rw[WE h (by omega) (by omega),Int.toNat_natCast]
abbrev TC (f:Nat) (args:List VV) (r:VV):Prop:=∀(lo:Nat) (H:aC) (k:VV→aC→Prop),cS f args lo H k=k r H
theorem TC.of {f:Nat} {args:List VV} {r:VV} (hr:BI.contains f=false) (ha:aO args=true) (h:vT f args=some r):TC f args r:=by
 intro lo H k
 unfold cS Eb
 simp only[hr,ha,if_true,h,Bool.false_eq_true,if_false,XT]
theorem TC.walk {f:Nat} {pf:aU} {args:List VV} {r:VV} (fl:Fl) (ht:iY f=some pf) (hr:BI.contains f=false) (hn:args.length≤pf.ntmps) (ha:aO args=true) (U6:iZ r=true) (h:VW fl 0 pf.body (yU pf.res fun v H=>fz depth H v=some r) (H9 args) []):TC f args r :=
 TC.of hr ha (Zk ha U6 (VT.walk fl ht hn h))
theorem TC.HS {f:Nat} {args gX:List VV} {r:VV} (h:TC f gX r) (hr:BI.contains f=false) (Wc:aO gX=true) (hf:args.mapM (fz depth H)=some gX) (ha:aO args=false):cS f args lo H k=if IG r=true then k r H else k r (cA H (args.flatMap (gQ depth H))):=by
 have e:∀K,Eb f gX K=K r:=fun K=>by
  have:=h 0 [] fun r _=>K r
  unfold cS at this
  simpa only[hr,Wc,if_true,Bool.false_eq_true,if_false] using this
 unfold cS
 simp only[hr,ha,hf,Bool.false_eq_true,if_false]
 rw[e]
theorem aQ {n:Nat} {v:VV} (h:aX v=true):fz (n+1) H v=some v:=by
 unfold PM.fz
 rw[if_pos h]
theorem aI {v:VV} (h:aX v=true):fz depth H v=some v:=aQ h
theorem mapM_pure {n:Nat}:∀ {es:List VV},aO es=true→es.mapM (PM.fz (n+1) H)=some es
 | [],_=>rfl
 |
  x::xs,h=>by
  simp only[aO,Bool.and_eq_true] at h
  rw[List.mapM_cons,aQ h.1,mapM_pure h.2]
  rfl
theorem IT {b g n c e:Nat} {es:List VV} {w:Bool} (h:aM H b g=some (es,e,w)) (hn:n=es.length) (hc:n≤c) (hp:aO es=true):fz depth H (.ref b g 0 n c)=some (.tree es .op):=by
 have:aX (.ref b g 0 n c)=false:=rfl
 show fz (7+1) H _=_
 unfold PM.fz
 simp only[this,h,Bool.false_eq_true,if_false]
 subst hn
 rw[if_pos ⟨by omega,hc⟩,List.drop_zero,List.take_length,mapM_pure hp]
 rfl
theorem IJ {n:Nat} {v:VV} (h:aX v=true):gQ n H v=[]:=by
 cases n with
 | zero=>rfl
 | succ n=>unfold gQ;rw[if_pos h]
theorem xX {n:Nat}:∀ {es:List VV},aO es=true→es.flatMap (gQ n H)=[]
 | [],_=>rfl
 |
  x::xs,h=>by
  simp only[aO,Bool.and_eq_true] at h
  rw[List.flatMap_cons,IJ h.1,xX h.2]
  rfl
theorem RZ {b g n c e:Nat} {es:List VV} {w:Bool} (h:aM H b g=some (es,e,w)) (hn:n=es.length) (hp:aO es=true):gQ depth H (.ref b g 0 n c)=[b]:=by
 have:aX (.ref b g 0 n c)=false:=rfl
 show gQ (7+1) H _=_
 unfold gQ
 simp only[this,h,Bool.false_eq_true,if_false]
 subst hn
 rw[List.drop_zero,List.take_length,xX hp]
theorem Qu {r:Option VV} {K K':VV→Prop} (hk:∀v,K v→K' v) (h:tk r K):tk r K':=by
 cases r with
 | none=>exact h
 | some v=>exact hk _ h
theorem FM {f:Nat} {args:List VV} {k k':VV→aC→Prop} (hk:∀v H,k v H→k' v H) (h:cS f args lo H k):cS f args lo H k':=by
 unfold cS at h ⊢
 split at h
 ·rename_i h1
  rw[if_pos h1]
  exact h.mono hk
 ·rename_i h1
  rw[if_neg h1]
  split at h
  ·rename_i h2
   rw[if_pos h2]
   exact Qu (fun v=>hk v H) h
  ·rename_i h2
   rw[if_neg h2]
   split at h
   ·refine Qu (fun v hv => ?_) h
    split at hv
    ·rename_i h3;rw[if_pos h3];exact hk _ _ hv
    ·rename_i h3;rw[if_neg h3];exact hk _ _ hv
   ·cases h
theorem OO {k k':VV→aC→Prop} (hk:∀v H,k v H→k' v H) (h:dH fl lo q op ρ H k):dH fl lo q op ρ H k':=by
 unfold dH at h ⊢
 split at h
 ·exact FM hk h
 ·split at h
  ·exact FM hk h
  ·cases h
 ·split at h
  ·exact hk _ _ h
  ·cases h
theorem Ls {K K':cN→aC→Prop} (hk:∀ρ H,K ρ H→K' ρ H):∀ {is:List PI} {ρ:cN} {H:aC},VS fl lo is K ρ H→VS fl lo is K' ρ H
 | [],ρ,H,h=>hk _ _ h
 |
  i::is,ρ,H,h=>by
  unfold VS at h ⊢
  split at h
  ·cases h
  ·exact Ls hk h
  ·exact⟨h.1,OO (fun v H' hv=>Ls hk hv) h.2⟩
theorem mU {K K':cN→aC→Prop} {Q Q':VQ} (hk:∀ρ H,K ρ H→K' ρ H) (hq:∀x ρ H,Q x ρ H→Q' x ρ H):∀x ρ H,kG K Q x ρ H→kG K' Q' x ρ H
 | .normal,ρ,H,h=>hk _ _ h
 | .exit _,ρ,H,h=>hq _ _ _ h
 | .ret,ρ,H,h=>hq _ _ _ h
theorem XV {K K':cN→aC→Prop} (hk:∀ρ H,K ρ H→K' ρ H) (h:gh K ρ H):gh K' ρ H:=by
 obtain⟨ts,aP,H',h1,h2⟩:=h
 exact⟨ts,aP,H',h1,hk _ _ h2⟩
theorem oW:∀ {c:aH} {Q Q':VQ} {ρ:cN} {H:aC},(∀x ρ H,Q x ρ H→Q' x ρ H)→VW fl lo c Q ρ H→VW fl lo c Q' ρ H
 | .skip,_,_,_,_,hq,h=>hq _ _ _ h
 | .exit _,_,_,_,_,hq,h=>hq _ _ _ h
 | .ret,_,_,_,_,hq,h=>hq _ _ _ h
 | .fG _,_,_,_,_,hq,h=>Ls (fun ρ H=>hq .normal ρ H) h
 | .seq a b,Q,Q',_,_,hq,h=>oW (c:=a) (mU (fun ρ H h=>oW (c:=b) hq h) hq) h
 |
  .cond c a b,Q,Q',ρ,H,hq,h=>by
  unfold VW at h ⊢
  split at h
  ·split at h
   ·rename_i h1;rw[if_pos h1];exact oW (c:=a) hq h
   ·rename_i h1;rw[if_neg h1];exact oW (c:=b) hq h
  ·cases h
 |
  .block i a,Q,Q',_,_,hq,h=>by
  refine oW (c:=a) (fun x ρ H hx => ?_) h
  cases x with
  | normal=>exact hq _ _ _ hx
  | ret=>exact hq _ _ _ hx
  |
   exit j =>
   rw[vD] at hx ⊢
   split at hx
   ·rename_i h1;rw[if_pos h1];exact hq _ _ _ hx
   ·rename_i h1;rw[if_neg h1];exact hq _ _ _ hx
 |
  .loop a,Q,Q',ρ,H,hq,h=>by
  obtain⟨n,h⟩:=h
  refine⟨n,?_⟩
  induction n generalizing ρ H with
  | zero=>cases h
  |
   succ n ih =>
   refine oW (c:=a) (mU (fun ρ H h => ?_) fun x ρ H h=>XV (hq x) h) h
   rcases h with h | ⟨h1,h2⟩
   ·exact .inl (ih _ _ h)
   ·exact .inr ⟨h1,ih _ _ h2⟩
theorem Y9 {K:cN→aC→Prop} (h:K ρ H):gh K ρ H:=⟨[],ρ,H,rfl,h⟩
theorem Ov {α:Type} {c:aH} (I:α→cN→aC→Prop) (μ:α→Nat) (s:α) (h0:I s ρ H)
  (round:∀s ρ H,I s ρ H→VW fl lo c (kG (fun aP H'=>∃s',μ s'<μ s∧(I s' aP H'∨(cR H.length (H'.take H.length)=true∧I s' (C2 H.length aP) (H'.take H.length)))) (fun x=>gh (Q x))) ρ H):VW fl lo (.loop c) Q ρ H:=by
 refine⟨μ s+1,?_⟩
 have key:∀n s ρ H,μ s<n→I s ρ H→M5 (VW fl lo c) (fun x=>gh (Q x)) n ρ H:=by
  intro n
  induction n with
  | zero=>intro s ρ H h;omega
  |
   succ n ih =>
   intro s ρ H hn hI
   refine oW (mU (fun aP H' h => ?_) fun x ρ H h=>h) (round s ρ H hI)
   obtain⟨s',h1,h2 | ⟨h2,h3⟩⟩:=h
   ·exact .inl (ih s' _ _ (by omega) h2)
   ·exact .inr ⟨h2,ih s' _ _ (by omega) h3⟩
 exact key _ s ρ H (Nat.lt_succ_self _) h0
theorem bJ {α:Type} {c:aH} (I:α→cN→aC→Prop) (μ:α→Nat) (s:α) (h0:I s ρ H)
  (round:∀s ρ H,I s ρ H→VW fl lo c (kG (fun aP H'=>∃s',μ s'<μ s∧I s' aP H') Q) ρ H):VW fl lo (.loop c) Q ρ H :=
 Ov I μ s h0 fun s ρ H h=>oW (mU (fun _ _ ⟨s',h1,h2⟩=>⟨s',h1,.inl h2⟩) fun _ _ _ h=>Y9 h) (round s ρ H h)
theorem Aw {α:Type} {c:aH} (I:α→cN→aC→Prop) (μ:α→Nat) (s:α) (h0:I s ρ H)
  (round:∀s ρ H,I s ρ H→VW fl lo c (kG (fun aP H'=>∃s',μ s'<μ s∧cR H.length (H'.take H.length)=true∧I s' (C2 H.length aP) (H'.take H.length)) Q) ρ H):VW fl lo (.loop c) Q ρ H :=
 Ov I μ s h0 fun s ρ H h=>oW (mU (fun _ _ ⟨s',h1,h2⟩=>⟨s',h1,.inr h2⟩) fun _ _ _ h=>Y9 h) (round s ρ H h)
theorem Hv {n:Nat} {v:VV} (h:below n v=true):AL n v=v:=by
 unfold AL
 rw[if_pos h]
mutual
theorem CW {n:Nat} (v:VV) (h:aX v=true):below n v=true:=by
 cases v with
 | any=>rfl
 | sc=>rfl
 | agg cs=>exact jO cs h
 | eX cs=>exact jO cs h
 | tree es t=>exact jO es (EZ h).2.1
 | cD x o=>exact CW x h
 | ref=>cases h
 | ptr=>cases h
 | nJ f eV=>exact jO eV h
theorem jO {n:Nat} (vs:List VV) (h:aO vs=true):jK n vs=true:=by
 cases vs with
 | nil=>rfl
 |
  cons x xs =>
  simp only[aO,Bool.and_eq_true] at h
  simp only[jK,CW x h.1,jO xs h.2,Bool.and_self]
end
end
end Go.PM
namespace Go.PM
def val (b:Nat):List Nat→Nat
 | []=>0
 | d::ds=>d+b*val b ds
def aG (b n:Nat):List Nat:=if h:n=0∨b<2 then [] else n % b::aG b (n / b)
termination_by n
decreasing_by exact Nat.div_lt_self (by omega) (by omega)
section
variable {b:Nat}
theorem bO:aG b 0=[]:=by rw[aG];simp
theorem iI (hb:2≤b) {n:Nat} (hn:n≠0):aG b n=n % b::aG b (n / b):=by rw[aG,dif_neg (by omega)]
theorem oZ {d:Nat} {ds:List Nat}:val b (d::ds)=d+b*val b ds:=rfl
theorem tJ (xs ys:List Nat):val b (xs++ys)=val b xs+b^xs.length*val b ys:=by
 induction xs with
 | nil=>simp[val]
 |
  cons x xs ih =>
  simp only[List.cons_append,oZ,ih,List.length_cons,Nat.pow_succ]
  rw[Nat.mul_add,Nat.mul_comm (b^xs.length) b,Nat.mul_assoc,Nat.add_assoc]
theorem val_one (d:Nat):val b [d]=d:=by simp[val]
theorem qN (xs:List Nat) (d:Nat):val b (xs++[d])=val b xs+b^xs.length*d:=by rw[tJ,val_one]
theorem tT (n:Nat):val b (List.replicate n 0)=0:=by
 induction n with
 | zero=>rfl
 | succ n ih=>simp[List.replicate_succ,val,ih]
theorem nR {xs:List Nat} (h:∀d∈xs,d<b):val b xs<b^xs.length:=by
 induction xs with
 | nil=>simp[val]
 |
  cons x xs ih =>
  have h1:=h x List.mem_cons_self
  have h2:=ih fun d hd=>h d (List.mem_cons_of_mem _ hd)
  simp only[oZ,List.length_cons,Nat.pow_succ]
  have h3:b*(val b xs+1)≤b*b^xs.length:=Nat.mul_le_mul_left _ h2
  rw[Nat.mul_add,Nat.mul_one] at h3
  rw[Nat.mul_comm (b^xs.length) b]
  omega
theorem cF (hb:2≤b) (n:Nat):val b (aG b n)=n:=by
 induction n using Nat.strongRecOn with
 |
  _ n ih =>
  by_cases h:n=0
  ·subst h;rw[bO];rfl
  ·rw[iI hb h,oZ,ih _ (Nat.div_lt_self (by omega) (by omega))]
   exact Nat.mod_add_div n b
theorem gV (hb:2≤b) (n:Nat):∀d∈aG b n,d<b:=by
 induction n using Nat.strongRecOn with
 |
  _ n ih =>
  by_cases h:n=0
  ·subst h;rw[bO];intro d hd;cases hd
  ·rw[iI hb h]
   intro d hd
   rcases List.mem_cons.1 hd with rfl | hd
   ·exact Nat.mod_lt _ (by omega)
   ·exact ih _ (Nat.div_lt_self (by omega) (by omega)) d hd
theorem lD (hb:2≤b) {n:Nat}:aG b n=[]↔n=0:=by
 constructor
 ·intro h
  have:=cF hb n
  rw[h] at this
  exact this.symm
 ·rintro rfl;exact bO
theorem Jq (hb:2≤b) (n:Nat):(aG b n).getLast? ≠ some 0:=by
 induction n using Nat.strongRecOn with
 |
  _ n ih =>
  by_cases h:n=0
  ·subst h;rw[bO];simp
  ·rw[iI hb h]
   have h1:=ih _ (Nat.div_lt_self (n:=n) (k:=b) (by omega) (by omega))
   by_cases h2:n / b=0
   ·rw[h2,bO]
    have:n<b:=by
     rcases Nat.div_eq_zero_iff.1 h2 with h | h<;>omega
    simp[Nat.mod_eq_of_lt this,h]
   ·have cI:aG b (n / b)≠[]:=fun h=>h2 ((lD hb).1 h)
    obtain⟨x,xs,hx⟩:=List.exists_cons_of_ne_nil cI
    rw[hx] at h1 ⊢
    rw[List.getLast?_cons_cons]
    exact h1
theorem HQ (hb:2≤b) {xs:List Nat} (h:∀d∈xs,d<b) (hl:xs.getLast? ≠ some 0):aG b (val b xs)=xs:=by
 induction xs with
 | nil=>exact bO
 |
  cons x xs ih =>
  have h1:=h x List.mem_cons_self
  have hr:(x+b*val b xs) % b=x:=by rw[Nat.add_mul_mod_self_left,Nat.mod_eq_of_lt h1]
  have hq:(x+b*val b xs) / b=val b xs:=by rw[Nat.add_mul_div_left _ _ (by omega),Nat.div_eq_of_lt h1,Nat.zero_add]
  cases xs with
  |
   nil =>
   have hx:x≠0:=by rintro rfl;simp at hl
   rw[val_one,iI hb hx,Nat.mod_eq_of_lt h1,Nat.div_eq_of_lt h1,bO]
  |
   cons y ys =>
   rw[List.getLast?_cons_cons] at hl
   have h2:=ih (fun d hd=>h d (List.mem_cons_of_mem _ hd)) hl
   have h3:val b (y::ys)≠0:=fun h0=>by rw[h0,bO] at h2;cases h2
   have h4:b*val b (y::ys)≠0:=Nat.mul_ne_zero (by omega) h3
   rw[oZ,iI hb (by omega),hr,hq,h2]
theorem GO (hb:2≤b) {n:Nat} (hn:n≠0):b^((aG b n).length-1)≤n:=by
 induction n using Nat.strongRecOn with
 |
  _ n ih =>
  rw[iI hb hn]
  by_cases h2:n / b=0
  ·rw[h2,bO];simp;omega
  ·have h3:=ih _ (Nat.div_lt_self (by omega) (by omega)) h2
   have cI:aG b (n / b)≠[]:=fun h=>h2 ((lD hb).1 h)
   obtain⟨x,xs,hx⟩:=List.exists_cons_of_ne_nil cI
   rw[hx] at h3 ⊢
   simp only[List.length_cons,Nat.add_sub_cancel] at h3 ⊢
   rw[Nat.pow_succ]
   calc b^xs.length*b≤n / b*b:=Nat.mul_le_mul_right _ h3
    _≤n:=Nat.div_mul_le_self n b
theorem gW (hb:2≤b) (n:Nat):n<b^(aG b n).length:=by
 have:=nR (gV hb n)
 rwa [cF hb] at this
theorem kZ (hb:2≤b) {n k:Nat} (h:n<b^k):(aG b n).length≤k:=by
 by_cases hn:n=0
 ·subst hn;rw[bO];simp
 ·have h1:=GO hb hn
  have h2:b^((aG b n).length-1)<b^k:=Nat.lt_of_le_of_lt h1 h
  have h3:(aG b n).length-1<k:=(Nat.pow_lt_pow_iff_right (by omega)).1 h2
  have cI:aG b n≠[]:=fun h=>hn ((lD hb).1 h)
  have:=List.length_pos_iff.2 cI
  omega
theorem eW (hb:2≤b) {m n:Nat} (h:m≤n):(aG b m).length≤(aG b n).length :=
 kZ hb (Nat.lt_of_le_of_lt h (gW hb n))
theorem mA (xs:List Nat) (i:Nat):val b xs=val b (xs.take i)+b^(xs.take i).length*val b (xs.drop i):=by
 rw[←tJ,List.take_append_drop]
theorem bG {xs:List Nat} {i d:Nat} (h:xs[i]? = some d):val b (xs.take (i+1))=val b (xs.take i)+b^i*d:=by
 have aR:=(List.getElem?_eq_some_iff.1 h).1
 rw[List.take_add_one,h]
 simp only[Option.toList_some]
 rw[qN,List.length_take,Nat.min_eq_left (by omega)]
theorem oS {xs:List Nat} {i d:Nat} (h:xs[i]? = some d):val b (xs.drop i)=d+b*val b (xs.drop (i+1)):=by
 obtain⟨aR,he⟩:=List.getElem?_eq_some_iff.1 h
 rw[List.drop_eq_getElem_cons aR,he,oZ]
theorem Ix {P A B O c x y s q r W:Nat} (h:A+B=O+P*c) (hs:c+x+y=s) (hr:r+W*q=s):(A+P*x)+(B+P*y)=(O+P*r)+(P*W)*q:=by grind
theorem Vm {xs:List Nat} {i d:Nat} (h:i<xs.length):(xs.set i d).take (i+1)=xs.take i++[d]:=by
 rw[List.set_eq_take_append_cons_drop,if_pos h,List.take_append]
 simp[List.take_take,Nat.min_eq_left (by omega:i≤xs.length),Nat.min_eq_right (by omega:i≤i+1)]
theorem iT {xs:List Nat} {i d:Nat} (h:i<xs.length):val b ((xs.set i d).take (i+1))=val b (xs.take i)+b^i*d:=by
 rw[Vm h,qN,List.length_take,Nat.min_eq_left (by omega)]
theorem nS {xs:List Nat} {i d:Nat} (h:∀x∈xs,x<b) (hd:d<b):∀x∈xs.set i d,x<b:=by
 intro x hx
 rcases List.mem_or_eq_of_mem_set hx with h1 | h1
 ·exact h x h1
 ·subst h1;exact hd
theorem vB {xs:List Nat} {i:Nat} (h:xs.length≤i):val b (xs.take i)=val b xs:=by rw[List.take_of_length_le h]
theorem CJ (hb:0<b) (n:Nat):∀x∈List.replicate n 0,x<b:=by
 intro x hx
 rw[List.eq_of_mem_replicate hx]
 exact hb
theorem Sb {P x y R t:Nat} (ht:t<P) (h:x<y):t+P*(x+R)<P*(y+R):=by
 have h1:P*(x+R+1)≤P*(y+R):=Nat.mul_le_mul_left _ (by omega)
 rw[Nat.mul_add,Nat.mul_one] at h1
 omega
theorem Bi {xs ys:List Nat} {i x y:Nat} (hx:∀d∈xs,d<b) (hl:xs.length=ys.length) (hi:xs[i]? = some x) (hj:ys[i]? = some y) (hd:xs.drop (i+1)=ys.drop (i+1)) (h:x<y):val b xs<val b ys:=by
 have h1:=(List.getElem?_eq_some_iff.1 hi).1
 have ht:(xs.take i).length=i:=by simp;omega
 have YN:(ys.take i).length=i:=by simp;omega
 have h2:=nR (b:=b) (xs:=xs.take i) fun d hd=>hx d (List.mem_of_mem_take hd)
 rw[ht] at h2
 rw[mA xs i,mA ys i,ht,YN,oS hi,oS hj,hd]
 have:=Sb (R:=b*val b (ys.drop (i+1))) h2 h
 omega
theorem Oj (hb:2≤b) {m n:Nat} (h:aG b m=aG b n):m=n:=by
 have:=congrArg (val b) h
 rwa [cF hb,cF hb] at this
def lJ (a b:Nat):Int:=if a<b then -1 else if a=b then 0 else 1
theorem Bj (hb:2≤b) {m n:Nat} (h:(aG b m).length<(aG b n).length):m<n:=by
 rcases Nat.lt_or_ge m n with h1 | h1
 ·exact h1
 ·have:=eW hb h1
  omega
end
end Go.PM
namespace Go.PM
abbrev VI (n:Int):VV := .sc (.int .i64 n)
abbrev VK (k:IntKind) (n:Int):VV := .sc (.int k n)
abbrev VB (t:Bool):VV := .sc (.bool t)
abbrev eU {α:Type} (f:α→VV) (xs:List α):VV := .tree (xs.map f) .op
section
variable {α:Type} {f:α→VV} {xs ys:List α} {x:α} {t:TK} {H:aC} {size i:Nat} {k:IntKind}
theorem dS:lY (.tree (xs.map f) t) H=some (VI xs.length):=by simp[lY]
theorem aL (hx:xs[i]? = some x) (hs:(aB (f x)).length=size):aZ size (.tree (xs.map f) t) (VK k (i:Int)) H=some (.cD (f x) 0) :=
 Tm (by simp[hx]) hs
theorem NM (hs:∀x,(aB (f x)).length=size):∀y∈xs.map f,(aB y).length=size:=by
 intro y hy
 obtain⟨x,_,rfl⟩:=List.mem_map.1 hy
 exact hs x
theorem gO (hp:∀x,aX (f x)=true):aO (xs.map f)=true:=by
 rw[xF]
 intro y hy
 obtain⟨x,_,rfl⟩:=List.mem_map.1 hy
 exact hp x
theorem X6 (hp:∀x,iZ (f x)=true):pV (xs.map f)=true:=by
 rw[Hk]
 intro y hy
 obtain⟨x,_,rfl⟩:=List.mem_map.1 hy
 exact hp x
theorem RU {size:Nat} (hs:∀x,(aB (f x)).length=size):uni (xs.map f)=true:=by
 cases xs with
 | nil=>rfl
 |
  cons x xs =>
  simp only[List.map_cons,uni,List.all_eq_true]
  intro y hy
  obtain⟨z,_,rfl⟩:=List.mem_map.1 hy
  simp[hs]
theorem mD {size:Nat} (hs:∀x,(aB (f x)).length=size) (hp:∀x,aX (f x)=true):aX (eU f xs)=true:=by
 simp only[eU,aX,gO hp,RU hs,decide_true,Bool.and_self]
theorem IA {size:Nat} (hs:∀x,(aB (f x)).length=size) (hp:∀x,iZ (f x)=true) (he:∀x,E5 (f x)=true):iZ (eU f xs)=true:=by
 have h4:(xs.map f).all E5=true:=by
  rw[List.all_eq_true]
  intro y hy
  obtain⟨z,_,rfl⟩:=List.mem_map.1 hy
  exact he z
 simp only[eU,iZ,X6 hp,RU hs,h4,decide_true,Bool.and_self]
theorem X1 {es:List VV} {h:Nat} (cI:0<es.length) (hs:∀x∈es,(aB x).length=size) (hh:h≤es.length) {k2:IntKind} :
  AA size (.tree es t) none (some (VK k2 h)) none H=some (.tree (es.take h) .op):=by
 cases es with
 | nil=>simp at cI
 |
  cons y ys =>
  have hy:=hs y List.mem_cons_self
  simp only[List.length_cons] at hh
  have e1:(0:Int)≤h∧(h:Int)≤((ys.length+1:Nat):Int):=by omega
  simp only[AA,Dq,hy,if_true,dK,e1,Int.toNat_natCast,Option.isSome_none,Bool.false_eq_true,false_and,if_false]
  simp
theorem Np (h:0<xs.length):0<(xs.map f).length:=by simpa using h
theorem M7 {b g o n c:Nat} {es:List VV} {w:Bool} {l h:Nat} (hr:aM H b g=some (es,size,w)) (hl:l≤h) (hh:h≤c) {k1 k2:IntKind} :
  AA size (.ref b g o n c) (some (VK k1 l)) (some (VK k2 h)) none H=some (.ref b g (o+l) (h-l) (c-l)):=by
 have e1:(0:Int)≤h∧(h:Int)≤(c:Int):=by omega
 have e2:(0:Int)≤l∧(l:Int)≤(h:Int):=by omega
 simp only[AA,Dq,hr,if_true,dK,e1,e2,Int.toNat_natCast,Option.isSome_none,Bool.false_eq_true,false_and,if_false]
 simp[hl]
theorem uM {b g o n c:Nat} {es:List VV} {w:Bool} {h:Nat} (hr:aM H b g=some (es,size,w)) (hh:h≤c) {k2:IntKind} :
  AA size (.ref b g o n c) none (some (VK k2 h)) none H=some (.ref b g o h c):=by
 have e1:(0:Int)≤h∧(h:Int)≤(c:Int):=by omega
 simp only[AA,Dq,hr,if_true,dK,e1,Int.toNat_natCast,Option.isSome_none,Bool.false_eq_true,false_and,if_false]
 simp
theorem vL {b g o n c:Nat} {es:List VV} {w:Bool} {l:Nat} (hr:aM H b g=some (es,size,w)) (hl:l≤n) (hn:n≤c) {k1:IntKind} :
  AA size (.ref b g o n c) (some (VK k1 l)) none none H=some (.ref b g (o+l) (n-l) (c-l)):=by
 have e2:(0:Int)≤l∧(l:Int)≤(n:Int):=by omega
 simp only[AA,Dq,hr,if_true,dK,e2,Int.toNat_natCast,Option.isSome_none,Bool.false_eq_true,false_and,if_false]
 simp
theorem F6 {h:Nat} (hs:∀x,(aB (f x)).length=size) (cI:0<xs.length) (hh:h≤xs.length) {k2:IntKind} :
  AA size (.tree (xs.map f) t) none (some (VK k2 h)) none H=some (eU f (xs.take h)):=by
 rw[X1 (Np cI) (NM hs) (by simpa using hh)]
 simp[eU]
theorem Vy {b g e:Nat} {es:List VV} {w:Bool} {L K:aC} (h:b=L.length):aM (L ++ .row g es e w::K) b g=some (es,e,w):=by
 subst h
 simp[aM]
theorem bK {g e:Nat} {es:List VV} {w:Bool} {K:aC}:aM (.row g es e w::K) 0 g=some (es,e,w):=by simp[aM]
theorem iS {n:Nat}:(n=n+1)=False:=eq_false fun h=>by omega
theorem Wu {g g' e:Nat} {es:List VV} {w:Bool} {K:aC} (h:g'≠g):aM (.row g' es e w::K) 0 g=none:=by simp[aM,h]
theorem gK {g e:Nat} {es:List VV} {w:Bool} {K:aC}:aM (.row (g+1) es e w::K) 0 g=none:=Wu (Nat.succ_ne_self g)
theorem nY {b g:Nat} {x:cZ} {K:aC}:aM (x::K) (b+1) g=aM K b g:=by simp[aM]
theorem bD {b g o n c e:Nat} {es:List VV} {w:Bool} (h:aM H b g=some (es,e,w)) (hi:i<n):aZ e (.ref b g o n c) (VK k (i:Int)) H=some (.ptr b g (o+i) 0):=Tz h hi
theorem CH {b g j e lo:Nat} {es:List VV} {v:VV} (h:aM H b g=some (es,e,true)) (hj:j<es.length) (dP:lo≤b) (hv:(aB v).length=e) (hs:(aB v).all cB=true):dE lo e (.ptr b g j 0) v H=some (H.set b (.row g (es.set j v) e true)):=by
 obtain⟨x,hx⟩:∃x,es[j]? = some x:=⟨_,List.getElem?_eq_getElem hj⟩
 simp only[dE,h,hx]
 rw[if_pos ⟨hv,dP,hs⟩,if_pos ⟨trivial,trivial⟩]
theorem wZ {z:List Value} {bytes n:Nat} (hz:elemOf (z.map gL)=f x) (hn:n*bytes≤281474976710656) (hm:n≤9223372036854775807):zY z bytes (VI n) (VI n) H=some (.ref H.length 0 0 n n,H++[.row 0 ((List.replicate n x).map f) z.length true]):=by
 simp only[zY]
 rw[if_pos ⟨by omega,by omega,by omega,by omega⟩,hz]
 simp
theorem nZ {ag w:Bool} {b gn e j o:Nat} (h:aM H b gn=some (xs.map f,e,w)) (hx:xs[j]? = some x):eZ ag size (.ptr b gn j o) H=bU ag size (f x) o :=
 Lk h (by simp[hx])
theorem iE {b g j e lo:Nat} (h:aM H b g=some (xs.map f,e,true)) (hj:j<xs.length) (dP:lo≤b) (hv:(aB (f x)).length=e) (hs:(aB (f x)).all cB=true):dE lo e (.ptr b g j 0) (f x) H=some (H.set b (.row g ((xs.set j x).map f) e true)):=by
 rw[CH h (by simpa using hj) dP hv hs,List.map_set]
theorem GR {b gn n c e:Nat} {es:List VV} {w:Bool} (h:aM H b gn=some (es,e,w)) (hn:n≤es.length) (hc:n≤c) (hp:aO es=true):fz depth H (.ref b gn 0 n c)=some (.tree (es.take n) .op):=by
 have:aX (.ref b gn 0 n c)=false:=rfl
 show fz (7+1) H _=_
 unfold fz
 simp only[this,h,Bool.false_eq_true,if_false]
 have Ax:aO (es.take n)=true:=xF.2 fun x hx=>xF.1 hp x (List.mem_of_mem_take hx)
 rw[if_pos ⟨by omega,hc⟩,List.drop_zero,mapM_pure Ax]
 rfl
theorem TC.flat {fn:Nat} {args gX:List VV} {r:VV} (h:TC fn gX r) (vO:BI.contains fn=false) (Wc:aO gX=true) (hf:args.mapM (fz depth H)=some gX) (hr:IG r=true) :
  ∀(lo:Nat) (K:VV→aC→Prop),cS fn args lo H K=K r H:=by
 intro lo K
 cases hp:aO args with
 |
  true =>
  have:=mapM_pure (n:=7) (H:=H) hp
  rw[show fz depth H=fz (7+1) H from rfl,this] at hf
  cases hf
  exact h lo H K
 | false=>rw[h.HS vO Wc hf hp,hr,if_pos rfl]
theorem fz1 {v v':VV} (h:fz depth H v=some v'):[v].mapM (fz depth H)=some [v']:=by rw[List.mapM_cons,h];rfl
theorem XL {v v' u u':VV} (h:fz depth H v=some v') (hu:fz depth H u=some u'):[v,u].mapM (fz depth H)=some [v',u']:=by rw[List.mapM_cons,h,fz1 hu];rfl
theorem Uz {v v' u u' w w':VV} (h:fz depth H v=some v') (hu:fz depth H u=some u') (hw:fz depth H w=some w'):[v,u,w].mapM (fz depth H)=some [v',u',w']:=by rw[List.mapM_cons,h,XL hu hw];rfl
theorem TC.Yo {fn b gn n c e size:Nat} {w:Bool} {r:VV} (h:TC fn [eU f xs] r) (hr:aM H b gn=some (xs.map f,e,w)) (hn:n=xs.length) (hc:n≤c) (hs:∀x,(aB (f x)).length=size) (hp:∀x,aX (f x)=true) (vO:BI.contains fn=false) (hf:IG r=false) :
  ∀(lo:Nat) (K:VV→aC→Prop),cS fn [.ref b gn 0 n c] lo H K=K r (cA H [b]):=by
 intro lo K
 have e1:fz depth H (.ref b gn 0 n c)=some (eU f xs):=IT hr (by simpa using hn) hc (gO hp)
 have e2:gQ depth H (.ref b gn 0 n c)=[b]:=RZ hr (by simpa using hn) (gO hp)
 have e3:[VV.ref b gn 0 n c].mapM (fz depth H)=some [eU f xs]:=by rw[List.mapM_cons,e1];rfl
 rw[h.HS vO (by simp only[aO,mD hs hp,Bool.and_self]) e3 rfl,hf]
 simp only[Bool.false_eq_true,if_false,List.flatMap_cons,List.flatMap_nil,e2,List.append_nil]
theorem WQ {es:List VV} {e:Nat} (hp:aO es=true):fz depth H (.tree es (.cl e))=some (.tree es .op):=by
 show fz (7+1) H _=_
 unfold fz
 have:aX (.tree es (.cl e))=false:=by simp[aX]
 simp only[this,Bool.false_eq_true,if_false,mapM_pure hp]
 rfl
theorem UA {es:List VV} {e:Nat} (hp:aO es=true):gQ depth H (.tree es (.cl e))=[]:=by
 show gQ (7+1) H _=_
 unfold gQ
 have:aX (.tree es (.cl e))=false:=by simp[aX]
 simp only[this,Bool.false_eq_true,if_false,xX hp]
theorem IE:fz depth H (.tree [] .nil)=some (.tree [] .op):=by
 show fz (7+1) H _=_
 unfold fz
 have:aX (.tree [] .nil)=false:=by simp[aX]
 simp only[this,Bool.false_eq_true,if_false]
 rfl
theorem TC.args {fn:Nat} {args gX:List VV} {r:VV} (h:TC fn gX r) (vO:BI.contains fn=false) (Wc:aO gX=true) (hf:args.mapM (fz depth H)=some gX) (hi:args.flatMap (gQ depth H)=[]) :
  ∀(lo:Nat) (K:VV→aC→Prop),cS fn args lo H K=K r H:=by
 intro lo K
 cases hp:aO args with
 |
  true =>
  have:=mapM_pure (n:=7) (H:=H) hp
  rw[show fz depth H=fz (7+1) H from rfl,this] at hf
  cases hf
  exact h lo H K
 |
  false =>
  rw[h.HS vO Wc hf hp,hi]
  split<;>rfl
theorem mW {lr:Bool} {z:List Value} (hz:(z.map gL).all cB=true):oU lr z 0 [] H=some (.ref H.length 0 0 0 0,H++[.row 0 [] z.length true]):=by
 simp[oU,qI,hz]
theorem lH {z:List Value} {v:VV} (hz:(z.map gL).all cB=true) (hv:(aB v).length=z.length) (hs:(aB v).all cB=true):oU false z 1 [(0,v)] H=some (.tree [v] (.cl z.length),H):=by
 simp only[oU,qI,List.replicate_succ,List.replicate_zero,List.length_cons,List.length_nil,hv,hs,and_self,if_true,List.set_cons_zero,hz]
 simp[hs]
theorem TY {z:List Value} {u v:VV} (hz:(z.map gL).all cB=true) (hu:(aB u).length=z.length) (hus:(aB u).all cB=true) (hv:(aB v).length=z.length) (hs:(aB v).all cB=true):oU false z 2 [(0,u),(1,v)] H=some (.tree [u,v] (.cl z.length),H):=by
 simp[oU,qI,hv,hs,hu,hus,hz,List.replicate_succ]
end
theorem wrap32 (n:Nat):IntKind.u32.wrap (n:Int)=((n % 4294967296:Nat):Int):=by rw[IntKind.wrap_u32];omega
theorem wrap_u64 (n:Int):IntKind.u64.wrap n=n % 18446744073709551616:=by simp[IntKind.wrap,IntKind.bits,IntKind.signed]
theorem fF (n:Nat) (h:n<18446744073709551616):IntKind.u64.wrap (n:Int)=(n:Int):=by rw[wrap_u64];omega
theorem wrapN {x:Int} (n:Nat) (h:x=n) (hn:n≤9223372036854775807):IntKind.i64.wrap x=(n:Int):=by subst h;exact wrap64 (by omega) (by omega)
theorem oN (n:Nat) (k:IntKind):cY .shr (.int .u64 (n:Int)) (.int k 32)=some (.int .u64 ((n / 4294967296:Nat):Int)):=by
 simp only[cY]
 have h1:¬((32:Int)<0):=by decide
 have h2:Nat.min (Int.toNat 32) IntKind.u64.bits=32:=by decide
 rw[if_neg h1,h2]
 congr 2
 rw[Int.fdiv_eq_ediv_of_nonneg _ (by decide)]
 omega
theorem BA (n:Nat) (k:IntKind) (h:n<4294967296):cY .shl (.int .u64 (n:Int)) (.int k 32)=some (.int .u64 ((n*4294967296:Nat):Int)):=by
 simp only[cY]
 have h1:¬((32:Int)<0):=by decide
 have h2:Nat.min (Int.toNat 32) IntKind.u64.bits=32:=by decide
 rw[if_neg h1,h2]
 congr 2
 have:(n:Int)*2^32=((n*4294967296:Nat):Int):=by omega
 rw[this]
 exact fF _ (by omega)
section
variable {n k g:Nat} {K:aC} {x y:cZ}
theorem eH:aM (List.replicate n cZ.dead++K) n g=aM K 0 g:=by
 unfold aM
 rw[List.getElem?_append_right (by simp)]
 simp
theorem dV:aM (List.replicate n cZ.dead++K) (n+k) g=aM K k g:=by
 unfold aM
 rw[List.getElem?_append_right (by simp)]
 simp
theorem gT:(List.replicate n cZ.dead++K).set n y=List.replicate n cZ.dead++K.set 0 y:=by
 rw[List.set_append_right _ _ (by simp)]
 simp
theorem iG:(List.replicate n cZ.dead++K).set (n+k) y=List.replicate n cZ.dead++K.set k y:=by
 rw[List.set_append_right _ _ (by simp)]
 simp
theorem oV:(List.replicate n cZ.dead++K).length=n+K.length:=by simp
theorem gB:(List.replicate n cZ.dead++K).take (n+k)=List.replicate n cZ.dead++K.take k:=by
 rw[List.take_append]
 simp
theorem gS:(List.replicate n cZ.dead++K).take n=List.replicate n cZ.dead:=by
 rw[List.take_append]
 simp
theorem XC:cR k (List.replicate n cZ.dead++K)=cR k K:=by
 induction n with
 | zero=>rfl
 | succ n ih=>rw[List.replicate_succ,List.cons_append,←ih];rfl
end
theorem xO {k g e:Nat} {es:List VV} {w:Bool} {K:aC} (h:jK k es=true):cR k (.row g es e w::K)=cR k K:=by
 unfold cR
 rw[List.all_cons]
 simp only[h,Bool.true_and]
theorem SC {k:Nat}:cR k []=true:=rfl
theorem hC {size:Nat} {v:VV} {t:TK} {H:aC} (h:(aB v).length=size) (hs:(aB v).all cB=true):cM size (.tree [v] t) H=some [v]:=by
 simp[cM,h,hs]
theorem lP {α:Type} {f:α→VV} {xs:List α} {x:α} {lo b g n e bytes:Nat} {H:aC} (h:aM H b g=some (xs.map f,e,true)) (hn:n=xs.length) (dP:lo≤b) (he:1≤e) (hb:1≤bytes) (Aa:(n+1)*bytes≤140737488355328) :
  dW lo e bytes (.ref b g 0 n n) [f x] H=some (.ref b (g+1) 0 (n+1) (n+1),H.set b (.row (g+1) ((xs++[x]).map f) e true)):=by
 subst hn
 simp only[dW,h,List.length_cons,List.length_nil,Nat.zero_add]
 rw[if_pos ⟨hb,he⟩,if_pos ⟨trivial,dP,by simp⟩,if_neg (by omega),if_pos Aa,List.drop_zero,List.take_of_length_le (by simp)]
 simp
section
variable {H:aC} {b g o n c j lo size:Nat} {neg ag:Bool} {k:IntKind} {i:Int} {v:VV}
theorem G6:eZ ag size (.ptr b g j o) H=(match aM H b g with
 |
  some (es,_,_)=>match es[j]? with
  | some x=>bU ag size x o
  | none=>none
 | none=>none):=rfl
theorem FO:dE lo size (.ptr b g j o) v H=(match aM H b g with
 |
  some (es,e,true)=>match es[j]? with
  |
   some x =>
   if (aB v).length=size∧lo≤b∧(aB v).all cB then
    if o=0∧size=e then some (H.set b (.row g (es.set j v) e true))
    else if 2≤e∧o+size≤e then some (H.set b (.row g (es.set j (.agg (bW (aB x) o (aB v)))) e true))
    else none
   else none
  | none=>none
 | _=>none):=rfl
theorem Kx:lY (.ref b g o n c) H=(aM H b g).map fun _ => .sc (.int .i64 n):=rfl
theorem F3:tL size (.ptr b g j o) H=(aM H b g).map fun _ => .ptr b g j (o+size):=rfl
theorem JQ:R2 (.ptr b g j o) H=(aM H b g).map fun _ => .ptr b g j o:=rfl
theorem FG:Cy neg (.ref b g o n c) H=(aM H b g).map fun _ => .sc (.bool (false != neg)):=rfl
theorem HI:Cy neg (.tree [] .nil) H=some (.sc (.bool (true != neg))):=rfl
theorem FQ {x:VV} {xs:List VV} {t:TK}:Cy neg (.tree (x::xs) t) H=some (.sc (.bool (false != neg))):=rfl
theorem FZ:aZ size (.ref b g o n c) (.sc (.int k i)) H=(match aM H b g with
 | some (_,e,_)=>if e=size∧0≤i∧i<n then some (.ptr b g (o+i.toNat) 0) else none
 | none=>none):=rfl
end
theorem MT {v:Value}:isAny (.sc v)=false:=rfl
theorem Hf {es:List VV} {t:TK}:isAny (.tree es t)=false:=rfl
theorem JK {b g o n c:Nat}:isAny (.ref b g o n c)=false:=rfl
theorem J5 {cs:List VV}:isAny (.agg cs)=false:=rfl
theorem Jr {f:Nat} {cs:List VV}:isAny (.nJ f cs)=false:=rfl
theorem IF {x:VV}:elemOf [x]=x:=rfl
theorem Hz {x y:VV} {cs:List VV}:elemOf (x::y::cs) = .agg (x::y::cs):=rfl
theorem bE {k t:Nat} {ρ:cN}:C2 k ρ t=AL k (ρ t):=rfl
theorem mR {k:Nat} {v:Value}:AL k (.sc v) = .sc v:=rfl
theorem cC {k:Nat} {v:VV} (h:aX v=true):AL k v=v:=Hv (CW v h)
theorem EL {k b g o n c:Nat} (h:b<k):AL k (.ref b g o n c) = .ref b g o n c:=Hv (by simp[below,h])
theorem Nr {v:Value}:cB (.sc v)=true:=rfl
theorem Ih {es:List VV} {t:TK}:cB (.tree es t)=true:=rfl
theorem Kg {b g o n c:Nat}:cB (.ref b g o n c)=true:=rfl
theorem JP {b g o n:Nat}:cB (.ptr b g o n)=true:=rfl
theorem Ht {x:VV} {o:Nat}:cB (.cD x o)=true:=rfl
theorem JS {f:Nat} {cs:List VV}:cB (.nJ f cs)=true:=rfl
theorem JN {v:Value}:aB (.sc v)=[.sc v]:=rfl
theorem Hp {cs:List VV}:aB (.agg cs)=cs:=rfl
theorem Ft {es:List VV} {t:TK}:aB (.tree es t)=[.tree es t]:=rfl
theorem Iq {b g o n c:Nat}:aB (.ref b g o n c)=[.ref b g o n c]:=rfl
theorem Nq {k k':IntKind} {n:Int}:P6 k (.int k' n)=some (.int k (k.wrap n)):=rfl
theorem Kb {args:List VV} {t:Nat}:H9 args t=args.getD t mK:=rfl
theorem agD {n:Nat}:LT n = .tmp n:=rfl
theorem afS {n:Int}:LI n = .const (.int .i64 n):=rfl
theorem aeQ:LG = .const (.bool true):=rfl
theorem aeI:LF = .const (.bool false):=rfl
theorem aeJ {n:Nat}:LL n = .load false 1 (.tmp n):=rfl
theorem ahA {n:Nat}:LK n = .load true 3 (.tmp n):=rfl
theorem aiB {n k:Nat}:LX n k = .ext (.tmp n) k:=rfl
theorem aeL {k n:Nat}:LA k n = .faddr k (.tmp n):=rfl
theorem afY {d:Nat} {p:kO}:LO d p=⟨some d,p,none,false,[]⟩:=rfl
theorem agN {d:Nat} {p:kO}:LQ d p=⟨some d,p,none,true,[]⟩:=rfl
theorem ahM {p:kO}:LN p=⟨none,p,none,false,[]⟩:=rfl
theorem ahB {d s:Nat}:LM d s=⟨some d,.mv (.tmp s),none,false,[]⟩:=rfl
theorem agI {g d:Nat} {p:kO}:LY g d p=⟨some d,p,some (g,true),false,[]⟩:=rfl
theorem agB {g d:Nat} {p:kO}:LZ g d p=⟨some d,p,some (g,false),false,[]⟩:=rfl
theorem agK {l:List PI} {c:aH}:LS l c = .seq (.fG l) c:=rfl
theorem VX:type_of% (
 And.intro @VG<|And.intro @W1<|And.intro @tX<|And.intro @RN<|And.intro @QM<|And.intro @T2<|And.intro @Qi <|
 And.intro @Nd<|And.intro @zS<|And.intro @Cw<|And.intro @Dg<|And.intro @Ck<|And.intro @vD <|
 And.intro @HE<|And.intro @Dt<|And.intro @KI<|And.intro @Hi<|And.intro @NU<|And.intro @Mv <|
 And.intro @HT<|And.intro @JC<|And.intro @Uf<|And.intro @Zn<|And.intro @Xi<|And.intro @Zf<|And.intro @F2 <|
 And.intro @Va<|And.intro @NK<|And.intro @Ri<|And.intro @QQ<|And.intro @JD<|And.intro @JI<|And.intro @Wq <|
 And.intro @Q9<|And.intro @RP<|And.intro @Q0<|And.intro @QD<|And.intro @Ku<|And.intro @QU<|And.intro @JH <|
 And.intro @JU<|And.intro @M9<|And.intro @MW<|And.intro @MY<|And.intro @QX<|And.intro @N0<|And.intro @Rn <|
 And.intro @QB<|And.intro @NV<|And.intro @RY<|And.intro @QA<|And.intro @QG<|And.intro @Nn<|And.intro @Qs <|
 And.intro @JW<|And.intro @Rj<|And.intro @Ml<|And.intro @Kd<|And.intro @MK<|And.intro @JG <|
 And.intro @Hh<|And.intro @KD<|And.intro @Mg<|And.intro @Ke<|And.intro @Il<|And.intro @KJ <|
 And.intro @qZ<|And.intro @KG<|And.intro @QK<|And.intro @Kv<|And.intro @Nk<|And.intro @Q5<|And.intro @Ni <|
 And.intro @Qr<|And.intro @QS<|And.intro @Ql<|And.intro @M1<|And.intro @Ks<|And.intro @Mn<|And.intro @On <|
 And.intro @Rs<|And.intro @RG<|And.intro @Nw<|And.intro @Ob<|And.intro @J4<|And.intro @N1<|And.intro @UQ <|
 And.intro @Rl<|And.intro @V7<|And.intro @QH<|And.intro @WH<|And.intro @VZ<|And.intro @WZ<|And.intro @U0 <|
 And.intro @List.length_map.{0,0}<|And.intro @List.all_cons.{0}<|And.intro @List.all_nil.{0}<|And.intro @Nr<|And.intro @Bool.and_self <|
 And.intro @Bool.and_true<|And.intro @Nq<|And.intro @Ru<|And.intro @Rk<|And.intro @Mm<|And.intro @NJ <|
 And.intro @NI<|And.intro @Nc<|And.intro @NC<|And.intro @Od<|And.intro @Oo<|And.intro @NH<|And.intro @Mr <|
 And.intro @RC<|And.intro @Qn<|And.intro @Value.bool.injEq<|And.intro @decide_eq_true_eq<|And.intro @decide_eq_false_iff_not <|
 And.intro @Bool.not_true<|And.intro @Bool.not_false<|And.intro @decide_true<|And.intro @decide_false<|And.intro @Bool.not_eq_true' <|
 And.intro @Bool.not_eq_false'<|And.intro @Bool.false_eq_true<|And.intro @false_and<|And.intro @and_false<|And.intro @Option.map_some.{0,0} <|
 And.intro @Option.map_none.{0,0}<|And.intro @if_true.{1}<|And.intro @if_false.{1}<|And.intro @List.map_cons.{0,0}<|And.intro @List.map_nil.{0,0} <|
 And.intro @List.cons_append.{0}<|And.intro @List.nil_append.{0}<|And.intro @and_true<|And.intro @true_and<|And.intro @Nat.zero_add <|
 And.intro @Nat.add_zero<|And.intro @List.length_cons.{0}<|And.intro @List.length_nil.{0}<|And.intro @Kb<|And.intro @List.getD_cons_zero.{0} <|
 And.intro @List.getD_cons_succ.{0}<|And.intro @List.getD_nil.{0}<|And.intro @VV.sc.injEq<|And.intro @List.getElem?_cons_zero.{0} <|
 And.intro @List.getElem?_cons_succ.{0}<|And.intro @Ih<|And.intro @Kg<|And.intro @JP<|And.intro @Ht <|
 And.intro @JS<|And.intro @JN<|And.intro @Hp<|And.intro @Ft<|And.intro @Iq<|And.intro @agD<|And.intro @afS <|
 And.intro @aeQ<|And.intro @aeI<|And.intro @aeJ<|And.intro @ahA<|And.intro @aiB<|And.intro @aeL<|And.intro @afY<|And.intro @agN <|
 And.intro @ahM<|And.intro @ahB<|And.intro @agI<|And.intro @agB <| @agK) :=
 And.intro @VG<|And.intro @W1<|And.intro @tX<|And.intro @RN<|And.intro @QM<|And.intro @T2<|And.intro @Qi <|
 And.intro @Nd<|And.intro @zS<|And.intro @Cw<|And.intro @Dg<|And.intro @Ck<|And.intro @vD <|
 And.intro @HE<|And.intro @Dt<|And.intro @KI<|And.intro @Hi<|And.intro @NU<|And.intro @Mv <|
 And.intro @HT<|And.intro @JC<|And.intro @Uf<|And.intro @Zn<|And.intro @Xi<|And.intro @Zf<|And.intro @F2 <|
 And.intro @Va<|And.intro @NK<|And.intro @Ri<|And.intro @QQ<|And.intro @JD<|And.intro @JI<|And.intro @Wq <|
 And.intro @Q9<|And.intro @RP<|And.intro @Q0<|And.intro @QD<|And.intro @Ku<|And.intro @QU<|And.intro @JH <|
 And.intro @JU<|And.intro @M9<|And.intro @MW<|And.intro @MY<|And.intro @QX<|And.intro @N0<|And.intro @Rn <|
 And.intro @QB<|And.intro @NV<|And.intro @RY<|And.intro @QA<|And.intro @QG<|And.intro @Nn<|And.intro @Qs <|
 And.intro @JW<|And.intro @Rj<|And.intro @Ml<|And.intro @Kd<|And.intro @MK<|And.intro @JG <|
 And.intro @Hh<|And.intro @KD<|And.intro @Mg<|And.intro @Ke<|And.intro @Il<|And.intro @KJ <|
 And.intro @qZ<|And.intro @KG<|And.intro @QK<|And.intro @Kv<|And.intro @Nk<|And.intro @Q5<|And.intro @Ni <|
 And.intro @Qr<|And.intro @QS<|And.intro @Ql<|And.intro @M1<|And.intro @Ks<|And.intro @Mn<|And.intro @On <|
 And.intro @Rs<|And.intro @RG<|And.intro @Nw<|And.intro @Ob<|And.intro @J4<|And.intro @N1<|And.intro @UQ <|
 And.intro @Rl<|And.intro @V7<|And.intro @QH<|And.intro @WH<|And.intro @VZ<|And.intro @WZ<|And.intro @U0 <|
 And.intro @List.length_map.{0,0}<|And.intro @List.all_cons.{0}<|And.intro @List.all_nil.{0}<|And.intro @Nr<|And.intro @Bool.and_self <|
 And.intro @Bool.and_true<|And.intro @Nq<|And.intro @Ru<|And.intro @Rk<|And.intro @Mm<|And.intro @NJ <|
 And.intro @NI<|And.intro @Nc<|And.intro @NC<|And.intro @Od<|And.intro @Oo<|And.intro @NH<|And.intro @Mr <|
 And.intro @RC<|And.intro @Qn<|And.intro @Value.bool.injEq<|And.intro @decide_eq_true_eq<|And.intro @decide_eq_false_iff_not <|
 And.intro @Bool.not_true<|And.intro @Bool.not_false<|And.intro @decide_true<|And.intro @decide_false<|And.intro @Bool.not_eq_true' <|
 And.intro @Bool.not_eq_false'<|And.intro @Bool.false_eq_true<|And.intro @false_and<|And.intro @and_false<|And.intro @Option.map_some.{0,0} <|
 And.intro @Option.map_none.{0,0}<|And.intro @if_true.{1}<|And.intro @if_false.{1}<|And.intro @List.map_cons.{0,0}<|And.intro @List.map_nil.{0,0} <|
 And.intro @List.cons_append.{0}<|And.intro @List.nil_append.{0}<|And.intro @and_true<|And.intro @true_and<|And.intro @Nat.zero_add <|
 And.intro @Nat.add_zero<|And.intro @List.length_cons.{0}<|And.intro @List.length_nil.{0}<|And.intro @Kb<|And.intro @List.getD_cons_zero.{0} <|
 And.intro @List.getD_cons_succ.{0}<|And.intro @List.getD_nil.{0}<|And.intro @VV.sc.injEq<|And.intro @List.getElem?_cons_zero.{0} <|
 And.intro @List.getElem?_cons_succ.{0}<|And.intro @Ih<|And.intro @Kg<|And.intro @JP<|And.intro @Ht <|
 And.intro @JS<|And.intro @JN<|And.intro @Hp<|And.intro @Ft<|And.intro @Iq<|And.intro @agD<|And.intro @afS <|
 And.intro @aeQ<|And.intro @aeI<|And.intro @aeJ<|And.intro @ahA<|And.intro @aiB<|And.intro @aeL<|And.intro @afY<|And.intro @agN <|
 And.intro @ahM<|And.intro @ahB<|And.intro @agI<|And.intro @agB <| @agK
theorem kC:type_of% (
 And.intro @G6<|And.intro @FO<|And.intro @FZ<|And.intro @Kx<|And.intro @F3<|And.intro @JQ <|
 And.intro @FG<|And.intro @HI<|And.intro @FQ<|And.intro @bK<|And.intro @nY<|And.intro @List.set_cons_zero.{0} <|
 And.intro @List.set_cons_succ.{0}<|And.intro @IF<|And.intro @Hz<|And.intro @nE.eq_1<|And.intro @vI.eq_1 <|
 And.intro @vI.eq_2<|And.intro @JY.eq_1<|And.intro @JY.eq_2<|And.intro @yV.eq_1<|And.intro @yV.eq_2<|And.intro @MT <|
 And.intro @Hf<|And.intro @JK<|And.intro @J5<|And.intro @Jr<|And.intro @List.take_zero.{0} <|
 And.intro @List.take_succ_cons.{0}<|And.intro @List.take_nil.{0}<|And.intro @List.drop_zero.{0}<|And.intro @List.drop_succ_cons.{0} <|
 And.intro @List.drop_nil.{0}<|And.intro @List.append_nil.{0}<|And.intro @Nat.le_refl<|And.intro @bW.eq_1<|And.intro @Int.toNat_natCast <|
 And.intro @eq_self.{1}<|And.intro @ge_iff_le.{0} <| @Bool.and_eq_true) :=
 And.intro @G6<|And.intro @FO<|And.intro @FZ<|And.intro @Kx<|And.intro @F3<|And.intro @JQ <|
 And.intro @FG<|And.intro @HI<|And.intro @FQ<|And.intro @bK<|And.intro @nY<|And.intro @List.set_cons_zero.{0} <|
 And.intro @List.set_cons_succ.{0}<|And.intro @IF<|And.intro @Hz<|And.intro @nE.eq_1<|And.intro @vI.eq_1 <|
 And.intro @vI.eq_2<|And.intro @JY.eq_1<|And.intro @JY.eq_2<|And.intro @yV.eq_1<|And.intro @yV.eq_2<|And.intro @MT <|
 And.intro @Hf<|And.intro @JK<|And.intro @J5<|And.intro @Jr<|And.intro @List.take_zero.{0} <|
 And.intro @List.take_succ_cons.{0}<|And.intro @List.take_nil.{0}<|And.intro @List.drop_zero.{0}<|And.intro @List.drop_succ_cons.{0} <|
 And.intro @List.drop_nil.{0}<|And.intro @List.append_nil.{0}<|And.intro @Nat.le_refl<|And.intro @bW.eq_1<|And.intro @Int.toNat_natCast <|
 And.intro @eq_self.{1}<|And.intro @ge_iff_le.{0} <| @Bool.and_eq_true
end Go.PM
namespace Go.PM
mutual
def yE (n:Nat):VV→Bool
 | .any=>false
 | .sc v=>kQ v
 | .agg cs=>wS n cs
 | .eX vs=>wS n vs
 | .tree es k=>es.isEmpty&&decide (k = .nil)
 | .cD _ _=>false
 | .ref b _ _ _ _=>decide (n≤b)
 | .ptr b _ _ _=>decide (n≤b)
 | .nJ _ _=>false
def wS (n:Nat):List VV→Bool
 | []=>true
 | x::xs=>yE n x&&wS n xs
end
theorem DW {n:Nat} {es:List VV}:wS n es=true↔∀x∈es,yE n x=true:=by
 induction es with
 | nil=>simp[wS]
 | cons x xs ih=>simp[wS,ih]
theorem Sk {n:Nat} {es:List VV} (h:wS n es=true):wS n (es.flatMap aB)=true:=by
 rw[DW] at h ⊢
 intro x hx
 obtain⟨y,hy,C4⟩:=List.mem_flatMap.1 hx
 have:=h y hy
 unfold aB at C4
 split at C4
 ·exact DW.1 (by simpa[yE] using this) x C4
 ·rw[List.mem_singleton] at C4;subst C4;exact this
def kW (n:Nat) (L:aC):Bool:=L.all fun
 | .row _ es _ _=>wS n es
 | .dead=>true
theorem VR.own {V V':View} {k0:Nat} (Na:∀q,V.base≤q∧q<V.P.length→V'.base≤q∧q<V'.P.length∧∀b' g' es e w,b'<k0→V'.H[b']? = some (.row g' es e w)→V'.m b'≠q) (hl:V.H.length≤V'.H.length) (hH:∀b,k0≤b→V'.H[b]? = V.H[b]?) (hm:∀b,k0≤b→V'.m b=V.m b) {x:VV} {v:Value} (h:VR V x v):yE k0 x=true→VR V' x v:=by
 induction h using VR.rec (motive_2:=fun xs vs _=>wS k0 xs=true→VL V' xs vs) with
 | any=>intro hx;cases hx
 | sc _ h=>intro _;exact .sc _ h
 | agg cs ps _ ih=>intro hx;exact .agg _ _ (ih hx)
 | eX cs ps _ ih=>intro hx;exact .eX _ _ (ih hx)
 | mN k hk=>intro _;exact .mN k hk
 |
  tree es k b o c r e p hF hb ho hc he hk _ _ =>
  intro hx
  simp only[yE,Bool.and_eq_true,decide_eq_true_eq] at hx
  obtain⟨_,rfl⟩:=hx
  exact hk.elim
 | cD=>intro hx;cases hx
 |
  ref b g o n c a n' c' aR hg ha hq =>
  intro hx
  have hb:k0≤b:=by simpa[yE] using hx
  exact .ref b g o n c a n' c' (Nat.lt_of_lt_of_le aR hl) (fun g' es e w hr=>hg g' es e w (by rw[←hH b hb];exact hr)) (fun es e w hr=>by rw[hm b hb];exact ha es e w (by rw[←hH b hb];exact hr)) fun a0 h=>by
   obtain⟨q1,q2,q3⟩:=hq a0 h
   obtain⟨q4,q5,q6⟩:=Na _ ⟨q1,q2⟩
   refine⟨q4,q5,fun b' g' es e w hr cI => ?_⟩
   rcases Nat.lt_or_ge b' k0 with He | vZ
   ·exact q6 b' g' es e w He hr
   ·rw[hm b' vZ]
    exact q3 b' g' es e w (by rw[←hH b' vZ];exact hr) cI
 |
  ptr b g j off a aR hg ha hq =>
  intro hx
  have hb:k0≤b:=by simpa[yE] using hx
  exact .ptr b g j off a (Nat.lt_of_lt_of_le aR hl) (fun g' es e w hr=>hg g' es e w (by rw[←hH b hb];exact hr)) (fun es e w hr=>by rw[hm b hb];exact ha es e w (by rw[←hH b hb];exact hr)) fun a0 h=>by
   obtain⟨q1,q2,q3⟩:=hq a0 h
   obtain⟨q4,q5,q6⟩:=Na _ ⟨q1,q2⟩
   refine⟨q4,q5,fun b' g' es e w hr cI => ?_⟩
   rcases Nat.lt_or_ge b' k0 with He | vZ
   ·exact q6 b' g' es e w He hr
   ·rw[hm b' vZ]
    exact q3 b' g' es e w (by rw[←hH b' vZ];exact hr) cI
 | nJ=>intro hx;cases hx
 | nil=>exact .nil
 |
  cons x v xs vs _ _ ih Tb =>
  rename_i hx
  simp only[wS,Bool.and_eq_true] at hx
  exact .cons _ _ _ _ (ih hx.1) (Tb hx.2)
theorem VL.own {V V':View} {n:Nat} (Na:∀q,V.base≤q∧q<V.P.length→V'.base≤q∧q<V'.P.length∧∀b' g' es e w,b'<n→V'.H[b']? = some (.row g' es e w)→V'.m b'≠q) (hl:V.H.length≤V'.H.length) (hH:∀b,n≤b→V'.H[b]? = V.H[b]?) (hm:∀b,n≤b→V'.m b=V.m b) {xs:List VV} {vs:List Value} (h:VL V xs vs) (hx:wS n xs=true):VL V' xs vs:=by
 induction xs generalizing vs with
 | nil=>cases h;exact .nil
 |
  cons x xs ih=>cases h with
  |
   cons _ v _ vs h hs =>
   simp only[wS,Bool.and_eq_true] at hx
   exact .cons _ _ _ _ (h.own Na hl hH hm hx.1) (ih hs hx.2)
theorem VL.CR {V':View} {G:Nat→Prop} {P:aF} {xs:List VV} {vs:List Value} (hF:∀b,G b→V'.F b∧V'.P[b]? = P[b]?) (h:VL (bare G P) xs vs):VL V' xs vs:=by
 induction xs generalizing vs with
 | nil=>cases h;exact .nil
 |
  cons x xs ih=>cases h with
  | cons _ v _ vs h hs=>exact .cons _ _ _ _ (h.CR hF) (ih hs)
def FC (f:Nat) (args:List VV) (R:Nat→VV→aC→Prop):Prop :=
 ∀n,kH f args n (List.replicate n .dead) fun r H'=>∃L,H'=List.replicate n .dead++L∧yE n r=true∧kW n L=true∧R n r L
theorem FC.walk {f:Nat} {pf:aU} {args:List VV} {R:Nat→VV→aC→Prop} (fl:Fl) (ht:iY f=some pf) (hn:args.length≤pf.ntmps)
  (h:∀n,VW fl n pf.body (yU pf.res fun r H'=>∃L,H'=List.replicate n .dead++L∧yE n r=true∧kW n L=true∧R n r L) (H9 args) (List.replicate n .dead)):FC f args R :=
 fun n=>kH.walk fl ht hn (h n)
theorem FC.raw {f:Nat} {args gX:List VV} {R:Nat→VV→aC→Prop} {H:aC} {lo:Nat} (h:FC f gX R) (hf:args.mapM (fz depth H)=some gX):kH f args lo H fun r H'=>∃L,H'=H++L∧R H.length r L∧yE H.length r=true∧kW H.length L=true:=by
 intro V dG dQ hH hS hl
 have h1:=h H.length
 let V0:View:={ m:=V.m,F:=(· < V.P.length),H:=List.replicate H.length .dead,P:=V.P,base:=V.P.length }
 have H7:∀(b g:Nat) (es:List VV) (e:Nat) (w:Bool),V0.H[b]? ≠ some (.row g es e w):=by
  intro b g es e w hb
  have:=List.eq_of_mem_replicate (List.mem_of_getElem? hb)
  cases this
 have hS0:SR V0 H.length dG:=⟨fun b g es e w hb=>absurd hb (H7 _ _ _ _ _),fun b g es e hb=>absurd hb (H7 _ _ _ _ _),fun a b g es e w _ _ _ _ ha=>absurd ha (H7 _ _ _ _ _),fun b hb=>hb,hS.O1,Nat.le_refl _⟩
 have IV:VL V0 gX dQ:=by
  have:=Bq hS (G:=(· < V.P.length)) (fun q hq=>hS.fr q hq) hl (by rw[hH];exact hf) (fun i _ g es e w hb=>hS.mlt hb)
  exact VL.CR (V':=V0) (fun b hb=>⟨hb,rfl⟩) this
 obtain⟨pv,V1,r,k1,k3,k4,k5,L,k2,h2,h3,hR⟩:=h1 V0 dG dQ rfl hS0 IV
 have QW:∀b g es e w,V1.H[b]? = some (.row g es e w)→V.P.length≤V1.m b:=by
  intro b g es e w hb
  rcases Nat.lt_or_ge (V1.m b) V.P.length with aR | vZ
  ·obtain⟨g0,es0,w0,j1,_⟩:=k4.Am b g es e w hb aR
   exact absurd j1 (H7 _ _ _ _ _)
  ·exact vZ
 have afI:V1.H.length=H.length+(L).length:=by rw[k2];simp
 have yT:∀q,q<V.P.length→V1.P[q]? = V.P[q]? := fun q hq=>k4.oB q hq fun b g es e hb=>absurd hb (H7 _ _ _ _ _)
 let V2:View:={ m:=fun b=>if b<H.length then V.m b else V1.m b,F:=V.F,H:=H++L,P:=V1.P,base:=V.base }
 have YR:∀b,H.length≤b→V2.H[b]? = V1.H[b]? := fun b hb=>by
  show (H++L)[b]? = _
  rw[k2,List.getElem?_append_right hb,List.getElem?_append_right (by simpa using hb),List.length_replicate]
 have mL:∀b,H.length≤b→V2.m b=V1.m b:=fun b hb=>by
  show (if b<H.length then V.m b else V1.m b)=_
  rw[if_neg (by omega)]
 have XD:∀b,b<H.length→V2.H[b]? = V.H[b]? := fun b hb=>by
  show (H++L)[b]? = _
  rw[List.getElem?_append_left hb,hH]
 have mS:∀b,b<H.length→V2.m b=V.m b:=fun b hb=>by
  show (if b<H.length then V.m b else V1.m b)=_
  rw[if_pos hb]
 have hU:Up V V2:=⟨fun _ h=>h,fun b hb=>yT b (hS.fr b hb),by show V.H.length≤(H++L).length;rw[hH];simp,fun b g es e w aR hb=>⟨g,es,w,by rw[←XD b (by rw[←hH];exact aR)];exact hb,Nat.le_refl _,fun _=>mS b (by rw[←hH];exact aR)⟩,rfl,k4.DT,fun b g es e w hb hm=>by
   rcases Nat.lt_or_ge b H.length with h | h
   ·exact⟨g,es,w,by rw[←XD b h];exact hb,mS b h,id⟩
   ·rw[mL b h] at hm
    have:=QW b g es e w (by rw[←YR b h];exact hb)
    omega⟩
 have QR:∀ {b g es e w},V2.H[b]? = some (.row g es e w)→(b<H.length∧V.H[b]? = some (.row g es e w))∨(H.length≤b∧V1.H[b]? = some (.row g es e w)):=by
  intro b g es e w hb
  rcases Nat.lt_or_ge b H.length with h | h
  ·exact .inl ⟨h,by rw[←XD b h];exact hb⟩
  ·exact .inr ⟨h,by rw[←YR b h];exact hb⟩
 have ZJ:V1.H.length≤V2.H.length:=by show _≤(H++L).length;rw[afI];simp
 have ahW:∀ {b g es e w},H.length≤b→V1.H[b]? = some (.row g es e w)→wS H.length es=true:=by
  intro b g es e w hb hr
  rw[k2,List.getElem?_append_right (by simpa using hb)] at hr
  exact List.all_eq_true.1 h3 _ (List.mem_of_getElem? hr)
 have Na:∀q,V1.base≤q∧q<V1.P.length→V2.base≤q∧q<V2.P.length∧∀b' g' es e w,b'<H.length→V2.H[b']? = some (.row g' es e w)→V2.m b'≠q:=by
  intro q hq
  have xE:V.P.length≤q:=by have:=k4.Jh;rw[this] at hq;exact hq.1
  refine⟨Nat.le_trans hS.Jh xE,hq.2,fun b' g' es e w aR hr hm => ?_⟩
  rw[mS b' aR] at hm
  have:=hS.mlt (by rw[←XD b' aR];exact hr)
  omega
 refine⟨pv,V2,r,k1,⟨fun b g es e w hb => ?_,fun b g es e hb => ?_,fun a b g es e w g' kD e' w' ha hb hm => ?_,fun b hb => ?_,?_,Nat.le_trans hS.Jh k4.DT⟩,{ hU with oB:=fun q hq _=>yT q hq,BU:=fun q hq => .inl hq },?_,L,rfl,hR,h2,h3⟩
 ·rcases QR hb with⟨h,hb⟩ | ⟨h,hb⟩
  ·obtain⟨r,p,j1,j2,j3⟩:=hS.row b g es e w hb
   exact⟨r,p,by rw[mS b h];exact(yT _ (hS.mlt hb)).trans j1,j2,j3.mono hU⟩
  ·obtain⟨r,p,j1,j2,j3⟩:=k3.row b g es e w hb
   exact⟨r,p,by rw[mL b h];exact j1,j2,j3.own Na ZJ (fun b hb=>YR b hb) (fun b hb=>mL b hb) (Sk (ahW h hb))⟩
 ·rcases QR hb with⟨h,hb⟩ | ⟨h,hb⟩
  ·rw[mS b h]
   exact hS.wr b g es e hb
  ·rw[mL b h]
   have:=QW b g es e true hb
   exact⟨fun hF=>by have:=hS.fr _ hF;omega,fun _=>Nat.le_trans hS.O1 this⟩
 ·rcases QR ha with⟨h,ha⟩ | ⟨h,ha⟩<;>rcases QR hb with⟨h',hb⟩ | ⟨h',hb⟩
  ·rw[mS a h,mS b h'] at hm
   exact hS.inj a b _ _ _ _ _ _ _ _ ha hb hm
  ·rw[mS a h,mL b h'] at hm
   have:=QW b _ _ _ _ hb
   have:=hS.mlt ha
   omega
  ·rw[mL a h,mS b h'] at hm
   have:=QW a _ _ _ _ ha
   have:=hS.mlt hb
   omega
  ·rw[mL a h,mL b h'] at hm
   exact k3.inj a b _ _ _ _ _ _ _ _ ha hb hm
 ·exact Nat.lt_of_lt_of_le (hS.fr b hb) k4.DT
 ·exact Nat.le_trans hS.O1 k4.DT
 ·exact k5.own Na ZJ (fun b hb=>YR b hb) (fun b hb=>mL b hb) h2
theorem cW {f:Nat} {args:List VV} {lo:Nat} {H:aC} {K:VV→aC→Prop} (vO:BI.contains f=true) (h:kH f args lo H K):cS f args lo H K:=by
 unfold cS
 rw[if_pos vO]
 exact h
theorem FC.call {f:Nat} {args gX:List VV} {R:Nat→VV→aC→Prop} {H:aC} {lo:Nat} {K:VV→aC→Prop} (h:FC f gX R) (vO:BI.contains f=true) (hf:args.mapM (fz depth H)=some gX) (hk:∀r L,R H.length r L→K r (H++L)):cS f args lo H K :=
 cW vO ((h.raw hf).mono fun r H' ⟨L,h1,h2,_⟩=>by subst h1;exact hk r L h2)
theorem FC.J7 {f:Nat} {args gX:List VV} {R:Nat→VV→aC→Prop} {H:aC} {lo:Nat} {K:VV→aC→Prop} (h:FC f gX R) (vO:BI.contains f=true) (hf:args.mapM (fz depth H)=some gX) (hk:∀r L,R H.length r L→yE H.length r=true→kW H.length L=true→K r (H++L)):cS f args lo H K :=
 cW vO ((h.raw hf).mono fun r H' ⟨L,h1,h2,h3,h4⟩=>by subst h1;exact hk r L h2 h3 h4)
end Go.PM
namespace Go.PM
def room (n:Nat):Nat:=if n % 6=5 then 0 else if n % 3=0 then 1 else n
abbrev nV (n:Int):VV := .sc (.int .i64 n)
theorem abL:∀x:Int,(aB (nV x)).length=1:=fun _=>rfl
abbrev lE (xs:List Int):VV:=eU nV xs
theorem gG (xs:List Int):aX (lE xs)=true:=mD abL fun _=>rfl
theorem C1 (xs:List Int):aO (xs.map nV)=true:=gO fun _=>rfl
def QV {α:Type} (fill:α) (xs:List α):List α:=xs++List.replicate (room xs.length) fill
def ToR {α:Type} (f:α→VV) (e:Nat) (fill:α) (xs:List α) (bare:Bool) (n:Nat) (r:VV) (L:aC):Prop :=
 (bare=true∧xs=[]∧r = .tree [] .nil∧L=[])∨(r = .ref n 0 0 xs.length (xs.length+room xs.length)∧L=[.row 0 ((QV fill xs).map f) e true])
theorem ToR.no {α:Type} {f:α→VV} {e:Nat} {fill:α} {xs:List α} {n:Nat} {r:VV} {L:aC} (h:ToR f e fill xs false n r L):r = .ref n 0 0 xs.length (xs.length+room xs.length)∧L=[.row 0 ((QV fill xs).map f) e true]:=by
 rcases h with h | h
 ·cases h.1
 ·exact h
theorem xB {α:Type} {f:α→VV} {n:Nat} (hf:∀x,yE n (f x)=true) (xs:List α):wS n (xs.map f)=true:=by
 rw[DW]
 intro x hx
 obtain⟨y,_,rfl⟩:=List.mem_map.1 hx
 exact hf y
end Go.PM
namespace Go.PM
def cV (c:aJ):VV := .agg [nV c.t,nV c.w,nV c.k]
theorem aaW:∀c:aJ,(aB (cV c)).length=3:=fun _=>rfl
theorem mY {c:aJ}:bU true 3 (cV c) 0=some (cV c):=rfl
abbrev fR (xs:List aJ):VV:=eU cV xs
theorem aT (xs:List aJ):aX (fR xs)=true:=mD aaW fun _=>rfl
end Go.PM
namespace Go.PM
end Go.PM
namespace Go.PM
end Go.PM
namespace Go.PM
theorem DI {H L:aC} {b g:Nat} {x:List VV×Nat×Bool} (h:aM H b g=some x):aM (H++L) b g=some x:=by
 obtain⟨es,e,w⟩:=x
 rw[bF] at h ⊢
 rw[List.getElem?_append_left (List.getElem?_eq_some_iff.1 h).1]
 exact h
theorem F7 {H L:aC} {i g e:Nat} {es:List VV} {w:Bool} (h:L[i]? = some (.row g es e w)):aM (H++L) (H.length+i) g=some (es,e,w):=by
 rw[bF,List.getElem?_append_right (Nat.le_add_right _ _),Nat.add_sub_cancel_left]
 exact h
theorem A2 {H:aC} {b b' g:Nat} {x:cZ} {y:List VV×Nat×Bool} (hn:b'≠b) (h:aM H b g=some y):aM (H.set b' x) b g=some y:=by
 obtain⟨es,e,w⟩:=y
 rw[bF] at h ⊢
 rw[List.getElem?_set_ne hn]
 exact h
end Go.PM
namespace Go.PM
def zZ:aH:=(LS [LO 4 (.mv (.const (.int .u64 0))),LO 5 (.mv (.const (.int .u64 0)))] (.seq (.cond LF (LS [LM 11 0,LO 12 (.cvt .u32 (LT 11)),LM 13 1,LO 14 (.cvt .u32 (LT 13)),LO 15 (.call 116 [(LT 12),(LT 14)]),LM 10 15,LO 16 (LX 10 0),LO 17 (LX 10 1),LM 6 16,LM 7 17] (LS [LM 18 6,LO 19 (.cvt .u64 (LT 18)),LM 20 7,LO 21 (.cvt .u64 (LT 20)),LM 4 19,LM 5 21] .ret)) .skip) (LS [LM 23 0,LM 24 1,LO 25 (.call 117 [(LT 23),(LT 24)]),LM 22 25,LO 26 (LX 22 0),LO 27 (LX 22 1),LM 8 26,LM 9 27] (LS [LM 28 8,LM 29 9,LM 4 28,LM 5 29] .ret))))
def Cq:aU:=⟨30,[(.tmp 4),(.tmp 5)],zZ⟩
theorem Gb:iY 103=some Cq:=by kernel_rfl
def fI:aH:=(.seq (LS [LM 34 8,LM 35 7,LO 36 (.len (LT 35)),LO 37 (.bin .lss (LT 34) (LT 36))] (.cond (LT 37) .skip (.exit 0))) (.block 1 (.fG [LM 38 8,LM 39 7,LM 40 8,LO 41 (.sub 1 (LT 39) (some (LT 40)) none none),LM 42 7,LM 43 8,LO 44 (.sub 1 (LT 42) none (some (LT 43)) none),LO 45 (.copy 1 (LT 41) (LT 44)),LO 46 (.bin .add (LT 38) (LT 45)),LM 8 46])))
def jI:aH:=(LS [LO 4 (.mv (.const (.slice none 0 0)))] (.seq (LS [LM 9 1,LO 10 (.bin .lss (LT 9) (LI 0))] (.cond (LT 10) (.fG [LO 11 .die,LN .die]) .skip)) (LS [LM 13 0,LO 14 (.len (LT 13)),LO 15 (.cvt .u64 (LT 14)),LM 16 1,LO 17 (.cvt .u64 (LT 16)),LO 18 (.call 103 [(LT 15),(LT 17)]),LM 12 18,LO 19 (LX 12 0),LO 20 (LX 12 1),LM 5 19,LM 6 20] (.seq (LS [LM 21 5,LO 22 (.bin .gtr (LT 21) (.const (.int .u64 0))),LM 23 22,LZ 23 24 (.mv (LT 6)),LZ 23 25 (.bin .gtr (LT 24) (.const (.int .u64 9223372036854775807))),LO 26 (.pick (LT 23) LG (LT 25))] (.cond (LT 26) (.fG [LO 27 .die,LN .die]) .skip)) (LS [LM 28 6,LO 29 (.cvt .i64 (LT 28)),LO 30 (.make [(.int .i64 0)] 8 (LT 29) (LT 29)),LM 7 30] (LS [LM 31 7,LM 32 0,LO 33 (.copy 1 (LT 31) (LT 32)),LM 8 33] (.seq (.block 0 (.loop fI)) (LS [LM 47 7,LM 4 47] .ret))))))))
def kE:aU:=⟨48,[(.tmp 4)],jI⟩
theorem pS:iY 72=some kE:=by kernel_rfl
def cG:aH:=(.seq (LS [LM 16 6,LM 17 0,LO 18 (.len (LT 17)),LO 19 (.bin .lss (LT 16) (LT 18))] (.cond (LT 19) .skip (.exit 0))) (.seq (.block 1 (LS [LM 22 0,LM 23 6,LO 24 (.iaddr 1 (LT 22) (LT 23)),LO 25 (LL 24),LM 7 25] (LS [LM 26 1,LM 27 7,LO 28 (.callv (LT 26) [(LT 27)]),LO 29 (.un .not (LT 28))] (.cond (LT 29) (LS [LM 30 0,LM 31 5,LM 32 7,LO 33 (.iaddr 1 (LT 30) (LT 31)),LN (.store 1 (LT 33) (LT 32))] (.fG [LM 34 5,LO 35 (.bin .add (LT 34) (LI 1)),LM 5 35])) .skip)))) (.fG [LM 20 6,LO 21 (.bin .add (LT 20) (LI 1)),LM 6 21])))
def dY:aH:=(LS [LO 4 (.mv (.const (.slice none 0 0)))] (LS [LM 8 0,LM 9 1,LO 10 (.call 104 [(LT 8),(LT 9)]),LM 5 10] (.seq (LS [LM 11 5,LO 12 (.bin .eql (LT 11) (LI (-1)))] (.cond (LT 12) (LS [LM 13 0,LM 4 13] .ret) .skip)) (.seq (LS [LM 14 5,LO 15 (.bin .add (LT 14) (LI 1)),LM 6 15] (.block 0 (.loop cG))) (LS [LM 36 0,LM 37 5,LO 38 (.sub 1 (LT 36) (some (LT 37)) none none),LN (.clear [(.int .i64 0)] (LT 38))] (LS [LM 39 0,LM 40 5,LO 41 (.sub 1 (LT 39) none (some (LT 40)) none),LM 4 41] .ret))))))
def fB:aU:=⟨42,[(.tmp 4)],dY⟩
theorem nI:iY 73=some fB:=by kernel_rfl
def lM:aH:=(LS [LO 6 (.mv (.const (.slice none 0 0)))] (LS [LM 8 0,LM 9 1,LM 10 2,LM 11 0,LO 12 (.len (LT 11)),LO 13 (.sub 1 (LT 8) (some (LT 9)) (some (LT 10)) (some (LT 12)))] (.seq (LS [LM 14 1,LM 15 2,LO 16 (.bin .eql (LT 14) (LT 15))] (.cond (LT 16) (LS [LM 17 0,LM 6 17] .ret) .skip)) (LS [LM 18 0,LO 19 (.len (LT 18)),LM 7 19] (LS [LM 20 0,LM 21 1,LO 22 (.sub 1 (LT 20) none (some (LT 21)) none),LM 23 0,LM 24 2,LO 25 (.sub 1 (LT 23) (some (LT 24)) none none),LO 26 (.app 1 8 (LT 22) (LT 25)),LM 0 26] (LS [LM 27 0,LM 28 0,LO 29 (.len (LT 28)),LM 30 7,LO 31 (.sub 1 (LT 27) (some (LT 29)) (some (LT 30)) none),LN (.clear [(.int .i64 0)] (LT 31))] (LS [LM 32 0,LM 6 32] .ret)))))))
def nB:aU:=⟨33,[(.tmp 6)],lM⟩
theorem sY:iY 76=some nB:=by kernel_rfl
def dZ:aH:=(.seq (LS [LM 7 2,LM 8 3,LO 9 (.bin .lss (LT 7) (LT 8))] (.cond (LT 9) .skip (.exit 0))) (.seq (.block 1 (.fG [LM 14 0,LM 15 2,LM 16 0,LM 17 3,LM 18 0,LM 19 3,LO 20 (.iaddr 1 (LT 18) (LT 19)),LO 21 (LL 20),LM 22 0,LM 23 2,LO 24 (.iaddr 1 (LT 22) (LT 23)),LO 25 (LL 24),LO 26 (.iaddr 1 (LT 14) (LT 15)),LN (.store 1 (LT 26) (LT 21)),LO 27 (.iaddr 1 (LT 16) (LT 17)),LN (.store 1 (LT 27) (LT 25))])) (.fG [LM 10 2,LO 11 (.bin .add (LT 10) (LI 1)),LM 12 3,LO 13 (.bin .sub (LT 12) (LI 1)),LM 2 11,LM 3 13])))
def iO:aH:=(LS [LM 4 0,LO 5 (.len (LT 4)),LO 6 (.bin .sub (LT 5) (LI 1)),LO 2 (.mv (LI 0)),LM 3 6] (.block 0 (.loop dZ)))
def jA:aU:=⟨28,[],iO⟩
theorem oC:iY 125=some jA:=by kernel_rfl
def uW:aH:=(LS [LO 4 (.mv (.const (.int .u64 0))),LO 5 (.mv (.const (.int .u64 0)))] (LS [LM 14 0,LO 15 (.bin .and (LT 14) (.const (.int .u64 4294967295))),LM 6 15] (LS [LM 16 0,LO 17 (.bin .shr (LT 16) (.const (.int .u64 32))),LM 7 17] (LS [LM 18 1,LO 19 (.bin .and (LT 18) (.const (.int .u64 4294967295))),LM 8 19] (LS [LM 20 1,LO 21 (.bin .shr (LT 20) (.const (.int .u64 32))),LM 9 21] (LS [LM 22 6,LM 23 8,LO 24 (.bin .mul (LT 22) (LT 23)),LM 10 24] (LS [LM 25 7,LM 26 8,LO 27 (.bin .mul (LT 25) (LT 26)),LM 28 10,LO 29 (.bin .shr (LT 28) (.const (.int .u64 32))),LO 30 (.bin .add (LT 27) (LT 29)),LM 11 30] (LS [LM 31 11,LO 32 (.bin .and (LT 31) (.const (.int .u64 4294967295))),LM 12 32] (LS [LM 33 11,LO 34 (.bin .shr (LT 33) (.const (.int .u64 32))),LM 13 34] (LS [LM 35 12,LM 36 6,LM 37 9,LO 38 (.bin .mul (LT 36) (LT 37)),LO 39 (.bin .add (LT 35) (LT 38)),LM 12 39] (LS [LM 40 7,LM 41 9,LO 42 (.bin .mul (LT 40) (LT 41)),LM 43 13,LO 44 (.bin .add (LT 42) (LT 43)),LM 45 12,LO 46 (.bin .shr (LT 45) (.const (.int .u64 32))),LO 47 (.bin .add (LT 44) (LT 46)),LM 4 47] (LS [LM 48 0,LM 49 1,LO 50 (.bin .mul (LT 48) (LT 49)),LM 5 50] .ret))))))))))))
def zE:aU:=⟨51,[(.tmp 4),(.tmp 5)],uW⟩
theorem D1:iY 117=some zE:=by kernel_rfl
def aW:aH:=(LS [LO 9 (.bin .lss (LT 8) (LT 7))] (.seq (.cond (LT 9) .skip (.exit 0)) (.seq (.block 1 (LS [LM 10 8,LM 5 10] (LS [LM 11 1,LM 12 0,LM 13 5,LO 14 (.iaddr 1 (LT 12) (LT 13)),LO 15 (LL 14),LO 16 (.callv (LT 11) [(LT 15)])] (.cond (LT 16) (LS [LM 17 5,LM 4 17] .ret) .skip)))) (.fG [LO 18 (.bin .add (LT 8) (LI 1)),LM 8 18]))))
def eK:aH:=(LS [LO 4 (.mv (LI 0))] (.seq (LS [LM 6 0,LO 7 (.len (LT 6)),LO 8 (.mv (LI 0))] (.block 0 (.loop aW))) (LS [LO 4 (.mv (LI (-1)))] .ret)))
def fJ:aU:=⟨19,[(.tmp 4)],eK⟩
theorem iP:iY 104=some fJ:=by kernel_rfl
def vQ:aH:=(LS [LO 2 (.mv (.const (.string ⟨#[]⟩)))] (.seq (LS [LM 3 0,LO 4 (.bin .lss (LT 3) (LI 10))] (.cond (LT 4) (LS [LM 5 0,LM 6 0,LO 7 (.bin .add (LT 6) (LI 1)),LO 8 (.ssub (.const (.string ⟨#[48,49,50,51,52,53,54,55,56,57,97,98,99,100,101,102,103,104,105,106,107,108,109,110,111,112,113,114,115,116,117,118,119,120,121,122]⟩)) (some (LT 5)) (some (LT 7))),LM 2 8] .ret) .skip)) (LS [LM 9 0,LO 10 (.bin .mul (LT 9) (LI 2)),LM 11 0,LO 12 (.bin .mul (LT 11) (LI 2)),LO 13 (.bin .add (LT 12) (LI 2)),LO 14 (.ssub (.const (.string ⟨#[48,48,48,49,48,50,48,51,48,52,48,53,48,54,48,55,48,56,48,57,49,48,49,49,49,50,49,51,49,52,49,53,49,54,49,55,49,56,49,57,50,48,50,49,50,50,50,51,50,52,50,53,50,54,50,55,50,56,50,57,51,48,51,49,51,50,51,51,51,52,51,53,51,54,51,55,51,56,51,57,52,48,52,49,52,50,52,51,52,52,52,53,52,54,52,55,52,56,52,57,53,48,53,49,53,50,53,51,53,52,53,53,53,54,53,55,53,56,53,57,54,48,54,49,54,50,54,51,54,52,54,53,54,54,54,55,54,56,54,57,55,48,55,49,55,50,55,51,55,52,55,53,55,54,55,55,55,56,55,57,56,48,56,49,56,50,56,51,56,52,56,53,56,54,56,55,56,56,56,57,57,48,57,49,57,50,57,51,57,52,57,53,57,54,57,55,57,56,57,57]⟩)) (some (LT 10)) (some (LT 13))),LM 2 14] .ret)))
def internal_strconv_small:aU:=⟨15,[(.tmp 2)],vQ⟩
def oD:aH:=(.seq (LS [LM 19 4,LO 20 (.bin .geq (LT 19) (LI 8))] (.cond (LT 20) .skip (.exit 0))) (.block 1 (LS [LM 21 1,LO 22 (.bin .rem (LT 21) (.const (.int .u64 100000000))),LO 23 (.cvt .u32 (LT 22)),LM 5 23] (LS [LM 24 1,LO 25 (.bin .quo (LT 24) (.const (.int .u64 100000000))),LM 1 25] (LS [LM 26 5,LO 27 (.bin .quo (LT 26) (.const (.int .u32 10000))),LM 28 5,LO 29 (.bin .rem (LT 28) (.const (.int .u32 10000))),LM 6 27,LM 7 29] (LS [LM 30 7,LO 31 (.bin .quo (LT 30) (.const (.int .u32 100))),LO 32 (.bin .mul (LT 31) (.const (.int .u32 2))),LM 33 7,LO 34 (.bin .rem (LT 33) (.const (.int .u32 100))),LO 35 (.bin .mul (LT 34) (.const (.int .u32 2))),LM 8 32,LM 9 35] (LS [LM 36 6,LO 37 (.bin .quo (LT 36) (.const (.int .u32 100))),LO 38 (.bin .mul (LT 37) (.const (.int .u32 2))),LM 39 6,LO 40 (.bin .rem (LT 39) (.const (.int .u32 100))),LO 41 (.bin .mul (LT 40) (.const (.int .u32 2))),LM 10 38,LM 11 41] (LS [LM 42 0,LM 43 4,LO 44 (.bin .sub (LT 43) (LI 1)),LM 45 0,LM 46 4,LO 47 (.bin .sub (LT 46) (LI 2)),LM 48 9,LO 49 (.bin .add (LT 48) (.const (.int .u32 1))),LO 50 (.sidx (.const (.string ⟨#[48,48,48,49,48,50,48,51,48,52,48,53,48,54,48,55,48,56,48,57,49,48,49,49,49,50,49,51,49,52,49,53,49,54,49,55,49,56,49,57,50,48,50,49,50,50,50,51,50,52,50,53,50,54,50,55,50,56,50,57,51,48,51,49,51,50,51,51,51,52,51,53,51,54,51,55,51,56,51,57,52,48,52,49,52,50,52,51,52,52,52,53,52,54,52,55,52,56,52,57,53,48,53,49,53,50,53,51,53,52,53,53,53,54,53,55,53,56,53,57,54,48,54,49,54,50,54,51,54,52,54,53,54,54,54,55,54,56,54,57,55,48,55,49,55,50,55,51,55,52,55,53,55,54,55,55,55,56,55,57,56,48,56,49,56,50,56,51,56,52,56,53,56,54,56,55,56,56,56,57,57,48,57,49,57,50,57,51,57,52,57,53,57,54,57,55,57,56,57,57]⟩)) (LT 49)),LM 51 9,LO 52 (.sidx (.const (.string ⟨#[48,48,48,49,48,50,48,51,48,52,48,53,48,54,48,55,48,56,48,57,49,48,49,49,49,50,49,51,49,52,49,53,49,54,49,55,49,56,49,57,50,48,50,49,50,50,50,51,50,52,50,53,50,54,50,55,50,56,50,57,51,48,51,49,51,50,51,51,51,52,51,53,51,54,51,55,51,56,51,57,52,48,52,49,52,50,52,51,52,52,52,53,52,54,52,55,52,56,52,57,53,48,53,49,53,50,53,51,53,52,53,53,53,54,53,55,53,56,53,57,54,48,54,49,54,50,54,51,54,52,54,53,54,54,54,55,54,56,54,57,55,48,55,49,55,50,55,51,55,52,55,53,55,54,55,55,55,56,55,57,56,48,56,49,56,50,56,51,56,52,56,53,56,54,56,55,56,56,56,57,57,48,57,49,57,50,57,51,57,52,57,53,57,54,57,55,57,56,57,57]⟩)) (LT 51)),LO 53 (.iaddr 1 (LT 42) (LT 44)),LN (.store 1 (LT 53) (LT 50)),LO 54 (.iaddr 1 (LT 45) (LT 47)),LN (.store 1 (LT 54) (LT 52))] (LS [LM 55 0,LM 56 4,LO 57 (.bin .sub (LT 56) (LI 3)),LM 58 0,LM 59 4,LO 60 (.bin .sub (LT 59) (LI 4)),LM 61 8,LO 62 (.bin .add (LT 61) (.const (.int .u32 1))),LO 63 (.sidx (.const (.string ⟨#[48,48,48,49,48,50,48,51,48,52,48,53,48,54,48,55,48,56,48,57,49,48,49,49,49,50,49,51,49,52,49,53,49,54,49,55,49,56,49,57,50,48,50,49,50,50,50,51,50,52,50,53,50,54,50,55,50,56,50,57,51,48,51,49,51,50,51,51,51,52,51,53,51,54,51,55,51,56,51,57,52,48,52,49,52,50,52,51,52,52,52,53,52,54,52,55,52,56,52,57,53,48,53,49,53,50,53,51,53,52,53,53,53,54,53,55,53,56,53,57,54,48,54,49,54,50,54,51,54,52,54,53,54,54,54,55,54,56,54,57,55,48,55,49,55,50,55,51,55,52,55,53,55,54,55,55,55,56,55,57,56,48,56,49,56,50,56,51,56,52,56,53,56,54,56,55,56,56,56,57,57,48,57,49,57,50,57,51,57,52,57,53,57,54,57,55,57,56,57,57]⟩)) (LT 62)),LM 64 8,LO 65 (.sidx (.const (.string ⟨#[48,48,48,49,48,50,48,51,48,52,48,53,48,54,48,55,48,56,48,57,49,48,49,49,49,50,49,51,49,52,49,53,49,54,49,55,49,56,49,57,50,48,50,49,50,50,50,51,50,52,50,53,50,54,50,55,50,56,50,57,51,48,51,49,51,50,51,51,51,52,51,53,51,54,51,55,51,56,51,57,52,48,52,49,52,50,52,51,52,52,52,53,52,54,52,55,52,56,52,57,53,48,53,49,53,50,53,51,53,52,53,53,53,54,53,55,53,56,53,57,54,48,54,49,54,50,54,51,54,52,54,53,54,54,54,55,54,56,54,57,55,48,55,49,55,50,55,51,55,52,55,53,55,54,55,55,55,56,55,57,56,48,56,49,56,50,56,51,56,52,56,53,56,54,56,55,56,56,56,57,57,48,57,49,57,50,57,51,57,52,57,53,57,54,57,55,57,56,57,57]⟩)) (LT 64)),LO 66 (.iaddr 1 (LT 55) (LT 57)),LN (.store 1 (LT 66) (LT 63)),LO 67 (.iaddr 1 (LT 58) (LT 60)),LN (.store 1 (LT 67) (LT 65))] (LS [LM 68 0,LM 69 4,LO 70 (.bin .sub (LT 69) (LI 5)),LM 71 0,LM 72 4,LO 73 (.bin .sub (LT 72) (LI 6)),LM 74 11,LO 75 (.bin .add (LT 74) (.const (.int .u32 1))),LO 76 (.sidx (.const (.string ⟨#[48,48,48,49,48,50,48,51,48,52,48,53,48,54,48,55,48,56,48,57,49,48,49,49,49,50,49,51,49,52,49,53,49,54,49,55,49,56,49,57,50,48,50,49,50,50,50,51,50,52,50,53,50,54,50,55,50,56,50,57,51,48,51,49,51,50,51,51,51,52,51,53,51,54,51,55,51,56,51,57,52,48,52,49,52,50,52,51,52,52,52,53,52,54,52,55,52,56,52,57,53,48,53,49,53,50,53,51,53,52,53,53,53,54,53,55,53,56,53,57,54,48,54,49,54,50,54,51,54,52,54,53,54,54,54,55,54,56,54,57,55,48,55,49,55,50,55,51,55,52,55,53,55,54,55,55,55,56,55,57,56,48,56,49,56,50,56,51,56,52,56,53,56,54,56,55,56,56,56,57,57,48,57,49,57,50,57,51,57,52,57,53,57,54,57,55,57,56,57,57]⟩)) (LT 75)),LM 77 11,LO 78 (.sidx (.const (.string ⟨#[48,48,48,49,48,50,48,51,48,52,48,53,48,54,48,55,48,56,48,57,49,48,49,49,49,50,49,51,49,52,49,53,49,54,49,55,49,56,49,57,50,48,50,49,50,50,50,51,50,52,50,53,50,54,50,55,50,56,50,57,51,48,51,49,51,50,51,51,51,52,51,53,51,54,51,55,51,56,51,57,52,48,52,49,52,50,52,51,52,52,52,53,52,54,52,55,52,56,52,57,53,48,53,49,53,50,53,51,53,52,53,53,53,54,53,55,53,56,53,57,54,48,54,49,54,50,54,51,54,52,54,53,54,54,54,55,54,56,54,57,55,48,55,49,55,50,55,51,55,52,55,53,55,54,55,55,55,56,55,57,56,48,56,49,56,50,56,51,56,52,56,53,56,54,56,55,56,56,56,57,57,48,57,49,57,50,57,51,57,52,57,53,57,54,57,55,57,56,57,57]⟩)) (LT 77)),LO 79 (.iaddr 1 (LT 68) (LT 70)),LN (.store 1 (LT 79) (LT 76)),LO 80 (.iaddr 1 (LT 71) (LT 73)),LN (.store 1 (LT 80) (LT 78))] (LS [LM 81 0,LM 82 4,LO 83 (.bin .sub (LT 82) (LI 7)),LM 84 0,LM 85 4,LO 86 (.bin .sub (LT 85) (LI 8)),LM 87 10,LO 88 (.bin .add (LT 87) (.const (.int .u32 1))),LO 89 (.sidx (.const (.string ⟨#[48,48,48,49,48,50,48,51,48,52,48,53,48,54,48,55,48,56,48,57,49,48,49,49,49,50,49,51,49,52,49,53,49,54,49,55,49,56,49,57,50,48,50,49,50,50,50,51,50,52,50,53,50,54,50,55,50,56,50,57,51,48,51,49,51,50,51,51,51,52,51,53,51,54,51,55,51,56,51,57,52,48,52,49,52,50,52,51,52,52,52,53,52,54,52,55,52,56,52,57,53,48,53,49,53,50,53,51,53,52,53,53,53,54,53,55,53,56,53,57,54,48,54,49,54,50,54,51,54,52,54,53,54,54,54,55,54,56,54,57,55,48,55,49,55,50,55,51,55,52,55,53,55,54,55,55,55,56,55,57,56,48,56,49,56,50,56,51,56,52,56,53,56,54,56,55,56,56,56,57,57,48,57,49,57,50,57,51,57,52,57,53,57,54,57,55,57,56,57,57]⟩)) (LT 88)),LM 90 10,LO 91 (.sidx (.const (.string ⟨#[48,48,48,49,48,50,48,51,48,52,48,53,48,54,48,55,48,56,48,57,49,48,49,49,49,50,49,51,49,52,49,53,49,54,49,55,49,56,49,57,50,48,50,49,50,50,50,51,50,52,50,53,50,54,50,55,50,56,50,57,51,48,51,49,51,50,51,51,51,52,51,53,51,54,51,55,51,56,51,57,52,48,52,49,52,50,52,51,52,52,52,53,52,54,52,55,52,56,52,57,53,48,53,49,53,50,53,51,53,52,53,53,53,54,53,55,53,56,53,57,54,48,54,49,54,50,54,51,54,52,54,53,54,54,54,55,54,56,54,57,55,48,55,49,55,50,55,51,55,52,55,53,55,54,55,55,55,56,55,57,56,48,56,49,56,50,56,51,56,52,56,53,56,54,56,55,56,56,56,57,57,48,57,49,57,50,57,51,57,52,57,53,57,54,57,55,57,56,57,57]⟩)) (LT 90)),LO 92 (.iaddr 1 (LT 81) (LT 83)),LN (.store 1 (LT 92) (LT 89)),LO 93 (.iaddr 1 (LT 84) (LT 86)),LN (.store 1 (LT 93) (LT 91))] (.fG [LM 94 4,LO 95 (.bin .sub (LT 94) (LI 8)),LM 4 95]))))))))))))
def pI:aH:=(LS [LM 17 0,LO 18 (.len (LT 17)),LM 4 18] (.seq (.block 0 (.loop oD)) (LS [LM 96 1,LO 97 (.cvt .u32 (LT 96)),LM 12 97] (.seq (LS [LM 98 4,LO 99 (.bin .geq (LT 98) (LI 4))] (.cond (LT 99) (LS [LM 100 12,LO 101 (.bin .rem (LT 100) (.const (.int .u32 10000))),LM 13 101] (LS [LM 102 12,LO 103 (.bin .quo (LT 102) (.const (.int .u32 10000))),LM 12 103] (LS [LM 104 13,LO 105 (.bin .quo (LT 104) (.const (.int .u32 100))),LO 106 (.bin .mul (LT 105) (.const (.int .u32 2))),LM 107 13,LO 108 (.bin .rem (LT 107) (.const (.int .u32 100))),LO 109 (.bin .mul (LT 108) (.const (.int .u32 2))),LM 14 106,LM 15 109] (LS [LM 110 0,LM 111 4,LO 112 (.bin .sub (LT 111) (LI 1)),LM 113 0,LM 114 4,LO 115 (.bin .sub (LT 114) (LI 2)),LM 116 15,LO 117 (.bin .add (LT 116) (.const (.int .u32 1))),LO 118 (.sidx (.const (.string ⟨#[48,48,48,49,48,50,48,51,48,52,48,53,48,54,48,55,48,56,48,57,49,48,49,49,49,50,49,51,49,52,49,53,49,54,49,55,49,56,49,57,50,48,50,49,50,50,50,51,50,52,50,53,50,54,50,55,50,56,50,57,51,48,51,49,51,50,51,51,51,52,51,53,51,54,51,55,51,56,51,57,52,48,52,49,52,50,52,51,52,52,52,53,52,54,52,55,52,56,52,57,53,48,53,49,53,50,53,51,53,52,53,53,53,54,53,55,53,56,53,57,54,48,54,49,54,50,54,51,54,52,54,53,54,54,54,55,54,56,54,57,55,48,55,49,55,50,55,51,55,52,55,53,55,54,55,55,55,56,55,57,56,48,56,49,56,50,56,51,56,52,56,53,56,54,56,55,56,56,56,57,57,48,57,49,57,50,57,51,57,52,57,53,57,54,57,55,57,56,57,57]⟩)) (LT 117)),LM 119 15,LO 120 (.sidx (.const (.string ⟨#[48,48,48,49,48,50,48,51,48,52,48,53,48,54,48,55,48,56,48,57,49,48,49,49,49,50,49,51,49,52,49,53,49,54,49,55,49,56,49,57,50,48,50,49,50,50,50,51,50,52,50,53,50,54,50,55,50,56,50,57,51,48,51,49,51,50,51,51,51,52,51,53,51,54,51,55,51,56,51,57,52,48,52,49,52,50,52,51,52,52,52,53,52,54,52,55,52,56,52,57,53,48,53,49,53,50,53,51,53,52,53,53,53,54,53,55,53,56,53,57,54,48,54,49,54,50,54,51,54,52,54,53,54,54,54,55,54,56,54,57,55,48,55,49,55,50,55,51,55,52,55,53,55,54,55,55,55,56,55,57,56,48,56,49,56,50,56,51,56,52,56,53,56,54,56,55,56,56,56,57,57,48,57,49,57,50,57,51,57,52,57,53,57,54,57,55,57,56,57,57]⟩)) (LT 119)),LO 121 (.iaddr 1 (LT 110) (LT 112)),LN (.store 1 (LT 121) (LT 118)),LO 122 (.iaddr 1 (LT 113) (LT 115)),LN (.store 1 (LT 122) (LT 120))] (LS [LM 123 0,LM 124 4,LO 125 (.bin .sub (LT 124) (LI 3)),LM 126 0,LM 127 4,LO 128 (.bin .sub (LT 127) (LI 4)),LM 129 14,LO 130 (.bin .add (LT 129) (.const (.int .u32 1))),LO 131 (.sidx (.const (.string ⟨#[48,48,48,49,48,50,48,51,48,52,48,53,48,54,48,55,48,56,48,57,49,48,49,49,49,50,49,51,49,52,49,53,49,54,49,55,49,56,49,57,50,48,50,49,50,50,50,51,50,52,50,53,50,54,50,55,50,56,50,57,51,48,51,49,51,50,51,51,51,52,51,53,51,54,51,55,51,56,51,57,52,48,52,49,52,50,52,51,52,52,52,53,52,54,52,55,52,56,52,57,53,48,53,49,53,50,53,51,53,52,53,53,53,54,53,55,53,56,53,57,54,48,54,49,54,50,54,51,54,52,54,53,54,54,54,55,54,56,54,57,55,48,55,49,55,50,55,51,55,52,55,53,55,54,55,55,55,56,55,57,56,48,56,49,56,50,56,51,56,52,56,53,56,54,56,55,56,56,56,57,57,48,57,49,57,50,57,51,57,52,57,53,57,54,57,55,57,56,57,57]⟩)) (LT 130)),LM 132 14,LO 133 (.sidx (.const (.string ⟨#[48,48,48,49,48,50,48,51,48,52,48,53,48,54,48,55,48,56,48,57,49,48,49,49,49,50,49,51,49,52,49,53,49,54,49,55,49,56,49,57,50,48,50,49,50,50,50,51,50,52,50,53,50,54,50,55,50,56,50,57,51,48,51,49,51,50,51,51,51,52,51,53,51,54,51,55,51,56,51,57,52,48,52,49,52,50,52,51,52,52,52,53,52,54,52,55,52,56,52,57,53,48,53,49,53,50,53,51,53,52,53,53,53,54,53,55,53,56,53,57,54,48,54,49,54,50,54,51,54,52,54,53,54,54,54,55,54,56,54,57,55,48,55,49,55,50,55,51,55,52,55,53,55,54,55,55,55,56,55,57,56,48,56,49,56,50,56,51,56,52,56,53,56,54,56,55,56,56,56,57,57,48,57,49,57,50,57,51,57,52,57,53,57,54,57,55,57,56,57,57]⟩)) (LT 132)),LO 134 (.iaddr 1 (LT 123) (LT 125)),LN (.store 1 (LT 134) (LT 131)),LO 135 (.iaddr 1 (LT 126) (LT 128)),LN (.store 1 (LT 135) (LT 133))] (.fG [LM 136 4,LO 137 (.bin .sub (LT 136) (LI 4)),LM 4 137])))))) .skip)) (.seq (LS [LM 138 4,LO 139 (.bin .geq (LT 138) (LI 2))] (.cond (LT 139) (LS [LM 140 12,LO 141 (.bin .rem (LT 140) (.const (.int .u32 100))),LO 142 (.bin .mul (LT 141) (.const (.int .u32 2))),LM 16 142] (LS [LM 143 12,LO 144 (.bin .quo (LT 143) (.const (.int .u32 100))),LM 12 144] (LS [LM 145 0,LM 146 4,LO 147 (.bin .sub (LT 146) (LI 1)),LM 148 0,LM 149 4,LO 150 (.bin .sub (LT 149) (LI 2)),LM 151 16,LO 152 (.bin .add (LT 151) (.const (.int .u32 1))),LO 153 (.sidx (.const (.string ⟨#[48,48,48,49,48,50,48,51,48,52,48,53,48,54,48,55,48,56,48,57,49,48,49,49,49,50,49,51,49,52,49,53,49,54,49,55,49,56,49,57,50,48,50,49,50,50,50,51,50,52,50,53,50,54,50,55,50,56,50,57,51,48,51,49,51,50,51,51,51,52,51,53,51,54,51,55,51,56,51,57,52,48,52,49,52,50,52,51,52,52,52,53,52,54,52,55,52,56,52,57,53,48,53,49,53,50,53,51,53,52,53,53,53,54,53,55,53,56,53,57,54,48,54,49,54,50,54,51,54,52,54,53,54,54,54,55,54,56,54,57,55,48,55,49,55,50,55,51,55,52,55,53,55,54,55,55,55,56,55,57,56,48,56,49,56,50,56,51,56,52,56,53,56,54,56,55,56,56,56,57,57,48,57,49,57,50,57,51,57,52,57,53,57,54,57,55,57,56,57,57]⟩)) (LT 152)),LM 154 16,LO 155 (.sidx (.const (.string ⟨#[48,48,48,49,48,50,48,51,48,52,48,53,48,54,48,55,48,56,48,57,49,48,49,49,49,50,49,51,49,52,49,53,49,54,49,55,49,56,49,57,50,48,50,49,50,50,50,51,50,52,50,53,50,54,50,55,50,56,50,57,51,48,51,49,51,50,51,51,51,52,51,53,51,54,51,55,51,56,51,57,52,48,52,49,52,50,52,51,52,52,52,53,52,54,52,55,52,56,52,57,53,48,53,49,53,50,53,51,53,52,53,53,53,54,53,55,53,56,53,57,54,48,54,49,54,50,54,51,54,52,54,53,54,54,54,55,54,56,54,57,55,48,55,49,55,50,55,51,55,52,55,53,55,54,55,55,55,56,55,57,56,48,56,49,56,50,56,51,56,52,56,53,56,54,56,55,56,56,56,57,57,48,57,49,57,50,57,51,57,52,57,53,57,54,57,55,57,56,57,57]⟩)) (LT 154)),LO 156 (.iaddr 1 (LT 145) (LT 147)),LN (.store 1 (LT 156) (LT 153)),LO 157 (.iaddr 1 (LT 148) (LT 150)),LN (.store 1 (LT 157) (LT 155))] (.fG [LM 158 4,LO 159 (.bin .sub (LT 158) (LI 2)),LM 4 159])))) .skip)) (LS [LM 160 4,LO 161 (.bin .gtr (LT 160) (LI 0))] (.cond (LT 161) (.fG [LM 162 0,LM 163 12,LO 164 (.bin .add (.const (.int .u32 48)) (LT 163)),LO 165 (.cvt .u8 (LT 164)),LO 166 (.iaddr 1 (LT 162) (LI 0)),LN (.store 1 (LT 166) (LT 165))]) .skip)))))))
def internal_strconv_formatBase10:aU:=⟨167,[],pI⟩
def gN:aH:=(LS [LO 4 (.mv LF)] (LS [LM 5 0,LM 6 1,LO 7 (.call 104 [(LT 5),(LT 6)]),LO 8 (.bin .geq (LT 7) (LI 0)),LM 4 8] .ret))
def iD:aU:=⟨9,[(.tmp 4)],gN⟩
theorem mQ:iY 88=some iD:=by kernel_rfl
end Go.PM