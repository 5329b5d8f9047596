/- Texts of a claim, in one: part 5. -/
import Derived.KernelRfl
import Derived.Test.YtjmflicajplclaaGreatDoorKGd
set_option linter.unusedSimpArgs false
set_option linter.unusedVariables false
namespace Go.PM
def VT (f:Nat) (args:List VV) (r:VV):Prop :=
 ∀(F:Nat→Prop) (P:aE) (dY:List Value) (dW:Nat),(∀b,F b→b<P.length)→VL (bare F P) args dY→dW≤P.length →
  ∃P' pv,qO f dY dW P=some (pv,P')∧P <+: P'∧VR (bare (fun q=>F q∨(P.length≤q∧q<P'.length)) P') r pv
def PJ (lo dW:Nat) (V:View) (r:Option (Value×aE)) (K:VV→aA→Prop):Prop :=
 ∃pv V' v,r=some (pv,V'.P)∧SR V' lo dW∧Ek lo V V'∧VR V' v pv∧K v V'.H
def jO (f:Nat) (args:List VV) (lo:Nat) (H:aA) (K:VV→aA→Prop):Prop :=
 ∀(V:View) (dW:Nat) (dY:List Value),V.H=H→SR V lo dW→VL V args dY→PJ lo dW V (qO f dY dW V.P) K
theorem jO.mono {f:Nat} {args:List VV} {lo:Nat} {H:aA} {K K':VV→aA→Prop} (hk:∀v H,K v H→K' v H) (h:jO f args lo H K):jO f args lo H K':=by
 intro V dW dY hH hS hl
 obtain⟨pv,V',v,h1,h2,h3,h4,h5⟩:=h V dW dY hH hS hl
 exact⟨pv,V',v,h1,h2,h3,h4,hk _ _ h5⟩
theorem VT.uniq {f:Nat} {args:List VV} {r r':VV} (h:VT f args r) (h':VT f args r') (ha:aL args=true) (hr:gZ r=true) (EP:gZ r'=true):r=r':=by
 obtain⟨P,ps,_,hl⟩:=Oy args ha []
 obtain⟨P',pv,h1,_,h2⟩:=h (· < P.length) P ps 0 (fun _ h=>h) hl (Nat.zero_le _)
 obtain⟨Xv,pv',h3,_,h4⟩:=h' (· < P.length) P ps 0 (fun _ h=>h) hl (Nat.zero_le _)
 rw[h1] at h3
 injection h3 with h3
 injection h3 with h3 h5
 subst h3 h5
 exact h2.uniq h4 hr EP
open Classical in
noncomputable def vT (f:Nat) (args:List VV):Option VV:=if h:∃r,aL args=true∧gZ r=true∧VT f args r then some (Classical.choose h) else none
theorem Pv {f:Nat} {args:List VV} {r:VV} (h:vT f args=some r):aL args=true∧gZ r=true∧VT f args r:=by
 unfold vT at h
 split at h
 ·rename_i hx
  cases h
  exact Classical.choose_spec hx
 ·cases h
theorem ahQ {f:Nat} {args:List VV} {r:VV} (ha:aL args=true) (hr:gZ r=true) (h:VT f args r):vT f args=some r:=by
 have hx:∃r,aL args=true∧gZ r=true∧VT f args r:=⟨r,ha,hr,h⟩
 unfold vT
 rw[dif_pos hx]
 obtain⟨_,h2,h3⟩:=Classical.choose_spec hx
 rw[h3.uniq h ha h2 hr]
def tk (r:Option VV) (K:VV→Prop):Prop:=match r with
 | some r=>K r
 | none=>False
noncomputable def F0 (f:Nat) (args:List VV) (K:VV→Prop):Prop:=tk (vT f args) K
noncomputable def cT (f:Nat) (args:List VV) (lo:Nat) (H:aA) (K:VV→aA→Prop):Prop :=
 if AN.contains f=true then jO f args lo H K
 else if aL args=true then F0 f args fun r=>K r H
 else match args.mapM (fz depth H) with
  | some hC=>F0 f hC fun r=>if J3 r=true then K r H else K r (cY H (args.flatMap (gP depth H)))
  | none=>False
noncomputable def dV (fl:Fl) (lo:Nat) (q:Bool) (op:mV) (ρ:dG) (H:aA) (K:VV→aA→Prop):Prop :=
 match op with
 | .call f args=>cT f (args.map (dX ρ)) (if q then H.length else lo) H K
 |
  .callv fv args=>match dX ρ fv with
  | .tY f fN=>cT f (args.map (dX ρ)++fN) (if q then H.length else lo) H K
  | _=>False
 |
  o=>match vop fl lo o ρ H with
  | some (v,H')=>K v H'
  | none=>False
noncomputable def VS (fl:Fl) (lo:Nat):List PI→(dG→aA→Prop)→dG→aA→Prop
 | [],K,ρ,H=>K ρ H
 |
  i::is,K,ρ,H=>match BN i.g ρ with
  | none=>False
  | some false=>VS fl lo is K (Jk ρ i.dst pB) H
  | some true=>i.cf.all (rM ρ H)=true∧dV fl lo i.quiet i.op ρ H fun v H'=>VS fl lo is K (Jk ρ i.dst v) H'
def agT:List Nat→dG→aA→Option (dG×aA)
 | [],ρ,H=>some (ρ,H)
 |
  t::ts,ρ,H=>match fz depth H (ρ t) with
  | some v=>agT ts (Jk ρ (some t) v) (cY H (gP depth H (ρ t)))
  | none=>none
def JO (r:Option VV) (H:aA) (K:VV→aA→Prop):Prop:=match r with
 | some v=>K v H
 | none=>False
def gh (K:dG→aA→Prop) (ρ:dG) (H:aA):Prop:=∃ts bC H',agT ts ρ H=some (bC,H')∧K bC H'
def iV (k:Nat) (H:aA):Bool:=H.all fun
 | .row _ es _ _=>lD k es
 | .dead=>true
def HV (k:Nat) (ρ:dG):dG:=fun t=>Ip k (ρ t)
abbrev VQ:=Ex→dG→aA→Prop
def mI (K:dG→aA→Prop) (Q:VQ):VQ
 | .normal=>K
 | x=>Q x
def zV (id:Nat) (Q:VQ):VQ
 | .exit QA=>fun ρ H=>if QA=id then Q .normal ρ H else Q (.exit QA) ρ H
 | x=>Q x
def Sm (body:VQ→dG→aA→Prop) (Q:VQ):Nat→dG→aA→Prop
 | 0,_,_=>False
 | n+1,ρ,H=>body (mI (fun bC H'=>Sm body Q n bC H'∨(iV H.length (H'.take H.length)=true∧Sm body Q n (HV H.length bC) (H'.take H.length))) Q) ρ H
noncomputable def VW (fl:Fl) (lo:Nat):aD→VQ→dG→aA→Prop
 | .skip,Q,ρ,H=>Q .normal ρ H
 | .dH ops,Q,ρ,H=>VS fl lo ops (Q .normal) ρ H
 | .seq a b,Q,ρ,H=>VW fl lo a (mI (VW fl lo b Q) Q) ρ H
 |
  .cond c a b,Q,ρ,H=>match dX ρ c with
  | .sc (.bool t)=>if t=true then VW fl lo a Q ρ H else VW fl lo b Q ρ H
  | _=>False
 | .block id a,Q,ρ,H=>VW fl lo a (zV id Q) ρ H
 | .loop a,Q,ρ,H=>∃n,Sm (VW fl lo a) (fun x=>gh (Q x)) n ρ H
 | .exit id,Q,ρ,H=>Q (.exit id) ρ H
 | .ret,Q,ρ,H=>Q .ret ρ H
def EG (ρ:dG) (H:aA):AS→Option VV
 | .tmp t=>some (ρ t)
 | .cell t agg size=>cI agg size (ρ t) H
def qG (ρ:dG) (H:aA):List AS→Option (List VV)
 | []=>some []
 |
  r::rs=>match EG ρ H r,qG ρ H rs with
  | some v,some vs=>some (v::vs)
  | _,_=>none
def nB (res:List AS) (ρ:dG) (H:aA):Option VV :=
 match qG ρ H res with
 | some [v]=>some v
 | some vs=>some (.eY vs)
 | none=>none
def FF (R:VV→aA→Prop):Option VV→aA→Prop
 | some v,H=>R v H
 | none,_=>False
def AZ (res:List AS) (R:VV→aA→Prop):VQ
 | .exit _,_,_=>False
 | .normal,ρ,H=>FF R (nB res ρ H) H
 | .ret,ρ,H=>FF R (nB res ρ H) H
def ID (args:List VV):dG:=fun k=>args.getD k pB
section
variable {lo dW:Nat}
theorem EZ {V:View} (hS:SR V lo dW) {P':aE} (hp:V.P <+: P'):SR { V with P:=P',F:=fun q=>V.F q∨(V.P.length≤q∧q<P'.length) } lo dW∧Ek lo V { V with P:=P',F:=fun q=>V.F q∨(V.P.length≤q∧q<P'.length) }:=by
 obtain⟨L,rfl⟩:=hp
 have hU:Up V { V with P:=V.P++L,F:=fun q=>V.F q∨(V.P.length≤q∧q<(V.P++L).length) }:=⟨fun _ h => .inl h,fun b hb=>List.getElem?_append_left (hS.fr b hb),Nat.le_refl _,fun b g es e w _ h=>⟨g,es,w,h,Nat.le_refl _,fun _=>rfl⟩,rfl,by simp,fun b g es e w hb _=>⟨g,es,w,hb,rfl,id⟩⟩
 refine⟨⟨fun b g es e w hb => ?_,fun b g es e hb=>⟨fun hF => ?_,(hS.wr b g es e hb).2⟩,hS.inj,fun b hb => ?_,by have:=hS.SH;simp;omega,by have:=hS.JU;simp;omega⟩,{ hU with cB:=fun q hq _=>List.getElem?_append_left hq,Cn:=fun q hq => ?_ }⟩
 ·obtain⟨r,p,h1,h2,h3⟩:=hS.row b g es e w hb
  exact⟨r,p,by rw[←h1];exact List.getElem?_append_left (hS.mlt hb),h2,h3.mono hU⟩
 ·rcases hF with hF | hF
  ·exact(hS.wr b g es e hb).1 hF
  ·have h1:=hS.mlt hb
   have h2:V.P.length≤V.m b:=hF.1
   omega
 ·rcases hb with hb | hb
  ·have:=hS.fr b hb
   simp;omega
  ·exact hb.2
 ·rcases hq with hq | hq
  ·exact .inl hq
  ·exact .inr (.inl hq.1)
theorem aaG {V V':View} {x:VV} {v:Value} (h:VR V x v):J3 x=true→VR V' x v:=by
 induction h using VR.rec (motive_2:=fun xs vs _=>RW xs=true→VL V' xs vs) with
 | sc _ h=>intro _;exact .sc _ h
 | agg cs ps _ ih=>intro hx;exact .agg _ _ (ih hx)
 | eY cs ps _ ih=>intro hx;exact .eY _ _ (ih hx)
 | any=>intro hx;cases hx
 | nR=>intro hx;cases hx
 | tree=>intro hx;cases hx
 | cV=>intro hx;cases hx
 | ref=>intro hx;cases hx
 | ptr=>intro hx;cases hx
 | tY=>intro hx;cases hx
 | nil=>exact .nil
 |
  cons x v xs vs _ _ ih T8 =>
  rename_i hx
  simp only[RW,Bool.and_eq_true] at hx
  exact .cons _ _ _ _ (ih hx.1) (T8 hx.2)
theorem VR.Dh {V':View} {G:Nat→Prop} {P:aE} {x:VV} {v:Value} (hF:∀b,G b→V'.F b∧V'.P[b]? = P[b]?) (h:VR (bare G P) x v):VR V' x v:=by
 induction h using VR.rec (motive_2:=fun xs vs _=>VL V' xs vs) with
 | any=>exact .any _
 | sc _ h=>exact .sc _ h
 | agg cs ps _ ih=>exact .agg _ _ ih
 | eY cs ps _ ih=>exact .eY _ _ ih
 | nR k hk=>exact .nR k hk
 | tree es k b o c r e p To hb ho hc he hk _ ih=>exact .tree es k b o c r e p (hF _ To).1 (by rw[(hF _ To).2];exact hb) ho hc he hk ih
 | cV x off b o r e p To hb ho _ ih=>exact .cV x off b o r e p (hF _ To).1 (by rw[(hF _ To).2];exact hb) ho ih
 | ref b g o n c a n' c' bA hg ha hq=>exact absurd bA (Nat.not_lt_zero _)
 | ptr b g j off a bA hg ha hq=>exact absurd bA (Nat.not_lt_zero _)
 | tY f fN ps _ ih=>exact .tY _ _ _ ih
 | nil=>exact .nil
 | cons x v xs vs _ _ ih T8=>exact .cons _ _ _ _ ih T8
theorem R1 {V:View} (hS:SR V lo dW) {f agZ:Nat} (aeG:agZ≤V.P.length) {args:List VV} {dY:List Value} {G:Nat→Prop} (hG:∀b,G b→b<V.P.length) (hl:VL (bare G V.P) args dY) {K:VV→Prop} (h:F0 f args K) :
  ∃P' pv r,qO f dY agZ V.P=some (pv,P')∧V.P <+: P'∧VR (bare (fun q=>G q∨(V.P.length≤q∧q<P'.length)) P') r pv∧aN r=true∧K r:=by
 unfold F0 tk at h
 split at h
 ·rename_i r hr
  obtain⟨h1,h2,h3⟩:=Pv hr
  obtain⟨P',pv,h4,h5,h6⟩:=h3 G V.P dY agZ hG hl aeG
  exact⟨P',pv,r,h4,h5,h6,P6 r h2,h⟩
 ·cases h
theorem FZ {V:View} (hS:SR V lo dW) {f:Nat} {args:List VV} {dY:List Value} (hl:VL V args dY) {q:Bool} {K:VV→aA→Prop} (h:cT f args (if q then V.H.length else lo) V.H K):PJ lo dW V (qO f dY (if q then V.P.length else dW) V.P) K:=by
 have hlq:(if q=true then V.P.length else dW)≤V.P.length:=by split;exact Nat.le_refl _;exact hS.SH
 unfold cT at h
 split at h
 ·cases q with
  | false=>exact h V dW dY rfl hS hl
  |
   true =>
   have hS':SR V V.H.length V.P.length:=⟨hS.row,fun b g es e hb=>⟨(hS.wr b g es e hb).1,fun hl=>by have:=(List.getElem?_eq_some_iff.1 hb).1;omega⟩,hS.inj,hS.fr,Nat.le_refl _,hS.JU⟩
   obtain⟨pv,V',r,g1,g3,g4,g5,g6⟩:=h V V.P.length dY rfl hS' hl
   refine⟨pv,V',r,g1,⟨g3.row,fun b g es e hb=>⟨(g3.wr b g es e hb).1,fun EE => ?_⟩,g3.inj,g3.fr,Nat.le_trans hS.SH g4.D8,g3.JU⟩,{ g4.toUp with cB:=fun p hp _=>g4.cB p hp fun b g es e hb EE => ?_,Cn:=g4.Cn },g5,g6⟩
   ·rcases Nat.lt_or_ge (V'.m b) V.P.length with bA | Ch
    ·obtain⟨g0,es0,w0,k1,k2,k3⟩:=g4.Bl b g es e true hb bA
     have:=k3 rfl
     subst this
     rw[k2]
     exact(hS.wr _ _ _ _ k1).2 EE
    ·exact Nat.le_trans hS.SH Ch
   ·have:=(List.getElem?_eq_some_iff.1 hb).1
    have EE:V.H.length≤b:=EE
    omega
 ·split at h
  ·rename_i hp
   obtain⟨P',pv,r,g1,g2,g3,g4,g5⟩:=R1 hS (agZ:=if q=true then V.P.length else dW) hlq (G:=V.F) hS.fr (VL.pure (V:=V) (V':=bare V.F V.P) (fun b hb=>⟨hb,rfl⟩) hl hp) h
   obtain⟨k1,k2⟩:=EZ hS g2
   exact⟨pv,_,r,g1,k1,k2,g3.Dh (fun b hb=>⟨hb,rfl⟩),g5⟩
  ·split at h
   case h_2=>cases h
   rename_i hC Yu
   unfold F0 tk at h
   split at h
   case h_2=>cases h
   rename_i r hr
   obtain⟨h1,h2,h3⟩:=Pv hr
   split at h
   ·rename_i hfl
    have Bf:=DD hS (G:=(· < V.P.length)) (fun q hq=>hS.fr q hq) hl Yu (fun i _ g es e w hb=>hS.mlt hb)
    obtain⟨P',pv,g1,g2,g3⟩:=h3 _ V.P dY _ (fun _ h=>h) Bf hlq
    obtain⟨k1,k2⟩:=EZ hS g2
    exact⟨pv,_,r,g1,k1,k2,aaG g3 hfl,h⟩
   ·obtain⟨k1,k2,k3,k4,k5,k6⟩:=vA (args.flatMap (gP depth V.H)) hS
    have Bf:=DD hS (G:=(V.cY (args.flatMap (gP depth V.H))).F) (fun q hq=>k2.F q hq) hl Yu k6
    rw[←k4] at Bf
    obtain⟨P',pv,g1,g2,g3⟩:=h3 _ _ dY _ k1.fr Bf (by rw[k4];exact hlq)
    obtain⟨j1,j2⟩:=EZ k1 g2
    rw[k4] at g1
    refine⟨pv,_,r,g1,j1,k2.trans j2,g3.Dh (fun b hb=>⟨hb,rfl⟩),?_⟩
    show K r (V.cY (args.flatMap (gP depth V.H))).H
    rw[k3]
    exact h
def zR (lo dW:Nat) (V:View) (c:aD) (Q:VQ) (jS:Env):Prop :=
 W dW c (fun x MN P'=>∃V' bC,V'.P=P'∧SR V' lo dW∧Ek lo V V'∧ER V' bC MN∧Q x bC V'.H) jS V.P
theorem F8 {V:View} {ρ:dG} {jS:Env} (hE:ER V ρ jS) {g:Option (Nat×Bool)} {t:Bool} (h:BN g ρ=some t):yP g jS=some t:=by
 unfold BN at h
 unfold yP
 split at h
 ·exact h
 ·rename_i t' want
  have ht:=hE t'
  split at h
  ·rename_i b hb
   obtain⟨e,_⟩:=qQ ht hb
   simp only[e]
   exact h
  ·rename_i vs hb
   rw[hb] at ht
   generalize hu:jS t'=u at ht
   cases ht with
   | eY cs ps hl=>simp only[hu];exact h
  ·cases h
theorem Ur {V:View} (hS:SR V lo dW) {x y:VV} {u w:Value} (hx:VR V x u) (hy:VR V y w) (h:yZ V.H x y=true):aqI u w=true:=by
 have key:∀ {z:VV} {v:Value},VR V z v→(match Ad V.H z with
   | .bad=>True
   | .no=>iN v=none
   | .row i wr=>iN v=some (V.m i)∧∃g es e,V.H[i]? = some (.row g es e wr)
   | .Bl i=>∀q,iN v=some q→∀b' g' es e w,V.H[b']? = some (.row g' es e w)→b'≠i→V.m b'≠q
   | .tree=>∀b,iN v=some b→V.F b):=by
  intro z v hz
  cases hz with
  | any=>simp only[Ad]
  | sc v h =>
      cases v<;>first | rfl | cases h | skip
      rename_i a;cases a<;>first | rfl | cases h
  | agg=>rfl
  | eY=>rfl
  | nR k hk =>
       rcases hk with rfl | rfl
       ·intro b hb;cases hb
       ·rfl
  |
   tree es k b o c r e p hF hb ho hc he hk hl =>
   cases es with
   |
    nil=>cases k with
    | nil=>exact hk.elim
    | op=>intro b' vJ;cases vJ;exact hF
    | cl=>intro b' vJ;cases vJ;exact hF
   | cons=>intro b' vJ;cases vJ;exact hF
  | cV x off b o r e p hF hb ho hl=>intro b' vJ;cases vJ;exact hF
  |
   ref b g o n c a n' c' bA hg ha hq =>
   simp only[Ad]
   cases hr:aH V.H b g with
   | none=>exact fun q h=>(by
     cases a with
     | none=>cases h
     | some a0=>cases h;exact(hq a0 rfl).2.2)
   |
    some q =>
    obtain⟨es,e,wr⟩:=q
    rw[cL] at hr
    obtain⟨rfl,rfl,rfl⟩:=ha _ _ _ hr
    exact⟨rfl,g,es,e,hr⟩
  |
   ptr b g j off a bA hg ha hq =>
   simp only[Ad]
   cases hr:aH V.H b g with
   | none=>exact fun q h=>(by
     cases a with
     | none=>cases h
     | some a0=>cases h;exact(hq a0 rfl).2.2)
   |
    some q =>
    obtain⟨es,e,wr⟩:=q
    rw[cL] at hr
    have:=ha _ _ _ hr
    subst this
    exact⟨rfl,g,es,e,hr⟩
  | tY=>rfl
 have kx:=key hx
 have ky:=key hy
 unfold yZ at h
 unfold aqI
 cases hbx:Ad V.H x with
 | bad=>rw[hbx] at h;have h:false=true:=h;cases h
 |
  no =>
  rw[hbx] at kx
  have kx:iN u=none:=kx
  rw[kx]
 |
  Bl i =>
  rw[hbx] at kx h
  have kx:∀q,iN u=some q→∀b' g' es e w,V.H[b']? = some (.row g' es e w)→b'≠i→V.m b'≠q:=kx
  cases RP:Ad V.H y with
  | bad=>rw[RP] at h;have h:false=true:=h;cases h
  |
   no =>
   rw[RP] at ky
   have ky:iN w=none:=ky
   rw[ky]
   cases iN u<;>rfl
  | Bl j=>rw[RP] at h;have h:false=true:=h;cases h
  | tree=>rw[RP] at h;have h:false=true:=h;cases h
  |
   row j wj =>
   rw[RP] at ky h
   obtain⟨k3,g2,Zc,e2,k4⟩:iN w=some (V.m j)∧∃g es e,V.H[j]? = some (.row g es e wj):=ky
   have h:(i != j)=true:=h
   simp only[bne_iff_ne,ne_eq] at h
   rw[k3]
   cases hu:iN u with
   | none=>rfl
   |
    some q =>
    simp only[bne_iff_ne,ne_eq]
    exact fun hm=>kx q hu j _ _ _ _ k4 (Ne.symm h) hm.symm
 |
  row i wi =>
  rw[hbx] at kx h
  obtain⟨k1,g1,BX,e1,k2⟩:iN u=some (V.m i)∧∃g es e,V.H[i]? = some (.row g es e wi):=kx
  cases RP:Ad V.H y with
  | bad=>rw[RP] at h;have h:false=true:=h;cases h
  |
   no =>
   rw[RP] at ky
   have ky:iN w=none:=ky
   rw[ky]
   cases iN u<;>rfl
  |
   Bl j =>
   rw[RP] at ky h
   have ky:∀q,iN w=some q→∀b' g' es e w,V.H[b']? = some (.row g' es e w)→b'≠j→V.m b'≠q:=ky
   have h:(i != j)=true:=h
   simp only[bne_iff_ne,ne_eq] at h
   rw[k1]
   cases hw:iN w with
   | none=>rfl
   |
    some q =>
    simp only[bne_iff_ne,ne_eq]
    exact fun hm=>ky q hw i _ _ _ _ k2 h hm
  |
   row j wj =>
   rw[RP] at ky h
   obtain⟨k3,g2,Zc,e2,k4⟩:iN w=some (V.m j)∧∃g es e,V.H[j]? = some (.row g es e wj):=ky
   rw[k1,k3]
   have h:(i != j)=true:=h
   simp only[bne_iff_ne,ne_eq] at h ⊢
   exact fun hm=>h (hS.inj _ _ _ _ _ _ _ _ _ _ k2 k4 hm)
  |
   tree =>
   rw[RP] at ky h
   have ky:∀b,iN w=some b→V.F b:=ky
   have h:wi=true:=h
   subst h
   cases hw:iN w with
   | none=>rw[k1]
   |
    some b =>
    rw[k1]
    simp only[bne_iff_ne,ne_eq]
    exact fun hm=>(hS.wr _ _ _ _ k2).1 (by rw[hm];exact ky b hw)
 |
  tree =>
  rw[hbx] at kx h
  have kx:∀b,iN u=some b→V.F b:=kx
  cases RP:Ad V.H y with
  | bad=>rw[RP] at h;have h:false=true:=h;cases h
  |
   no =>
   rw[RP] at ky
   have ky:iN w=none:=ky
   rw[ky]
   cases iN u<;>rfl
  | tree=>rw[RP] at h;have h:false=true:=h;cases h
  | Bl j=>rw[RP] at h;have h:false=true:=h;cases h
  |
   row j wj =>
   rw[RP] at ky h
   obtain⟨k1,g1,BX,e1,k2⟩:iN w=some (V.m j)∧∃g es e,V.H[j]? = some (.row g es e wj):=ky
   have h:wj=true:=h
   subst h
   cases hw:iN u with
   | none=>rfl
   |
    some b =>
    rw[k1]
    simp only[bne_iff_ne,ne_eq]
    exact fun hm=>(hS.wr _ _ _ _ k2).1 (by rw[←hm];exact kx b hw)
theorem Q1 {V:View} (hS:SR V lo dW) {ρ:dG} {jS:Env} (hE:ER V ρ jS) {fl:Fl} {q:Bool} {op:mV} {K:VV→aA→Prop} (h:dV fl lo q op ρ V.H K):PJ lo dW V (jJ dW q op jS V.P) K:=by
 have other:∀ {v H'},vop fl lo op ρ V.H=some (v,H')→K v H'→PJ lo dW V (jJ dW q op jS V.P) K:=by
  intro v H' h1 h2
  obtain⟨pv,V',g1,g2,g3,g4,g5⟩:=X3 hS hE (q:=q) h1
  exact⟨pv,V',v,g1,g3,g4,g5,by rw[g2];exact h2⟩
 unfold dV at h
 split at h
 ·rw[XV]
  exact FZ hS (hE.evs _) h
 ·rename_i fv args
  rw[S8]
  have hf:=hE.ev fv
  split at h
  ·rename_i f fN hfv
   rw[hfv] at hf
   generalize ev jS fv=u at hf ⊢
   cases hf with
   |
    tY f fN ps hl =>
    unfold acJ
    simp only[List.nil_append]
    exact FZ hS ((hE.evs args).append hl) h
  ·cases h
 ·split at h
  ·rename_i v H' h1
   exact other h1 h
  ·cases h
theorem J7 {fl:Fl} {K:dG→aA→Prop}:∀(is:List PI) {V:View} {ρ:dG} {jS:Env},SR V lo dW→ER V ρ jS→VS fl lo is K ρ V.H →
  WS dW is (fun MN P'=>∃V' bC,V'.P=P'∧SR V' lo dW∧Ek lo V V'∧ER V' bC MN∧K bC V'.H) jS V.P
 |
  [],V,ρ,jS,hS,hE,h=>by
  rw[ajA]
  exact⟨V,ρ,rfl,hS,Ek.refl _ _,hE,h⟩
 |
  i::is,V,ρ,jS,hS,hE,h=>by
  unfold VS at h
  rw[aqL]
  unfold yO
  split at h
  ·cases h
  ·rename_i hw
   rw[F8 hE hw]
   exact⟨_,_,rfl,J7 is hS (hE.put (.eY [] [] .nil)) h⟩
  ·rename_i hw
   rw[F8 hE hw]
   obtain⟨PQ,h⟩:=h
   have axY:i.cf.all (Az jS)=true:=by
    rw[List.all_eq_true] at PQ ⊢
    intro c hc
    exact Ur hS (hE.ev c.1) (hE.ev c.2) (PQ c hc)
   simp only[axY,if_true]
   obtain⟨pv,V',v,g1,g2,g3,g4,g5⟩:=Q1 hS hE h
   refine⟨pv,V'.P,?_,?_⟩
   ·unfold jJ at g1
    exact g1
   ·obtain⟨UT,Xv,k1,RZ,Aw,k2,k3,k4,k5,k6⟩:=J7 is g2 ((hE.mono g3.toUp).put g4) g5
    exact⟨UT,Xv,k1,RZ,Aw,k2,k3,g3.trans k4,k5,k6⟩
theorem Lq:∀(ts:List Nat) {V:View} {ρ bC:dG} {jS:Env} {H':aA},SR V lo dW→ER V ρ jS→agT ts ρ V.H=some (bC,H')→∃V',V'.P=V.P∧V'.H=H'∧SR V' lo dW∧Ek lo V V'∧ER V' bC jS
 |
  [],V,ρ,bC,jS,H',hS,hE,h=>by
  cases h
  exact⟨V,rfl,rfl,hS,Ek.refl _ _,hE⟩
 |
  t::ts,V,ρ,bC,jS,H',hS,hE,h=>by
  unfold agT at h
  split at h
  case h_2=>cases h
  rename_i v hv
  obtain⟨k1,k2,k3,k4,k5,k6⟩:=vA (gP depth V.H (ρ t)) hS
  have hx:=Kx hS (G:=(V.cY (gP depth V.H (ρ t))).F) (fun q hq=>k2.F q hq) depth (ρ t) v (jS t) (hE t) hv k6
  have Pa:VR (V.cY (gP depth V.H (ρ t))) v (jS t):=hx.Dh (fun b hb=>⟨hb,by rw[k4]⟩)
  rw[←k3] at h
  obtain⟨V',g1,g2,g3,g4,g5⟩:=Lq ts (jS:=jS) k1 (by
   have e:=(hE.mono k2.toUp).put (d:=some t) Pa
   have ee:put jS (some t) (jS t)=jS:=by
    funext k
    simp only[put]
    split
    ·rename_i hk;rw[hk]
    ·rfl
   rw[ee] at e
   exact e) h
  exact⟨V',g1.trans k4,g2,g3,k2.trans g4,g5⟩
theorem QJ {V:View} (hS:SR V lo dW) {ρ:dG} {jS:Env} (hE:ER V ρ jS) {K:dG→aA→Prop} (h:gh K ρ V.H):∃V' bC,V'.P=V.P∧SR V' lo dW∧Ek lo V V'∧ER V' bC jS∧K bC V'.H:=by
 obtain⟨ts,bC,H',h1,h2⟩:=h
 obtain⟨V',g1,g2,g3,g4,g5⟩:=Lq ts hS hE h1
 exact⟨V',bC,g1,g3,g4,g5,by rw[g2];exact h2⟩
theorem Ks {k:Nat} {es:List VV}:lD k es=true↔∀x∈es,below k x=true:=by
 induction es with
 | nil=>simp[lD]
 | cons x xs ih=>simp[lD,ih]
theorem Dc {k:Nat} {es:List VV} (h:lD k es=true):lD k (es.flatMap aB)=true:=by
 rw[Ks] at h ⊢
 intro x hx
 obtain⟨y,hy,Ag⟩:=List.mem_flatMap.1 hx
 have:=h y hy
 unfold aB at Ag
 split at Ag
 ·exact Ks.1 (by simpa[below] using this) x Ag
 ·rw[List.mem_singleton] at Ag;subst Ag;exact this
theorem Qx {k:Nat} {x:VV} (h:below k x=true):lD k (aB x)=true:=by
 have:=Dc (k:=k) (es:=[x]) (by simp[lD,h])
 simpa using this
def View.zC (V:View) (k:Nat):View:={ V with H:=V.H.take k }
theorem VR.zC {V:View} {k:Nat} (hk:k≤V.H.length) {x:VV} {v:Value} (h:VR V x v):PM.below k x=true→VR (V.zC k) x v:=by
 have he:∀ {b:Nat},b<k→∀y,(V.zC k).H[b]? = some y→V.H[b]? = some y:=fun Wg y hy=>by
  have:(V.H.take k)[_]? = some y:=hy
  rw[List.getElem?_take,if_pos Wg] at this
  exact this
 have hT:∀ {b:Nat} {y:bT},(V.zC k).H[b]? = some y→V.H[b]? = some y:=fun {b y} hy=>by
  have h:(V.H.take k)[b]? = some y:=hy
  rw[List.getElem?_take] at h
  split at h
  ·exact h
  ·cases h
 induction h using VR.rec (motive_2:=fun xs vs _=>lD k xs=true→VL (V.zC k) xs vs) with
 | any=>intro _;exact .any _
 | sc _ h=>intro _;exact .sc _ h
 | agg cs ps _ ih=>intro hb;exact .agg _ _ (ih hb)
 | eY cs ps _ ih=>intro hb;exact .eY _ _ (ih hb)
 | nR k hk=>intro _;exact .nR k hk
 | tree es k b o c r e p To sS ho hc he hk' _ ih=>intro hb;exact .tree es k b o c r e p To sS ho hc he hk' (ih (Dc hb))
 | cV x off b o r e p To sS ho _ ih=>intro hb;exact .cV x off b o r e p To sS ho (ih (Qx hb))
 |
  ref b g o n c a n' c' bA hg ha hq =>
  intro hb
  have Wg:b<k:=by simpa[PM.below] using hb
  exact .ref b g o n c a n' c' (by show b<(V.H.take k).length;simp;omega) (fun g' es e w hr=>hg _ _ _ _ (he Wg _ hr)) (fun es e w hr=>ha _ _ _ (he Wg _ hr)) fun a0 h=>⟨(hq a0 h).1,(hq a0 h).2.1,fun b' g' es e w hr=>(hq a0 h).2.2 b' g' es e w (hT hr)⟩
 |
  ptr b g j off a bA hg ha hq =>
  intro hb
  have Wg:b<k:=by simpa[PM.below] using hb
  exact .ptr b g j off a (by show b<(V.H.take k).length;simp;omega) (fun g' es e w hr=>hg _ _ _ _ (he Wg _ hr)) (fun es e w hr=>ha _ _ _ (he Wg _ hr)) fun a0 h=>⟨(hq a0 h).1,(hq a0 h).2.1,fun b' g' es e w hr=>(hq a0 h).2.2 b' g' es e w (hT hr)⟩
 | tY f fN ps _ ih=>intro hb;exact .tY _ _ _ (ih hb)
 | nil=>exact .nil
 |
  cons x v xs vs _ _ ih T8 =>
  rename_i hb
  simp only[lD,Bool.and_eq_true] at hb
  exact .cons _ _ _ _ (ih hb.1) (T8 hb.2)
theorem VL.zC {V:View} {k:Nat} (hk:k≤V.H.length) {xs:List VV} {vs:List Value} (h:VL V xs vs) (hb:lD k xs=true):VL (V.zC k) xs vs:=by
 induction xs generalizing vs with
 | nil=>cases h;exact .nil
 |
  cons x xs ih=>cases h with
  |
   cons _ v _ vs h hs =>
   simp only[lD,Bool.and_eq_true] at hb
   exact .cons _ _ _ _ (h.zC hk hb.1) (ih hs hb.2)
theorem QR {V V':View} (hS:SR V' lo dW) {ρ:dG} {jS:Env} (hE:ER V' ρ jS) (hx:Ek lo V V') (hr:iV V.H.length (V'.H.take V.H.length)=true) :
  SR (V'.zC V.H.length) lo dW∧Ek lo V (V'.zC V.H.length)∧ER (V'.zC V.H.length) (HV V.H.length ρ) jS:=by
 have hk:=hx.len
 have get:∀ {b:Nat} {y:bT},(V'.zC V.H.length).H[b]? = some y→V'.H[b]? = some y:=by
  intro b y h
  have h:(V'.H.take V.H.length)[b]? = some y:=h
  rw[List.getElem?_take] at h
  split at h
  ·exact h
  ·cases h
 refine⟨⟨fun b g es e w hb => ?_,fun b g es e hb=>hS.wr b g es e (get hb),fun a b g es e w g' lQ e' w' ha hb hm=>hS.inj a b _ _ _ _ _ _ _ _ (get ha) (get hb) hm,hS.fr,hS.SH,hS.JU⟩,
  { F:=hx.F,P:=hx.P,len:=by show V.H.length≤(V'.H.take V.H.length).length;simp;omega,row:=fun b g es e w bA hb=>hx.row b g es e w bA (get hb),JU:=hx.JU,D8:=hx.D8,Bl:=fun b g es e w hb hm=>hx.Bl b g es e w (get hb) hm,cB:=hx.cB,Cn:=hx.Cn },fun t => ?_⟩
 ·obtain⟨r,p,h1,h2,h3⟩:=hS.row b g es e w (get hb)
  refine⟨r,p,h1,h2,h3.zC hk (Dc ?_)⟩
  have:=List.all_eq_true.1 hr _ (List.mem_of_getElem? (show (V'.H.take V.H.length)[b]? = some _ from hb))
  exact this
 ·unfold HV Ip
  split
  ·rename_i hb
   exact(hE t).zC hk hb
  ·exact .any _
theorem QH {c:aD} {Q:Ex→Env→aE→Prop} {ρ:Env} {H:aE} (h:W dW c (aoE (fun bC H'=>W dW (.loop c) Q bC H') Q) ρ H):W dW (.loop c) Q ρ H:=by
 obtain⟨x,bC,H',h1,h2⟩:=h
 unfold W
 rw[Xj,h1]
 cases x with
 |
  normal =>
  obtain⟨y,Aw,H'',h3,h4⟩:=h2
  exact⟨y,Aw,H'',h3,h4⟩
 | exit i=>exact⟨_,_,_,rfl,h2⟩
 | ret=>exact⟨_,_,_,rfl,h2⟩
theorem uI {fl:Fl}:∀(c:aD) {V:View} {ρ:dG} {jS:Env} {Q:VQ},SR V lo dW→ER V ρ jS→VW fl lo c Q ρ V.H→zR lo dW V c Q jS
 |
  .skip,V,ρ,jS,Q,hS,hE,h=>by
  unfold zR
  rw[akP]
  exact⟨V,ρ,rfl,hS,Ek.refl _ _,hE,h⟩
 |
  .exit id,V,ρ,jS,Q,hS,hE,h=>by
  unfold zR
  rw[ajB]
  exact⟨V,ρ,rfl,hS,Ek.refl _ _,hE,h⟩
 |
  .ret,V,ρ,jS,Q,hS,hE,h=>by
  unfold zR
  rw[arC]
  exact⟨V,ρ,rfl,hS,Ek.refl _ _,hE,h⟩
 |
  .dH ops,V,ρ,jS,Q,hS,hE,h=>by
  unfold zR
  rw[arL]
  exact J7 ops hS hE h
 |
  .seq a b,V,ρ,jS,Q,hS,hE,h=>by
  unfold zR
  rw[arU]
  refine(uI a hS hE h).mono ?_
  rintro x MN P' ⟨V',bC,rfl,g2,g3,g4,g5⟩
  cases x with
  |
   normal =>
   refine(uI b g2 g4 g5).mono ?_
   rintro y UT Xv ⟨RZ,Aw,k1,k2,k3,k4,k5⟩
   exact⟨RZ,Aw,k1,k2,g3.trans k3,k4,k5⟩
  | exit i=>exact⟨V',bC,rfl,g2,g3,g4,g5⟩
  | ret=>exact⟨V',bC,rfl,g2,g3,g4,g5⟩
 |
  .cond c a b,V,ρ,jS,Q,hS,hE,h=>by
  unfold zR
  rw[alL]
  unfold VW at h
  split at h
  ·rename_i t hc
   obtain⟨e,_⟩:=qQ (hE.ev c) hc
   refine⟨t,e,fun ht => ?_,fun ht => ?_⟩
   ·rw[if_pos ht] at h
    exact uI a hS hE h
   ·rw[if_neg (by simp[ht])] at h
    exact uI b hS hE h
  ·cases h
 |
  .block id a,V,ρ,jS,Q,hS,hE,h=>by
  unfold zR
  rw[afD]
  refine(uI a hS hE h).mono ?_
  rintro x MN P' ⟨V',bC,rfl,g2,g3,g4,g5⟩
  cases x with
  | normal=>exact⟨V',bC,rfl,g2,g3,g4,g5⟩
  |
   exit i =>
   rw[Hu]
   have g5:if i=id then Q .normal bC V'.H else Q (.exit i) bC V'.H:=g5
   split at g5
   ·rename_i hi
    rw[if_pos hi]
    exact⟨V',bC,rfl,g2,g3,g4,g5⟩
   ·rename_i hi
    rw[if_neg hi]
    exact⟨V',bC,rfl,g2,g3,g4,g5⟩
  | ret=>exact⟨V',bC,rfl,g2,g3,g4,g5⟩
 |
  .loop a,V,ρ,jS,Q,hS,hE,h=>by
  obtain⟨n,h⟩:=h
  have key:∀n {V:View} {ρ:dG} {jS:Env},SR V lo dW→ER V ρ jS→Sm (VW fl lo a) (fun x=>gh (Q x)) n ρ V.H→zR lo dW V (.loop a) Q jS:=by
   intro n
   induction n with
   | zero=>intro V ρ jS _ _ h;cases h
   |
    succ n ih =>
    intro V ρ jS hS hE h
    unfold zR
    refine QH ?_
    refine(uI a hS hE h).mono ?_
    rintro x MN P' ⟨V',bC,rfl,g2,g3,g4,g5⟩
    cases x with
    |
     normal =>
     rcases g5 with g5 | ⟨g5,g6⟩
     ·refine(ih g2 g4 g5).mono ?_
      rintro y UT Xv ⟨RZ,Aw,k1,k2,k3,k4,k5⟩
      exact⟨RZ,Aw,k1,k2,g3.trans k3,k4,k5⟩
     ·obtain⟨t1,t2,t3⟩:=QR g2 g4 g3 g5
      refine(ih t1 t3 g6).mono ?_
      rintro y UT Xv ⟨RZ,Aw,k1,k2,k3,k4,k5⟩
      exact⟨RZ,Aw,k1,k2,t2.trans k3,k4,k5⟩
    |
     exit i =>
     obtain⟨RZ,Aw,k1,k2,k3,k4,k5⟩:=QJ g2 g4 g5
     exact⟨RZ,Aw,k1,k2,g3.trans k3,k4,k5⟩
    |
     ret =>
     obtain⟨RZ,Aw,k1,k2,k3,k4,k5⟩:=QJ g2 g4 g5
     exact⟨RZ,Aw,k1,k2,g3.trans k3,k4,k5⟩
  exact key n hS hE h
theorem vX {V:View} (hS:SR V lo dW) {ρ:dG} {jS:Env} (hE:ER V ρ jS) {res:List AS} {v:VV} (h:nB res ρ V.H=some v):∃pv,qA res jS V.P=some pv∧VR V v pv:=by
 have one:∀ {r:AS} {v:VV},EG ρ V.H r=some v→∃pv,V7 jS V.P r=some pv∧VR V v pv:=by
  intro r v h
  cases r with
  | tmp t=>cases h;exact⟨_,rfl,hE t⟩
  | cell t agg size=>exact Lz hS (hE t) h
 have all:∀ {rs:List AS} {vs:List VV},qG ρ V.H rs=some vs→∃ps,Bd jS V.P rs=some ps∧VL V vs ps:=by
  intro rs
  induction rs with
  | nil=>intro vs h;cases h;exact⟨[],rfl,.nil⟩
  |
   cons r rs ih =>
   intro vs h
   unfold qG at h
   split at h
   ·rename_i v vs' h1 h2
    cases h
    obtain⟨pv,k1,k2⟩:=one h1
    obtain⟨ps,k3,k4⟩:=ih h2
    exact⟨pv::ps,by unfold Bd;rw[k1,k3],.cons _ _ _ _ k2 k4⟩
   ·cases h
 unfold nB at h
 split at h
 ·rename_i v' hv
  cases h
  obtain⟨ps,k1,k2⟩:=all hv
  cases k2 with
  |
   cons _ pv _ _ hx Ml =>
   cases Ml
   exact⟨pv,by unfold qA;rw[k1],hx⟩
 ·rename_i vs fC hv
  cases h
  obtain⟨ps,k1,k2⟩:=all hv
  refine⟨.tuple ps.toArray,?_,.eY _ _ k2⟩
  unfold qA
  rw[k1]
  split
  ·rename_i pv he
   injection he with he
   subst he
   cases k2 with
   | cons x _ _ _ hx Ml=>cases Ml;exact absurd rfl (fC x)
  ·rename_i he
   injection he with he
   rw[he]
  ·rename_i he;cases he
 ·cases h
theorem Sk {V:View} {args:List VV} {dY:List Value} (h:VL V args dY):ER V (ID args) (XN dY):=by
 intro t
 unfold ID XN
 rw[List.getD_eq_getElem?_getD,List.getD_eq_getElem?_getD]
 cases hx:args[t]? with
 |
  none =>
  have:dY[t]? = none:=by
   rw[List.getElem?_eq_none_iff] at hx ⊢
   rw[h.length]
   exact hx
  rw[this]
  exact .eY [] [] .nil
 |
  some x =>
  obtain⟨v,h1,h2⟩:=h.get hx
  rw[h1]
  exact h2
theorem jO.walk {f:Nat} {pf:aR} {args:List VV} {H:aA} {K:VV→aA→Prop} (fl:Fl) (ht:gD f=some pf) (ha:args.length≤pf.ntmps) (h:VW fl lo pf.body (AZ pf.res K) (ID args) H):jO f args lo H K:=by
 intro V dW dY hH hS hl
 subst hH
 obtain⟨x,MN,P',h1,V',bC,rfl,g2,g3,g4,g5⟩:=uI pf.body hS (Sk hl) h
 have key:∃pv Xv,qO f dY dW V.P=some (pv,Xv)∧Xv=V'.P∧∃r,VR V' r pv∧K r V'.H:=by
  refine acF ht (by rw[hl.length];exact ha) ?_
  refine⟨x,MN,V'.P,h1,?_⟩
  cases x with
  | exit i=>exact g5.elim
  |
   normal =>
   simp only[AZ,FF] at g5
   split at g5
   ·rename_i v hv
    obtain⟨pv,k2,k3⟩:=vX g2 g4 hv
    exact⟨pv,k2,rfl,v,k3,g5⟩
   ·cases g5
  |
   ret =>
   simp only[AZ,FF] at g5
   split at g5
   ·rename_i v hv
    obtain⟨pv,k2,k3⟩:=vX g2 g4 hv
    exact⟨pv,k2,rfl,v,k3,g5⟩
   ·cases g5
 obtain⟨pv,Xv,k1,rfl,r,k2,k3⟩:=key
 exact⟨pv,V',r,k1,g2,g3,k2,k3⟩
theorem VT.walk {f:Nat} {pf:aR} {args:List VV} {r:VV} (fl:Fl) (ht:gD f=some pf) (ha:args.length≤pf.ntmps) (h:VW fl 0 pf.body (AZ pf.res fun v H=>fz depth H v=some r) (ID args) []):VT f args r:=by
 intro F P dY dW hF hl aeG
 have hS:SR (bare F P) 0 dW:=⟨fun b g es e w hb=>by simp[bare] at hb,fun b g es e hb=>by simp[bare] at hb,fun a b g es e w g' lQ e' w' ha=>by simp[bare] at ha,hF,aeG,Nat.zero_le _⟩
 obtain⟨x,MN,P',h1,V',bC,rfl,g2,g3,g4,g5⟩:=uI pf.body hS (Sk hl) h
 have fin:∀ {v:VV} {pv:Value},VR V' v pv→fz depth V'.H v=some r→VR (bare (fun q=>F q∨(P.length≤q∧q<V'.P.length)) V'.P) r pv:=by
  intro v pv hv hf
  refine Kx g2 (fun q hq => ?_) depth v r pv hv hf fun i _ g es e w hr => ?_
  ·rcases g3.Cn q hq with h | h | ⟨b,g,es,e,w,h,_⟩
   ·exact .inl h
   ·exact .inr ⟨h,g2.fr q hq⟩
   ·simp[bare] at h
  ·rcases Nat.lt_or_ge (V'.m i) P.length with bA | Ch
   ·obtain⟨g0,es0,w0,k1,_⟩:=g3.Bl i g es e w hr bA
    simp[bare] at k1
   ·exact .inr ⟨Ch,g2.mlt hr⟩
 have key:∃pv Xv,qO f dY dW P=some (pv,Xv)∧Xv=V'.P∧VR (bare (fun q=>F q∨(P.length≤q∧q<V'.P.length)) V'.P) r pv:=by
  refine acF ht (by rw[hl.length];exact ha) ?_
  refine⟨x,MN,V'.P,h1,?_⟩
  cases x with
  | exit i=>exact g5.elim
  |
   normal =>
   simp only[AZ,FF] at g5
   split at g5
   ·rename_i v hv
    obtain⟨pv,k2,k3⟩:=vX g2 g4 hv
    exact⟨pv,k2,rfl,fin k3 g5⟩
   ·cases g5
  |
   ret =>
   simp only[AZ,FF] at g5
   split at g5
   ·rename_i v hv
    obtain⟨pv,k2,k3⟩:=vX g2 g4 hv
    exact⟨pv,k2,rfl,fin k3 g5⟩
   ·cases g5
 obtain⟨pv,Xv,k1,rfl,k3⟩:=key
 refine⟨V'.P,pv,k1,?_,k3⟩
 refine⟨V'.P.drop P.length,List.ext_getElem? fun i => ?_⟩
 rcases Nat.lt_or_ge i P.length with hi | hi
 ·rw[List.getElem?_append_left hi]
  exact(g3.cB i hi fun b g es e hb=>by simp[bare] at hb).symm
 ·rw[List.getElem?_append_right hi,List.getElem?_drop,show P.length+(i-P.length)=i by omega]
end
end Go.PM
namespace Go.PM
section
variable {fl:Fl} {lo:Nat} {ρ:dG} {H:aA} {Q:VQ} {K:dG→aA→Prop} {k:VV→aA→Prop} {a b:aD} {d:Option Nat} {is:List PI} {q:Bool} {op:mV}
def Su (fl:Fl) (lo:Nat) (d:Option Nat) (is:List PI) (K:dG→aA→Prop) (ρ:dG):VV→aA→Prop:=fun v H'=>VS fl lo is K (Jk ρ d v) H'
def PB (r:Option (VV×aA)) (k:VV→aA→Prop):Prop:=match r with
 | some (v,H')=>k v H'
 | none=>False
theorem Oa {v:VV} {H':aA}:Su fl lo d is K ρ v H'=VS fl lo is K (Jk ρ d v) H':=rfl
theorem Qi {v:VV}:JO (some v) H k=k v H:=rfl
theorem N9 {v:VV} {H':aA}:PB (some (v,H')) k=k v H':=rfl
theorem agL {r:VV} {K:VV→Prop}:tk (some r) K=K r:=rfl
theorem Vq:VW fl lo .skip Q ρ H=Q .normal ρ H:=rfl
theorem U0 {i:Nat}:VW fl lo (.exit i) Q ρ H=Q (.exit i) ρ H:=rfl
theorem Zm:VW fl lo .ret Q ρ H=Q .ret ρ H:=rfl
theorem acM {ops:List PI}:VW fl lo (.dH ops) Q ρ H=VS fl lo ops (Q .normal) ρ H:=rfl
theorem abZ:VW fl lo (.seq a b) Q ρ H=VW fl lo a (mI (VW fl lo b Q) Q) ρ H:=rfl
theorem RU {i:Nat}:VW fl lo (.block i a) Q ρ H=VW fl lo a (zV i Q) ρ H:=rfl
theorem Vd {c:Operand} {t:Bool} (h:dX ρ c = .sc (.bool t)):VW fl lo (.cond c a b) Q ρ H=if t=true then VW fl lo a Q ρ H else VW fl lo b Q ρ H:=by
 simp only[VW,h]
theorem B0:mI K Q .normal=K:=rfl
theorem EB {i:Nat}:mI K Q (.exit i)=Q (.exit i):=rfl
theorem GG:mI K Q .ret=Q .ret:=rfl
theorem EN {i:Nat}:zV i Q .normal=Q .normal:=rfl
theorem Dd {i j:Nat}:zV i Q (.exit j) ρ H=if j=i then Q .normal ρ H else Q (.exit j) ρ H:=rfl
theorem K5 {i:Nat}:zV i Q .ret=Q .ret:=rfl
theorem Gw {res:List AS} {R:VV→aA→Prop}:AZ res R .normal ρ H=FF R (nB res ρ H) H:=rfl
theorem N7 {res:List AS} {R:VV→aA→Prop}:AZ res R .ret ρ H=FF R (nB res ρ H) H:=rfl
theorem J5 {R:VV→aA→Prop} {v:VV}:FF R (some v) H=R v H:=rfl
theorem Rv {t:Nat}:nB [.tmp t] ρ H=some (ρ t):=rfl
theorem Rp {t u:Nat}:nB [.tmp t,.tmp u] ρ H=some (.eY [ρ t,ρ u]):=rfl
theorem KB {t u v:Nat}:nB [.tmp t,.tmp u,.tmp v] ρ H=some (.eY [ρ t,ρ u,ρ v]):=rfl
theorem Of:nB [] ρ H=some (.eY []):=rfl
theorem ZL:VS fl lo [] K ρ H=K ρ H:=rfl
theorem ahF:VS fl lo (⟨d,op,none,q,[]⟩::is) K ρ H=dV fl lo q op ρ H (Su fl lo d is K ρ):=by
 simp only[VS,BN,List.all_nil,true_and]
 rfl
theorem CV {c:Operand×Operand} {cs:List (Operand×Operand)}:VS fl lo (⟨d,op,none,q,c::cs⟩::is) K ρ H=((c::cs).all (rM ρ H)=true∧dV fl lo q op ρ H (Su fl lo d is K ρ)):=by
 simp only[VS,BN]
 rfl
theorem Si {t:Nat} {want x:Bool} {cf:List (Operand×Operand)} (h:ρ t = .sc (.bool x)):VS fl lo (⟨d,op,some (t,want),q,cf⟩::is) K ρ H =
  if (x == want)=true then (cf.all (rM ρ H)=true∧dV fl lo q op ρ H (Su fl lo d is K ρ)) else VS fl lo is K (Jk ρ d pB) H:=by
 simp only[VS,BN,h]
 cases (x == want)<;>rfl
theorem Z5 {t:Nat} {want:Bool} (h:ρ t = .sc (.bool want)):VS fl lo (⟨d,op,some (t,want),q,[]⟩::is) K ρ H=dV fl lo q op ρ H (Su fl lo d is K ρ):=by
 rw[Si h]
 simp
theorem aiV {t:Nat} {want:Bool} {cf:List (Operand×Operand)} (h:ρ t = .sc (.bool (!want))):VS fl lo (⟨d,op,some (t,want),q,cf⟩::is) K ρ H=VS fl lo is K (Jk ρ d pB) H:=by
 rw[Si h]
 cases want<;>rfl
theorem Vx {c:Operand} (h:dX ρ c = .sc (.bool true)):VW fl lo (.cond c a b) Q ρ H=VW fl lo a Q ρ H:=by
 rw[Vd h,if_pos rfl]
theorem Rr {c:Operand} (h:dX ρ c = .sc (.bool false)):VW fl lo (.cond c a b) Q ρ H=VW fl lo b Q ρ H:=by
 rw[Vd h,if_neg (by decide)]
theorem IM {t:Nat} {want:Bool} {cf:List (Operand×Operand)} (h:ρ t=pB):VS fl lo (⟨d,op,some (t,want),q,cf⟩::is) K ρ H=VS fl lo is K (Jk ρ d pB) H:=by
 simp only[VS,BN,h,pB]
theorem uE {d t:Nat} {v:VV}:Jk ρ (some d) v t=if t=d then v else ρ t:=rfl
theorem NS {v:VV}:Jk ρ none v=ρ:=rfl
theorem V5 {t:Nat}:dX ρ (.tmp t)=ρ t:=rfl
theorem Nn {v:Value}:dX ρ (.const v)=inj v:=rfl
theorem Sa {f:Nat}:dX ρ (.func f) = .tY f []:=rfl
theorem Vi {k:IntKind} {n:Int}:inj (.int k n) = .sc (.int k n):=rfl
theorem Rw {t:Bool}:inj (.bool t) = .sc (.bool t):=rfl
theorem UO {s:ByteArray}:inj (.string s) = .sc (.string s):=rfl
theorem VN:inj (.slice none 0 0) = .tree [] .nil:=rfl
theorem VZ {cs:Array Value}:inj (.agg cs) = .agg (cs.toList.map iY):=rfl
theorem RF {k:IntKind} {n:Int}:iY (.int k n) = .sc (.int k n):=rfl
theorem NY {t:Bool}:iY (.bool t) = .sc (.bool t):=rfl
theorem Q8 {s:ByteArray}:iY (.string s) = .sc (.string s):=rfl
theorem Q4:iY (.slice none 0 0) = .tree [] .nil:=rfl
theorem ZY {x:Operand}:dV fl lo q (.mv x) ρ H k=k (dX ρ x) H:=rfl
theorem gV {r:Option VV}:(match r.map (fun v=>(v,H)) with | some (v,H')=>k v H' | none=>False)=JO r H k:=by cases r<;>rfl
theorem Re {c x y:Operand}:dV fl lo q (.pick c x y) ρ H k=JO (R0 (dX ρ c) (dX ρ x) (dX ρ y)) H k:=gV
theorem V8 {o:BinOp} {x y:Operand}:dV fl lo q (.bin o x y) ρ H k=JO (HL (dB o) (dX ρ x) (dX ρ y)) H k:=gV
theorem Ve {n:Bool} {x y:Operand}:dV fl lo q (.eqb n x y) ρ H k=JO (HL (MO n) (dX ρ x) (dX ρ y)) H k:=gV
theorem Np {n:Bool} {x:Operand}:dV fl lo q (.isnil n x) ρ H k=JO (ET n (dX ρ x) H) H k:=gV
theorem M4 {n:Bool} {ks:List CK} {x y:Operand}:dV fl lo q (.eqagg n ks x y) ρ H k=JO (Tu n ks (dX ρ x) (dX ρ y)) H k:=gV
theorem Zl {o:UnOp} {x:Operand}:dV fl lo q (.un o x) ρ H k=JO (KZ (YY o) (dX ρ x)) H k:=gV
theorem UU {o:IntKind} {x:Operand}:dV fl lo q (.cvt o x) ρ H k=JO (KZ (S3 o) (dX ρ x)) H k:=gV
theorem VH {x:Operand}:dV fl lo q (.cvs x) ρ H k=JO (KZ XI (dX ρ x)) H k:=gV
theorem Va {x:Operand} {i:Nat}:dV fl lo q (.ext x i) ρ H k=JO (YT i (dX ρ x)) H k:=gV
theorem VP {g:Bool} {off size:Nat} {x:Operand}:dV fl lo q (.fld g off size x) ρ H k=JO (afK g off size (dX ρ x)) H k:=gV
theorem Nj {z:List Value} {places:List (Nat×Nat)} {parts:List (Nat×Operand)}:dV fl lo q (.build z places parts) ρ H k=JO ((wP places (z.map iY) (parts.map fun(i,x)=>(i,dX ρ x))).map .agg) H k:=by
 show (match (wP places (z.map iY) (parts.map fun(i,x)=>(i,dX ρ x))).map fun cs=>(VV.agg cs,H) with | some (v,H')=>k v H' | none=>False)=_
 cases wP places (z.map iY) (parts.map fun(i,x)=>(i,dX ρ x))<;>rfl
theorem Wl {x:Operand}:dV fl lo q (.chk x) ρ H k=JO (WL (dX ρ x) H) H k:=gV
theorem NV {off:Nat} {x:Operand}:dV fl lo q (.faddr off x) ρ H k=JO (Hn off (dX ρ x) H) H k:=gV
theorem Ol {size:Nat} {x i:Operand}:dV fl lo q (.iaddr size x i) ρ H k=JO (bH size (dX ρ x) (dX ρ i) H) H k:=gV
theorem R2 {x i:Operand}:dV fl lo q (.sidx x i) ρ H k=JO (HL F5 (dX ρ x) (dX ρ i)) H k:=gV
theorem PZ {x:Operand} {l h:Option Operand}:dV fl lo q (.ssub x l h) ρ H k=JO (uL (dX ρ x) (l.map (dX ρ)) (h.map (dX ρ))) H k:=gV
theorem Qm {f:Nat} {fN:List Operand}:dV fl lo q (.mkfn f fN) ρ H k=k (.tY f (fN.map (dX ρ))) H:=rfl
theorem U9 {x:Operand}:dV fl lo q (.len x) ρ H k=JO (oC (dX ρ x) H) H k:=gV
theorem R4 {x:Operand}:dV fl lo q (.slen x) ρ H k=JO (KZ AU (dX ρ x)) H k:=gV
theorem UW {x y:Operand}:dV fl lo q (.min x y) ρ H k=JO (HL Ri (dX ρ x) (dX ρ y)) H k:=gV
theorem VY {x y:Operand}:dV fl lo q (.max x y) ρ H k=JO (HL Qh (dX ρ x) (dX ρ y)) H k:=gV
theorem Sq {g:Bool} {size:Nat} {p:Operand}:dV fl lo q (.load g size p) ρ H k=JO (cI g size (dX ρ p) H) H k:=gV
theorem Wh {size:Nat} {x:Operand} {l h m:Option Operand}:dV fl lo q (.sub size x l h m) ρ H k=JO (Ej size (dX ρ x) (l.map (dX ρ)) (h.map (dX ρ)) (m.map (dX ρ)) H) H k:=gV
theorem U4 {z:List Value}:dV fl lo q (.new z) ρ H k=PB (if (z.map iY).all bP then some (.ptr H.length 0 0 0,H++[.row 0 [elemOf (z.map iY)] z.length true]) else none) k:=rfl
theorem Vg {x:Operand}:dV fl lo q (.box x) ρ H k=PB (if (aB (dX ρ x)).all bP then (if fl.bf then some (.cV (dX ρ x) 0,H) else some (.ptr H.length 0 0 0,H++[.row 0 [dX ρ x] (aB (dX ρ x)).length true])) else none) k:=rfl
theorem QT {z:List Value} {bytes:Nat} {l c:Operand}:dV fl lo q (.make z bytes l c) ρ H k=PB (if (z.map iY).all bP then AB z bytes (dX ρ l) (dX ρ c) H else none) k:=rfl
theorem UK {z:List Value} {n:Nat} {parts:List (Nat×Operand)}:dV fl lo q (.lit z n parts) ρ H k=PB (mF fl.lr z n (parts.map fun(i,x)=>(i,dX ρ x)) H) k:=rfl
def Vs (r:Option aA) (k:VV→aA→Prop):Prop:=match r with
 | some H'=>k pB H'
 | none=>False
theorem Mh {H':aA}:Vs (some H') k=k pB H':=rfl
theorem Ok {r:Option aA}:(match r.map (fun H'=>(pB,H')) with | some (v,H')=>k v H' | none=>False)=Vs r k:=by cases r<;>rfl
theorem N3 {size:Nat} {p v:Operand}:dV fl lo q (.store size p v) ρ H k=Vs (bX lo size (dX ρ p) (dX ρ v) H) k:=Ok
def arH (lo size bytes:Nat) (x:VV) (new:Option (List VV)) (H:aA) (k:VV→aA→Prop):Prop:=match new with
 | some new=>PB (eO lo size bytes x new H) k
 | none=>False
theorem ND {size bytes:Nat} {x:VV} {new:List VV}:arH lo size bytes x (some new) H k=PB (eO lo size bytes x new H) k:=rfl
theorem UG {size bytes:Nat} {x y:Operand}:dV fl lo q (.app size bytes x y) ρ H k=arH lo size bytes (dX ρ x) (cW size (dX ρ y) H) H k:=by
 show (match (match cW size (dX ρ y) H with | some new=>eO lo size bytes (dX ρ x) new H | none=>none) with | some (v,H')=>k v H' | none=>False)=_
 cases cW size (dX ρ y) H<;>rfl
theorem Qb {size:Nat} {x y:Operand}:dV fl lo q (.copy size x y) ρ H k=PB (IJ lo size (dX ρ x) (dX ρ y) H) k:=rfl
theorem NP {z:List Value} {x:Operand}:dV fl lo q (.clear z x) ρ H k=Vs (OK lo z (dX ρ x) H) k:=Ok
theorem Qe {f:Nat} {args:List Operand}:dV fl lo q (.call f args) ρ H k=cT f (args.map (dX ρ)) (if q then H.length else lo) H k:=rfl
noncomputable def TB (x:VV) (args:List VV) (lo:Nat) (H:aA) (k:VV→aA→Prop):Prop:=match x with
 | .tY f fN=>cT f (args++fN) lo H k
 | _=>False
theorem BF {f:Nat} {fN args:List VV}:TB (.tY f fN) args lo H k=cT f (args++fN) lo H k:=rfl
theorem Nx {fv:Operand} {args:List Operand}:dV fl lo q (.callv fv args) ρ H k=TB (dX ρ fv) (args.map (dX ρ)) (if q then H.length else lo) H k:=by
 simp only[dV,TB]
 all_goals (cases dX ρ fv<;>rfl)
theorem Pg {x:Operand}:dV fl lo q (.b2s x) ρ H k=PB (vop fl lo (.b2s x) ρ H) k:=rfl
theorem Wi {f:Value→Option Value} {x:Value}:KZ f (.sc x)=(f x).map .sc:=rfl
theorem Vh {f:Value→Value→Option Value} {x y:Value}:HL f (.sc x) (.sc y)=(f x y).map .sc:=rfl
theorem Rk {t:Bool} {x y:VV}:R0 (.sc (.bool t)) x y=some (if t=true then x else y):=rfl
theorem Rs {vs:List VV} {i:Nat}:YT i (.eY vs)=vs[i]? := rfl
theorem Nb {es:List VV} {t:TK}:oC (.tree es t) H=some (.sc (.int .i64 es.length)):=rfl
theorem dR {b g o n c:Nat} {r:List VV×Nat×Bool} (h:aH H b g=some r):oC (.ref b g o n c) H=some (.sc (.int .i64 n)):=by
 simp only[oC,h,Option.map_some]
theorem Rh {x:VV} {o off:Nat}:Hn off (.cV x o) H=some (.cV x (o+off)):=rfl
theorem aaR {x:VV} {o:Nat}:WL (.cV x o) H=some (.cV x o):=rfl
theorem JV {g:Bool} {size o:Nat} {x:VV}:cI g size (.cV x o) H=dA g size x o:=rfl
theorem O4 {g:Bool} {size b gn j o:Nat} {es:List VV} {e:Nat} {w:Bool} {x:VV} (h:aH H b gn=some (es,e,w)) (hx:es[j]? = some x):cI g size (.ptr b gn j o) H=dA g size x o:=by
 simp only[cI,h,hx]
theorem YI {size:Nat} {v:Value}:dA false size (.sc v) 0=some (.sc v):=rfl
theorem Vc {size:Nat} {es:List VV} {t:TK}:dA false size (.tree es t) 0=some (.tree es t):=rfl
theorem acO {size b g o n c:Nat}:dA false size (.ref b g o n c) 0=some (.ref b g o n c):=rfl
theorem acR {size f:Nat} {fN:List VV}:dA false size (.tY f fN) 0=some (.tY f fN):=rfl
theorem Pk {size o:Nat} {cs:List VV}:dA false size (.agg cs) o=cs[o]? := rfl
theorem Zp {size:Nat} {cs:List VV} (h:cs.length=size):dA true size (.agg cs) 0=some (.agg cs):=by
 subst h
 simp[dA,aB]
theorem Y4 {size:Nat} {es:List VV} {t:TK} {kk:IntKind} {i:Int} {x:VV} (h0:0≤i) (hx:es[i.toNat]? = some x) (hs:(aB x).length=size):bH size (.tree es t) (.sc (.int kk i)) H=some (.cV x 0):=by
 simp only[bH,h0,hx,hs,if_true]
theorem Wx {size:Nat} {es:List VV} {t:TK} {kk:IntKind} {i:Nat} {x:VV} (hx:es[i]? = some x) (hs:(aB x).length=size):bH size (.tree es t) (.sc (.int kk (i:Int))) H=some (.cV x 0) :=
 Y4 (by omega) (by simpa using hx) hs
theorem Z8 {size b g o n c:Nat} {kk:IntKind} {i:Int} {es:List VV} {w:Bool} (h:aH H b g=some (es,size,w)) (h0:0≤i) (h1:i<n):bH size (.ref b g o n c) (.sc (.int kk i)) H=some (.ptr b g (o+i.toNat) 0):=by
 simp only[bH,h]
 rw[if_pos ⟨trivial,h0,h1⟩]
theorem W5 {size b g o n c:Nat} {kk:IntKind} {i:Nat} {es:List VV} {w:Bool} (h:aH H b g=some (es,size,w)) (h1:i<n):bH size (.ref b g o n c) (.sc (.int kk (i:Int))) H=some (.ptr b g (o+i) 0):=by
 rw[Z8 h (by omega) (by omega),Int.toNat_natCast]
abbrev TC (f:Nat) (args:List VV) (r:VV):Prop:=∀(lo:Nat) (H:aA) (k:VV→aA→Prop),cT f args lo H k=k r H
theorem TC.of {f:Nat} {args:List VV} {r:VV} (hr:AN.contains f=false) (ha:aL args=true) (h:vT f args=some r):TC f args r:=by
 intro lo H k
 unfold cT F0
 simp only[hr,ha,if_true,h,Bool.false_eq_true,if_false,agL]
theorem TC.walk {f:Nat} {pf:aR} {args:List VV} {r:VV} (fl:Fl) (ht:gD f=some pf) (hr:AN.contains f=false) (hn:args.length≤pf.ntmps) (ha:aL args=true) (Ti:gZ r=true) (h:VW fl 0 pf.body (AZ pf.res fun v H=>fz depth H v=some r) (ID args) []):TC f args r :=
 TC.of hr ha (ahQ ha Ti (VT.walk fl ht hn h))
theorem TC.CP {f:Nat} {args hC:List VV} {r:VV} (h:TC f hC r) (hr:AN.contains f=false) (ha':aL hC=true) (hf:args.mapM (fz depth H)=some hC) (ha:aL args=false):cT f args lo H k=if J3 r=true then k r H else k r (cY H (args.flatMap (gP depth H))):=by
 have e:∀K,F0 f hC K=K r:=fun K=>by
  have:=h 0 [] fun r _=>K r
  unfold cT at this
  simpa only[hr,ha',if_true,Bool.false_eq_true,if_false] using this
 unfold cT
 simp only[hr,ha,hf,Bool.false_eq_true,if_false]
 rw[e]
theorem aJ {n:Nat} {v:VV} (h:aN v=true):fz (n+1) H v=some v:=by
 unfold PM.fz
 rw[if_pos h]
theorem aF {v:VV} (h:aN v=true):fz depth H v=some v:=aJ h
theorem mapM_pure {n:Nat}:∀ {es:List VV},aL es=true→es.mapM (PM.fz (n+1) H)=some es
 | [],_=>rfl
 |
  x::xs,h=>by
  simp only[aL,Bool.and_eq_true] at h
  rw[List.mapM_cons,aJ h.1,mapM_pure h.2]
  rfl
theorem Fb {b g n c e:Nat} {es:List VV} {w:Bool} (h:aH H b g=some (es,e,w)) (hn:n=es.length) (hc:n≤c) (hp:aL es=true):fz depth H (.ref b g 0 n c)=some (.tree es .op):=by
 have:aN (.ref b g 0 n c)=false:=rfl
 show fz (7+1) H _=_
 unfold PM.fz
 simp only[this,h,Bool.false_eq_true,if_false]
 subst hn
 rw[if_pos ⟨by omega,hc⟩,List.drop_zero,List.take_length,mapM_pure hp]
 rfl
theorem EY {n:Nat} {v:VV} (h:aN v=true):gP n H v=[]:=by
 cases n with
 | zero=>rfl
 | succ n=>unfold gP;rw[if_pos h]
theorem vP {n:Nat}:∀ {es:List VV},aL es=true→es.flatMap (gP n H)=[]
 | [],_=>rfl
 |
  x::xs,h=>by
  simp only[aL,Bool.and_eq_true] at h
  rw[List.flatMap_cons,EY h.1,vP h.2]
  rfl
theorem N1 {b g n c e:Nat} {es:List VV} {w:Bool} (h:aH H b g=some (es,e,w)) (hn:n=es.length) (hp:aL es=true):gP depth H (.ref b g 0 n c)=[b]:=by
 have:aN (.ref b g 0 n c)=false:=rfl
 show gP (7+1) H _=_
 unfold gP
 simp only[this,h,Bool.false_eq_true,if_false]
 subst hn
 rw[List.drop_zero,List.take_length,vP hp]
theorem VO {r:Option VV} {K K':VV→Prop} (hk:∀v,K v→K' v) (h:tk r K):tk r K':=by
 cases r with
 | none=>exact h
 | some v=>exact hk _ h
theorem IU {f:Nat} {args:List VV} {k k':VV→aA→Prop} (hk:∀v H,k v H→k' v H) (h:cT f args lo H k):cT f args lo H k':=by
 unfold cT at h ⊢
 split at h
 ·rename_i h1
  rw[if_pos h1]
  exact h.mono hk
 ·rename_i h1
  rw[if_neg h1]
  split at h
  ·rename_i h2
   rw[if_pos h2]
   exact VO (fun v=>hk v H) h
  ·rename_i h2
   rw[if_neg h2]
   split at h
   ·refine VO (fun v hv => ?_) h
    split at hv
    ·rename_i h3;rw[if_pos h3];exact hk _ _ hv
    ·rename_i h3;rw[if_neg h3];exact hk _ _ hv
   ·cases h
theorem TI {k k':VV→aA→Prop} (hk:∀v H,k v H→k' v H) (h:dV fl lo q op ρ H k):dV fl lo q op ρ H k':=by
 unfold dV at h ⊢
 split at h
 ·exact IU hk h
 ·split at h
  ·exact IU hk h
  ·cases h
 ·split at h
  ·exact hk _ _ h
  ·cases h
theorem Px {K K':dG→aA→Prop} (hk:∀ρ H,K ρ H→K' ρ H):∀ {is:List PI} {ρ:dG} {H:aA},VS fl lo is K ρ H→VS fl lo is K' ρ H
 | [],ρ,H,h=>hk _ _ h
 |
  i::is,ρ,H,h=>by
  unfold VS at h ⊢
  split at h
  ·cases h
  ·exact Px hk h
  ·exact⟨h.1,TI (fun v H' hv=>Px hk hv) h.2⟩
theorem pS {K K':dG→aA→Prop} {Q Q':VQ} (hk:∀ρ H,K ρ H→K' ρ H) (hq:∀x ρ H,Q x ρ H→Q' x ρ H):∀x ρ H,mI K Q x ρ H→mI K' Q' x ρ H
 | .normal,ρ,H,h=>hk _ _ h
 | .exit _,ρ,H,h=>hq _ _ _ h
 | .ret,ρ,H,h=>hq _ _ _ h
theorem agY {K K':dG→aA→Prop} (hk:∀ρ H,K ρ H→K' ρ H) (h:gh K ρ H):gh K' ρ H:=by
 obtain⟨ts,bC,H',h1,h2⟩:=h
 exact⟨ts,bC,H',h1,hk _ _ h2⟩
theorem wA:∀ {c:aD} {Q Q':VQ} {ρ:dG} {H:aA},(∀x ρ H,Q x ρ H→Q' x ρ H)→VW fl lo c Q ρ H→VW fl lo c Q' ρ H
 | .skip,_,_,_,_,hq,h=>hq _ _ _ h
 | .exit _,_,_,_,_,hq,h=>hq _ _ _ h
 | .ret,_,_,_,_,hq,h=>hq _ _ _ h
 | .dH _,_,_,_,_,hq,h=>Px (fun ρ H=>hq .normal ρ H) h
 | .seq a b,Q,Q',_,_,hq,h=>wA (c:=a) (pS (fun ρ H h=>wA (c:=b) hq h) hq) h
 |
  .cond c a b,Q,Q',ρ,H,hq,h=>by
  unfold VW at h ⊢
  split at h
  ·split at h
   ·rename_i h1;rw[if_pos h1];exact wA (c:=a) hq h
   ·rename_i h1;rw[if_neg h1];exact wA (c:=b) hq h
  ·cases h
 |
  .block i a,Q,Q',_,_,hq,h=>by
  refine wA (c:=a) (fun x ρ H hx => ?_) h
  cases x with
  | normal=>exact hq _ _ _ hx
  | ret=>exact hq _ _ _ hx
  |
   exit j =>
   rw[Dd] at hx ⊢
   split at hx
   ·rename_i h1;rw[if_pos h1];exact hq _ _ _ hx
   ·rename_i h1;rw[if_neg h1];exact hq _ _ _ hx
 |
  .loop a,Q,Q',ρ,H,hq,h=>by
  obtain⟨n,h⟩:=h
  refine⟨n,?_⟩
  induction n generalizing ρ H with
  | zero=>cases h
  |
   succ n ih =>
   refine wA (c:=a) (pS (fun ρ H h => ?_) fun x ρ H h=>agY (hq x) h) h
   rcases h with h | ⟨h1,h2⟩
   ·exact .inl (ih _ _ h)
   ·exact .inr ⟨h1,ih _ _ h2⟩
theorem aiO {K:dG→aA→Prop} (h:K ρ H):gh K ρ H:=⟨[],ρ,H,rfl,h⟩
theorem QS {α:Type} {c:aD} (I:α→dG→aA→Prop) (μ:α→Nat) (s:α) (h0:I s ρ H)
  (round:∀s ρ H,I s ρ H→VW fl lo c (mI (fun bC H'=>∃s',μ s'<μ s∧(I s' bC H'∨(iV H.length (H'.take H.length)=true∧I s' (HV H.length bC) (H'.take H.length)))) (fun x=>gh (Q x))) ρ H):VW fl lo (.loop c) Q ρ H:=by
 refine⟨μ s+1,?_⟩
 have key:∀n s ρ H,μ s<n→I s ρ H→Sm (VW fl lo c) (fun x=>gh (Q x)) n ρ H:=by
  intro n
  induction n with
  | zero=>intro s ρ H h;omega
  |
   succ n ih =>
   intro s ρ H hn hI
   refine wA (pS (fun bC H' h => ?_) fun x ρ H h=>h) (round s ρ H hI)
   obtain⟨s',h1,h2 | ⟨h2,h3⟩⟩:=h
   ·exact .inl (ih s' _ _ (by omega) h2)
   ·exact .inr ⟨h2,ih s' _ _ (by omega) h3⟩
 exact key _ s ρ H (Nat.lt_succ_self _) h0
theorem aQ {α:Type} {c:aD} (I:α→dG→aA→Prop) (μ:α→Nat) (s:α) (h0:I s ρ H)
  (round:∀s ρ H,I s ρ H→VW fl lo c (mI (fun bC H'=>∃s',μ s'<μ s∧I s' bC H') Q) ρ H):VW fl lo (.loop c) Q ρ H :=
 QS I μ s h0 fun s ρ H h=>wA (pS (fun _ _ ⟨s',h1,h2⟩=>⟨s',h1,.inl h2⟩) fun _ _ _ h=>aiO h) (round s ρ H h)
theorem Ls {α:Type} {c:aD} (I:α→dG→aA→Prop) (μ:α→Nat) (s:α) (h0:I s ρ H)
  (round:∀s ρ H,I s ρ H→VW fl lo c (mI (fun bC H'=>∃s',μ s'<μ s∧iV H.length (H'.take H.length)=true∧I s' (HV H.length bC) (H'.take H.length)) Q) ρ H):VW fl lo (.loop c) Q ρ H :=
 QS I μ s h0 fun s ρ H h=>wA (pS (fun _ _ ⟨s',h1,h2⟩=>⟨s',h1,.inr h2⟩) fun _ _ _ h=>aiO h) (round s ρ H h)
theorem Ke {n:Nat} {v:VV} (h:below n v=true):Ip n v=v:=by
 unfold Ip
 rw[if_pos h]
mutual
theorem Fx {n:Nat} (v:VV) (h:aN v=true):below n v=true:=by
 cases v with
 | any=>rfl
 | sc=>rfl
 | agg cs=>exact lL cs h
 | eY cs=>exact lL cs h
 | tree es t=>exact lL es (Ic h).2.1
 | cV x o=>exact Fx x h
 | ref=>cases h
 | ptr=>cases h
 | tY f fN=>exact lL fN h
theorem lL {n:Nat} (vs:List VV) (h:aL vs=true):lD n vs=true:=by
 cases vs with
 | nil=>rfl
 |
  cons x xs =>
  simp only[aL,Bool.and_eq_true] at h
  simp only[lD,Fx x h.1,lL xs h.2,Bool.and_self]
end
end
end Go.PM
namespace Go.PM
def val (b:Nat):List Nat→Nat
 | []=>0
 | d::ds=>d+b*val b ds
def aC (b n:Nat):List Nat:=if h:n=0∨b<2 then [] else n % b::aC b (n / b)
termination_by n
decreasing_by exact Nat.div_lt_self (by omega) (by omega)
section
variable {b:Nat}
theorem bY:aC b 0=[]:=by rw[aC];simp
theorem iL (hb:2≤b) {n:Nat} (hn:n≠0):aC b n=n % b::aC b (n / b):=by rw[aC,dif_neg (by omega)]
theorem sE {d:Nat} {ds:List Nat}:val b (d::ds)=d+b*val b ds:=rfl
theorem wR (xs ys:List Nat):val b (xs++ys)=val b xs+b^xs.length*val b ys:=by
 induction xs with
 | nil=>simp[val]
 |
  cons x xs ih =>
  simp only[List.cons_append,sE,ih,List.length_cons,Nat.pow_succ]
  rw[Nat.mul_add,Nat.mul_comm (b^xs.length) b,Nat.mul_assoc,Nat.add_assoc]
theorem val_one (d:Nat):val b [d]=d:=by simp[val]
theorem rN (xs:List Nat) (d:Nat):val b (xs++[d])=val b xs+b^xs.length*d:=by rw[wR,val_one]
theorem qI (n:Nat):val b (List.replicate n 0)=0:=by
 induction n with
 | zero=>rfl
 | succ n ih=>simp[List.replicate_succ,val,ih]
theorem oI {xs:List Nat} (h:∀d∈xs,d<b):val b xs<b^xs.length:=by
 induction xs with
 | nil=>simp[val]
 |
  cons x xs ih =>
  have h1:=h x List.mem_cons_self
  have h2:=ih fun d hd=>h d (List.mem_cons_of_mem _ hd)
  simp only[sE,List.length_cons,Nat.pow_succ]
  have h3:b*(val b xs+1)≤b*b^xs.length:=Nat.mul_le_mul_left _ h2
  rw[Nat.mul_add,Nat.mul_one] at h3
  rw[Nat.mul_comm (b^xs.length) b]
  omega
theorem cE (hb:2≤b) (n:Nat):val b (aC b n)=n:=by
 induction n using Nat.strongRecOn with
 |
  _ n ih =>
  by_cases h:n=0
  ·subst h;rw[bY];rfl
  ·rw[iL hb h,sE,ih _ (Nat.div_lt_self (by omega) (by omega))]
   exact Nat.mod_add_div n b
theorem fB (hb:2≤b) (n:Nat):∀d∈aC b n,d<b:=by
 induction n using Nat.strongRecOn with
 |
  _ n ih =>
  by_cases h:n=0
  ·subst h;rw[bY];intro d hd;cases hd
  ·rw[iL hb h]
   intro d hd
   rcases List.mem_cons.1 hd with rfl | hd
   ·exact Nat.mod_lt _ (by omega)
   ·exact ih _ (Nat.div_lt_self (by omega) (by omega)) d hd
theorem kU (hb:2≤b) {n:Nat}:aC b n=[]↔n=0:=by
 constructor
 ·intro h
  have:=cE hb n
  rw[h] at this
  exact this.symm
 ·rintro rfl;exact bY
theorem Nw (hb:2≤b) (n:Nat):(aC b n).getLast? ≠ some 0:=by
 induction n using Nat.strongRecOn with
 |
  _ n ih =>
  by_cases h:n=0
  ·subst h;rw[bY];simp
  ·rw[iL hb h]
   have h1:=ih _ (Nat.div_lt_self (n:=n) (k:=b) (by omega) (by omega))
   by_cases h2:n / b=0
   ·rw[h2,bY]
    have:n<b:=by
     rcases Nat.div_eq_zero_iff.1 h2 with h | h<;>omega
    simp[Nat.mod_eq_of_lt this,h]
   ·have fC:aC b (n / b)≠[]:=fun h=>h2 ((kU hb).1 h)
    obtain⟨x,xs,hx⟩:=List.exists_cons_of_ne_nil fC
    rw[hx] at h1 ⊢
    rw[List.getLast?_cons_cons]
    exact h1
theorem Ma (hb:2≤b) {xs:List Nat} (h:∀d∈xs,d<b) (hl:xs.getLast? ≠ some 0):aC b (val b xs)=xs:=by
 induction xs with
 | nil=>exact bY
 |
  cons x xs ih =>
  have h1:=h x List.mem_cons_self
  have hr:(x+b*val b xs) % b=x:=by rw[Nat.add_mul_mod_self_left,Nat.mod_eq_of_lt h1]
  have hq:(x+b*val b xs) / b=val b xs:=by rw[Nat.add_mul_div_left _ _ (by omega),Nat.div_eq_of_lt h1,Nat.zero_add]
  cases xs with
  |
   nil =>
   have hx:x≠0:=by rintro rfl;simp at hl
   rw[val_one,iL hb hx,Nat.mod_eq_of_lt h1,Nat.div_eq_of_lt h1,bY]
  |
   cons y ys =>
   rw[List.getLast?_cons_cons] at hl
   have h2:=ih (fun d hd=>h d (List.mem_cons_of_mem _ hd)) hl
   have h3:val b (y::ys)≠0:=fun h0=>by rw[h0,bY] at h2;cases h2
   have h4:b*val b (y::ys)≠0:=Nat.mul_ne_zero (by omega) h3
   rw[sE,iL hb (by omega),hr,hq,h2]
theorem JR (hb:2≤b) {n:Nat} (hn:n≠0):b^((aC b n).length-1)≤n:=by
 induction n using Nat.strongRecOn with
 |
  _ n ih =>
  rw[iL hb hn]
  by_cases h2:n / b=0
  ·rw[h2,bY];simp;omega
  ·have h3:=ih _ (Nat.div_lt_self (by omega) (by omega)) h2
   have fC:aC b (n / b)≠[]:=fun h=>h2 ((kU hb).1 h)
   obtain⟨x,xs,hx⟩:=List.exists_cons_of_ne_nil fC
   rw[hx] at h3 ⊢
   simp only[List.length_cons,Nat.add_sub_cancel] at h3 ⊢
   rw[Nat.pow_succ]
   calc b^xs.length*b≤n / b*b:=Nat.mul_le_mul_right _ h3
    _≤n:=Nat.div_mul_le_self n b
theorem gE (hb:2≤b) (n:Nat):n<b^(aC b n).length:=by
 have:=oI (fB hb n)
 rwa [cE hb] at this
theorem lI (hb:2≤b) {n k:Nat} (h:n<b^k):(aC b n).length≤k:=by
 by_cases hn:n=0
 ·subst hn;rw[bY];simp
 ·have h1:=JR hb hn
  have h2:b^((aC b n).length-1)<b^k:=Nat.lt_of_le_of_lt h1 h
  have h3:(aC b n).length-1<k:=(Nat.pow_lt_pow_iff_right (by omega)).1 h2
  have fC:aC b n≠[]:=fun h=>hn ((kU hb).1 h)
  have:=List.length_pos_iff.2 fC
  omega
theorem dU (hb:2≤b) {m n:Nat} (h:m≤n):(aC b m).length≤(aC b n).length :=
 lI hb (Nat.lt_of_le_of_lt h (gE hb n))
theorem oL (xs:List Nat) (i:Nat):val b xs=val b (xs.take i)+b^(xs.take i).length*val b (xs.drop i):=by
 rw[←wR,List.take_append_drop]
theorem aV {xs:List Nat} {i d:Nat} (h:xs[i]? = some d):val b (xs.take (i+1))=val b (xs.take i)+b^i*d:=by
 have bA:=(List.getElem?_eq_some_iff.1 h).1
 rw[List.take_add_one,h]
 simp only[Option.toList_some]
 rw[rN,List.length_take,Nat.min_eq_left (by omega)]
theorem sL {xs:List Nat} {i d:Nat} (h:xs[i]? = some d):val b (xs.drop i)=d+b*val b (xs.drop (i+1)):=by
 obtain⟨bA,he⟩:=List.getElem?_eq_some_iff.1 h
 rw[List.drop_eq_getElem_cons bA,he,sE]
theorem Fh {P A B O c x y s q r W:Nat} (h:A+B=O+P*c) (hs:c+x+y=s) (hr:r+W*q=s):(A+P*x)+(B+P*y)=(O+P*r)+(P*W)*q:=by grind
theorem I2 {P A B O l x y r W l':Nat} (h:A+P*l=O+B) (hd:r+y+l=x+W*l'):(A+P*x)+(P*W)*l'=(O+P*r)+(B+P*y):=by grind
theorem aaV {xs:List Nat} {i d:Nat} (h:i<xs.length):(xs.set i d).take (i+1)=xs.take i++[d]:=by
 rw[List.set_eq_take_append_cons_drop,if_pos h,List.take_append]
 simp[List.take_take,Nat.min_eq_left (by omega:i≤xs.length),Nat.min_eq_right (by omega:i≤i+1)]
theorem eE {xs:List Nat} {i d:Nat} (h:i<xs.length):val b ((xs.set i d).take (i+1))=val b (xs.take i)+b^i*d:=by
 rw[aaV h,rN,List.length_take,Nat.min_eq_left (by omega)]
theorem lA {xs:List Nat} {i d:Nat} (h:∀x∈xs,x<b) (hd:d<b):∀x∈xs.set i d,x<b:=by
 intro x hx
 rcases List.mem_or_eq_of_mem_set hx with h1 | h1
 ·exact h x h1
 ·subst h1;exact hd
theorem iU {xs:List Nat} {i:Nat} (h:xs.length≤i):val b (xs.take i)=val b xs:=by rw[List.take_of_length_le h]
theorem zY (hb:0<b) (n:Nat):∀x∈List.replicate n 0,x<b:=by
 intro x hx
 rw[List.eq_of_mem_replicate hx]
 exact hb
theorem XC {P x y R t:Nat} (ht:t<P) (h:x<y):t+P*(x+R)<P*(y+R):=by
 have h1:P*(x+R+1)≤P*(y+R):=Nat.mul_le_mul_left _ (by omega)
 rw[Nat.mul_add,Nat.mul_one] at h1
 omega
theorem DU {xs ys:List Nat} {i x y:Nat} (hx:∀d∈xs,d<b) (hl:xs.length=ys.length) (hi:xs[i]? = some x) (hj:ys[i]? = some y) (hd:xs.drop (i+1)=ys.drop (i+1)) (h:x<y):val b xs<val b ys:=by
 have h1:=(List.getElem?_eq_some_iff.1 hi).1
 have ht:(xs.take i).length=i:=by simp;omega
 have ht':(ys.take i).length=i:=by simp;omega
 have h2:=oI (b:=b) (xs:=xs.take i) fun d hd=>hx d (List.mem_of_mem_take hd)
 rw[ht] at h2
 rw[oL xs i,oL ys i,ht,ht',sL hi,sL hj,hd]
 have:=XC (R:=b*val b (ys.drop (i+1))) h2 h
 omega
theorem R6 (hb:2≤b) {m n:Nat} (h:aC b m=aC b n):m=n:=by
 have:=congrArg (val b) h
 rwa [cE hb,cE hb] at this
def eZ (a b:Nat):Int:=if a<b then -1 else if a=b then 0 else 1
theorem DN (hb:2≤b) {m n:Nat} (h:(aC b m).length<(aC b n).length):m<n:=by
 rcases Nat.lt_or_ge m n with h1 | h1
 ·exact h1
 ·have:=dU hb h1
  omega
end
end Go.PM
namespace Go.PM
abbrev VI (n:Int):VV := .sc (.int .i64 n)
abbrev VK (k:IntKind) (n:Int):VV := .sc (.int k n)
abbrev VB (t:Bool):VV := .sc (.bool t)
abbrev aO {α:Type} (f:α→VV) (xs:List α):VV := .tree (xs.map f) .op
section
variable {α:Type} {f:α→VV} {xs ys:List α} {x:α} {t:TK} {H:aA} {size i:Nat} {k:IntKind}
theorem dQ:oC (.tree (xs.map f) t) H=some (VI xs.length):=by simp[oC]
theorem aI (hx:xs[i]? = some x) (hs:(aB (f x)).length=size):bH size (.tree (xs.map f) t) (VK k (i:Int)) H=some (.cV (f x) 0) :=
 Wx (by simp[hx]) hs
theorem RB (hs:∀x,(aB (f x)).length=size):∀y∈xs.map f,(aB y).length=size:=by
 intro y hy
 obtain⟨x,_,rfl⟩:=List.mem_map.1 hy
 exact hs x
theorem eR (hp:∀x,aN (f x)=true):aL (xs.map f)=true:=by
 rw[Ai]
 intro y hy
 obtain⟨x,_,rfl⟩:=List.mem_map.1 hy
 exact hp x
theorem aeL (hp:∀x,gZ (f x)=true):qZ (xs.map f)=true:=by
 rw[LD]
 intro y hy
 obtain⟨x,_,rfl⟩:=List.mem_map.1 hy
 exact hp x
theorem UP {size:Nat} (hs:∀x,(aB (f x)).length=size):uni (xs.map f)=true:=by
 cases xs with
 | nil=>rfl
 |
  cons x xs =>
  simp only[List.map_cons,uni,List.all_eq_true]
  intro y hy
  obtain⟨z,_,rfl⟩:=List.mem_map.1 hy
  simp[hs]
theorem jT {size:Nat} (hs:∀x,(aB (f x)).length=size) (hp:∀x,aN (f x)=true):aN (aO f xs)=true:=by
 simp only[aO,aN,eR hp,UP hs,decide_true,Bool.and_self]
theorem CJ {size:Nat} (hs:∀x,(aB (f x)).length=size) (hp:∀x,gZ (f x)=true) (he:∀x,zZ (f x)=true):gZ (aO f xs)=true:=by
 have h4:(xs.map f).all zZ=true:=by
  rw[List.all_eq_true]
  intro y hy
  obtain⟨z,_,rfl⟩:=List.mem_map.1 hy
  exact he z
 simp only[aO,gZ,aeL hp,UP hs,h4,decide_true,Bool.and_self]
theorem adW {es:List VV} {h:Nat} (fC:0<es.length) (hs:∀x∈es,(aB x).length=size) (hh:h≤es.length) {k2:IntKind} :
  Ej size (.tree es t) none (some (VK k2 h)) none H=some (.tree (es.take h) .op):=by
 cases es with
 | nil=>simp at fC
 |
  cons y ys =>
  have hy:=hs y List.mem_cons_self
  simp only[List.length_cons] at hh
  have e1:(0:Int)≤h∧(h:Int)≤((ys.length+1:Nat):Int):=by omega
  simp only[Ej,E2,hy,if_true,eH,e1,Int.toNat_natCast,Option.isSome_none,Bool.false_eq_true,false_and,if_false]
  simp
theorem Rj (h:0<xs.length):0<(xs.map f).length:=by simpa using h
theorem ZM {b g o n c:Nat} {es:List VV} {w:Bool} {l h:Nat} (hr:aH H b g=some (es,size,w)) (hl:l≤h) (hh:h≤c) {k1 k2:IntKind} :
  Ej size (.ref b g o n c) (some (VK k1 l)) (some (VK k2 h)) none H=some (.ref b g (o+l) (h-l) (c-l)):=by
 have e1:(0:Int)≤h∧(h:Int)≤(c:Int):=by omega
 have e2:(0:Int)≤l∧(l:Int)≤(h:Int):=by omega
 simp only[Ej,E2,hr,if_true,eH,e1,e2,Int.toNat_natCast,Option.isSome_none,Bool.false_eq_true,false_and,if_false]
 simp[hl]
theorem uG {b g o n c:Nat} {es:List VV} {w:Bool} {h:Nat} (hr:aH H b g=some (es,size,w)) (hh:h≤c) {k2:IntKind} :
  Ej size (.ref b g o n c) none (some (VK k2 h)) none H=some (.ref b g o h c):=by
 have e1:(0:Int)≤h∧(h:Int)≤(c:Int):=by omega
 simp only[Ej,E2,hr,if_true,eH,e1,Int.toNat_natCast,Option.isSome_none,Bool.false_eq_true,false_and,if_false]
 simp
theorem MZ {b g o n c:Nat} {es:List VV} {w:Bool} {l:Nat} (hr:aH H b g=some (es,size,w)) (hl:l≤n) (hn:n≤c) {k1:IntKind} :
  Ej size (.ref b g o n c) (some (VK k1 l)) none none H=some (.ref b g (o+l) (n-l) (c-l)):=by
 have e2:(0:Int)≤l∧(l:Int)≤(n:Int):=by omega
 simp only[Ej,E2,hr,if_true,eH,e2,Int.toNat_natCast,Option.isSome_none,Bool.false_eq_true,false_and,if_false]
 simp
theorem IX {h:Nat} (hs:∀x,(aB (f x)).length=size) (fC:0<xs.length) (hh:h≤xs.length) {k2:IntKind} :
  Ej size (.tree (xs.map f) t) none (some (VK k2 h)) none H=some (aO f (xs.take h)):=by
 rw[adW (Rj fC) (RB hs) (by simpa using hh)]
 simp[aO]
theorem Qy {b g e:Nat} {es:List VV} {w:Bool} {L K:aA} (h:b=L.length):aH (L ++ .row g es e w::K) b g=some (es,e,w):=by
 subst h
 simp[aH]
theorem aS {g e:Nat} {es:List VV} {w:Bool} {K:aA}:aH (.row g es e w::K) 0 g=some (es,e,w):=by simp[aH]
theorem kS {n:Nat}:(n=n+1)=False:=eq_false fun h=>by omega
theorem Zr {g g' e:Nat} {es:List VV} {w:Bool} {K:aA} (h:g'≠g):aH (.row g' es e w::K) 0 g=none:=by simp[aH,h]
theorem jB {g e:Nat} {es:List VV} {w:Bool} {K:aA}:aH (.row (g+1) es e w::K) 0 g=none:=Zr (Nat.succ_ne_self g)
theorem lB {b g:Nat} {x:bT} {K:aA}:aH (x::K) (b+1) g=aH K b g:=by simp[aH]
theorem aY {b g o n c e:Nat} {es:List VV} {w:Bool} (h:aH H b g=some (es,e,w)) (hi:i<n):bH e (.ref b g o n c) (VK k (i:Int)) H=some (.ptr b g (o+i) 0):=W5 h hi
theorem cF {b g j e lo:Nat} {es:List VV} {v:VV} (h:aH H b g=some (es,e,true)) (hj:j<es.length) (eQ:lo≤b) (hv:(aB v).length=e) (hs:(aB v).all bP=true):bX lo e (.ptr b g j 0) v H=some (H.set b (.row g (es.set j v) e true)):=by
 obtain⟨x,hx⟩:∃x,es[j]? = some x:=⟨_,List.getElem?_eq_getElem hj⟩
 simp only[bX,h,hx]
 rw[if_pos ⟨hv,eQ,hs⟩,if_pos ⟨trivial,trivial⟩]
theorem qV {z:List Value} {bytes n:Nat} (hz:elemOf (z.map iY)=f x) (hn:n*bytes≤281474976710656) (hm:n≤9223372036854775807):AB z bytes (VI n) (VI n) H=some (.ref H.length 0 0 n n,H++[.row 0 ((List.replicate n x).map f) z.length true]):=by
 simp only[AB]
 rw[if_pos ⟨by omega,by omega,by omega,by omega⟩,hz]
 simp
theorem oP {ag w:Bool} {b gn e j o:Nat} (h:aH H b gn=some (xs.map f,e,w)) (hx:xs[j]? = some x):cI ag size (.ptr b gn j o) H=dA ag size (f x) o :=
 O4 h (by simp[hx])
theorem fF {b g j e lo:Nat} (h:aH H b g=some (xs.map f,e,true)) (hj:j<xs.length) (eQ:lo≤b) (hv:(aB (f x)).length=e) (hs:(aB (f x)).all bP=true):bX lo e (.ptr b g j 0) (f x) H=some (H.set b (.row g ((xs.set j x).map f) e true)):=by
 rw[cF h (by simpa using hj) eQ hv hs,List.map_set]
theorem PN {b gn n c e:Nat} {es:List VV} {w:Bool} (h:aH H b gn=some (es,e,w)) (hn:n≤es.length) (hc:n≤c) (hp:aL es=true):fz depth H (.ref b gn 0 n c)=some (.tree (es.take n) .op):=by
 have:aN (.ref b gn 0 n c)=false:=rfl
 show fz (7+1) H _=_
 unfold fz
 simp only[this,h,Bool.false_eq_true,if_false]
 have Cj:aL (es.take n)=true:=Ai.2 fun x hx=>Ai.1 hp x (List.mem_of_mem_take hx)
 rw[if_pos ⟨by omega,hc⟩,List.drop_zero,mapM_pure Cj]
 rfl
theorem TC.flat {fn:Nat} {args hC:List VV} {r:VV} (h:TC fn hC r) (sT:AN.contains fn=false) (ha':aL hC=true) (hf:args.mapM (fz depth H)=some hC) (hr:J3 r=true) :
  ∀(lo:Nat) (K:VV→aA→Prop),cT fn args lo H K=K r H:=by
 intro lo K
 cases hp:aL args with
 |
  true =>
  have:=mapM_pure (n:=7) (H:=H) hp
  rw[show fz depth H=fz (7+1) H from rfl,this] at hf
  cases hf
  exact h lo H K
 | false=>rw[h.CP sT ha' hf hp,hr,if_pos rfl]
theorem Za {v v':VV} (h:fz depth H v=some v'):[v].mapM (fz depth H)=some [v']:=by rw[List.mapM_cons,h];rfl
theorem fz2 {v v' u u':VV} (h:fz depth H v=some v') (hu:fz depth H u=some u'):[v,u].mapM (fz depth H)=some [v',u']:=by rw[List.mapM_cons,h,Za hu];rfl
theorem TC.agM {fn b gn n c e size:Nat} {w:Bool} {r:VV} (h:TC fn [aO f xs] r) (hr:aH H b gn=some (xs.map f,e,w)) (hn:n=xs.length) (hc:n≤c) (hs:∀x,(aB (f x)).length=size) (hp:∀x,aN (f x)=true) (sT:AN.contains fn=false) (hf:J3 r=false) :
  ∀(lo:Nat) (K:VV→aA→Prop),cT fn [.ref b gn 0 n c] lo H K=K r (cY H [b]):=by
 intro lo K
 have e1:fz depth H (.ref b gn 0 n c)=some (aO f xs):=Fb hr (by simpa using hn) hc (eR hp)
 have e2:gP depth H (.ref b gn 0 n c)=[b]:=N1 hr (by simpa using hn) (eR hp)
 have e3:[VV.ref b gn 0 n c].mapM (fz depth H)=some [aO f xs]:=by rw[List.mapM_cons,e1];rfl
 rw[h.CP sT (by simp only[aL,jT hs hp,Bool.and_self]) e3 rfl,hf]
 simp only[Bool.false_eq_true,if_false,List.flatMap_cons,List.flatMap_nil,e2,List.append_nil]
theorem aiG {es:List VV} {e:Nat} (hp:aL es=true):fz depth H (.tree es (.cl e))=some (.tree es .op):=by
 show fz (7+1) H _=_
 unfold fz
 have:aN (.tree es (.cl e))=false:=by simp[aN]
 simp only[this,Bool.false_eq_true,if_false,mapM_pure hp]
 rfl
theorem Zk {es:List VV} {e:Nat} (hp:aL es=true):gP depth H (.tree es (.cl e))=[]:=by
 show gP (7+1) H _=_
 unfold gP
 have:aN (.tree es (.cl e))=false:=by simp[aN]
 simp only[this,Bool.false_eq_true,if_false,vP hp]
theorem LU:fz depth H (.tree [] .nil)=some (.tree [] .op):=by
 show fz (7+1) H _=_
 unfold fz
 have:aN (.tree [] .nil)=false:=by simp[aN]
 simp only[this,Bool.false_eq_true,if_false]
 rfl
theorem TC.args {fn:Nat} {args hC:List VV} {r:VV} (h:TC fn hC r) (sT:AN.contains fn=false) (ha':aL hC=true) (hf:args.mapM (fz depth H)=some hC) (hi:args.flatMap (gP depth H)=[]) :
  ∀(lo:Nat) (K:VV→aA→Prop),cT fn args lo H K=K r H:=by
 intro lo K
 cases hp:aL args with
 |
  true =>
  have:=mapM_pure (n:=7) (H:=H) hp
  rw[show fz depth H=fz (7+1) H from rfl,this] at hf
  cases hf
  exact h lo H K
 |
  false =>
  rw[h.CP sT ha' hf hp,hi]
  split<;>rfl
theorem kA {lr:Bool} {z:List Value} (hz:(z.map iY).all bP=true):mF lr z 0 [] H=some (.ref H.length 0 0 0 0,H++[.row 0 [] z.length true]):=by
 simp[mF,vV,hz]
theorem iJ {z:List Value} {v:VV} (hz:(z.map iY).all bP=true) (hv:(aB v).length=z.length) (hs:(aB v).all bP=true):mF false z 1 [(0,v)] H=some (.tree [v] (.cl z.length),H):=by
 simp only[mF,vV,List.replicate_succ,List.replicate_zero,List.length_cons,List.length_nil,hv,hs,and_self,if_true,List.set_cons_zero,hz]
 simp[hs]
theorem Z6 {z:List Value} {u v:VV} (hz:(z.map iY).all bP=true) (hu:(aB u).length=z.length) (hus:(aB u).all bP=true) (hv:(aB v).length=z.length) (hs:(aB v).all bP=true):mF false z 2 [(0,u),(1,v)] H=some (.tree [u,v] (.cl z.length),H):=by
 simp[mF,vV,hv,hs,hu,hus,hz,List.replicate_succ]
end
theorem wrap32 (n:Nat):IntKind.u32.wrap (n:Int)=((n % 4294967296:Nat):Int):=by rw[IntKind.wrap_u32];omega
theorem wrap_u64 (n:Int):IntKind.u64.wrap n=n % 18446744073709551616:=by simp[IntKind.wrap,IntKind.bits,IntKind.signed]
theorem dT (n:Nat) (h:n<18446744073709551616):IntKind.u64.wrap (n:Int)=(n:Int):=by rw[wrap_u64];omega
theorem wrapN {x:Int} (n:Nat) (h:x=n) (hn:n≤9223372036854775807):IntKind.i64.wrap x=(n:Int):=by subst h;exact wrap64 (by omega) (by omega)
theorem nC (n:Nat) (k:IntKind):dB .shr (.int .u64 (n:Int)) (.int k 32)=some (.int .u64 ((n / 4294967296:Nat):Int)):=by
 simp only[dB]
 have h1:¬((32:Int)<0):=by decide
 have h2:Nat.min (Int.toNat 32) IntKind.u64.bits=32:=by decide
 rw[if_neg h1,h2]
 congr 2
 rw[Int.fdiv_eq_ediv_of_nonneg _ (by decide)]
 omega
theorem DO (n:Nat) (k:IntKind) (h:n<4294967296):dB .shl (.int .u64 (n:Int)) (.int k 32)=some (.int .u64 ((n*4294967296:Nat):Int)):=by
 simp only[dB]
 have h1:¬((32:Int)<0):=by decide
 have h2:Nat.min (Int.toNat 32) IntKind.u64.bits=32:=by decide
 rw[if_neg h1,h2]
 congr 2
 have:(n:Int)*2^32=((n*4294967296:Nat):Int):=by omega
 rw[this]
 exact dT _ (by omega)
section
variable {n k g:Nat} {K:aA} {x y:bT}
theorem BD:aH (List.replicate n bT.dead++K) n g=aH K 0 g:=by
 unfold aH
 rw[List.getElem?_append_right (by simp)]
 simp
theorem Dz:aH (List.replicate n bT.dead++K) (n+k) g=aH K k g:=by
 unfold aH
 rw[List.getElem?_append_right (by simp)]
 simp
theorem Bt:(List.replicate n bT.dead++K).set n y=List.replicate n bT.dead++K.set 0 y:=by
 rw[List.set_append_right _ _ (by simp)]
 simp
theorem Tf:(List.replicate n bT.dead++K).set (n+k) y=List.replicate n bT.dead++K.set k y:=by
 rw[List.set_append_right _ _ (by simp)]
 simp
theorem B3:(List.replicate n bT.dead++K).length=n+K.length:=by simp
theorem aeC:iV k (List.replicate n bT.dead++K)=iV k K:=by
 induction n with
 | zero=>rfl
 | succ n ih=>rw[List.replicate_succ,List.cons_append,←ih];rfl
end
theorem Ax {k g e:Nat} {es:List VV} {w:Bool} {K:aA} (h:lD k es=true):iV k (.row g es e w::K)=iV k K:=by
 unfold iV
 rw[List.all_cons]
 simp only[h,Bool.true_and]
theorem Hs {k:Nat}:iV k []=true:=rfl
theorem fK {size:Nat} {v:VV} {t:TK} {H:aA} (h:(aB v).length=size) (hs:(aB v).all bP=true):cW size (.tree [v] t) H=some [v]:=by
 simp[cW,h,hs]
theorem gY {α:Type} {f:α→VV} {xs:List α} {x:α} {lo b g n e bytes:Nat} {H:aA} (h:aH H b g=some (xs.map f,e,true)) (hn:n=xs.length) (eQ:lo≤b) (he:1≤e) (hb:1≤bytes) (Ck:(n+1)*bytes≤140737488355328) :
  eO lo e bytes (.ref b g 0 n n) [f x] H=some (.ref b (g+1) 0 (n+1) (n+1),H.set b (.row (g+1) ((xs++[x]).map f) e true)):=by
 subst hn
 simp only[eO,h,List.length_cons,List.length_nil,Nat.zero_add]
 rw[if_pos ⟨hb,he⟩,if_pos ⟨trivial,eQ,by simp⟩,if_neg (by omega),if_pos Ck,List.drop_zero,List.take_of_length_le (by simp)]
 simp
section
variable {H:aA} {b g o n c j lo size:Nat} {neg ag:Bool} {k:IntKind} {i:Int} {v:VV}
theorem cD:cI ag size (.ptr b g j o) H=(match aH H b g with
 |
  some (es,_,_)=>match es[j]? with
  | some x=>dA ag size x o
  | none=>none
 | none=>none):=rfl
theorem Iv:bX lo size (.ptr b g j o) v H=(match aH H b g with
 |
  some (es,e,true)=>match es[j]? with
  |
   some x =>
   if (aB v).length=size∧lo≤b∧(aB v).all bP then
    if o=0∧size=e then some (H.set b (.row g (es.set j v) e true))
    else if 2≤e∧o+size≤e then some (H.set b (.row g (es.set j (.agg (cR (aB x) o (aB v)))) e true))
    else none
   else none
  | none=>none
 | _=>none):=rfl
theorem N4:oC (.ref b g o n c) H=(aH H b g).map fun _ => .sc (.int .i64 n):=rfl
theorem zN:Hn size (.ptr b g j o) H=(aH H b g).map fun _ => .ptr b g j (o+size):=rfl
theorem M6:WL (.ptr b g j o) H=(aH H b g).map fun _ => .ptr b g j o:=rfl
theorem IB:ET neg (.ref b g o n c) H=(aH H b g).map fun _ => .sc (.bool (false != neg)):=rfl
theorem Ki:ET neg (.tree [] .nil) H=some (.sc (.bool (true != neg))):=rfl
theorem Jc {x:VV} {xs:List VV} {t:TK}:ET neg (.tree (x::xs) t) H=some (.sc (.bool (false != neg))):=rfl
theorem II:bH size (.ref b g o n c) (.sc (.int k i)) H=(match aH H b g with
 | some (_,e,_)=>if e=size∧0≤i∧i<n then some (.ptr b g (o+i.toNat) 0) else none
 | none=>none):=rfl
end
theorem FV {v:Value}:isAny (.sc v)=false:=rfl
theorem Bw {es:List VV} {t:TK}:isAny (.tree es t)=false:=rfl
theorem Dy {b g o n c:Nat}:isAny (.ref b g o n c)=false:=rfl
theorem DE {cs:List VV}:isAny (.agg cs)=false:=rfl
theorem NB {f:Nat} {cs:List VV}:isAny (.tY f cs)=false:=rfl
theorem eV {x:VV}:elemOf [x]=x:=rfl
theorem Ba {x y:VV} {cs:List VV}:elemOf (x::y::cs) = .agg (x::y::cs):=rfl
theorem tJ {k t:Nat} {ρ:dG}:HV k ρ t=Ip k (ρ t):=rfl
theorem KD {k:Nat} {v:Value}:Ip k (.sc v) = .sc v:=rfl
theorem Ay {k:Nat} {v:VV} (h:aN v=true):Ip k v=v:=Ke (Fx v h)
theorem HG {k b g o n c:Nat} (h:b<k):Ip k (.ref b g o n c) = .ref b g o n c:=Ke (by simp[below,h])
theorem Sn {v:Value}:bP (.sc v)=true:=rfl
theorem Kw {es:List VV} {t:TK}:bP (.tree es t)=true:=rfl
theorem Oh {b g o n c:Nat}:bP (.ref b g o n c)=true:=rfl
theorem M8 {b g o n:Nat}:bP (.ptr b g o n)=true:=rfl
theorem KY {x:VV} {o:Nat}:bP (.cV x o)=true:=rfl
theorem Nl {f:Nat} {cs:List VV}:bP (.tY f cs)=true:=rfl
theorem Nf {v:Value}:aB (.sc v)=[.sc v]:=rfl
theorem Fu {cs:List VV}:aB (.agg cs)=cs:=rfl
theorem IW {es:List VV} {t:TK}:aB (.tree es t)=[.tree es t]:=rfl
theorem Kg {b g o n c:Nat}:aB (.ref b g o n c)=[.ref b g o n c]:=rfl
theorem Rc {k k':IntKind} {n:Int}:S3 k (.int k' n)=some (.int k (k.wrap n)):=rfl
theorem Ov {args:List VV} {t:Nat}:ID args t=args.getD t pB:=rfl
theorem aoA {n:Nat}:LT n = .tmp n:=rfl
theorem arS {n:Int}:LI n = .const (.int .i64 n):=rfl
theorem arG:LG = .const (.bool true):=rfl
theorem arX:LF = .const (.bool false):=rfl
theorem aqQ {n:Nat}:LL n = .load false 1 (.tmp n):=rfl
theorem apX {n:Nat}:LK n = .load true 3 (.tmp n):=rfl
theorem arW {n k:Nat}:LX n k = .ext (.tmp n) k:=rfl
theorem aqP {k n:Nat}:LA k n = .faddr k (.tmp n):=rfl
theorem arR {d:Nat} {p:mV}:LO d p=⟨some d,p,none,false,[]⟩:=rfl
theorem arJ {d:Nat} {p:mV}:LQ d p=⟨some d,p,none,true,[]⟩:=rfl
theorem aoJ {p:mV}:LN p=⟨none,p,none,false,[]⟩:=rfl
theorem arN {d s:Nat}:LM d s=⟨some d,.mv (.tmp s),none,false,[]⟩:=rfl
theorem arQ {g d:Nat} {p:mV}:LY g d p=⟨some d,p,some (g,true),false,[]⟩:=rfl
theorem aoM {g d:Nat} {p:mV}:LZ g d p=⟨some d,p,some (g,false),false,[]⟩:=rfl
theorem aoC {l:List PI} {c:aD}:LS l c = .seq (.dH l) c:=rfl
theorem VX:type_of% (
 And.intro @abZ<|And.intro @acM<|And.intro @RU<|And.intro @Vq<|And.intro @U0<|And.intro @Zm<|And.intro @Vx <|
 And.intro @Rr<|And.intro @B0<|And.intro @EB<|And.intro @GG<|And.intro @EN<|And.intro @Dd <|
 And.intro @K5<|And.intro @Gw<|And.intro @N7<|And.intro @J5<|And.intro @Rv<|And.intro @Rp <|
 And.intro @KB<|And.intro @Of<|And.intro @ZL<|And.intro @ahF<|And.intro @Z5<|And.intro @aiV<|And.intro @IM <|
 And.intro @ZY<|And.intro @Re<|And.intro @V8<|And.intro @Ve<|And.intro @Np<|And.intro @M4<|And.intro @Zl <|
 And.intro @UU<|And.intro @VH<|And.intro @Va<|And.intro @VP<|And.intro @Nj<|And.intro @Wl<|And.intro @NV <|
 And.intro @Ol<|And.intro @R2<|And.intro @PZ<|And.intro @Qm<|And.intro @U9<|And.intro @R4<|And.intro @UW <|
 And.intro @VY<|And.intro @Sq<|And.intro @Wh<|And.intro @U4<|And.intro @Vg<|And.intro @QT<|And.intro @UK <|
 And.intro @N3<|And.intro @UG<|And.intro @Qb<|And.intro @NP<|And.intro @Qe<|And.intro @Nx <|
 And.intro @BF<|And.intro @Oa<|And.intro @Qi<|And.intro @N9<|And.intro @Mh<|And.intro @ND <|
 And.intro @uE<|And.intro @NS<|And.intro @V5<|And.intro @Nn<|And.intro @Sa<|And.intro @Vi<|And.intro @Rw <|
 And.intro @UO<|And.intro @VN<|And.intro @VZ<|And.intro @RF<|And.intro @NY<|And.intro @Q8<|And.intro @Q4 <|
 And.intro @Wi<|And.intro @Vh<|And.intro @Rk<|And.intro @Rs<|And.intro @Nb<|And.intro @Rh<|And.intro @aaR <|
 And.intro @JV<|And.intro @YI<|And.intro @Vc<|And.intro @acO<|And.intro @acR<|And.intro @Pk<|And.intro @Zp <|
 And.intro @List.length_map.{0,0}<|And.intro @List.all_cons.{0}<|And.intro @List.all_nil.{0}<|And.intro @Sn<|And.intro @Bool.and_self <|
 And.intro @Bool.and_true<|And.intro @Rc<|And.intro @V9<|And.intro @US<|And.intro @QF<|And.intro @Sl <|
 And.intro @RY<|And.intro @Rx<|And.intro @QI<|And.intro @RN<|And.intro @Sc<|And.intro @Q6<|And.intro @Sb <|
 And.intro @UQ<|And.intro @Wm<|And.intro @Value.bool.injEq<|And.intro @decide_eq_true_eq<|And.intro @decide_eq_false_iff_not <|
 And.intro @Bool.not_true<|And.intro @Bool.not_false<|And.intro @decide_true<|And.intro @decide_false<|And.intro @Bool.not_eq_true' <|
 And.intro @Bool.not_eq_false'<|And.intro @Bool.false_eq_true<|And.intro @false_and<|And.intro @and_false<|And.intro @Option.map_some.{0,0} <|
 And.intro @Option.map_none.{0,0}<|And.intro @if_true.{1}<|And.intro @if_false.{1}<|And.intro @List.map_cons.{0,0}<|And.intro @List.map_nil.{0,0} <|
 And.intro @List.cons_append.{0}<|And.intro @List.nil_append.{0}<|And.intro @and_true<|And.intro @true_and<|And.intro @Nat.zero_add <|
 And.intro @Nat.add_zero<|And.intro @List.length_cons.{0}<|And.intro @List.length_nil.{0}<|And.intro @Ov<|And.intro @List.getD_cons_zero.{0} <|
 And.intro @List.getD_cons_succ.{0}<|And.intro @List.getD_nil.{0}<|And.intro @VV.sc.injEq<|And.intro @List.getElem?_cons_zero.{0} <|
 And.intro @List.getElem?_cons_succ.{0}<|And.intro @Kw<|And.intro @Oh<|And.intro @M8<|And.intro @KY <|
 And.intro @Nl<|And.intro @Nf<|And.intro @Fu<|And.intro @IW<|And.intro @Kg<|And.intro @aoA<|And.intro @arS <|
 And.intro @arG<|And.intro @arX<|And.intro @aqQ<|And.intro @apX<|And.intro @arW<|And.intro @aqP<|And.intro @arR<|And.intro @arJ <|
 And.intro @aoJ<|And.intro @arN<|And.intro @arQ<|And.intro @aoM <| @aoC) :=
 And.intro @abZ<|And.intro @acM<|And.intro @RU<|And.intro @Vq<|And.intro @U0<|And.intro @Zm<|And.intro @Vx <|
 And.intro @Rr<|And.intro @B0<|And.intro @EB<|And.intro @GG<|And.intro @EN<|And.intro @Dd <|
 And.intro @K5<|And.intro @Gw<|And.intro @N7<|And.intro @J5<|And.intro @Rv<|And.intro @Rp <|
 And.intro @KB<|And.intro @Of<|And.intro @ZL<|And.intro @ahF<|And.intro @Z5<|And.intro @aiV<|And.intro @IM <|
 And.intro @ZY<|And.intro @Re<|And.intro @V8<|And.intro @Ve<|And.intro @Np<|And.intro @M4<|And.intro @Zl <|
 And.intro @UU<|And.intro @VH<|And.intro @Va<|And.intro @VP<|And.intro @Nj<|And.intro @Wl<|And.intro @NV <|
 And.intro @Ol<|And.intro @R2<|And.intro @PZ<|And.intro @Qm<|And.intro @U9<|And.intro @R4<|And.intro @UW <|
 And.intro @VY<|And.intro @Sq<|And.intro @Wh<|And.intro @U4<|And.intro @Vg<|And.intro @QT<|And.intro @UK <|
 And.intro @N3<|And.intro @UG<|And.intro @Qb<|And.intro @NP<|And.intro @Qe<|And.intro @Nx <|
 And.intro @BF<|And.intro @Oa<|And.intro @Qi<|And.intro @N9<|And.intro @Mh<|And.intro @ND <|
 And.intro @uE<|And.intro @NS<|And.intro @V5<|And.intro @Nn<|And.intro @Sa<|And.intro @Vi<|And.intro @Rw <|
 And.intro @UO<|And.intro @VN<|And.intro @VZ<|And.intro @RF<|And.intro @NY<|And.intro @Q8<|And.intro @Q4 <|
 And.intro @Wi<|And.intro @Vh<|And.intro @Rk<|And.intro @Rs<|And.intro @Nb<|And.intro @Rh<|And.intro @aaR <|
 And.intro @JV<|And.intro @YI<|And.intro @Vc<|And.intro @acO<|And.intro @acR<|And.intro @Pk<|And.intro @Zp <|
 And.intro @List.length_map.{0,0}<|And.intro @List.all_cons.{0}<|And.intro @List.all_nil.{0}<|And.intro @Sn<|And.intro @Bool.and_self <|
 And.intro @Bool.and_true<|And.intro @Rc<|And.intro @V9<|And.intro @US<|And.intro @QF<|And.intro @Sl <|
 And.intro @RY<|And.intro @Rx<|And.intro @QI<|And.intro @RN<|And.intro @Sc<|And.intro @Q6<|And.intro @Sb <|
 And.intro @UQ<|And.intro @Wm<|And.intro @Value.bool.injEq<|And.intro @decide_eq_true_eq<|And.intro @decide_eq_false_iff_not <|
 And.intro @Bool.not_true<|And.intro @Bool.not_false<|And.intro @decide_true<|And.intro @decide_false<|And.intro @Bool.not_eq_true' <|
 And.intro @Bool.not_eq_false'<|And.intro @Bool.false_eq_true<|And.intro @false_and<|And.intro @and_false<|And.intro @Option.map_some.{0,0} <|
 And.intro @Option.map_none.{0,0}<|And.intro @if_true.{1}<|And.intro @if_false.{1}<|And.intro @List.map_cons.{0,0}<|And.intro @List.map_nil.{0,0} <|
 And.intro @List.cons_append.{0}<|And.intro @List.nil_append.{0}<|And.intro @and_true<|And.intro @true_and<|And.intro @Nat.zero_add <|
 And.intro @Nat.add_zero<|And.intro @List.length_cons.{0}<|And.intro @List.length_nil.{0}<|And.intro @Ov<|And.intro @List.getD_cons_zero.{0} <|
 And.intro @List.getD_cons_succ.{0}<|And.intro @List.getD_nil.{0}<|And.intro @VV.sc.injEq<|And.intro @List.getElem?_cons_zero.{0} <|
 And.intro @List.getElem?_cons_succ.{0}<|And.intro @Kw<|And.intro @Oh<|And.intro @M8<|And.intro @KY <|
 And.intro @Nl<|And.intro @Nf<|And.intro @Fu<|And.intro @IW<|And.intro @Kg<|And.intro @aoA<|And.intro @arS <|
 And.intro @arG<|And.intro @arX<|And.intro @aqQ<|And.intro @apX<|And.intro @arW<|And.intro @aqP<|And.intro @arR<|And.intro @arJ <|
 And.intro @aoJ<|And.intro @arN<|And.intro @arQ<|And.intro @aoM <| @aoC
theorem kQ:type_of% (
 And.intro @cD<|And.intro @Iv<|And.intro @II<|And.intro @N4<|And.intro @zN<|And.intro @M6 <|
 And.intro @IB<|And.intro @Ki<|And.intro @Jc<|And.intro @aS<|And.intro @lB<|And.intro @List.set_cons_zero.{0} <|
 And.intro @List.set_cons_succ.{0}<|And.intro @eV<|And.intro @Ba<|And.intro @nB.eq_1<|And.intro @qG.eq_1 <|
 And.intro @qG.eq_2<|And.intro @EG.eq_1<|And.intro @EG.eq_2<|And.intro @wP.eq_1<|And.intro @wP.eq_2<|And.intro @FV <|
 And.intro @Bw<|And.intro @Dy<|And.intro @DE<|And.intro @NB<|And.intro @List.take_zero.{0} <|
 And.intro @List.take_succ_cons.{0}<|And.intro @List.take_nil.{0}<|And.intro @List.drop_zero.{0}<|And.intro @List.drop_succ_cons.{0} <|
 And.intro @List.drop_nil.{0}<|And.intro @List.append_nil.{0}<|And.intro @Nat.le_refl<|And.intro @cR.eq_1<|And.intro @Int.toNat_natCast <|
 And.intro @eq_self.{1}<|And.intro @ge_iff_le.{0} <| @Bool.and_eq_true) :=
 And.intro @cD<|And.intro @Iv<|And.intro @II<|And.intro @N4<|And.intro @zN<|And.intro @M6 <|
 And.intro @IB<|And.intro @Ki<|And.intro @Jc<|And.intro @aS<|And.intro @lB<|And.intro @List.set_cons_zero.{0} <|
 And.intro @List.set_cons_succ.{0}<|And.intro @eV<|And.intro @Ba<|And.intro @nB.eq_1<|And.intro @qG.eq_1 <|
 And.intro @qG.eq_2<|And.intro @EG.eq_1<|And.intro @EG.eq_2<|And.intro @wP.eq_1<|And.intro @wP.eq_2<|And.intro @FV <|
 And.intro @Bw<|And.intro @Dy<|And.intro @DE<|And.intro @NB<|And.intro @List.take_zero.{0} <|
 And.intro @List.take_succ_cons.{0}<|And.intro @List.take_nil.{0}<|And.intro @List.drop_zero.{0}<|And.intro @List.drop_succ_cons.{0} <|
 And.intro @List.drop_nil.{0}<|And.intro @List.append_nil.{0}<|And.intro @Nat.le_refl<|And.intro @cR.eq_1<|And.intro @Int.toNat_natCast <|
 And.intro @eq_self.{1}<|And.intro @ge_iff_le.{0} <| @Bool.and_eq_true
end Go.PM
namespace Go.PM
theorem TC.vt {f:Nat} {args:List VV} {r:VV} (h:TC f args r) (sT:AN.contains f=false) (hp:aL args=true):VT f args r:=by
 have h1:=h 0 [] fun x _=>x=r
 unfold cT at h1
 simp only[sT,hp,Bool.false_eq_true,if_false,if_true] at h1
 have h2:F0 f args fun x=>x=r:=by rw[h1];trivial
 unfold F0 tk at h2
 split at h2
 ·rename_i x hx
  rw[←h2]
  exact(Pv hx).2.2
 ·exact h2.elim
theorem TC.yes {f:Nat} {args:List VV} {dY:List Value} {H:aE} (h:TC f args (.sc (.bool true))) (sT:AN.contains f=false) (hp:aL args=true) (hl:VL (bare (· < H.length) H) args dY) :
  ∃v H',qO f dY H.length H=some (v,H')∧v = .bool true:=by
 obtain⟨P',pv,h1,_,h2⟩:=h.vt sT hp (· < H.length) H dY H.length (fun _ h=>h) hl (Nat.le_refl _)
 cases h2
 exact⟨_,P',h1,rfl⟩
theorem VR.grow {H L:aE} {x:VV} {v:Value} (h:VR (bare (· < H.length) H) x v):VR (bare (· < (H++L).length) (H++L)) x v :=
 h.Dh fun b hb=>⟨by show b<_;rw[List.length_append];omega,List.getElem?_append_left hb⟩
end Go.PM
namespace Go.PM
mutual
def eT (n:Nat):VV→Bool
 | .any=>false
 | .sc v=>kE v
 | .agg cs=>nP n cs
 | .eY vs=>nP n vs
 | .tree es k=>es.isEmpty&&decide (k = .nil)
 | .cV _ _=>false
 | .ref b _ _ _ _=>decide (n≤b)
 | .ptr b _ _ _=>decide (n≤b)
 | .tY _ _=>false
def nP (n:Nat):List VV→Bool
 | []=>true
 | x::xs=>eT n x&&nP n xs
end
theorem Dg {n:Nat} {es:List VV}:nP n es=true↔∀x∈es,eT n x=true:=by
 induction es with
 | nil=>simp[nP]
 | cons x xs ih=>simp[nP,ih]
theorem WT {n:Nat} {es:List VV} (h:nP n es=true):nP n (es.flatMap aB)=true:=by
 rw[Dg] at h ⊢
 intro x hx
 obtain⟨y,hy,Ag⟩:=List.mem_flatMap.1 hx
 have:=h y hy
 unfold aB at Ag
 split at Ag
 ·exact Dg.1 (by simpa[eT] using this) x Ag
 ·rw[List.mem_singleton] at Ag;subst Ag;exact this
def dL (n:Nat) (L:aA):Bool:=L.all fun
 | .row _ es _ _=>nP n es
 | .dead=>true
theorem VR.own {V V':View} {k0:Nat} (PW:∀q,V.base≤q∧q<V.P.length→V'.base≤q∧q<V'.P.length∧∀b' g' es e w,b'<k0→V'.H[b']? = some (.row g' es e w)→V'.m b'≠q) (hl:V.H.length≤V'.H.length) (hH:∀b,k0≤b→V'.H[b]? = V.H[b]?) (hm:∀b,k0≤b→V'.m b=V.m b) {x:VV} {v:Value} (h:VR V x v):eT k0 x=true→VR V' x v:=by
 induction h using VR.rec (motive_2:=fun xs vs _=>nP k0 xs=true→VL V' xs vs) with
 | any=>intro hx;cases hx
 | sc _ h=>intro _;exact .sc _ h
 | agg cs ps _ ih=>intro hx;exact .agg _ _ (ih hx)
 | eY cs ps _ ih=>intro hx;exact .eY _ _ (ih hx)
 | nR k hk=>intro _;exact .nR k hk
 |
  tree es k b o c r e p hF hb ho hc he hk _ _ =>
  intro hx
  simp only[eT,Bool.and_eq_true,decide_eq_true_eq] at hx
  obtain⟨_,rfl⟩:=hx
  exact hk.elim
 | cV=>intro hx;cases hx
 |
  ref b g o n c a n' c' bA hg ha hq =>
  intro hx
  have hb:k0≤b:=by simpa[eT] using hx
  exact .ref b g o n c a n' c' (Nat.lt_of_lt_of_le bA hl) (fun g' es e w hr=>hg g' es e w (by rw[←hH b hb];exact hr)) (fun es e w hr=>by rw[hm b hb];exact ha es e w (by rw[←hH b hb];exact hr)) fun a0 h=>by
   obtain⟨q1,q2,q3⟩:=hq a0 h
   obtain⟨q4,q5,q6⟩:=PW _ ⟨q1,q2⟩
   refine⟨q4,q5,fun b' g' es e w hr fC => ?_⟩
   rcases Nat.lt_or_ge b' k0 with J9 | Ch
   ·exact q6 b' g' es e w J9 hr
   ·rw[hm b' Ch]
    exact q3 b' g' es e w (by rw[←hH b' Ch];exact hr) fC
 |
  ptr b g j off a bA hg ha hq =>
  intro hx
  have hb:k0≤b:=by simpa[eT] using hx
  exact .ptr b g j off a (Nat.lt_of_lt_of_le bA hl) (fun g' es e w hr=>hg g' es e w (by rw[←hH b hb];exact hr)) (fun es e w hr=>by rw[hm b hb];exact ha es e w (by rw[←hH b hb];exact hr)) fun a0 h=>by
   obtain⟨q1,q2,q3⟩:=hq a0 h
   obtain⟨q4,q5,q6⟩:=PW _ ⟨q1,q2⟩
   refine⟨q4,q5,fun b' g' es e w hr fC => ?_⟩
   rcases Nat.lt_or_ge b' k0 with J9 | Ch
   ·exact q6 b' g' es e w J9 hr
   ·rw[hm b' Ch]
    exact q3 b' g' es e w (by rw[←hH b' Ch];exact hr) fC
 | tY=>intro hx;cases hx
 | nil=>exact .nil
 |
  cons x v xs vs _ _ ih T8 =>
  rename_i hx
  simp only[nP,Bool.and_eq_true] at hx
  exact .cons _ _ _ _ (ih hx.1) (T8 hx.2)
theorem VL.own {V V':View} {n:Nat} (PW:∀q,V.base≤q∧q<V.P.length→V'.base≤q∧q<V'.P.length∧∀b' g' es e w,b'<n→V'.H[b']? = some (.row g' es e w)→V'.m b'≠q) (hl:V.H.length≤V'.H.length) (hH:∀b,n≤b→V'.H[b]? = V.H[b]?) (hm:∀b,n≤b→V'.m b=V.m b) {xs:List VV} {vs:List Value} (h:VL V xs vs) (hx:nP n xs=true):VL V' xs vs:=by
 induction xs generalizing vs with
 | nil=>cases h;exact .nil
 |
  cons x xs ih=>cases h with
  |
   cons _ v _ vs h hs =>
   simp only[nP,Bool.and_eq_true] at hx
   exact .cons _ _ _ _ (h.own PW hl hH hm hx.1) (ih hs hx.2)
theorem VL.Dh {V':View} {G:Nat→Prop} {P:aE} {xs:List VV} {vs:List Value} (hF:∀b,G b→V'.F b∧V'.P[b]? = P[b]?) (h:VL (bare G P) xs vs):VL V' xs vs:=by
 induction xs generalizing vs with
 | nil=>cases h;exact .nil
 |
  cons x xs ih=>cases h with
  | cons _ v _ vs h hs=>exact .cons _ _ _ _ (h.Dh hF) (ih hs)
def FC (f:Nat) (args:List VV) (R:Nat→VV→aA→Prop):Prop :=
 ∀n,jO f args n (List.replicate n .dead) fun r H'=>∃L,H'=List.replicate n .dead++L∧eT n r=true∧dL n L=true∧R n r L
theorem FC.walk {f:Nat} {pf:aR} {args:List VV} {R:Nat→VV→aA→Prop} (fl:Fl) (ht:gD f=some pf) (hn:args.length≤pf.ntmps)
  (h:∀n,VW fl n pf.body (AZ pf.res fun r H'=>∃L,H'=List.replicate n .dead++L∧eT n r=true∧dL n L=true∧R n r L) (ID args) (List.replicate n .dead)):FC f args R :=
 fun n=>jO.walk fl ht hn (h n)
theorem FC.raw {f:Nat} {args hC:List VV} {R:Nat→VV→aA→Prop} {H:aA} {lo:Nat} (h:FC f hC R) (hf:args.mapM (fz depth H)=some hC):jO f args lo H fun r H'=>∃L,H'=H++L∧R H.length r L∧eT H.length r=true∧dL H.length L=true:=by
 intro V dW dY hH hS hl
 have h1:=h H.length
 let V0:View:={ m:=V.m,F:=(· < V.P.length),H:=List.replicate H.length .dead,P:=V.P,base:=V.P.length }
 have Ky:∀(b g:Nat) (es:List VV) (e:Nat) (w:Bool),V0.H[b]? ≠ some (.row g es e w):=by
  intro b g es e w hb
  have:=List.eq_of_mem_replicate (List.mem_of_getElem? hb)
  cases this
 have hS0:SR V0 H.length dW:=⟨fun b g es e w hb=>absurd hb (Ky _ _ _ _ _),fun b g es e hb=>absurd hb (Ky _ _ _ _ _),fun a b g es e w _ _ _ _ ha=>absurd ha (Ky _ _ _ _ _),fun b hb=>hb,hS.SH,Nat.le_refl _⟩
 have Af:VL V0 hC dY:=by
  have:=DD hS (G:=(· < V.P.length)) (fun q hq=>hS.fr q hq) hl (by rw[hH];exact hf) (fun i _ g es e w hb=>hS.mlt hb)
  exact VL.Dh (V':=V0) (fun b hb=>⟨hb,rfl⟩) this
 obtain⟨pv,V1,r,k1,k3,k4,k5,L,k2,h2,h3,hR⟩:=h1 V0 dW dY rfl hS0 Af
 have UI:∀b g es e w,V1.H[b]? = some (.row g es e w)→V.P.length≤V1.m b:=by
  intro b g es e w hb
  rcases Nat.lt_or_ge (V1.m b) V.P.length with bA | Ch
  ·obtain⟨g0,es0,w0,j1,_⟩:=k4.Bl b g es e w hb bA
   exact absurd j1 (Ky _ _ _ _ _)
  ·exact Ch
 have apY:V1.H.length=H.length+(L).length:=by rw[k2];simp
 have IK:∀q,q<V.P.length→V1.P[q]? = V.P[q]? := fun q hq=>k4.cB q hq fun b g es e hb=>absurd hb (Ky _ _ _ _ _)
 let V2:View:={ m:=fun b=>if b<H.length then V.m b else V1.m b,F:=V.F,H:=H++L,P:=V1.P,base:=V.base }
 have aeZ:∀b,H.length≤b→V2.H[b]? = V1.H[b]? := fun b hb=>by
  show (H++L)[b]? = _
  rw[k2,List.getElem?_append_right hb,List.getElem?_append_right (by simpa using hb),List.length_replicate]
 have mL:∀b,H.length≤b→V2.m b=V1.m b:=fun b hb=>by
  show (if b<H.length then V.m b else V1.m b)=_
  rw[if_neg (by omega)]
 have aeW:∀b,b<H.length→V2.H[b]? = V.H[b]? := fun b hb=>by
  show (H++L)[b]? = _
  rw[List.getElem?_append_left hb,hH]
 have mS:∀b,b<H.length→V2.m b=V.m b:=fun b hb=>by
  show (if b<H.length then V.m b else V1.m b)=_
  rw[if_pos hb]
 have hU:Up V V2:=⟨fun _ h=>h,fun b hb=>IK b (hS.fr b hb),by show V.H.length≤(H++L).length;rw[hH];simp,fun b g es e w bA hb=>⟨g,es,w,by rw[←aeW b (by rw[←hH];exact bA)];exact hb,Nat.le_refl _,fun _=>mS b (by rw[←hH];exact bA)⟩,rfl,k4.D8,fun b g es e w hb hm=>by
   rcases Nat.lt_or_ge b H.length with h | h
   ·exact⟨g,es,w,by rw[←aeW b h];exact hb,mS b h,id⟩
   ·rw[mL b h] at hm
    have:=UI b g es e w (by rw[←aeZ b h];exact hb)
    omega⟩
 have VA:∀ {b g es e w},V2.H[b]? = some (.row g es e w)→(b<H.length∧V.H[b]? = some (.row g es e w))∨(H.length≤b∧V1.H[b]? = some (.row g es e w)):=by
  intro b g es e w hb
  rcases Nat.lt_or_ge b H.length with h | h
  ·exact .inl ⟨h,by rw[←aeW b h];exact hb⟩
  ·exact .inr ⟨h,by rw[←aeZ b h];exact hb⟩
 have aiT:V1.H.length≤V2.H.length:=by show _≤(H++L).length;rw[apY];simp
 have apA:∀ {b g es e w},H.length≤b→V1.H[b]? = some (.row g es e w)→nP H.length es=true:=by
  intro b g es e w hb hr
  rw[k2,List.getElem?_append_right (by simpa using hb)] at hr
  exact List.all_eq_true.1 h3 _ (List.mem_of_getElem? hr)
 have PW:∀q,V1.base≤q∧q<V1.P.length→V2.base≤q∧q<V2.P.length∧∀b' g' es e w,b'<H.length→V2.H[b']? = some (.row g' es e w)→V2.m b'≠q:=by
  intro q hq
  have Ee:V.P.length≤q:=by have:=k4.JU;rw[this] at hq;exact hq.1
  refine⟨Nat.le_trans hS.JU Ee,hq.2,fun b' g' es e w bA hr hm => ?_⟩
  rw[mS b' bA] at hm
  have:=hS.mlt (by rw[←aeW b' bA];exact hr)
  omega
 refine⟨pv,V2,r,k1,⟨fun b g es e w hb => ?_,fun b g es e hb => ?_,fun a b g es e w g' lQ e' w' ha hb hm => ?_,fun b hb => ?_,?_,Nat.le_trans hS.JU k4.D8⟩,{ hU with cB:=fun q hq _=>IK q hq,Cn:=fun q hq => .inl hq },?_,L,rfl,hR,h2,h3⟩
 ·rcases VA hb with⟨h,hb⟩ | ⟨h,hb⟩
  ·obtain⟨r,p,j1,j2,j3⟩:=hS.row b g es e w hb
   exact⟨r,p,by rw[mS b h];exact(IK _ (hS.mlt hb)).trans j1,j2,j3.mono hU⟩
  ·obtain⟨r,p,j1,j2,j3⟩:=k3.row b g es e w hb
   exact⟨r,p,by rw[mL b h];exact j1,j2,j3.own PW aiT (fun b hb=>aeZ b hb) (fun b hb=>mL b hb) (WT (apA h hb))⟩
 ·rcases VA hb with⟨h,hb⟩ | ⟨h,hb⟩
  ·rw[mS b h]
   exact hS.wr b g es e hb
  ·rw[mL b h]
   have:=UI b g es e true hb
   exact⟨fun hF=>by have:=hS.fr _ hF;omega,fun _=>Nat.le_trans hS.SH this⟩
 ·rcases VA ha with⟨h,ha⟩ | ⟨h,ha⟩<;>rcases VA hb with⟨h',hb⟩ | ⟨h',hb⟩
  ·rw[mS a h,mS b h'] at hm
   exact hS.inj a b _ _ _ _ _ _ _ _ ha hb hm
  ·rw[mS a h,mL b h'] at hm
   have:=UI b _ _ _ _ hb
   have:=hS.mlt ha
   omega
  ·rw[mL a h,mS b h'] at hm
   have:=UI a _ _ _ _ ha
   have:=hS.mlt hb
   omega
  ·rw[mL a h,mL b h'] at hm
   exact k3.inj a b _ _ _ _ _ _ _ _ ha hb hm
 ·exact Nat.lt_of_lt_of_le (hS.fr b hb) k4.D8
 ·exact Nat.le_trans hS.SH k4.D8
 ·exact k5.own PW aiT (fun b hb=>aeZ b hb) (fun b hb=>mL b hb) h2
theorem gC {f:Nat} {args:List VV} {lo:Nat} {H:aA} {K:VV→aA→Prop} (sT:AN.contains f=true) (h:jO f args lo H K):cT f args lo H K:=by
 unfold cT
 rw[if_pos sT]
 exact h
theorem FC.call {f:Nat} {args hC:List VV} {R:Nat→VV→aA→Prop} {H:aA} {lo:Nat} {K:VV→aA→Prop} (h:FC f hC R) (sT:AN.contains f=true) (hf:args.mapM (fz depth H)=some hC) (hk:∀r L,R H.length r L→K r (H++L)):cT f args lo H K :=
 gC sT ((h.raw hf).mono fun r H' ⟨L,h1,h2,_⟩=>by subst h1;exact hk r L h2)
theorem FC.Z4 {f:Nat} {args hC:List VV} {R:Nat→VV→aA→Prop} {H:aA} {lo:Nat} {K:VV→aA→Prop} (h:FC f hC R) (sT:AN.contains f=true) (hf:args.mapM (fz depth H)=some hC) (hk:∀r L,R H.length r L→eT H.length r=true→dL H.length L=true→K r (H++L)):cT f args lo H K :=
 gC sT ((h.raw hf).mono fun r H' ⟨L,h1,h2,h3,h4⟩=>by subst h1;exact hk r L h2 h3 h4)
def Gm (H K:aA):Prop:=K.length=H.length∧∀(b g:Nat) (es:List VV) (e:Nat) (w:Bool),K[b]? = some (.row g es e w)→H[b]? = some (.row g es e w)
theorem VR.kill {V:View} {K:aA} (hK:Gm V.H K) {x:VV} {v:Value} (h:VR V x v):VR { V with H:=K } x v:=by
 induction h using VR.rec (motive_2:=fun xs vs _=>VL { V with H:=K } xs vs) with
 | any=>exact .any _
 | sc _ h=>exact .sc _ h
 | agg cs ps _ ih=>exact .agg _ _ ih
 | eY cs ps _ ih=>exact .eY _ _ ih
 | nR k hk=>exact .nR k hk
 | tree es k b o c r e p hF hb ho hc he hk _ ih=>exact .tree es k b o c r e p hF hb ho hc he hk ih
 | cV x off b o r e p hF hb ho _ ih=>exact .cV x off b o r e p hF hb ho ih
 |
  ref b g o n c a n' c' bA hg ha hq =>
  exact .ref b g o n c a n' c' (by show b<K.length;rw[hK.1];exact bA) (fun g' es e w hr=>hg g' es e w (hK.2 _ _ _ _ _ hr)) (fun es e w hr=>ha es e w (hK.2 _ _ _ _ _ hr)) fun a0 h=>⟨(hq a0 h).1,(hq a0 h).2.1,fun b' g' es e w hr=>(hq a0 h).2.2 b' g' es e w (hK.2 _ _ _ _ _ hr)⟩
 |
  ptr b g j off a bA hg ha hq =>
  exact .ptr b g j off a (by show b<K.length;rw[hK.1];exact bA) (fun g' es e w hr=>hg g' es e w (hK.2 _ _ _ _ _ hr)) (fun es e w hr=>ha es e w (hK.2 _ _ _ _ _ hr)) fun a0 h=>⟨(hq a0 h).1,(hq a0 h).2.1,fun b' g' es e w hr=>(hq a0 h).2.2 b' g' es e w (hK.2 _ _ _ _ _ hr)⟩
 | tY f fN ps _ ih=>exact .tY _ _ _ ih
 | nil=>exact .nil
 | cons x v xs vs _ _ ih T8=>exact .cons _ _ _ _ ih T8
theorem VL.kill {V:View} {K:aA} (hK:Gm V.H K) {xs:List VV} {vs:List Value} (h:VL V xs vs):VL { V with H:=K } xs vs:=by
 induction xs generalizing vs with
 | nil=>cases h;exact .nil
 |
  cons x xs ih=>cases h with
  | cons _ v _ vs h hs=>exact .cons _ _ _ _ (h.kill hK) (ih hs)
theorem jO.kill {f:Nat} {args:List VV} {lo:Nat} {H:aA} {P P':VV→aA→Prop} (h:jO f args lo H P) (hk:∀v H',P v H'→∃K,Gm H' K∧P' v K):jO f args lo H P':=by
 intro V dW dY hH hS hl
 obtain⟨pv,V',v,h1,h2,h3,h4,h5⟩:=h V dW dY hH hS hl
 obtain⟨K,hK,h6⟩:=hk _ _ h5
 refine⟨pv,{ V' with H:=K },v,h1,⟨fun b g es e w hb => ?_,fun b g es e hb=>h2.wr b g es e (hK.2 _ _ _ _ _ hb),fun a b g es e w g' lQ e' w' ha hb hm=>h2.inj a b _ _ _ _ _ _ _ _ (hK.2 _ _ _ _ _ ha) (hK.2 _ _ _ _ _ hb) hm,h2.fr,h2.SH,h2.JU⟩,
  { F:=h3.F,P:=h3.P,len:=by show V.H.length≤K.length;rw[hK.1];exact h3.len,row:=fun b g es e w bA hb=>h3.row b g es e w bA (hK.2 _ _ _ _ _ hb),JU:=h3.JU,D8:=h3.D8,Bl:=fun b g es e w hb hm=>h3.Bl b g es e w (hK.2 _ _ _ _ _ hb) hm,cB:=h3.cB,Cn:=h3.Cn },h4.kill hK,h6⟩
 obtain⟨r,p,j1,j2,j3⟩:=h2.row b g es e w (hK.2 _ _ _ _ _ hb)
 exact⟨r,p,j1,j2,j3.kill hK⟩
theorem FC.Kf {f:Nat} {pf:aR} {args:List VV} {R:Nat→VV→aA→Prop} (fl:Fl) (ht:gD f=some pf) (hn:args.length≤pf.ntmps)
  (h:∀n,VW fl n pf.body (AZ pf.res fun r H'=>∃L,Gm H' (List.replicate n .dead++L)∧eT n r=true∧dL n L=true∧R n r L) (ID args) (List.replicate n .dead)):FC f args R :=
 fun n=>(jO.walk fl ht hn (h n)).kill fun _ _ ⟨L,h1,h2,h3,h4⟩=>⟨_,h1,L,rfl,h2,h3,h4⟩
end Go.PM
namespace Go.PM
open Go.ChangeShapes Go.WideShapes Go.ChangeAt Go.RowKit
open Go.Proofs
def Bm (W:World):Prop:=∃(rb:Nat) (arr:Array Value) (e:TypeId) (fz:Nat×Nat),W.heap[rb]? = some (.cells arr e fz)
structure BH (m m':dE) (H L:aE) (W:World) (cs JC:List Value) (vs:List VV):Prop where
 inn:In m' (H++L) W
 ext:∀b l,m b=some l→m' b=some l
 len:JC.length=cs.length
 rv:∀i,i<cs.length→RV m' (JC.getD i Go.undef) (cs.getD i Go.undef)
 sc:∀v∈JC,PM.fO v=true
 tree:VL (bare (· < (H++L).length) (H++L)) vs JC
def Oq {T:Type} (Bo:TypeId×Value→T) (P:Program) (W:World) (t:TypeId) (k:Nat) (S:List VV→Prop):Prop :=
 ∀fuel cs y,DataW.trod Bo P W 0 (fun _=>true) true fuel t cs=some y→∀(m:dE) (H:aE),In m H W→cs.length=k∧∃m' L JC vs,BH m m' H L W cs JC vs∧S vs
theorem VL.grow {H L:aE} {xs:List VV} {vs:List Value} (h:VL (bare (· < H.length) H) xs vs):VL (bare (· < (H++L).length) (H++L)) xs vs :=
 h.Dh fun b hb=>⟨by show b<_;rw[List.length_append];omega,List.getElem?_append_left hb⟩
theorem VL.app {V:View} {xs ys:List VV} {vs ws:List Value} (h:VL V xs vs) (h':VL V ys ws):VL V (xs++ys) (vs++ws):=by
 induction xs generalizing vs with
 | nil=>cases h;exact h'
 |
  cons x xs ih=>cases h with
  | cons _ v _ vs h hs=>exact .cons _ _ _ _ h (ih hs)
theorem Hq {cs ds:List Value} {i:Nat} (h:i<cs.length):(cs++ds).getD i Go.undef=cs.getD i Go.undef:=by
 simp only[List.getD_eq_getElem?_getD,List.getElem?_append_left h]
theorem E4 {cs ds:List Value} {i:Nat} (h:cs.length≤i):(cs++ds).getD i Go.undef=ds.getD (i-cs.length) Go.undef:=by
 simp only[List.getD_eq_getElem?_getD,List.getElem?_append_right h]
theorem BH.both {m m1 m2:dE} {H L1 L2:aE} {W:World} {cs JC Ae arP:List Value} {vs vs':List VV} (h:BH m m1 H L1 W cs JC vs) (h':BH m1 m2 (H++L1) L2 W Ae arP vs'):BH m m2 H (L1++L2) W (cs++Ae) (JC++arP) (vs++vs'):=by
 refine⟨by rw[←List.append_assoc];exact h'.inn,fun b l hb=>h'.ext _ _ (h.ext _ _ hb),by simp[h.len,h'.len],fun i hi => ?_,fun v hv => ?_,?_⟩
 ·rcases Nat.lt_or_ge i cs.length with bA | Ch
  ·rw[Hq bA,Hq (by rw[h.len];exact bA)]
   exact(h.rv i bA).mono h'.ext
  ·rw[E4 Ch,E4 (by rw[h.len];exact Ch),h.len]
   exact h'.rv _ (by rw[List.length_append] at hi;omega)
 ·rcases List.mem_append.1 hv with hv | hv
  ·exact h.sc v hv
  ·exact h'.sc v hv
 ·rw[←List.append_assoc]
  exact h.tree.grow.app h'.tree
theorem BH.none {m:dE} {H:aE} {W:World} (hI:In m H W):BH m m H [] W [] [] [] :=
 ⟨by rw[List.append_nil];exact hI,fun _ _ h=>h,rfl,fun i hi=>absurd hi (Nat.not_lt_zero _),fun v hv=>(by cases hv),.nil⟩
theorem OP {T:Type} {Bo:TypeId×Value→T} {P:Program} {W:World} {t:TypeId} (ht:P.underlying t=some .string):Oq Bo P W t 1 (fun vs=>∃s:ByteArray,s.size≤maxLen∧vs=[.sc (.string s)]):=by
 intro fuel cs y h m H hI
 obtain⟨s,rfl,_,hs⟩:=DataW.trod_string ht h
 refine⟨rfl,m,[],[.string s],[.sc (.string s)],⟨by rw[List.append_nil];exact hI,fun _ _ h=>h,rfl,fun i hi => ?_,fun v hv => ?_,.cons _ _ _ _ (.sc _ rfl) .nil⟩,s,hs,rfl⟩
 ·have:i=0:=by simpa using hi
  subst this
  exact .str s
 ·rw[List.mem_singleton] at hv
  subst hv
  rfl
theorem L8 {T:Type} {Bo:TypeId×Value→T} {P:Program} {W:World} {e:TypeId} {fJ:Nat} {S:List VV→Prop} (ho:Oq Bo P W e fJ S):∀(SJ:List (List Value)),(∀cs∈SJ,∃fuel y,DataW.trod Bo P W 0 (fun _=>true) true fuel e cs=some y)→∀(m:dE) (H:aE),In m H W →
  ∃(m':dE) (L:aE) (JC:List Value) (gs:List (List VV)),BH m m' H L W SJ.flatten JC gs.flatten∧gs.length=SJ.length∧(∀g∈gs,S g)∧∀cs∈SJ,cs.length=fJ
 | [],_,m,H,hI=>⟨m,[],[],[],BH.none hI,rfl,fun g hg=>(by cases hg),fun cs NW=>(by cases NW)⟩
 |
  cs::SJ,h,m,H,hI=>by
  obtain⟨fuel,y,hy⟩:=h cs List.mem_cons_self
  obtain⟨hl,m1,L1,auM,g,h1,hS⟩:=ho fuel cs y hy m H hI
  obtain⟨m2,L2,auC,gs,h2,h3,h4,h5⟩:=L8 ho SJ (fun cs NW=>h cs (List.mem_cons_of_mem _ NW)) m1 (H++L1) h1.inn
  refine⟨m2,L1++L2,auM++auC,g::gs,?_,by simp[h3],fun g' ZT => ?_,fun Ae ajO => ?_⟩
  ·rw[List.flatten_cons,List.flatten_cons]
   exact h1.both h2
  ·rcases List.mem_cons.1 ZT with rfl | ZT
   ·exact hS
   ·exact h4 _ ZT
  ·rcases List.mem_cons.1 ajO with rfl | ajO
   ·exact hl
   ·exact h5 _ ajO
theorem C6 {α:Type} {k:Nat}:∀ {xss:List (List α)},(∀xs∈xss,xs.length=k)→xss.flatten.length=xss.length*k
 | [],_=>by simp
 |
  xs::xss,h=>by
  rw[List.flatten_cons,List.length_append,h xs List.mem_cons_self,C6 fun y hy=>h y (List.mem_cons_of_mem _ hy),List.length_cons,Nat.succ_mul,Nat.add_comm]
theorem Gc {α:Type} {k:Nat}:∀ {xss:List (List α)} (n:Nat),(∀xs∈xss,xs.length=k)→xss.flatten.take (n*k)=(xss.take n).flatten
 | [],n,_=>by simp
 | xs::xss,0,_=>by simp
 |
  xs::xss,n+1,h=>by
  have hl:=h xs List.mem_cons_self
  rw[List.flatten_cons,List.take_succ_cons,List.flatten_cons,←Gc n fun y hy=>h y (List.mem_cons_of_mem _ hy),show (n+1)*k=xs.length+n*k by rw[hl,Nat.succ_mul,Nat.add_comm],List.take_length_add_append]
theorem OW {k:Nat} (hk:1≤k) {SJ:List (List Value)} (h:∀cs∈SJ,cs.length=k) {i:Nat} (hi:i<SJ.length*k):∃cs,SJ[i / k]? = some cs∧SJ.flatten.getD i Go.undef=cs.getD (i % k) Go.undef:=by
 induction SJ generalizing i with
 | nil=>simp at hi
 |
  cons cs SJ ih =>
  have hl:=h cs List.mem_cons_self
  rw[List.flatten_cons]
  rcases Nat.lt_or_ge i k with bA | Ch
  ·refine⟨cs,by rw[Nat.div_eq_of_lt bA];rfl,?_⟩
   rw[Hq (by omega),Nat.mod_eq_of_lt bA]
  ·obtain⟨c',h1,h2⟩:=ih (fun y hy=>h y (List.mem_cons_of_mem _ hy)) (i:=i-k) (by rw[List.length_cons,Nat.succ_mul] at hi;omega)
   have e1:i / k=(i-k) / k+1:=by rw[Nat.div_eq_sub_div (by omega) Ch]
   have e2:i % k=(i-k) % k:=by rw[Nat.mod_eq_sub_mod Ch]
   exact⟨c',by rw[e1];exact h1,by rw[E4 (by omega),hl,h2,e2]⟩
theorem Qa {T:Type} {Bo:TypeId×Value→T} {α:Type} {f:α→VV} {aeH:α→Prop} {P:Program} {W:World} {t e:TypeId} {fJ:Nat} (ht:P.underlying t=some (.slice e)) (awY:P.cellsOf e=fJ) (pos:1≤fJ) (hB:Bm W)
  (hf:∀x,(aB (f x)).length=fJ) (ho:Oq Bo P W e fJ fun g=>∃x:α,aeH x∧g=aB (f x)):Oq Bo P W t 1 fun vs=>∃xs:List α,xs.length≤maxLen∧(∀x∈xs,aeH x)∧vs=[aO f xs]:=by
 intro fuel cs y h m H hI
 rcases DataW.trod_slice ht h with⟨rfl,_⟩ | ⟨a,n,c,elems,rest,k,_,rfl,_,_,YA,hmx,hlen,hE,hR,_⟩
 ·refine⟨rfl,m,[],[.slice none 0 0],[.tree [] .op],⟨by rw[List.append_nil];exact hI,fun _ _ h=>h,rfl,fun i hi => ?_,fun v hv => ?_,.cons _ _ _ _ (.nR _ (.inl rfl)) .nil⟩,[],Nat.zero_le _,fun x hx=>(by cases hx),rfl⟩
  ·have:i=0:=by simpa using hi
   subst this
   exact .MK
  ·rw[List.mem_singleton] at hv
   subst hv
   rfl
 ·obtain⟨Cp,hR⟩:=hR rfl
  have Ny:∀i,i<c→∃cs,W.cells? 0 (a.add (i*fJ)) fJ=some cs∧∃fuel y,DataW.trod Bo P W 0 (fun _=>true) true fuel e cs=some y:=by
   intro i hi
   have key:∃y,(W.cells? 0 (a.add (i*P.cellsOf e)) (P.cellsOf e)).bind (DataW.trod Bo P W 0 (fun _=>true) true k e)=some y:=by
    rcases Nat.lt_or_ge i n with cP | cP
    ·exact⟨elems[i]'(by omega),by rw[hE i cP];exact List.getElem?_eq_getElem _⟩
    ·have:=hR (i-n) (by omega)
     rw[show n+(i-n)=i by omega] at this
     exact⟨rest[i-n]'(by omega),by rw[this];exact List.getElem?_eq_getElem _⟩
   obtain⟨y,hy⟩:=key
   rw[Option.bind_eq_some_iff,awY] at hy
   obtain⟨cs,h1,h2⟩:=hy
   exact⟨cs,h1,k,y,h2⟩
  obtain⟨SJ,mX,NW⟩:=Vr (fun i cs=>W.cells? 0 (a.add (i*fJ)) fJ=some cs∧∃fuel y,DataW.trod Bo P W 0 (fun _=>true) true fuel e cs=some y) c Ny
  obtain⟨m1,L1,JC,gs,hO,hgl,hgS,ajX⟩:=L8 ho SJ (fun cs hc=>by
   obtain⟨i,hi⟩:=List.getElem?_of_mem hc
   exact(NW i cs hi).2) m H hI
  obtain⟨xs,hxg,Ml⟩:∃xs:List α,(∀x∈xs,aeH x)∧gs=xs.map fun x=>aB (f x):=by
   clear hO hgl
   induction gs with
   | nil=>exact⟨[],fun x hx=>(by cases hx),rfl⟩
   |
    cons g gs ih =>
    obtain⟨xs,h1,h2⟩:=ih fun g hg=>hgS g (List.mem_cons_of_mem _ hg)
    obtain⟨x,h3,h4⟩:=hgS g List.mem_cons_self
    exact⟨x::xs,fun y hy=>by
     rcases List.mem_cons.1 hy with rfl | hy
     ·exact h3
     ·exact h1 y hy,by rw[List.map_cons,←h2,h4]⟩
  have hxl:xs.length=c:=by rw[←mX,←hgl,Ml,List.length_map]
  have Mm:JC.length=c*fJ:=by rw[hO.len,C6 ajX,mX]
  obtain⟨rb,base,arr,e',fz,aqN,hb0,Ee⟩:∃(rb base:Nat) (arr:Array Value) (e':TypeId) (fz:Nat×Nat),W.heap[rb]? = some (.cells arr e' fz)∧(c=0→base=0)∧(c≠0→a=⟨rb,base,none⟩):=by
   by_cases h0:c=0
   ·obtain⟨rb,arr,e',fz,hb⟩:=hB
    exact⟨rb,0,arr,e',fz,hb,fun _=>rfl,fun h=>absurd h0 h⟩
   ·obtain⟨cs,h1,_⟩:=Ny 0 (by omega)
    have h2:=(World.cells?_some h1).2
    have h3:=h2.2 0 (by omega)
    rw[List.getElem?_eq_getElem (by omega)] at h3
    have:(a.add (0*fJ)).add 0=a:=by simp[Addr.add]
    rw[this] at h3
    unfold World.cell? at h3
    split at h3
    ·rename_i arr e' fz hb
     split at h3
     ·cases h3
     ·rename_i Rn
      refine⟨a.block,a.off,arr,e',fz,hb,fun h=>absurd h h0,fun _ => ?_⟩
      obtain⟨b,o,sp⟩:=a
      cases sp with
      | none=>rfl
      | some x=>simp at Rn
    ·cases h3
  have PU:∀i,i<c*fJ→W.cell? ⟨rb,base+i,none⟩=some (SJ.flatten.getD i Go.undef):=by
   intro i hi
   obtain⟨cs,h1,h2⟩:=OW pos ajX (i:=i) (by rw[mX];exact hi)
   have h0:c≠0:=by intro h0;rw[h0] at hi;simp at hi
   have ha:=Ee h0
   have h3:=(World.cells?_some (NW _ _ h1).1).2
   have hr:i % fJ<fJ:=Nat.mod_lt _ pos
   have h4:=h3.2 (i % fJ) hr
   have MA:∀o k:Nat,(⟨rb,o,none⟩:Addr).add k=⟨rb,o+k,none⟩:=by
    intro o k
    unfold Addr.add
    split
    ·rename_i h0;subst h0;rfl
    ·rfl
   have akV:i / fJ*fJ+i % fJ=i:=by rw[Nat.mul_comm];exact Nat.div_add_mod i fJ
   rw[ha,MA,MA,Nat.add_assoc,akV] at h4
   rw[h2,List.getD_eq_getElem?_getD,h4]
   have bA:i % fJ<cs.length:=by rw[h3.1];exact hr
   rw[List.getElem?_eq_getElem bA]
   rfl
  have qK:base+JC.length≤arr.size:=by
   rw[Mm]
   by_cases h0:c=0
   ·rw[hb0 h0,h0];simp
   ·have OI:1≤c*fJ:=Nat.mul_pos (by omega) pos
    have h3:=PU (c*fJ-1) (by omega)
    unfold World.cell? at h3
    simp only[aqN,Option.isSome_none,Bool.false_eq_true,if_false] at h3
    have:=(Array.getElem?_eq_some_iff.1 h3).1
    omega
  have MA:=hO.inn.add (fJ:=fJ) (cs:=JC) (base:=base) aqN qK (fun i hi=>by
   rw[Mm] at hi
   refine⟨_,PU i hi,(hO.rv i (by rw[C6 ajX,mX];exact hi)).mono (tM (hO.inn.R3 (Nat.le_refl _))),?_⟩
   rw[List.getD_eq_getElem?_getD,List.getElem?_eq_getElem (by rw[Mm];exact hi)]
   exact hO.sc _ (List.getElem_mem _))
  refine⟨rfl,_,L1++[.row JC fJ false],[.slice (some ⟨(H++L1).length,0,none⟩) n c],[aO f (xs.take n)],⟨by rw[←List.append_assoc];exact MA,fun b l hb=>tM (hO.inn.R3 (Nat.le_refl _)) _ _ (hO.ext b l hb),rfl,fun i hi => ?_,fun v hv => ?_,?_⟩,xs.take n,by rw[List.length_take];omega,fun x hx=>hxg x (List.mem_of_mem_take hx),rfl⟩
  ·have:i=0:=by simpa using hi
   subst this
   refine .slice (H++L1).length 0 n c _ _ c (bR _ _ _) YA (Nat.le_refl _) (fun _=>rfl) ?_
   by_cases h0:c=0
   ·exact .inl h0
   ·exact .inr ⟨by simpa using Ee h0,by simpa[Mm] using qK⟩
  ·rw[List.mem_singleton] at hv
   subst hv
   rfl
  ·rw[←List.append_assoc]
   refine .cons _ _ _ _ ?_ .nil
   have hl:(xs.take n).length=n:=by rw[List.length_take];omega
   have EM:∀g∈gs,g.length=fJ:=fun g hg=>by
    obtain⟨x,_,rfl⟩:=hgS g hg
    exact hf x
   have key:=hO.tree.grow (L:=[MJ.row JC fJ false])
   have key:=key.take (n*fJ)
   rw[Gc n EM,Ml,←List.map_take] at key
   have:=VR.tree (V:=bare (· < (H++L1++[MJ.row JC fJ false]).length) (H++L1++[MJ.row JC fJ false])) ((xs.take n).map f) .op (H++L1).length 0 c JC fJ false (by show (H++L1).length<_;simp) (by show (H++L1++[MJ.row JC fJ false])[(H++L1).length]? = _;rw[List.getElem?_append_right (Nat.le_refl _),Nat.sub_self];rfl)
    (by rw[List.length_map,hl,Mm];simp only[Nat.zero_add];exact Nat.mul_le_mul_right _ YA) (by rw[List.length_map,hl];exact YA) (fun y hy=>by
     obtain⟨x,_,rfl⟩:=List.mem_map.1 hy
     exact hf x) trivial (by rw[List.length_map,hl,List.drop_zero,List.flatMap_map,List.flatMap_def];exact key)
   rw[List.length_map,hl] at this
   exact this
end Go.PM
namespace Go.PM
def nD:aD:=(.seq (LS [LM 11 5,LM 12 0,LO 13 (.len (LT 12)),LO 14 (.bin .lss (LT 11) (LT 13))] (.cond (LT 14) .skip (.exit 0))) (.seq (.block 1 (LS [LM 17 0,LM 18 5,LO 19 (.iaddr 1 (LT 17) (LT 18)),LO 20 (LL 19),LM 21 1,LM 22 5,LO 23 (.iaddr 1 (LT 21) (LT 22)),LO 24 (LL 23),LO 25 (.bin .neq (LT 20) (LT 24))] (.cond (LT 25) (LS [LO 4 (.mv LF)] .ret) .skip))) (.dH [LM 15 5,LO 16 (.bin .add (LT 15) (LI 1)),LM 5 16])))
def tN:aD:=(LS [LO 4 (.mv LF)] (.seq (LS [LM 6 0,LO 7 (.len (LT 6)),LM 8 1,LO 9 (.len (LT 8)),LO 10 (.bin .neq (LT 7) (LT 9))] (.cond (LT 10) (LS [LO 4 (.mv LF)] .ret) .skip)) (.seq (LS [LO 5 (.mv (LI 0))] (.block 0 (.loop nD))) (LS [LO 4 (.mv LG)] .ret))))
def xA:aR:=⟨26,[(.tmp 4)],tN⟩
theorem G4:gD 100=some xA:=by kernel_rfl
def pE:aD:=(.seq (LS [LM 6 5,LM 7 0,LO 8 (.len (LT 7)),LO 9 (.bin .lss (LT 6) (LT 8))] (.cond (LT 9) .skip (.exit 0))) (.seq (.block 1 (LS [LM 12 0,LM 13 5,LM 14 1,LO 15 (.call 101 [(LT 14)]),LO 16 (.iaddr 1 (LT 12) (LT 13)),LN (.store 1 (LT 16) (LT 15))] (.dH [LM 17 1,LO 18 (.bin .add (LT 17) (LI 1)),LM 1 18]))) (.dH [LM 10 5,LO 11 (.bin .add (LT 10) (LI 1)),LM 5 11])))
def xH:aD:=(LS [LO 4 (.mv (LI 0))] (.seq (LS [LO 5 (.mv (LI 0))] (.block 0 (.loop pE))) (LS [LM 19 1,LM 4 19] .ret)))
def As:aR:=⟨20,[(.tmp 4)],xH⟩
theorem Ff:gD 37=some As:=by kernel_rfl
def pD:aD:=(.seq (LS [LM 6 5,LM 7 0,LO 8 (.len (LT 7)),LO 9 (.bin .lss (LT 6) (LT 8))] (.cond (LT 9) .skip (.exit 0))) (.seq (.block 1 (.seq (LS [LM 12 0,LM 13 5,LO 14 (.iaddr 1 (LT 12) (LT 13)),LO 15 (LL 14),LM 16 1,LQ 17 (.call 101 [(LT 16)]),LO 18 (.bin .neq (LT 15) (LT 17))] (.cond (LT 18) (LS [LO 4 (.mv (LI (-1)))] .ret) .skip)) (.dH [LM 19 1,LO 20 (.bin .add (LT 19) (LI 1)),LM 1 20]))) (.dH [LM 10 5,LO 11 (.bin .add (LT 10) (LI 1)),LM 5 11])))
def yJ:aD:=(LS [LO 4 (.mv (LI 0))] (.seq (LS [LO 5 (.mv (LI 0))] (.block 0 (.loop pD))) (LS [LM 21 1,LM 4 21] .ret)))
def AR:aR:=⟨22,[(.tmp 4)],yJ⟩
theorem Fe:gD 150=some AR:=by kernel_rfl
def nI:aD:=(.seq (LS [LM 12 5,LM 13 0,LO 14 (.len (LT 13)),LO 15 (.bin .lss (LT 12) (LT 14))] (.cond (LT 15) .skip (.exit 0))) (.seq (.block 1 (LS [LM 18 1,LM 19 0,LM 20 5,LO 21 (.iaddr 1 (LT 19) (LT 20)),LO 22 (LL 21),LO 23 (.slen (LT 22)),LO 24 (.bin .sub (LT 18) (LT 23)),LM 1 24] (LS [LM 25 1,LO 26 (.bin .lss (LT 25) (LI 0))] (.cond (LT 26) (LS [LO 4 (.mv (LI (-1)))] .ret) .skip)))) (.dH [LM 16 5,LO 17 (.bin .add (LT 16) (LI 1)),LM 5 17])))
def tK:aD:=(LS [LO 4 (.mv (LI 0))] (LS [LM 6 1,LM 7 0,LO 8 (.len (LT 7)),LO 9 (.bin .sub (LT 6) (LT 8)),LM 1 9] (.seq (LS [LM 10 1,LO 11 (.bin .lss (LT 10) (LI 0))] (.cond (LT 11) (LS [LO 4 (.mv (LI (-1)))] .ret) .skip)) (.seq (LS [LO 5 (.mv (LI 0))] (.block 0 (.loop nI))) (LS [LM 27 1,LM 4 27] .ret)))))
def xS:aR:=⟨28,[(.tmp 4)],tK⟩
theorem HU:gD 32=some xS:=by kernel_rfl
def nM:aD:=(.seq (LS [LM 21 6,LM 22 0,LO 23 (.len (LT 22)),LO 24 (.bin .lss (LT 21) (LT 23))] (.cond (LT 24) .skip (.exit 0))) (.seq (.block 1 (.dH [LM 27 5,LM 28 6,LM 29 0,LM 30 6,LO 31 (.iaddr 1 (LT 29) (LT 30)),LO 32 (LL 31),LO 33 (.iaddr 1 (LT 27) (LT 28)),LN (.store 1 (LT 33) (LT 32))])) (.dH [LM 25 6,LO 26 (.bin .add (LT 25) (LI 1)),LM 6 26])))
def nL:aD:=(.seq (LS [LM 36 7,LM 37 5,LO 38 (.len (LT 37)),LO 39 (.bin .lss (LT 36) (LT 38))] (.cond (LT 39) .skip (.exit 2))) (.seq (.block 3 (.dH [LM 42 5,LM 43 7,LO 44 (.iaddr 1 (LT 42) (LT 43)),LN (.store 1 (LT 44) (.const (.string ⟨#[126,115,112,97,114,101,126]⟩)))])) (.dH [LM 40 7,LO 41 (.bin .add (LT 40) (LI 1)),LM 7 41])))
def oV:aD:=(LS [LO 4 (.mv (.const (.slice none 0 0)))] (.seq (LS [LM 8 1,LM 9 8,LY 9 10 (.mv (LT 0)),LY 9 11 (.len (LT 10)),LY 9 12 (.bin .eql (LT 11) (LI 0)),LO 13 (.pick (LT 9) (LT 12) LF)] (.cond (LT 13) (LS [LO 4 (.mv (.const (.slice none 0 0)))] .ret) .skip)) (LS [LM 14 0,LO 15 (.len (LT 14)),LM 16 0,LO 17 (.len (LT 16)),LO 18 (.call 63 [(LT 17)]),LO 19 (.bin .add (LT 15) (LT 18)),LO 20 (.make [(.string ⟨#[]⟩)] 16 (LT 19) (LT 19)),LM 5 20] (.seq (LS [LO 6 (.mv (LI 0))] (.block 0 (.loop nM))) (.seq (LS [LM 34 0,LO 35 (.len (LT 34)),LM 7 35] (.block 2 (.loop nL))) (LS [LM 45 5,LM 46 0,LO 47 (.len (LT 46)),LO 48 (.sub 1 (LT 45) none (some (LT 47)) none),LM 4 48] .ret))))))
def rC:aR:=⟨49,[(.tmp 4)],oV⟩
theorem HK:gD 34=some rC:=by kernel_rfl
def uC:aD:=(LS [LO 4 (.mv LF)] (LS [LM 6 1,LO 7 (.len (LT 6)),LM 8 1,LO 9 (.len (LT 8)),LO 10 (.call 63 [(LT 9)]),LO 11 (.bin .add (LT 7) (LT 10)),LM 5 11] (LS [LM 12 0,LO 13 (.len (LT 12)),LM 14 1,LO 15 (.len (LT 14)),LO 16 (.bin .eql (LT 13) (LT 15)),LM 17 16,LY 17 18 (.mv (LT 0)),LY 17 19 (.mv (LT 5)),LY 17 20 (.sub 1 (LT 18) none (some (LT 19)) none),LY 17 21 (.mv (LT 1)),LY 17 22 (.mv (LT 5)),LY 17 23 (.sub 1 (LT 21) none (some (LT 22)) none),⟨(some 24),(.call 100 [(LT 20),(LT 23)]),(some (17,true)),true,[]⟩,LO 25 (.pick (LT 17) (LT 24) LF),LM 4 25] .ret)))
def xY:aR:=⟨26,[(.tmp 4)],uC⟩
theorem CH:gD 36=some xY:=by kernel_rfl
def wM:aD:=(LS [LO 2 (.box (LT 0)),LO 3 (.box (LT 1)),LO 4 (.mv LF)] (.seq (LS [LO 5 (LA 0 2),LO 6 (LL 5),LO 7 (LA 0 3),LO 8 (LL 7),LO 9 (.call 73 [(LT 6),(LT 8)]),LO 10 (.un .not (LT 9))] (.cond (LT 10) (LS [LO 4 (.mv LF)] .ret) .skip)) (LS [LO 4 (.mv LG)] .ret)))
def Bu:aR:=⟨11,[(.tmp 4)],wM⟩
theorem Lw:gD 19=some Bu:=by kernel_rfl
def kC:aD:=(.seq (LS [LM 6 5,LM 7 0,LO 8 (.len (LT 7)),LO 9 (.bin .lss (LT 6) (LT 8))] (.cond (LT 9) .skip (.exit 0))) (.seq (.block 1 (.dH [LM 12 0,LM 13 5,LO 14 (.iaddr 1 (LT 12) (LT 13)),LO 15 (LL 14),LM 16 1,LO 17 (.call 37 [(LT 15),(LT 16)]),LM 1 17])) (.dH [LM 10 5,LO 11 (.bin .add (LT 10) (LI 1)),LM 5 11])))
def pK:aD:=(LS [LO 4 (.mv (LI 0))] (.seq (LS [LO 5 (.mv (LI 0))] (.block 0 (.loop kC))) (LS [LM 18 1,LM 4 18] .ret)))
def rL:aR:=⟨19,[(.tmp 4)],pK⟩
theorem vB:gD 21=some rL:=by kernel_rfl
def A1:aD:=(LS [LO 2 (.box (LT 0)),LO 4 (.mv (LI 0))] (LS [LO 5 (LA 0 2),LO 6 (LL 5),LM 7 1,LO 8 (.call 21 [(LT 6),(LT 7)]),LM 1 8] (LS [LM 9 1,LM 4 9] .ret)))
def Ct:aR:=⟨10,[(.tmp 4)],A1⟩
theorem G5:gD 22=some Ct:=by kernel_rfl
def AP:aD:=(LS [LO 2 (.box (LT 0)),LO 4 (.mv (LI 0))] (LS [LO 5 (LA 0 2),LO 6 (LL 5),LM 7 1,LO 8 (.call 74 [(LT 6),(LT 7)]),LM 1 8] (.seq (LS [LM 9 1,LO 10 (.bin .lss (LT 9) (LI 0))] (.cond (LT 10) (LS [LO 4 (.mv (LI (-1)))] .ret) .skip)) (LS [LM 11 1,LM 4 11] .ret))))
def Dk:aR:=⟨12,[(.tmp 4)],AP⟩
theorem HJ:gD 23=some Dk:=by kernel_rfl
def nF:aD:=(LS [LO 2 (.mv (LI 0))] (.seq (LS [LM 3 0,LO 4 (.bin .rem (LT 3) (LI 6)),LO 5 (.bin .eql (LT 4) (LI 5))] (.cond (LT 5) (LS [LO 2 (.mv (LI 0))] .ret) .skip)) (.seq (LS [LM 6 0,LO 7 (.bin .rem (LT 6) (LI 3)),LO 8 (.bin .eql (LT 7) (LI 0))] (.cond (LT 8) (LS [LO 2 (.mv (LI 1))] .ret) .skip)) (LS [LM 9 0,LM 2 9] .ret))))
def pX:aR:=⟨10,[(.tmp 2)],nF⟩
theorem Gz:gD 63=some pX:=by kernel_rfl
def tS:aD:=(.seq (LS [LM 6 0,LO 7 (.bin .gtr (LT 6) (LI 0))] (.cond (LT 7) .skip (.exit 0))) (.block 1 (LS [LM 8 0,LO 9 (.bin .rem (LT 8) (LI 10)),LO 10 (.bin .add (LI 48) (LT 9)),LO 11 (.cvt .u8 (LT 10)),LO 12 (.lit [(.int .u8 0)] 1 [(0,(LT 11))]),LO 13 (.b2s (LT 12)),LM 14 3,LO 15 (.bin .add (LT 13) (LT 14)),LM 3 15] (.dH [LM 16 0,LO 17 (.bin .quo (LT 16) (LI 10)),LM 0 17]))))
def uR:aD:=(LS [LO 2 (.mv (.const (.string ⟨#[]⟩)))] (.seq (LS [LM 4 0,LO 5 (.bin .leq (LT 4) (LI 0))] (.cond (LT 5) (LS [LO 2 (.mv (.const (.string ⟨#[109,48]⟩)))] .ret) .skip)) (LS [LO 3 (.mv (.const (.string ⟨#[]⟩)))] (.seq (.block 0 (.loop tS)) (LS [LM 18 3,LO 19 (.bin .add (.const (.string ⟨#[109]⟩)) (LT 18)),LM 2 19] .ret)))))
def zX:aR:=⟨20,[(.tmp 2)],uR⟩
theorem Jq:gD 101=some zX:=by kernel_rfl
def lW:aD:=(.seq (LS [LM 11 5,LM 12 0,LO 13 (.len (LT 12)),LO 14 (.bin .lss (LT 11) (LT 13))] (.cond (LT 14) .skip (.exit 0))) (.seq (.block 1 (LS [LM 17 0,LM 18 5,LO 19 (.iaddr 1 (LT 17) (LT 18)),LO 20 (LL 19),LM 21 1,LM 22 5,LO 23 (.iaddr 1 (LT 21) (LT 22)),LO 24 (LL 23),LQ 25 (.call 100 [(LT 20),(LT 24)]),LO 26 (.un .not (LT 25))] (.cond (LT 26) (LS [LO 4 (.mv LF)] .ret) .skip))) (.dH [LM 15 5,LO 16 (.bin .add (LT 15) (LI 1)),LM 5 16])))
def rW:aD:=(LS [LO 4 (.mv LF)] (.seq (LS [LM 6 0,LO 7 (.len (LT 6)),LM 8 1,LO 9 (.len (LT 8)),LO 10 (.bin .neq (LT 7) (LT 9))] (.cond (LT 10) (LS [LO 4 (.mv LF)] .ret) .skip)) (.seq (LS [LO 5 (.mv (LI 0))] (.block 0 (.loop lW))) (LS [LO 4 (.mv LG)] .ret))))
def uU:aR:=⟨27,[(.tmp 4)],rW⟩
theorem Gu:gD 73=some uU:=by kernel_rfl
def oE:aD:=(.seq (LS [LM 6 5,LM 7 0,LO 8 (.len (LT 7)),LO 9 (.bin .lss (LT 6) (LT 8))] (.cond (LT 9) .skip (.exit 0))) (.seq (.block 1 (LS [LM 12 0,LM 13 5,LO 14 (.iaddr 1 (LT 12) (LT 13)),LO 15 (LL 14),LM 16 1,LO 17 (.call 150 [(LT 15),(LT 16)]),LM 1 17] (LS [LM 18 1,LO 19 (.bin .lss (LT 18) (LI 0))] (.cond (LT 19) (LS [LO 4 (.mv (LI (-1)))] .ret) .skip)))) (.dH [LM 10 5,LO 11 (.bin .add (LT 10) (LI 1)),LM 5 11])))
def vC:aD:=(LS [LO 4 (.mv (LI 0))] (.seq (LS [LO 5 (.mv (LI 0))] (.block 0 (.loop oE))) (LS [LM 20 1,LM 4 20] .ret)))
def zD:aR:=⟨21,[(.tmp 4)],vC⟩
theorem D6:gD 74=some zD:=by kernel_rfl
end Go.PM