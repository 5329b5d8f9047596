/- Texts of a claim, in one: part 5. -/
import Derived.Test.YtodamlihdkalfaaGreatDoorKWd
set_option linter.unusedSimpArgs false
set_option linter.unusedVariables false
namespace Go.PM
def VT (f:Nat) (args:List VV) (r:VV):Prop :=
 ∀(F:Nat→Prop) (P:aE) (dN:List Value) (dO:Nat),(∀b,F b→b<P.length)→VL (bare F P) args dN→dO≤P.length →
  ∃P' pv,qY f dN dO P=some (pv,P')∧P <+: P'∧VR (bare (fun q=>F q∨(P.length≤q∧q<P'.length)) P') r pv
def NL (lo dO:Nat) (V:View) (r:Option (Value×aE)) (K:VV→aA→Prop):Prop :=
 ∃pv V' v,r=some (pv,V'.P)∧SR V' lo dO∧DX lo V V'∧VR V' v pv∧K v V'.H
def qD (f:Nat) (args:List VV) (lo:Nat) (H:aA) (K:VV→aA→Prop):Prop :=
 ∀(V:View) (dO:Nat) (dN:List Value),V.H=H→SR V lo dO→VL V args dN→NL lo dO V (qY f dN dO V.P) K
theorem qD.mono {f:Nat} {args:List VV} {lo:Nat} {H:aA} {K K':VV→aA→Prop} (hk:∀v H,K v H→K' v H) (h:qD f args lo H K):qD f args lo H K':=by
 intro V dO dN hH hS hl
 obtain⟨pv,V',v,h1,h2,h3,h4,h5⟩:=h V dO dN hH hS hl
 exact⟨pv,V',v,h1,h2,h3,h4,hk _ _ h5⟩
theorem VT.uniq {f:Nat} {args:List VV} {r r':VV} (h:VT f args r) (h':VT f args r') (ha:aN args=true) (hr:gK r=true) (Gy:gK r'=true):r=r':=by
 obtain⟨P,ps,_,hl⟩:=MF args ha []
 obtain⟨P',pv,h1,_,h2⟩:=h (· < P.length) P ps 0 (fun _ h=>h) hl (Nat.zero_le _)
 obtain⟨VD,pv',h3,_,h4⟩:=h' (· < P.length) P ps 0 (fun _ h=>h) hl (Nat.zero_le _)
 rw[h1] at h3
 injection h3 with h3
 injection h3 with h3 h5
 subst h3 h5
 exact h2.uniq h4 hr Gy
open Classical in
noncomputable def vT (f:Nat) (args:List VV):Option VV:=if h:∃r,aN args=true∧gK r=true∧VT f args r then some (Classical.choose h) else none
theorem Nj {f:Nat} {args:List VV} {r:VV} (h:vT f args=some r):aN args=true∧gK r=true∧VT f args r:=by
 unfold vT at h
 split at h
 ·rename_i hx
  cases h
  exact Classical.choose_spec hx
 ·cases h
theorem abU {f:Nat} {args:List VV} {r:VV} (ha:aN args=true) (hr:gK r=true) (h:VT f args r):vT f args=some r:=by
 have hx:∃r,aN args=true∧gK r=true∧VT f args r:=⟨r,ha,hr,h⟩
 unfold vT
 rw[dif_pos hx]
 obtain⟨_,h2,h3⟩:=Classical.choose_spec hx
 rw[h3.uniq h ha h2 hr]
def tk (r:Option VV) (K:VV→Prop):Prop:=match r with
 | some r=>K r
 | none=>False
noncomputable def EZ (f:Nat) (args:List VV) (K:VV→Prop):Prop:=tk (vT f args) K
noncomputable def cW (f:Nat) (args:List VV) (lo:Nat) (H:aA) (K:VV→aA→Prop):Prop :=
 if Ez.contains f=true then qD f args lo H K
 else if aN args=true then EZ f args fun r=>K r H
 else match args.mapM (fz depth H) with
  | some kD=>EZ f kD fun r=>if Fa r=true then K r H else K r (cJ H (args.flatMap (iN depth H)))
  | none=>False
noncomputable def dX (fl:Fl) (lo:Nat) (q:Bool) (op:nI) (ρ:cG) (H:aA) (K:VV→aA→Prop):Prop :=
 match op with
 | .call f args=>cW f (args.map (dY ρ)) (if q then H.length else lo) H K
 |
  .callv fv args=>match dY ρ fv with
  | .uG f fR=>cW f (args.map (dY ρ)++fR) (if q then H.length else lo) H K
  | _=>False
 |
  o=>match vop fl lo o ρ H with
  | some (v,H')=>K v H'
  | none=>False
noncomputable def VS (fl:Fl) (lo:Nat):List PI→(cG→aA→Prop)→cG→aA→Prop
 | [],K,ρ,H=>K ρ H
 |
  i::is,K,ρ,H=>match BA i.g ρ with
  | none=>False
  | some false=>VS fl lo is K (Ir ρ i.dst pT) H
  | some true=>i.cf.all (eE ρ H)=true∧dX fl lo i.quiet i.op ρ H fun v H'=>VS fl lo is K (Ir ρ i.dst v) H'
def ZE:List Nat→cG→aA→Option (cG×aA)
 | [],ρ,H=>some (ρ,H)
 |
  t::ts,ρ,H=>match fz depth H (ρ t) with
  | some v=>ZE ts (Ir ρ (some t) v) (cJ H (iN depth H (ρ t)))
  | none=>none
def IM (r:Option VV) (H:aA) (K:VV→aA→Prop):Prop:=match r with
 | some v=>K v H
 | none=>False
def gh (K:cG→aA→Prop) (ρ:cG) (H:aA):Prop:=∃ts aM H',ZE ts ρ H=some (aM,H')∧K aM H'
def lQ (k:Nat) (H:aA):Bool:=H.all fun
 | .row _ es _ _=>lI k es
 | .dead=>true
def nG (k:Nat) (ρ:cG):cG:=fun t=>Fs k (ρ t)
abbrev VQ:=Ex→cG→aA→Prop
def mY (K:cG→aA→Prop) (Q:VQ):VQ
 | .normal=>K
 | x=>Q x
def pP (id:Nat) (Q:VQ):VQ
 | .exit PO=>fun ρ H=>if PO=id then Q .normal ρ H else Q (.exit PO) ρ H
 | x=>Q x
def Oz (body:VQ→cG→aA→Prop) (Q:VQ):Nat→cG→aA→Prop
 | 0,_,_=>False
 | n+1,ρ,H=>body (mY (fun aM H'=>Oz body Q n aM H'∨(lQ H.length (H'.take H.length)=true∧Oz body Q n (nG H.length aM) (H'.take H.length))) Q) ρ H
noncomputable def VW (fl:Fl) (lo:Nat):aF→VQ→cG→aA→Prop
 | .skip,Q,ρ,H=>Q .normal ρ H
 | .eT ops,Q,ρ,H=>VS fl lo ops (Q .normal) ρ H
 | .seq a b,Q,ρ,H=>VW fl lo a (mY (VW fl lo b Q) Q) ρ H
 |
  .cond c a b,Q,ρ,H=>match dY ρ c with
  | .sc (.bool t)=>if t=true then VW fl lo a Q ρ H else VW fl lo b Q ρ H
  | _=>False
 | .block id a,Q,ρ,H=>VW fl lo a (pP id Q) ρ H
 | .loop a,Q,ρ,H=>∃n,Oz (VW fl lo a) (fun x=>gh (Q x)) n ρ H
 | .exit id,Q,ρ,H=>Q (.exit id) ρ H
 | .ret,Q,ρ,H=>Q .ret ρ H
def Cd (ρ:cG) (H:aA):AU→Option VV
 | .tmp t=>some (ρ t)
 | .cell t agg size=>cU agg size (ρ t) H
def pK (ρ:cG) (H:aA):List AU→Option (List VV)
 | []=>some []
 |
  r::rs=>match Cd ρ H r,pK ρ H rs with
  | some v,some vs=>some (v::vs)
  | _,_=>none
def mQ (res:List AU) (ρ:cG) (H:aA):Option VV :=
 match pK ρ H res with
 | some [v]=>some v
 | some vs=>some (.eG vs)
 | none=>none
def Ff (R:VV→aA→Prop):Option VV→aA→Prop
 | some v,H=>R v H
 | none,_=>False
def AY (res:List AU) (R:VV→aA→Prop):VQ
 | .exit _,_,_=>False
 | .normal,ρ,H=>Ff R (mQ res ρ H) H
 | .ret,ρ,H=>Ff R (mQ res ρ H) H
def Hz (args:List VV):cG:=fun k=>args.getD k pT
section
variable {lo dO:Nat}
theorem Eu {V:View} (hS:SR V lo dO) {P':aE} (hp:V.P <+: P'):SR { V with P:=P',F:=fun q=>V.F q∨(V.P.length≤q∧q<P'.length) } lo dO∧DX lo V { V with P:=P',F:=fun q=>V.F q∨(V.P.length≤q∧q<P'.length) }:=by
 obtain⟨L,rfl⟩:=hp
 have hU:Up V { V with P:=V.P++L,F:=fun q=>V.F q∨(V.P.length≤q∧q<(V.P++L).length) }:=⟨fun _ h => .inl h,fun b hb=>List.getElem?_append_left (hS.fr b hb),Nat.le_refl _,fun b g es e w _ h=>⟨g,es,w,h,Nat.le_refl _,fun _=>rfl⟩,rfl,by simp,fun b g es e w hb _=>⟨g,es,w,hb,rfl,id⟩⟩
 refine⟨⟨fun b g es e w hb => ?_,fun b g es e hb=>⟨fun hF => ?_,(hS.wr b g es e hb).2⟩,hS.inj,fun b hb => ?_,by have:=hS.QQ;simp;omega,by have:=hS.IU;simp;omega⟩,{ hU with cZ:=fun q hq _=>List.getElem?_append_left hq,B0:=fun q hq => ?_ }⟩
 ·obtain⟨r,p,h1,h2,h3⟩:=hS.row b g es e w hb
  exact⟨r,p,by rw[←h1];exact List.getElem?_append_left (hS.mlt hb),h2,h3.mono hU⟩
 ·rcases hF with hF | hF
  ·exact(hS.wr b g es e hb).1 hF
  ·have h1:=hS.mlt hb
   have h2:V.P.length≤V.m b:=hF.1
   omega
 ·rcases hb with hb | hb
  ·have:=hS.fr b hb
   simp;omega
  ·exact hb.2
 ·rcases hq with hq | hq
  ·exact .inl hq
  ·exact .inr (.inl hq.1)
theorem XZ {V V':View} {x:VV} {v:Value} (h:VR V x v):Fa x=true→VR V' x v:=by
 induction h using VR.rec (motive_2:=fun xs vs _=>OM xs=true→VL V' xs vs) with
 | sc _ h=>intro _;exact .sc _ h
 | agg cs ps _ ih=>intro hx;exact .agg _ _ (ih hx)
 | eG cs ps _ ih=>intro hx;exact .eG _ _ (ih hx)
 | any=>intro hx;cases hx
 | nK=>intro hx;cases hx
 | tree=>intro hx;cases hx
 | cP=>intro hx;cases hx
 | ref=>intro hx;cases hx
 | ptr=>intro hx;cases hx
 | uG=>intro hx;cases hx
 | nil=>exact .nil
 |
  cons x v xs vs _ _ ih RC =>
  rename_i hx
  simp only[OM,Bool.and_eq_true] at hx
  exact .cons _ _ _ _ (ih hx.1) (RC hx.2)
theorem VR.C0 {V':View} {G:Nat→Prop} {P:aE} {x:VV} {v:Value} (hF:∀b,G b→V'.F b∧V'.P[b]? = P[b]?) (h:VR (bare G P) x v):VR V' x v:=by
 induction h using VR.rec (motive_2:=fun xs vs _=>VL V' xs vs) with
 | any=>exact .any _
 | sc _ h=>exact .sc _ h
 | agg cs ps _ ih=>exact .agg _ _ ih
 | eG cs ps _ ih=>exact .eG _ _ ih
 | nK k hk=>exact .nK k hk
 | tree es k b o c r e p Rw hb ho hc he hk _ ih=>exact .tree es k b o c r e p (hF _ Rw).1 (by rw[(hF _ Rw).2];exact hb) ho hc he hk ih
 | cP x off b o r e p Rw hb ho _ ih=>exact .cP x off b o r e p (hF _ Rw).1 (by rw[(hF _ Rw).2];exact hb) ho ih
 | ref b g o n c a n' c' aX hg ha hq=>exact absurd aX (Nat.not_lt_zero _)
 | ptr b g j off a aX hg ha hq=>exact absurd aX (Nat.not_lt_zero _)
 | uG f fR ps _ ih=>exact .uG _ _ _ ih
 | nil=>exact .nil
 | cons x v xs vs _ _ ih RC=>exact .cons _ _ _ _ ih RC
theorem Oy {V:View} (hS:SR V lo dO) {f aaL:Nat} (aaE:aaL≤V.P.length) {args:List VV} {dN:List Value} {G:Nat→Prop} (hG:∀b,G b→b<V.P.length) (hl:VL (bare G V.P) args dN) {K:VV→Prop} (h:EZ f args K) :
  ∃P' pv r,qY f dN aaL V.P=some (pv,P')∧V.P <+: P'∧VR (bare (fun q=>G q∨(V.P.length≤q∧q<P'.length)) P') r pv∧aP r=true∧K r:=by
 unfold EZ tk at h
 split at h
 ·rename_i r hr
  obtain⟨h1,h2,h3⟩:=Nj hr
  obtain⟨P',pv,h4,h5,h6⟩:=h3 G V.P dN aaL hG hl aaE
  exact⟨P',pv,r,h4,h5,h6,OV r h2,h⟩
 ·cases h
theorem EU {V:View} (hS:SR V lo dO) {f:Nat} {args:List VV} {dN:List Value} (hl:VL V args dN) {q:Bool} {K:VV→aA→Prop} (h:cW f args (if q then V.H.length else lo) V.H K):NL lo dO V (qY f dN (if q then V.P.length else dO) V.P) K:=by
 have hlq:(if q=true then V.P.length else dO)≤V.P.length:=by split;exact Nat.le_refl _;exact hS.QQ
 unfold cW at h
 split at h
 ·cases q with
  | false=>exact h V dO dN rfl hS hl
  |
   true =>
   have hS':SR V V.H.length V.P.length:=⟨hS.row,fun b g es e hb=>⟨(hS.wr b g es e hb).1,fun hl=>by have:=(List.getElem?_eq_some_iff.1 hb).1;omega⟩,hS.inj,hS.fr,Nat.le_refl _,hS.IU⟩
   obtain⟨pv,V',r,g1,g3,g4,g5,g6⟩:=h V V.P.length dN rfl hS' hl
   refine⟨pv,V',r,g1,⟨g3.row,fun b g es e hb=>⟨(g3.wr b g es e hb).1,fun DV => ?_⟩,g3.inj,g3.fr,Nat.le_trans hS.QQ g4.DP,g3.IU⟩,{ g4.toUp with cZ:=fun p hp _=>g4.cZ p hp fun b g es e hb DV => ?_,B0:=g4.B0 },g5,g6⟩
   ·rcases Nat.lt_or_ge (V'.m b) V.P.length with aX | DA
    ·obtain⟨g0,es0,w0,k1,k2,k3⟩:=g4.A5 b g es e true hb aX
     have:=k3 rfl
     subst this
     rw[k2]
     exact(hS.wr _ _ _ _ k1).2 DV
    ·exact Nat.le_trans hS.QQ DA
   ·have:=(List.getElem?_eq_some_iff.1 hb).1
    have DV:V.H.length≤b:=DV
    omega
 ·split at h
  ·rename_i hp
   obtain⟨P',pv,r,g1,g2,g3,g4,g5⟩:=Oy hS (aaL:=if q=true then V.P.length else dO) hlq (G:=V.F) hS.fr (VL.pure (V:=V) (V':=bare V.F V.P) (fun b hb=>⟨hb,rfl⟩) hl hp) h
   obtain⟨k1,k2⟩:=Eu hS g2
   exact⟨pv,_,r,g1,k1,k2,g3.C0 (fun b hb=>⟨hb,rfl⟩),g5⟩
  ·split at h
   case h_2=>cases h
   rename_i kD Zy
   unfold EZ tk at h
   split at h
   case h_2=>cases h
   rename_i r hr
   obtain⟨h1,h2,h3⟩:=Nj hr
   split at h
   ·rename_i hfl
    have CY:=Dm hS (G:=(· < V.P.length)) (fun q hq=>hS.fr q hq) hl Zy (fun i _ g es e w hb=>hS.mlt hb)
    obtain⟨P',pv,g1,g2,g3⟩:=h3 _ V.P dN _ (fun _ h=>h) CY hlq
    obtain⟨k1,k2⟩:=Eu hS g2
    exact⟨pv,_,r,g1,k1,k2,XZ g3 hfl,h⟩
   ·obtain⟨k1,k2,k3,k4,k5,k6⟩:=vG (args.flatMap (iN depth V.H)) hS
    have CY:=Dm hS (G:=(V.cJ (args.flatMap (iN depth V.H))).F) (fun q hq=>k2.F q hq) hl Zy k6
    rw[←k4] at CY
    obtain⟨P',pv,g1,g2,g3⟩:=h3 _ _ dN _ k1.fr CY (by rw[k4];exact hlq)
    obtain⟨j1,j2⟩:=Eu k1 g2
    rw[k4] at g1
    refine⟨pv,_,r,g1,j1,k2.trans j2,g3.C0 (fun b hb=>⟨hb,rfl⟩),?_⟩
    show K r (V.cJ (args.flatMap (iN depth V.H))).H
    rw[k3]
    exact h
def zU (lo dO:Nat) (V:View) (c:aF) (Q:VQ) (kL:Env):Prop :=
 W dO c (fun x K2 P'=>∃V' aM,V'.P=P'∧SR V' lo dO∧DX lo V V'∧ER V' aM K2∧Q x aM V'.H) kL V.P
theorem FA {V:View} {ρ:cG} {kL:Env} (hE:ER V ρ kL) {g:Option (Nat×Bool)} {t:Bool} (h:BA g ρ=some t):zM g kL=some t:=by
 unfold BA at h
 unfold zM
 split at h
 ·exact h
 ·rename_i t' want
  have ht:=hE t'
  split at h
  ·rename_i b hb
   obtain⟨e,_⟩:=qW ht hb
   simp only[e]
   exact h
  ·rename_i vs hb
   rw[hb] at ht
   generalize hu:kL t'=u at ht
   cases ht with
   | eG cs ps hl=>simp only[hu];exact h
  ·cases h
theorem R1 {V:View} (hS:SR V lo dO) {x y:VV} {u w:Value} (hx:VR V x u) (hy:VR V y w) (h:jC V.H x y=true):ahT u w=true:=by
 have key:∀ {z:VV} {v:Value},VR V z v→(match lW V.H z with
   | .bad=>True
   | .no=>jD v=none
   | .row i wr=>jD v=some (V.m i)∧∃g es e,V.H[i]? = some (.row g es e wr)
   | .A5 i=>∀q,jD v=some q→∀b' g' es e w,V.H[b']? = some (.row g' es e w)→b'≠i→V.m b'≠q
   | .tree=>∀b,jD v=some b→V.F b):=by
  intro z v hz
  cases hz with
  | any=>simp only[lW]
  | sc v h =>
      cases v<;>first | rfl | cases h | skip
      rename_i a;cases a<;>first | rfl | cases h
  | agg=>rfl
  | eG=>rfl
  | nK k hk =>
       rcases hk with rfl | rfl
       ·intro b hb;cases hb
       ·rfl
  |
   tree es k b o c r e p hF hb ho hc he hk hl =>
   cases es with
   |
    nil=>cases k with
    | nil=>exact hk.elim
    | op=>intro b' wK;cases wK;exact hF
    | cl=>intro b' wK;cases wK;exact hF
   | cons=>intro b' wK;cases wK;exact hF
  | cP x off b o r e p hF hb ho hl=>intro b' wK;cases wK;exact hF
  |
   ref b g o n c a n' c' aX hg ha hq =>
   simp only[lW]
   cases hr:aK V.H b g with
   | none=>exact fun q h=>(by
     cases a with
     | none=>cases h
     | some a0=>cases h;exact(hq a0 rfl).2.2)
   |
    some q =>
    obtain⟨es,e,wr⟩:=q
    rw[cO] at hr
    obtain⟨rfl,rfl,rfl⟩:=ha _ _ _ hr
    exact⟨rfl,g,es,e,hr⟩
  |
   ptr b g j off a aX hg ha hq =>
   simp only[lW]
   cases hr:aK V.H b g with
   | none=>exact fun q h=>(by
     cases a with
     | none=>cases h
     | some a0=>cases h;exact(hq a0 rfl).2.2)
   |
    some q =>
    obtain⟨es,e,wr⟩:=q
    rw[cO] at hr
    have:=ha _ _ _ hr
    subst this
    exact⟨rfl,g,es,e,hr⟩
  | uG=>rfl
 have kx:=key hx
 have ky:=key hy
 unfold jC at h
 unfold ahT
 cases hbx:lW V.H x with
 | bad=>rw[hbx] at h;have h:false=true:=h;cases h
 |
  no =>
  rw[hbx] at kx
  have kx:jD u=none:=kx
  rw[kx]
 |
  A5 i =>
  rw[hbx] at kx h
  have kx:∀q,jD u=some q→∀b' g' es e w,V.H[b']? = some (.row g' es e w)→b'≠i→V.m b'≠q:=kx
  cases Qz:lW V.H y with
  | bad=>rw[Qz] at h;have h:false=true:=h;cases h
  |
   no =>
   rw[Qz] at ky
   have ky:jD w=none:=ky
   rw[ky]
   cases jD u<;>rfl
  | A5 j=>rw[Qz] at h;have h:false=true:=h;cases h
  | tree=>rw[Qz] at h;have h:false=true:=h;cases h
  |
   row j wj =>
   rw[Qz] at ky h
   obtain⟨k3,g2,YG,e2,k4⟩:jD w=some (V.m j)∧∃g es e,V.H[j]? = some (.row g es e wj):=ky
   have h:(i != j)=true:=h
   simp only[bne_iff_ne,ne_eq] at h
   rw[k3]
   cases hu:jD u with
   | none=>rfl
   |
    some q =>
    simp only[bne_iff_ne,ne_eq]
    exact fun hm=>kx q hu j _ _ _ _ k4 (Ne.symm h) hm.symm
 |
  row i wi =>
  rw[hbx] at kx h
  obtain⟨k1,g1,BO,e1,k2⟩:jD u=some (V.m i)∧∃g es e,V.H[i]? = some (.row g es e wi):=kx
  cases Qz:lW V.H y with
  | bad=>rw[Qz] at h;have h:false=true:=h;cases h
  |
   no =>
   rw[Qz] at ky
   have ky:jD w=none:=ky
   rw[ky]
   cases jD u<;>rfl
  |
   A5 j =>
   rw[Qz] at ky h
   have ky:∀q,jD w=some q→∀b' g' es e w,V.H[b']? = some (.row g' es e w)→b'≠j→V.m b'≠q:=ky
   have h:(i != j)=true:=h
   simp only[bne_iff_ne,ne_eq] at h
   rw[k1]
   cases hw:jD w with
   | none=>rfl
   |
    some q =>
    simp only[bne_iff_ne,ne_eq]
    exact fun hm=>ky q hw i _ _ _ _ k2 h hm
  |
   row j wj =>
   rw[Qz] at ky h
   obtain⟨k3,g2,YG,e2,k4⟩:jD w=some (V.m j)∧∃g es e,V.H[j]? = some (.row g es e wj):=ky
   rw[k1,k3]
   have h:(i != j)=true:=h
   simp only[bne_iff_ne,ne_eq] at h ⊢
   exact fun hm=>h (hS.inj _ _ _ _ _ _ _ _ _ _ k2 k4 hm)
  |
   tree =>
   rw[Qz] at ky h
   have ky:∀b,jD w=some b→V.F b:=ky
   have h:wi=true:=h
   subst h
   cases hw:jD w with
   | none=>rw[k1]
   |
    some b =>
    rw[k1]
    simp only[bne_iff_ne,ne_eq]
    exact fun hm=>(hS.wr _ _ _ _ k2).1 (by rw[hm];exact ky b hw)
 |
  tree =>
  rw[hbx] at kx h
  have kx:∀b,jD u=some b→V.F b:=kx
  cases Qz:lW V.H y with
  | bad=>rw[Qz] at h;have h:false=true:=h;cases h
  |
   no =>
   rw[Qz] at ky
   have ky:jD w=none:=ky
   rw[ky]
   cases jD u<;>rfl
  | tree=>rw[Qz] at h;have h:false=true:=h;cases h
  | A5 j=>rw[Qz] at h;have h:false=true:=h;cases h
  |
   row j wj =>
   rw[Qz] at ky h
   obtain⟨k1,g1,BO,e1,k2⟩:jD w=some (V.m j)∧∃g es e,V.H[j]? = some (.row g es e wj):=ky
   have h:wj=true:=h
   subst h
   cases hw:jD u with
   | none=>rfl
   |
    some b =>
    rw[k1]
    simp only[bne_iff_ne,ne_eq]
    exact fun hm=>(hS.wr _ _ _ _ k2).1 (by rw[←hm];exact kx b hw)
theorem PZ {V:View} (hS:SR V lo dO) {ρ:cG} {kL:Env} (hE:ER V ρ kL) {fl:Fl} {q:Bool} {op:nI} {K:VV→aA→Prop} (h:dX fl lo q op ρ V.H K):NL lo dO V (jR dO q op kL V.P) K:=by
 have other:∀ {v H'},vop fl lo op ρ V.H=some (v,H')→K v H'→NL lo dO V (jR dO q op kL V.P) K:=by
  intro v H' h1 h2
  obtain⟨pv,V',g1,g2,g3,g4,g5⟩:=UX hS hE (q:=q) h1
  exact⟨pv,V',v,g1,g3,g4,g5,by rw[g2];exact h2⟩
 unfold dX at h
 split at h
 ·rw[UI]
  exact EU hS (hE.evs _) h
 ·rename_i fv args
  rw[Q3]
  have hf:=hE.ev fv
  split at h
  ·rename_i f fR hfv
   rw[hfv] at hf
   generalize ev kL fv=u at hf ⊢
   cases hf with
   |
    uG f fR ps hl =>
    unfold XR
    simp only[List.nil_append]
    exact EU hS ((hE.evs args).append hl) h
  ·cases h
 ·split at h
  ·rename_i v H' h1
   exact other h1 h
  ·cases h
theorem Kj {fl:Fl} {K:cG→aA→Prop}:∀(is:List PI) {V:View} {ρ:cG} {kL:Env},SR V lo dO→ER V ρ kL→VS fl lo is K ρ V.H →
  WS dO is (fun K2 P'=>∃V' aM,V'.P=P'∧SR V' lo dO∧DX lo V V'∧ER V' aM K2∧K aM V'.H) kL V.P
 |
  [],V,ρ,kL,hS,hE,h=>by
  rw[aeM]
  exact⟨V,ρ,rfl,hS,DX.refl _ _,hE,h⟩
 |
  i::is,V,ρ,kL,hS,hE,h=>by
  unfold VS at h
  rw[aiR]
  unfold yV
  split at h
  ·cases h
  ·rename_i hw
   rw[FA hE hw]
   exact⟨_,_,rfl,Kj is hS (hE.put (.eG [] [] .nil)) h⟩
  ·rename_i hw
   rw[FA hE hw]
   obtain⟨N0,h⟩:=h
   have anH:i.cf.all (AX kL)=true:=by
    rw[List.all_eq_true] at N0 ⊢
    intro c hc
    exact R1 hS (hE.ev c.1) (hE.ev c.2) (N0 c hc)
   simp only[anH,if_true]
   obtain⟨pv,V',v,g1,g2,g3,g4,g5⟩:=PZ hS hE h
   refine⟨pv,V'.P,?_,?_⟩
   ·unfold jR at g1
    exact g1
   ·obtain⟨S6,VD,k1,QC,yT,k2,k3,k4,k5,k6⟩:=Kj is g2 ((hE.mono g3.toUp).put g4) g5
    exact⟨S6,VD,k1,QC,yT,k2,k3,g3.trans k4,k5,k6⟩
theorem J0:∀(ts:List Nat) {V:View} {ρ aM:cG} {kL:Env} {H':aA},SR V lo dO→ER V ρ kL→ZE ts ρ V.H=some (aM,H')→∃V',V'.P=V.P∧V'.H=H'∧SR V' lo dO∧DX lo V V'∧ER V' aM kL
 |
  [],V,ρ,aM,kL,H',hS,hE,h=>by
  cases h
  exact⟨V,rfl,rfl,hS,DX.refl _ _,hE⟩
 |
  t::ts,V,ρ,aM,kL,H',hS,hE,h=>by
  unfold ZE at h
  split at h
  case h_2=>cases h
  rename_i v hv
  obtain⟨k1,k2,k3,k4,k5,k6⟩:=vG (iN depth V.H (ρ t)) hS
  have hx:=Jq hS (G:=(V.cJ (iN depth V.H (ρ t))).F) (fun q hq=>k2.F q hq) depth (ρ t) v (kL t) (hE t) hv k6
  have Gk:VR (V.cJ (iN depth V.H (ρ t))) v (kL t):=hx.C0 (fun b hb=>⟨hb,by rw[k4]⟩)
  rw[←k3] at h
  obtain⟨V',g1,g2,g3,g4,g5⟩:=J0 ts (kL:=kL) k1 (by
   have e:=(hE.mono k2.toUp).put (d:=some t) Gk
   have ee:put kL (some t) (kL t)=kL:=by
    funext k
    simp only[put]
    split
    ·rename_i hk;rw[hk]
    ·rfl
   rw[ee] at e
   exact e) h
  exact⟨V',g1.trans k4,g2,g3,k2.trans g4,g5⟩
theorem P9 {V:View} (hS:SR V lo dO) {ρ:cG} {kL:Env} (hE:ER V ρ kL) {K:cG→aA→Prop} (h:gh K ρ V.H):∃V' aM,V'.P=V.P∧SR V' lo dO∧DX lo V V'∧ER V' aM kL∧K aM V'.H:=by
 obtain⟨ts,aM,H',h1,h2⟩:=h
 obtain⟨V',g1,g2,g3,g4,g5⟩:=J0 ts hS hE h1
 exact⟨V',aM,g1,g3,g4,g5,by rw[g2];exact h2⟩
theorem JA {k:Nat} {es:List VV}:lI k es=true↔∀x∈es,below k x=true:=by
 induction es with
 | nil=>simp[lI]
 | cons x xs ih=>simp[lI,ih]
theorem CT {k:Nat} {es:List VV} (h:lI k es=true):lI k (es.flatMap aB)=true:=by
 rw[JA] at h ⊢
 intro x hx
 obtain⟨y,hy,Aj⟩:=List.mem_flatMap.1 hx
 have:=h y hy
 unfold aB at Aj
 split at Aj
 ·exact JA.1 (by simpa[below] using this) x Aj
 ·rw[List.mem_singleton] at Aj;subst Aj;exact this
theorem Qk {k:Nat} {x:VV} (h:below k x=true):lI k (aB x)=true:=by
 have:=CT (k:=k) (es:=[x]) (by simp[lI,h])
 simpa using this
def View.zP (V:View) (k:Nat):View:={ V with H:=V.H.take k }
theorem VR.zP {V:View} {k:Nat} (hk:k≤V.H.length) {x:VV} {v:Value} (h:VR V x v):PM.below k x=true→VR (V.zP k) x v:=by
 have he:∀ {b:Nat},b<k→∀y,(V.zP k).H[b]? = some y→V.H[b]? = some y:=fun SI y hy=>by
  have:(V.H.take k)[_]? = some y:=hy
  rw[List.getElem?_take,if_pos SI] at this
  exact this
 have hT:∀ {b:Nat} {y:eR},(V.zP k).H[b]? = some y→V.H[b]? = some y:=fun {b y} hy=>by
  have h:(V.H.take k)[b]? = some y:=hy
  rw[List.getElem?_take] at h
  split at h
  ·exact h
  ·cases h
 induction h using VR.rec (motive_2:=fun xs vs _=>lI k xs=true→VL (V.zP k) xs vs) with
 | any=>intro _;exact .any _
 | sc _ h=>intro _;exact .sc _ h
 | agg cs ps _ ih=>intro hb;exact .agg _ _ (ih hb)
 | eG cs ps _ ih=>intro hb;exact .eG _ _ (ih hb)
 | nK k hk=>intro _;exact .nK k hk
 | tree es k b o c r e p Rw uR ho hc he hk' _ ih=>intro hb;exact .tree es k b o c r e p Rw uR ho hc he hk' (ih (CT hb))
 | cP x off b o r e p Rw uR ho _ ih=>intro hb;exact .cP x off b o r e p Rw uR ho (ih (Qk hb))
 |
  ref b g o n c a n' c' aX hg ha hq =>
  intro hb
  have SI:b<k:=by simpa[PM.below] using hb
  exact .ref b g o n c a n' c' (by show b<(V.H.take k).length;simp;omega) (fun g' es e w hr=>hg _ _ _ _ (he SI _ hr)) (fun es e w hr=>ha _ _ _ (he SI _ hr)) fun a0 h=>⟨(hq a0 h).1,(hq a0 h).2.1,fun b' g' es e w hr=>(hq a0 h).2.2 b' g' es e w (hT hr)⟩
 |
  ptr b g j off a aX hg ha hq =>
  intro hb
  have SI:b<k:=by simpa[PM.below] using hb
  exact .ptr b g j off a (by show b<(V.H.take k).length;simp;omega) (fun g' es e w hr=>hg _ _ _ _ (he SI _ hr)) (fun es e w hr=>ha _ _ _ (he SI _ hr)) fun a0 h=>⟨(hq a0 h).1,(hq a0 h).2.1,fun b' g' es e w hr=>(hq a0 h).2.2 b' g' es e w (hT hr)⟩
 | uG f fR ps _ ih=>intro hb;exact .uG _ _ _ (ih hb)
 | nil=>exact .nil
 |
  cons x v xs vs _ _ ih RC =>
  rename_i hb
  simp only[lI,Bool.and_eq_true] at hb
  exact .cons _ _ _ _ (ih hb.1) (RC hb.2)
theorem VL.zP {V:View} {k:Nat} (hk:k≤V.H.length) {xs:List VV} {vs:List Value} (h:VL V xs vs) (hb:lI k xs=true):VL (V.zP k) xs vs:=by
 induction xs generalizing vs with
 | nil=>cases h;exact .nil
 |
  cons x xs ih=>cases h with
  |
   cons _ v _ vs h hs =>
   simp only[lI,Bool.and_eq_true] at hb
   exact .cons _ _ _ _ (h.zP hk hb.1) (ih hs hb.2)
theorem Pa {V V':View} (hS:SR V' lo dO) {ρ:cG} {kL:Env} (hE:ER V' ρ kL) (hx:DX lo V V') (hr:lQ V.H.length (V'.H.take V.H.length)=true) :
  SR (V'.zP V.H.length) lo dO∧DX lo V (V'.zP V.H.length)∧ER (V'.zP V.H.length) (nG V.H.length ρ) kL:=by
 have hk:=hx.len
 have get:∀ {b:Nat} {y:eR},(V'.zP V.H.length).H[b]? = some y→V'.H[b]? = some y:=by
  intro b y h
  have h:(V'.H.take V.H.length)[b]? = some y:=h
  rw[List.getElem?_take] at h
  split at h
  ·exact h
  ·cases h
 refine⟨⟨fun b g es e w hb => ?_,fun b g es e hb=>hS.wr b g es e (get hb),fun a b g es e w g' mU e' w' ha hb hm=>hS.inj a b _ _ _ _ _ _ _ _ (get ha) (get hb) hm,hS.fr,hS.QQ,hS.IU⟩,
  { F:=hx.F,P:=hx.P,len:=by show V.H.length≤(V'.H.take V.H.length).length;simp;omega,row:=fun b g es e w aX hb=>hx.row b g es e w aX (get hb),IU:=hx.IU,DP:=hx.DP,A5:=fun b g es e w hb hm=>hx.A5 b g es e w (get hb) hm,cZ:=hx.cZ,B0:=hx.B0 },fun t => ?_⟩
 ·obtain⟨r,p,h1,h2,h3⟩:=hS.row b g es e w (get hb)
  refine⟨r,p,h1,h2,h3.zP hk (CT ?_)⟩
  have:=List.all_eq_true.1 hr _ (List.mem_of_getElem? (show (V'.H.take V.H.length)[b]? = some _ from hb))
  exact this
 ·unfold nG Fs
  split
  ·rename_i hb
   exact(hE t).zP hk hb
  ·exact .any _
theorem Qv {c:aF} {Q:Ex→Env→aE→Prop} {ρ:Env} {H:aE} (h:W dO c (alM (fun aM H'=>W dO (.loop c) Q aM H') Q) ρ H):W dO (.loop c) Q ρ H:=by
 obtain⟨x,aM,H',h1,h2⟩:=h
 unfold W
 rw[T4,h1]
 cases x with
 |
  normal =>
  obtain⟨y,yT,Zx,h3,h4⟩:=h2
  exact⟨y,yT,Zx,h3,h4⟩
 | exit i=>exact⟨_,_,_,rfl,h2⟩
 | ret=>exact⟨_,_,_,rfl,h2⟩
theorem uX {fl:Fl}:∀(c:aF) {V:View} {ρ:cG} {kL:Env} {Q:VQ},SR V lo dO→ER V ρ kL→VW fl lo c Q ρ V.H→zU lo dO V c Q kL
 |
  .skip,V,ρ,kL,Q,hS,hE,h=>by
  unfold zU
  rw[adX]
  exact⟨V,ρ,rfl,hS,DX.refl _ _,hE,h⟩
 |
  .exit id,V,ρ,kL,Q,hS,hE,h=>by
  unfold zU
  rw[afT]
  exact⟨V,ρ,rfl,hS,DX.refl _ _,hE,h⟩
 |
  .ret,V,ρ,kL,Q,hS,hE,h=>by
  unfold zU
  rw[akC]
  exact⟨V,ρ,rfl,hS,DX.refl _ _,hE,h⟩
 |
  .eT ops,V,ρ,kL,Q,hS,hE,h=>by
  unfold zU
  rw[akI]
  exact Kj ops hS hE h
 |
  .seq a b,V,ρ,kL,Q,hS,hE,h=>by
  unfold zU
  rw[alJ]
  refine(uX a hS hE h).mono ?_
  rintro x K2 P' ⟨V',aM,rfl,g2,g3,g4,g5⟩
  cases x with
  |
   normal =>
   refine(uX b g2 g4 g5).mono ?_
   rintro y S6 VD ⟨QC,yT,k1,k2,k3,k4,k5⟩
   exact⟨QC,yT,k1,k2,g3.trans k3,k4,k5⟩
  | exit i=>exact⟨V',aM,rfl,g2,g3,g4,g5⟩
  | ret=>exact⟨V',aM,rfl,g2,g3,g4,g5⟩
 |
  .cond c a b,V,ρ,kL,Q,hS,hE,h=>by
  unfold zU
  rw[agD]
  unfold VW at h
  split at h
  ·rename_i t hc
   obtain⟨e,_⟩:=qW (hE.ev c) hc
   refine⟨t,e,fun ht => ?_,fun ht => ?_⟩
   ·rw[if_pos ht] at h
    exact uX a hS hE h
   ·rw[if_neg (by simp[ht])] at h
    exact uX b hS hE h
  ·cases h
 |
  .block id a,V,ρ,kL,Q,hS,hE,h=>by
  unfold zU
  rw[Z5]
  refine(uX a hS hE h).mono ?_
  rintro x K2 P' ⟨V',aM,rfl,g2,g3,g4,g5⟩
  cases x with
  | normal=>exact⟨V',aM,rfl,g2,g3,g4,g5⟩
  |
   exit i =>
   rw[Gz]
   have g5:if i=id then Q .normal aM V'.H else Q (.exit i) aM V'.H:=g5
   split at g5
   ·rename_i hi
    rw[if_pos hi]
    exact⟨V',aM,rfl,g2,g3,g4,g5⟩
   ·rename_i hi
    rw[if_neg hi]
    exact⟨V',aM,rfl,g2,g3,g4,g5⟩
  | ret=>exact⟨V',aM,rfl,g2,g3,g4,g5⟩
 |
  .loop a,V,ρ,kL,Q,hS,hE,h=>by
  obtain⟨n,h⟩:=h
  have key:∀n {V:View} {ρ:cG} {kL:Env},SR V lo dO→ER V ρ kL→Oz (VW fl lo a) (fun x=>gh (Q x)) n ρ V.H→zU lo dO V (.loop a) Q kL:=by
   intro n
   induction n with
   | zero=>intro V ρ kL _ _ h;cases h
   |
    succ n ih =>
    intro V ρ kL hS hE h
    unfold zU
    refine Qv ?_
    refine(uX a hS hE h).mono ?_
    rintro x K2 P' ⟨V',aM,rfl,g2,g3,g4,g5⟩
    cases x with
    |
     normal =>
     rcases g5 with g5 | ⟨g5,g6⟩
     ·refine(ih g2 g4 g5).mono ?_
      rintro y S6 VD ⟨QC,yT,k1,k2,k3,k4,k5⟩
      exact⟨QC,yT,k1,k2,g3.trans k3,k4,k5⟩
     ·obtain⟨t1,t2,t3⟩:=Pa g2 g4 g3 g5
      refine(ih t1 t3 g6).mono ?_
      rintro y S6 VD ⟨QC,yT,k1,k2,k3,k4,k5⟩
      exact⟨QC,yT,k1,k2,t2.trans k3,k4,k5⟩
    |
     exit i =>
     obtain⟨QC,yT,k1,k2,k3,k4,k5⟩:=P9 g2 g4 g5
     exact⟨QC,yT,k1,k2,g3.trans k3,k4,k5⟩
    |
     ret =>
     obtain⟨QC,yT,k1,k2,k3,k4,k5⟩:=P9 g2 g4 g5
     exact⟨QC,yT,k1,k2,g3.trans k3,k4,k5⟩
  exact key n hS hE h
theorem wG {V:View} (hS:SR V lo dO) {ρ:cG} {kL:Env} (hE:ER V ρ kL) {res:List AU} {v:VV} (h:mQ res ρ V.H=some v):∃pv,qQ res kL V.P=some pv∧VR V v pv:=by
 have one:∀ {r:AU} {v:VV},Cd ρ V.H r=some v→∃pv,Tl kL V.P r=some pv∧VR V v pv:=by
  intro r v h
  cases r with
  | tmp t=>cases h;exact⟨_,rfl,hE t⟩
  | cell t agg size=>exact Jv hS (hE t) h
 have all:∀ {rs:List AU} {vs:List VV},pK ρ V.H rs=some vs→∃ps,A8 kL V.P rs=some ps∧VL V vs ps:=by
  intro rs
  induction rs with
  | nil=>intro vs h;cases h;exact⟨[],rfl,.nil⟩
  |
   cons r rs ih =>
   intro vs h
   unfold pK at h
   split at h
   ·rename_i v vs' h1 h2
    cases h
    obtain⟨pv,k1,k2⟩:=one h1
    obtain⟨ps,k3,k4⟩:=ih h2
    exact⟨pv::ps,by unfold A8;rw[k1,k3],.cons _ _ _ _ k2 k4⟩
   ·cases h
 unfold mQ at h
 split at h
 ·rename_i v' hv
  cases h
  obtain⟨ps,k1,k2⟩:=all hv
  cases k2 with
  |
   cons _ pv _ _ hx N2 =>
   cases N2
   exact⟨pv,by unfold qQ;rw[k1],hx⟩
 ·rename_i vs fQ hv
  cases h
  obtain⟨ps,k1,k2⟩:=all hv
  refine⟨.tuple ps.toArray,?_,.eG _ _ k2⟩
  unfold qQ
  rw[k1]
  split
  ·rename_i pv he
   injection he with he
   subst he
   cases k2 with
   | cons x _ _ _ hx N2=>cases N2;exact absurd rfl (fQ x)
  ·rename_i he
   injection he with he
   rw[he]
  ·rename_i he;cases he
 ·cases h
theorem OE {V:View} {args:List VV} {dN:List Value} (h:VL V args dN):ER V (Hz args) (Ug dN):=by
 intro t
 unfold Hz Ug
 rw[List.getD_eq_getElem?_getD,List.getD_eq_getElem?_getD]
 cases hx:args[t]? with
 |
  none =>
  have:dN[t]? = none:=by
   rw[List.getElem?_eq_none_iff] at hx ⊢
   rw[h.length]
   exact hx
  rw[this]
  exact .eG [] [] .nil
 |
  some x =>
  obtain⟨v,h1,h2⟩:=h.get hx
  rw[h1]
  exact h2
theorem qD.walk {f:Nat} {pf:aY} {args:List VV} {H:aA} {K:VV→aA→Prop} (fl:Fl) (ht:jE f=some pf) (ha:args.length≤pf.ntmps) (h:VW fl lo pf.body (AY pf.res K) (Hz args) H):qD f args lo H K:=by
 intro V dO dN hH hS hl
 subst hH
 obtain⟨x,K2,P',h1,V',aM,rfl,g2,g3,g4,g5⟩:=uX pf.body hS (OE hl) h
 have key:∃pv VD,qY f dN dO V.P=some (pv,VD)∧VD=V'.P∧∃r,VR V' r pv∧K r V'.H:=by
  refine Wl ht (by rw[hl.length];exact ha) ?_
  refine⟨x,K2,V'.P,h1,?_⟩
  cases x with
  | exit i=>exact g5.elim
  |
   normal =>
   simp only[AY,Ff] at g5
   split at g5
   ·rename_i v hv
    obtain⟨pv,k2,k3⟩:=wG g2 g4 hv
    exact⟨pv,k2,rfl,v,k3,g5⟩
   ·cases g5
  |
   ret =>
   simp only[AY,Ff] at g5
   split at g5
   ·rename_i v hv
    obtain⟨pv,k2,k3⟩:=wG g2 g4 hv
    exact⟨pv,k2,rfl,v,k3,g5⟩
   ·cases g5
 obtain⟨pv,VD,k1,rfl,r,k2,k3⟩:=key
 exact⟨pv,V',r,k1,g2,g3,k2,k3⟩
theorem VT.walk {f:Nat} {pf:aY} {args:List VV} {r:VV} (fl:Fl) (ht:jE f=some pf) (ha:args.length≤pf.ntmps) (h:VW fl 0 pf.body (AY pf.res fun v H=>fz depth H v=some r) (Hz args) []):VT f args r:=by
 intro F P dN dO hF hl aaE
 have hS:SR (bare F P) 0 dO:=⟨fun b g es e w hb=>by simp[bare] at hb,fun b g es e hb=>by simp[bare] at hb,fun a b g es e w g' mU e' w' ha=>by simp[bare] at ha,hF,aaE,Nat.zero_le _⟩
 obtain⟨x,K2,P',h1,V',aM,rfl,g2,g3,g4,g5⟩:=uX pf.body hS (OE hl) h
 have fin:∀ {v:VV} {pv:Value},VR V' v pv→fz depth V'.H v=some r→VR (bare (fun q=>F q∨(P.length≤q∧q<V'.P.length)) V'.P) r pv:=by
  intro v pv hv hf
  refine Jq g2 (fun q hq => ?_) depth v r pv hv hf fun i _ g es e w hr => ?_
  ·rcases g3.B0 q hq with h | h | ⟨b,g,es,e,w,h,_⟩
   ·exact .inl h
   ·exact .inr ⟨h,g2.fr q hq⟩
   ·simp[bare] at h
  ·rcases Nat.lt_or_ge (V'.m i) P.length with aX | DA
   ·obtain⟨g0,es0,w0,k1,_⟩:=g3.A5 i g es e w hr aX
    simp[bare] at k1
   ·exact .inr ⟨DA,g2.mlt hr⟩
 have key:∃pv VD,qY f dN dO P=some (pv,VD)∧VD=V'.P∧VR (bare (fun q=>F q∨(P.length≤q∧q<V'.P.length)) V'.P) r pv:=by
  refine Wl ht (by rw[hl.length];exact ha) ?_
  refine⟨x,K2,V'.P,h1,?_⟩
  cases x with
  | exit i=>exact g5.elim
  |
   normal =>
   simp only[AY,Ff] at g5
   split at g5
   ·rename_i v hv
    obtain⟨pv,k2,k3⟩:=wG g2 g4 hv
    exact⟨pv,k2,rfl,fin k3 g5⟩
   ·cases g5
  |
   ret =>
   simp only[AY,Ff] at g5
   split at g5
   ·rename_i v hv
    obtain⟨pv,k2,k3⟩:=wG g2 g4 hv
    exact⟨pv,k2,rfl,fin k3 g5⟩
   ·cases g5
 obtain⟨pv,VD,k1,rfl,k3⟩:=key
 refine⟨V'.P,pv,k1,?_,k3⟩
 refine⟨V'.P.drop P.length,List.ext_getElem? fun i => ?_⟩
 rcases Nat.lt_or_ge i P.length with hi | hi
 ·rw[List.getElem?_append_left hi]
  exact(g3.cZ i hi fun b g es e hb=>by simp[bare] at hb).symm
 ·rw[List.getElem?_append_right hi,List.getElem?_drop,show P.length+(i-P.length)=i by omega]
end
end Go.PM
namespace Go.PM
section
variable {fl:Fl} {lo:Nat} {ρ:cG} {H:aA} {Q:VQ} {K:cG→aA→Prop} {k:VV→aA→Prop} {a b:aF} {d:Option Nat} {is:List PI} {q:Bool} {op:nI}
def OZ (fl:Fl) (lo:Nat) (d:Option Nat) (is:List PI) (K:cG→aA→Prop) (ρ:cG):VV→aA→Prop:=fun v H'=>VS fl lo is K (Ir ρ d v) H'
def Qe (r:Option (VV×aA)) (k:VV→aA→Prop):Prop:=match r with
 | some (v,H')=>k v H'
 | none=>False
theorem Me {v:VV} {H':aA}:OZ fl lo d is K ρ v H'=VS fl lo is K (Ir ρ d v) H':=rfl
theorem Qn {v:VV}:IM (some v) H k=k v H:=rfl
theorem Mx {v:VV} {H':aA}:Qe (some (v,H')) k=k v H':=rfl
theorem ZO {r:VV} {K:VV→Prop}:tk (some r) K=K r:=rfl
theorem Tq:VW fl lo .skip Q ρ H=Q .normal ρ H:=rfl
theorem TQ {i:Nat}:VW fl lo (.exit i) Q ρ H=Q (.exit i) ρ H:=rfl
theorem XU:VW fl lo .ret Q ρ H=Q .ret ρ H:=rfl
theorem XJ {ops:List PI}:VW fl lo (.eT ops) Q ρ H=VS fl lo ops (Q .normal) ρ H:=rfl
theorem X4:VW fl lo (.seq a b) Q ρ H=VW fl lo a (mY (VW fl lo b Q) Q) ρ H:=rfl
theorem Qg {i:Nat}:VW fl lo (.block i a) Q ρ H=VW fl lo a (pP i Q) ρ H:=rfl
theorem TV {c:Operand} {t:Bool} (h:dY ρ c = .sc (.bool t)):VW fl lo (.cond c a b) Q ρ H=if t=true then VW fl lo a Q ρ H else VW fl lo b Q ρ H:=by
 simp only[VW,h]
theorem BJ:mY K Q .normal=K:=rfl
theorem D1 {i:Nat}:mY K Q (.exit i)=Q (.exit i):=rfl
theorem E1:mY K Q .ret=Q .ret:=rfl
theorem DZ {i:Nat}:pP i Q .normal=Q .normal:=rfl
theorem Cf {i j:Nat}:pP i Q (.exit j) ρ H=if j=i then Q .normal ρ H else Q (.exit j) ρ H:=rfl
theorem JK {i:Nat}:pP i Q .ret=Q .ret:=rfl
theorem Fi {res:List AU} {R:VV→aA→Prop}:AY res R .normal ρ H=Ff R (mQ res ρ H) H:=rfl
theorem Md {res:List AU} {R:VV→aA→Prop}:AY res R .ret ρ H=Ff R (mQ res ρ H) H:=rfl
theorem JR {R:VV→aA→Prop} {v:VV}:Ff R (some v) H=R v H:=rfl
theorem Qi {t:Nat}:mQ [.tmp t] ρ H=some (ρ t):=rfl
theorem Oe {t u:Nat}:mQ [.tmp t,.tmp u] ρ H=some (.eG [ρ t,ρ u]):=rfl
theorem I0 {t u v:Nat}:mQ [.tmp t,.tmp u,.tmp v] ρ H=some (.eG [ρ t,ρ u,ρ v]):=rfl
theorem Lz:mQ [] ρ H=some (.eG []):=rfl
theorem WJ:VS fl lo [] K ρ H=K ρ H:=rfl
theorem acM:VS fl lo (⟨d,op,none,q,[]⟩::is) K ρ H=dX fl lo q op ρ H (OZ fl lo d is K ρ):=by
 simp only[VS,BA,List.all_nil,true_and]
 rfl
theorem kC {c:Operand×Operand} {cs:List (Operand×Operand)}:VS fl lo (⟨d,op,none,q,c::cs⟩::is) K ρ H=((c::cs).all (eE ρ H)=true∧dX fl lo q op ρ H (OZ fl lo d is K ρ)):=by
 simp only[VS,BA]
 rfl
theorem Oa {t:Nat} {want x:Bool} {cf:List (Operand×Operand)} (h:ρ t = .sc (.bool x)):VS fl lo (⟨d,op,some (t,want),q,cf⟩::is) K ρ H =
  if (x == want)=true then (cf.all (eE ρ H)=true∧dX fl lo q op ρ H (OZ fl lo d is K ρ)) else VS fl lo is K (Ir ρ d pT) H:=by
 simp only[VS,BA,h]
 cases (x == want)<;>rfl
theorem YE {t:Nat} {want:Bool} (h:ρ t = .sc (.bool want)):VS fl lo (⟨d,op,some (t,want),q,[]⟩::is) K ρ H=dX fl lo q op ρ H (OZ fl lo d is K ρ):=by
 rw[Oa h]
 simp
theorem acK {t:Nat} {want:Bool} {cf:List (Operand×Operand)} (h:ρ t = .sc (.bool (!want))):VS fl lo (⟨d,op,some (t,want),q,cf⟩::is) K ρ H=VS fl lo is K (Ir ρ d pT) H:=by
 rw[Oa h]
 cases want<;>rfl
theorem TY {c:Operand} (h:dY ρ c = .sc (.bool true)):VW fl lo (.cond c a b) Q ρ H=VW fl lo a Q ρ H:=by
 rw[TV h,if_pos rfl]
theorem Pl {c:Operand} (h:dY ρ c = .sc (.bool false)):VW fl lo (.cond c a b) Q ρ H=VW fl lo b Q ρ H:=by
 rw[TV h,if_neg (by decide)]
theorem H7 {t:Nat} {want:Bool} {cf:List (Operand×Operand)} (h:ρ t=pT):VS fl lo (⟨d,op,some (t,want),q,cf⟩::is) K ρ H=VS fl lo is K (Ir ρ d pT) H:=by
 simp only[VS,BA,h,pT]
theorem uZ {d t:Nat} {v:VV}:Ir ρ (some d) v t=if t=d then v else ρ t:=rfl
theorem MH {v:VV}:Ir ρ none v=ρ:=rfl
theorem Tf {t:Nat}:dY ρ (.tmp t)=ρ t:=rfl
theorem L9 {v:Value}:dY ρ (.const v)=inj v:=rfl
theorem OO {f:Nat}:dY ρ (.func f) = .uG f []:=rfl
theorem Ta {k:IntKind} {n:Int}:inj (.int k n) = .sc (.int k n):=rfl
theorem PB {t:Bool}:inj (.bool t) = .sc (.bool t):=rfl
theorem Tt {s:ByteArray}:inj (.string s) = .sc (.string s):=rfl
theorem Tk:inj (.slice none 0 0) = .tree [] .nil:=rfl
theorem Tn {cs:Array Value}:inj (.agg cs) = .agg (cs.toList.map jF):=rfl
theorem Pg {k:IntKind} {n:Int}:jF (.int k n) = .sc (.int k n):=rfl
theorem MB {t:Bool}:jF (.bool t) = .sc (.bool t):=rfl
theorem PJ {s:ByteArray}:jF (.string s) = .sc (.string s):=rfl
theorem OI:jF (.slice none 0 0) = .tree [] .nil:=rfl
theorem YY {x:Operand}:dX fl lo q (.mv x) ρ H k=k (dY ρ x) H:=rfl
theorem iG {r:Option VV}:(match r.map (fun v=>(v,H)) with | some (v,H')=>k v H' | none=>False)=IM r H k:=by cases r<;>rfl
theorem PG {c x y:Operand}:dX fl lo q (.pick c x y) ρ H k=IM (Oj (dY ρ c) (dY ρ x) (dY ρ y)) H k:=iG
theorem SD {o:BinOp} {x y:Operand}:dX fl lo q (.bin o x y) ρ H k=IM (GU (fB o) (dY ρ x) (dY ρ y)) H k:=iG
theorem Th {n:Bool} {x y:Operand}:dX fl lo q (.eqb n x y) ρ H k=IM (GU (I3 n) (dY ρ x) (dY ρ y)) H k:=iG
theorem LJ {n:Bool} {x:Operand}:dX fl lo q (.isnil n x) ρ H k=IM (Es n (dY ρ x) H) H k:=iG
theorem Ms {n:Bool} {ks:List CK} {x y:Operand}:dX fl lo q (.eqagg n ks x y) ρ H k=IM (Q7 n ks (dY ρ x) (dY ρ y)) H k:=iG
theorem Yi {o:UnOp} {x:Operand}:dX fl lo q (.un o x) ρ H k=IM (Jg (Xf o) (dY ρ x)) H k:=iG
theorem SS {o:IntKind} {x:Operand}:dX fl lo q (.cvt o x) ρ H k=IM (Jg (R3 o) (dY ρ x)) H k:=iG
theorem TG {x:Operand}:dX fl lo q (.cvs x) ρ H k=IM (Jg Vl (dY ρ x)) H k:=iG
theorem TO {x:Operand} {i:Nat}:dX fl lo q (.ext x i) ρ H k=IM (Wx i (dY ρ x)) H k:=iG
theorem SG {g:Bool} {off size:Nat} {x:Operand}:dX fl lo q (.fld g off size x) ρ H k=IM (ZN g off size (dY ρ x)) H k:=iG
theorem Mj {z:List Value} {places:List (Nat×Nat)} {parts:List (Nat×Operand)}:dX fl lo q (.build z places parts) ρ H k=IM ((xL places (z.map jF) (parts.map fun(i,x)=>(i,dY ρ x))).map .agg) H k:=by
 show (match (xL places (z.map jF) (parts.map fun(i,x)=>(i,dY ρ x))).map fun cs=>(VV.agg cs,H) with | some (v,H')=>k v H' | none=>False)=_
 cases xL places (z.map jF) (parts.map fun(i,x)=>(i,dY ρ x))<;>rfl
theorem Ty {x:Operand}:dX fl lo q (.chk x) ρ H k=IM (UO (dY ρ x) H) H k:=iG
theorem LU {off:Nat} {x:Operand}:dX fl lo q (.faddr off x) ρ H k=IM (F9 off (dY ρ x) H) H k:=iG
theorem Mr {size:Nat} {x i:Operand}:dX fl lo q (.iaddr size x i) ρ H k=IM (bF size (dY ρ x) (dY ρ i) H) H k:=iG
theorem Pm {x i:Operand}:dX fl lo q (.sidx x i) ρ H k=IM (GU FL (dY ρ x) (dY ρ i)) H k:=iG
theorem Om {x:Operand} {l h:Option Operand}:dX fl lo q (.ssub x l h) ρ H k=IM (vQ (dY ρ x) (l.map (dY ρ)) (h.map (dY ρ))) H k:=iG
theorem Qy {f:Nat} {fR:List Operand}:dX fl lo q (.mkfn f fR) ρ H k=k (.uG f (fR.map (dY ρ))) H:=rfl
theorem TD {x:Operand}:dX fl lo q (.len x) ρ H k=IM (pX (dY ρ x) H) H k:=iG
theorem Oq {x:Operand}:dX fl lo q (.slen x) ρ H k=IM (Jg AW (dY ρ x)) H k:=iG
theorem SB {x y:Operand}:dX fl lo q (.min x y) ρ H k=IM (GU QI (dY ρ x) (dY ρ y)) H k:=iG
theorem S5 {x y:Operand}:dX fl lo q (.max x y) ρ H k=IM (GU PE (dY ρ x) (dY ρ y)) H k:=iG
theorem Py {g:Bool} {size:Nat} {p:Operand}:dX fl lo q (.load g size p) ρ H k=IM (cU g size (dY ρ p) H) H k:=iG
theorem SC {size:Nat} {x:Operand} {l h m:Option Operand}:dX fl lo q (.sub size x l h m) ρ H k=IM (EV size (dY ρ x) (l.map (dY ρ)) (h.map (dY ρ)) (m.map (dY ρ)) H) H k:=iG
theorem SN {z:List Value}:dX fl lo q (.new z) ρ H k=Qe (if (z.map jF).all bU then some (.ptr H.length 0 0 0,H++[.row 0 [elemOf (z.map jF)] z.length true]) else none) k:=rfl
theorem Td {x:Operand}:dX fl lo q (.box x) ρ H k=Qe (if (aB (dY ρ x)).all bU then (if fl.bf then some (.cP (dY ρ x) 0,H) else some (.ptr H.length 0 0 0,H++[.row 0 [dY ρ x] (aB (dY ρ x)).length true])) else none) k:=rfl
theorem Pz {z:List Value} {bytes:Nat} {l c:Operand}:dX fl lo q (.make z bytes l c) ρ H k=Qe (if (z.map jF).all bU then yP z bytes (dY ρ l) (dY ρ c) H else none) k:=rfl
theorem To {z:List Value} {n:Nat} {parts:List (Nat×Operand)}:dX fl lo q (.lit z n parts) ρ H k=Qe (tY fl.lr z n (parts.map fun(i,x)=>(i,dY ρ x)) H) k:=rfl
def Tg (r:Option aA) (k:VV→aA→Prop):Prop:=match r with
 | some H'=>k pT H'
 | none=>False
theorem JJ {H':aA}:Tg (some H') k=k pT H':=rfl
theorem Mw {r:Option aA}:(match r.map (fun H'=>(pT,H')) with | some (v,H')=>k v H' | none=>False)=Tg r k:=by cases r<;>rfl
theorem MI {size:Nat} {p v:Operand}:dX fl lo q (.store size p v) ρ H k=Tg (cD lo size (dY ρ p) (dY ρ v) H) k:=Mw
def aiX (lo size bytes:Nat) (x:VV) (new:Option (List VV)) (H:aA) (k:VV→aA→Prop):Prop:=match new with
 | some new=>Qe (eJ lo size bytes x new H) k
 | none=>False
theorem Ma {size bytes:Nat} {x:VV} {new:List VV}:aiX lo size bytes x (some new) H k=Qe (eJ lo size bytes x new H) k:=rfl
theorem TF {size bytes:Nat} {x y:Operand}:dX fl lo q (.app size bytes x y) ρ H k=aiX lo size bytes (dY ρ x) (fF size (dY ρ y) H) H k:=by
 show (match (match fF size (dY ρ y) H with | some new=>eJ lo size bytes (dY ρ x) new H | none=>none) with | some (v,H')=>k v H' | none=>False)=_
 cases fF size (dY ρ y) H<;>rfl
theorem O5 {size:Nat} {x y:Operand}:dX fl lo q (.copy size x y) ρ H k=Qe (Ml lo size (dY ρ x) (dY ρ y) H) k:=rfl
theorem MC {z:List Value} {x:Operand}:dX fl lo q (.clear z x) ρ H k=Tg (MN lo z (dY ρ x) H) k:=Mw
theorem O0 {f:Nat} {args:List Operand}:dX fl lo q (.call f args) ρ H k=cW f (args.map (dY ρ)) (if q then H.length else lo) H k:=rfl
noncomputable def Rx (x:VV) (args:List VV) (lo:Nat) (H:aA) (k:VV→aA→Prop):Prop:=match x with
 | .uG f fR=>cW f (args++fR) lo H k
 | _=>False
theorem A9 {f:Nat} {fR args:List VV}:Rx (.uG f fR) args lo H k=cW f (args++fR) lo H k:=rfl
theorem Mk {fv:Operand} {args:List Operand}:dX fl lo q (.callv fv args) ρ H k=Rx (dY ρ fv) (args.map (dY ρ)) (if q then H.length else lo) H k:=by
 simp only[dX,Rx]
 all_goals (cases dY ρ fv<;>rfl)
theorem SY {f:Value→Option Value} {x:Value}:Jg f (.sc x)=(f x).map .sc:=rfl
theorem SU {f:Value→Value→Option Value} {x y:Value}:GU f (.sc x) (.sc y)=(f x y).map .sc:=rfl
theorem PS {t:Bool} {x y:VV}:Oj (.sc (.bool t)) x y=some (if t=true then x else y):=rfl
theorem OF {vs:List VV} {i:Nat}:Wx i (.eG vs)=vs[i]? := rfl
theorem Mt {es:List VV} {t:TK}:pX (.tree es t) H=some (.sc (.int .i64 es.length)):=rfl
theorem eV {b g o n c:Nat} {r:List VV×Nat×Bool} (h:aK H b g=some r):pX (.ref b g o n c) H=some (.sc (.int .i64 n)):=by
 simp only[pX,h,Option.map_some]
theorem Qp {x:VV} {o off:Nat}:F9 off (.cP x o) H=some (.cP x (o+off)):=rfl
theorem YV {x:VV} {o:Nat}:UO (.cP x o) H=some (.cP x o):=rfl
theorem IV {g:Bool} {size o:Nat} {x:VV}:cU g size (.cP x o) H=dR g size x o:=rfl
theorem NY {g:Bool} {size b gn j o:Nat} {es:List VV} {e:Nat} {w:Bool} {x:VV} (h:aK H b gn=some (es,e,w)) (hx:es[j]? = some x):cU g size (.ptr b gn j o) H=dR g size x o:=by
 simp only[cU,h,hx]
theorem YC {size:Nat} {v:Value}:dR false size (.sc v) 0=some (.sc v):=rfl
theorem Tp {size:Nat} {es:List VV} {t:TK}:dR false size (.tree es t) 0=some (.tree es t):=rfl
theorem Wf {size b g o n c:Nat}:dR false size (.ref b g o n c) 0=some (.ref b g o n c):=rfl
theorem W7 {size f:Nat} {fR:List VV}:dR false size (.uG f fR) 0=some (.uG f fR):=rfl
theorem dC {size o:Nat} {cs:List VV}:dR false size (.agg cs) o=cs[o]? := rfl
theorem XK {size:Nat} {cs:List VV} (h:cs.length=size):dR true size (.agg cs) 0=some (.agg cs):=by
 subst h
 simp[dR,aB]
theorem Yv {size:Nat} {es:List VV} {t:TK} {kk:IntKind} {i:Int} {x:VV} (h0:0≤i) (hx:es[i.toNat]? = some x) (hs:(aB x).length=size):bF size (.tree es t) (.sc (.int kk i)) H=some (.cP x 0):=by
 simp only[bF,h0,hx,hs,if_true]
theorem Us {size:Nat} {es:List VV} {t:TK} {kk:IntKind} {i:Nat} {x:VV} (hx:es[i]? = some x) (hs:(aB x).length=size):bF size (.tree es t) (.sc (.int kk (i:Int))) H=some (.cP x 0) :=
 Yv (by omega) (by simpa using hx) hs
theorem YH {size b g o n c:Nat} {kk:IntKind} {i:Int} {es:List VV} {w:Bool} (h:aK H b g=some (es,size,w)) (h0:0≤i) (h1:i<n):bF size (.ref b g o n c) (.sc (.int kk i)) H=some (.ptr b g (o+i.toNat) 0):=by
 simp only[bF,h]
 rw[if_pos ⟨trivial,h0,h1⟩]
theorem U5 {size b g o n c:Nat} {kk:IntKind} {i:Nat} {es:List VV} {w:Bool} (h:aK H b g=some (es,size,w)) (h1:i<n):bF size (.ref b g o n c) (.sc (.int kk (i:Int))) H=some (.ptr b g (o+i) 0):=by
 rw[YH h (by omega) (by omega),Int.toNat_natCast]
abbrev TC (f:Nat) (args:List VV) (r:VV):Prop:=∀(lo:Nat) (H:aA) (k:VV→aA→Prop),cW f args lo H k=k r H
theorem TC.of {f:Nat} {args:List VV} {r:VV} (hr:Ez.contains f=false) (ha:aN args=true) (h:vT f args=some r):TC f args r:=by
 intro lo H k
 unfold cW EZ
 simp only[hr,ha,if_true,h,Bool.false_eq_true,if_false,ZO]
theorem TC.walk {f:Nat} {pf:aY} {args:List VV} {r:VV} (fl:Fl) (ht:jE f=some pf) (hr:Ez.contains f=false) (hn:args.length≤pf.ntmps) (ha:aN args=true) (Sb:gK r=true) (h:VW fl 0 pf.body (AY pf.res fun v H=>fz depth H v=some r) (Hz args) []):TC f args r :=
 TC.of hr ha (abU ha Sb (VT.walk fl ht hn h))
theorem TC.CS {f:Nat} {args kD:List VV} {r:VV} (h:TC f kD r) (hr:Ez.contains f=false) (Z3:aN kD=true) (hf:args.mapM (fz depth H)=some kD) (ha:aN args=false):cW f args lo H k=if Fa r=true then k r H else k r (cJ H (args.flatMap (iN depth H))):=by
 have e:∀K,EZ f kD K=K r:=fun K=>by
  have:=h 0 [] fun r _=>K r
  unfold cW at this
  simpa only[hr,Z3,if_true,Bool.false_eq_true,if_false] using this
 unfold cW
 simp only[hr,ha,hf,Bool.false_eq_true,if_false]
 rw[e]
theorem aH {n:Nat} {v:VV} (h:aP v=true):fz (n+1) H v=some v:=by
 unfold PM.fz
 rw[if_pos h]
theorem aJ {v:VV} (h:aP v=true):fz depth H v=some v:=aH h
theorem mapM_pure {n:Nat}:∀ {es:List VV},aN es=true→es.mapM (PM.fz (n+1) H)=some es
 | [],_=>rfl
 |
  x::xs,h=>by
  simp only[aN,Bool.and_eq_true] at h
  rw[List.mapM_cons,aH h.1,mapM_pure h.2]
  rfl
theorem GR {b g n c e:Nat} {es:List VV} {w:Bool} (h:aK H b g=some (es,e,w)) (hn:n=es.length) (hc:n≤c) (hp:aN es=true):fz depth H (.ref b g 0 n c)=some (.tree es .op):=by
 have:aP (.ref b g 0 n c)=false:=rfl
 show fz (7+1) H _=_
 unfold PM.fz
 simp only[this,h,Bool.false_eq_true,if_false]
 subst hn
 rw[if_pos ⟨by omega,hc⟩,List.drop_zero,List.take_length,mapM_pure hp]
 rfl
theorem Bt {n:Nat} {v:VV} (h:aP v=true):iN n H v=[]:=by
 cases n with
 | zero=>rfl
 | succ n=>unfold iN;rw[if_pos h]
theorem Bo {n:Nat}:∀ {es:List VV},aN es=true→es.flatMap (iN n H)=[]
 | [],_=>rfl
 |
  x::xs,h=>by
  simp only[aN,Bool.and_eq_true] at h
  rw[List.flatMap_cons,Bt h.1,Bo h.2]
  rfl
theorem G3 {b g n c e:Nat} {es:List VV} {w:Bool} (h:aK H b g=some (es,e,w)) (hn:n=es.length) (hp:aN es=true):iN depth H (.ref b g 0 n c)=[b]:=by
 have:aP (.ref b g 0 n c)=false:=rfl
 show iN (7+1) H _=_
 unfold iN
 simp only[this,h,Bool.false_eq_true,if_false]
 subst hn
 rw[List.drop_zero,List.take_length,Bo hp]
theorem TU {r:Option VV} {K K':VV→Prop} (hk:∀v,K v→K' v) (h:tk r K):tk r K':=by
 cases r with
 | none=>exact h
 | some v=>exact hk _ h
theorem Ic {f:Nat} {args:List VV} {k k':VV→aA→Prop} (hk:∀v H,k v H→k' v H) (h:cW f args lo H k):cW f args lo H k':=by
 unfold cW at h ⊢
 split at h
 ·rename_i h1
  rw[if_pos h1]
  exact h.mono hk
 ·rename_i h1
  rw[if_neg h1]
  split at h
  ·rename_i h2
   rw[if_pos h2]
   exact TU (fun v=>hk v H) h
  ·rename_i h2
   rw[if_neg h2]
   split at h
   ·refine TU (fun v hv => ?_) h
    split at hv
    ·rename_i h3;rw[if_pos h3];exact hk _ _ hv
    ·rename_i h3;rw[if_neg h3];exact hk _ _ hv
   ·cases h
theorem Q9 {k k':VV→aA→Prop} (hk:∀v H,k v H→k' v H) (h:dX fl lo q op ρ H k):dX fl lo q op ρ H k':=by
 unfold dX at h ⊢
 split at h
 ·exact Ic hk h
 ·split at h
  ·exact Ic hk h
  ·cases h
 ·split at h
  ·exact hk _ _ h
  ·cases h
theorem NJ {K K':cG→aA→Prop} (hk:∀ρ H,K ρ H→K' ρ H):∀ {is:List PI} {ρ:cG} {H:aA},VS fl lo is K ρ H→VS fl lo is K' ρ H
 | [],ρ,H,h=>hk _ _ h
 |
  i::is,ρ,H,h=>by
  unfold VS at h ⊢
  split at h
  ·cases h
  ·exact NJ hk h
  ·exact⟨h.1,Q9 (fun v H' hv=>NJ hk hv) h.2⟩
theorem qE {K K':cG→aA→Prop} {Q Q':VQ} (hk:∀ρ H,K ρ H→K' ρ H) (hq:∀x ρ H,Q x ρ H→Q' x ρ H):∀x ρ H,mY K Q x ρ H→mY K' Q' x ρ H
 | .normal,ρ,H,h=>hk _ _ h
 | .exit _,ρ,H,h=>hq _ _ _ h
 | .ret,ρ,H,h=>hq _ _ _ h
theorem ZK {K K':cG→aA→Prop} (hk:∀ρ H,K ρ H→K' ρ H) (h:gh K ρ H):gh K' ρ H:=by
 obtain⟨ts,aM,H',h1,h2⟩:=h
 exact⟨ts,aM,H',h1,hk _ _ h2⟩
theorem wE:∀ {c:aF} {Q Q':VQ} {ρ:cG} {H:aA},(∀x ρ H,Q x ρ H→Q' x ρ H)→VW fl lo c Q ρ H→VW fl lo c Q' ρ H
 | .skip,_,_,_,_,hq,h=>hq _ _ _ h
 | .exit _,_,_,_,_,hq,h=>hq _ _ _ h
 | .ret,_,_,_,_,hq,h=>hq _ _ _ h
 | .eT _,_,_,_,_,hq,h=>NJ (fun ρ H=>hq .normal ρ H) h
 | .seq a b,Q,Q',_,_,hq,h=>wE (c:=a) (qE (fun ρ H h=>wE (c:=b) hq h) hq) h
 |
  .cond c a b,Q,Q',ρ,H,hq,h=>by
  unfold VW at h ⊢
  split at h
  ·split at h
   ·rename_i h1;rw[if_pos h1];exact wE (c:=a) hq h
   ·rename_i h1;rw[if_neg h1];exact wE (c:=b) hq h
  ·cases h
 |
  .block i a,Q,Q',_,_,hq,h=>by
  refine wE (c:=a) (fun x ρ H hx => ?_) h
  cases x with
  | normal=>exact hq _ _ _ hx
  | ret=>exact hq _ _ _ hx
  |
   exit j =>
   rw[Cf] at hx ⊢
   split at hx
   ·rename_i h1;rw[if_pos h1];exact hq _ _ _ hx
   ·rename_i h1;rw[if_neg h1];exact hq _ _ _ hx
 |
  .loop a,Q,Q',ρ,H,hq,h=>by
  obtain⟨n,h⟩:=h
  refine⟨n,?_⟩
  induction n generalizing ρ H with
  | zero=>cases h
  |
   succ n ih =>
   refine wE (c:=a) (qE (fun ρ H h => ?_) fun x ρ H h=>ZK (hq x) h) h
   rcases h with h | ⟨h1,h2⟩
   ·exact .inl (ih _ _ h)
   ·exact .inr ⟨h1,ih _ _ h2⟩
theorem acI {K:cG→aA→Prop} (h:K ρ H):gh K ρ H:=⟨[],ρ,H,rfl,h⟩
theorem PK {α:Type} {c:aF} (I:α→cG→aA→Prop) (μ:α→Nat) (s:α) (h0:I s ρ H)
  (round:∀s ρ H,I s ρ H→VW fl lo c (mY (fun aM H'=>∃s',μ s'<μ s∧(I s' aM H'∨(lQ H.length (H'.take H.length)=true∧I s' (nG H.length aM) (H'.take H.length)))) (fun x=>gh (Q x))) ρ H):VW fl lo (.loop c) Q ρ H:=by
 refine⟨μ s+1,?_⟩
 have key:∀n s ρ H,μ s<n→I s ρ H→Oz (VW fl lo c) (fun x=>gh (Q x)) n ρ H:=by
  intro n
  induction n with
  | zero=>intro s ρ H h;omega
  |
   succ n ih =>
   intro s ρ H hn hI
   refine wE (qE (fun aM H' h => ?_) fun x ρ H h=>h) (round s ρ H hI)
   obtain⟨s',h1,h2 | ⟨h2,h3⟩⟩:=h
   ·exact .inl (ih s' _ _ (by omega) h2)
   ·exact .inr ⟨h2,ih s' _ _ (by omega) h3⟩
 exact key _ s ρ H (Nat.lt_succ_self _) h0
theorem aW {α:Type} {c:aF} (I:α→cG→aA→Prop) (μ:α→Nat) (s:α) (h0:I s ρ H)
  (round:∀s ρ H,I s ρ H→VW fl lo c (mY (fun aM H'=>∃s',μ s'<μ s∧I s' aM H') Q) ρ H):VW fl lo (.loop c) Q ρ H :=
 PK I μ s h0 fun s ρ H h=>wE (qE (fun _ _ ⟨s',h1,h2⟩=>⟨s',h1,.inl h2⟩) fun _ _ _ h=>acI h) (round s ρ H h)
theorem KA {α:Type} {c:aF} (I:α→cG→aA→Prop) (μ:α→Nat) (s:α) (h0:I s ρ H)
  (round:∀s ρ H,I s ρ H→VW fl lo c (mY (fun aM H'=>∃s',μ s'<μ s∧lQ H.length (H'.take H.length)=true∧I s' (nG H.length aM) (H'.take H.length)) Q) ρ H):VW fl lo (.loop c) Q ρ H :=
 PK I μ s h0 fun s ρ H h=>wE (qE (fun _ _ ⟨s',h1,h2⟩=>⟨s',h1,.inr h2⟩) fun _ _ _ h=>acI h) (round s ρ H h)
theorem Js {n:Nat} {v:VV} (h:below n v=true):Fs n v=v:=by
 unfold Fs
 rw[if_pos h]
mutual
theorem Ef {n:Nat} (v:VV) (h:aP v=true):below n v=true:=by
 cases v with
 | any=>rfl
 | sc=>rfl
 | agg cs=>exact mA cs h
 | eG cs=>exact mA cs h
 | tree es t=>exact mA es (Gf h).2.1
 | cP x o=>exact Ef x h
 | ref=>cases h
 | ptr=>cases h
 | uG f fR=>exact mA fR h
theorem mA {n:Nat} (vs:List VV) (h:aN vs=true):lI n vs=true:=by
 cases vs with
 | nil=>rfl
 |
  cons x xs =>
  simp only[aN,Bool.and_eq_true] at h
  simp only[lI,Ef x h.1,mA xs h.2,Bool.and_self]
end
end
end Go.PM
namespace Go.PM
def val (b:Nat):List Nat→Nat
 | []=>0
 | d::ds=>d+b*val b ds
def aD (b n:Nat):List Nat:=if h:n=0∨b<2 then [] else n % b::aD b (n / b)
termination_by n
decreasing_by exact Nat.div_lt_self (by omega) (by omega)
section
variable {b:Nat}
theorem bZ:aD b 0=[]:=by rw[aD];simp
theorem kV (hb:2≤b) {n:Nat} (hn:n≠0):aD b n=n % b::aD b (n / b):=by rw[aD,dif_neg (by omega)]
theorem sC {d:Nat} {ds:List Nat}:val b (d::ds)=d+b*val b ds:=rfl
theorem wR (xs ys:List Nat):val b (xs++ys)=val b xs+b^xs.length*val b ys:=by
 induction xs with
 | nil=>simp[val]
 |
  cons x xs ih =>
  simp only[List.cons_append,sC,ih,List.length_cons,Nat.pow_succ]
  rw[Nat.mul_add,Nat.mul_comm (b^xs.length) b,Nat.mul_assoc,Nat.add_assoc]
theorem val_one (d:Nat):val b [d]=d:=by simp[val]
theorem sL (xs:List Nat) (d:Nat):val b (xs++[d])=val b xs+b^xs.length*d:=by rw[wR,val_one]
theorem rD (n:Nat):val b (List.replicate n 0)=0:=by
 induction n with
 | zero=>rfl
 | succ n ih=>simp[List.replicate_succ,val,ih]
theorem oE {xs:List Nat} (h:∀d∈xs,d<b):val b xs<b^xs.length:=by
 induction xs with
 | nil=>simp[val]
 |
  cons x xs ih =>
  have h1:=h x List.mem_cons_self
  have h2:=ih fun d hd=>h d (List.mem_cons_of_mem _ hd)
  simp only[sC,List.length_cons,Nat.pow_succ]
  have h3:b*(val b xs+1)≤b*b^xs.length:=Nat.mul_le_mul_left _ h2
  rw[Nat.mul_add,Nat.mul_one] at h3
  rw[Nat.mul_comm (b^xs.length) b]
  omega
theorem bX (hb:2≤b) (n:Nat):val b (aD b n)=n:=by
 induction n using Nat.strongRecOn with
 |
  _ n ih =>
  by_cases h:n=0
  ·subst h;rw[bZ];rfl
  ·rw[kV hb h,sC,ih _ (Nat.div_lt_self (by omega) (by omega))]
   exact Nat.mod_add_div n b
theorem fC (hb:2≤b) (n:Nat):∀d∈aD b n,d<b:=by
 induction n using Nat.strongRecOn with
 |
  _ n ih =>
  by_cases h:n=0
  ·subst h;rw[bZ];intro d hd;cases hd
  ·rw[kV hb h]
   intro d hd
   rcases List.mem_cons.1 hd with rfl | hd
   ·exact Nat.mod_lt _ (by omega)
   ·exact ih _ (Nat.div_lt_self (by omega) (by omega)) d hd
theorem oJ (hb:2≤b) {n:Nat}:aD b n=[]↔n=0:=by
 constructor
 ·intro h
  have:=bX hb n
  rw[h] at this
  exact this.symm
 ·rintro rfl;exact bZ
theorem Lg (hb:2≤b) (n:Nat):(aD b n).getLast? ≠ some 0:=by
 induction n using Nat.strongRecOn with
 |
  _ n ih =>
  by_cases h:n=0
  ·subst h;rw[bZ];simp
  ·rw[kV hb h]
   have h1:=ih _ (Nat.div_lt_self (n:=n) (k:=b) (by omega) (by omega))
   by_cases h2:n / b=0
   ·rw[h2,bZ]
    have:n<b:=by
     rcases Nat.div_eq_zero_iff.1 h2 with h | h<;>omega
    simp[Nat.mod_eq_of_lt this,h]
   ·have fQ:aD b (n / b)≠[]:=fun h=>h2 ((oJ hb).1 h)
    obtain⟨x,xs,hx⟩:=List.exists_cons_of_ne_nil fQ
    rw[hx] at h1 ⊢
    rw[List.getLast?_cons_cons]
    exact h1
theorem J1 (hb:2≤b) {xs:List Nat} (h:∀d∈xs,d<b) (hl:xs.getLast? ≠ some 0):aD b (val b xs)=xs:=by
 induction xs with
 | nil=>exact bZ
 |
  cons x xs ih =>
  have h1:=h x List.mem_cons_self
  have hr:(x+b*val b xs) % b=x:=by rw[Nat.add_mul_mod_self_left,Nat.mod_eq_of_lt h1]
  have hq:(x+b*val b xs) / b=val b xs:=by rw[Nat.add_mul_div_left _ _ (by omega),Nat.div_eq_of_lt h1,Nat.zero_add]
  cases xs with
  |
   nil =>
   have hx:x≠0:=by rintro rfl;simp at hl
   rw[val_one,kV hb hx,Nat.mod_eq_of_lt h1,Nat.div_eq_of_lt h1,bZ]
  |
   cons y ys =>
   rw[List.getLast?_cons_cons] at hl
   have h2:=ih (fun d hd=>h d (List.mem_cons_of_mem _ hd)) hl
   have h3:val b (y::ys)≠0:=fun h0=>by rw[h0,bZ] at h2;cases h2
   have h4:b*val b (y::ys)≠0:=Nat.mul_ne_zero (by omega) h3
   rw[sC,kV hb (by omega),hr,hq,h2]
theorem II (hb:2≤b) {n:Nat} (hn:n≠0):b^((aD b n).length-1)≤n:=by
 induction n using Nat.strongRecOn with
 |
  _ n ih =>
  rw[kV hb hn]
  by_cases h2:n / b=0
  ·rw[h2,bZ];simp;omega
  ·have h3:=ih _ (Nat.div_lt_self (by omega) (by omega)) h2
   have fQ:aD b (n / b)≠[]:=fun h=>h2 ((oJ hb).1 h)
   obtain⟨x,xs,hx⟩:=List.exists_cons_of_ne_nil fQ
   rw[hx] at h3 ⊢
   simp only[List.length_cons,Nat.add_sub_cancel] at h3 ⊢
   rw[Nat.pow_succ]
   calc b^xs.length*b≤n / b*b:=Nat.mul_le_mul_right _ h3
    _≤n:=Nat.div_mul_le_self n b
theorem jN (hb:2≤b) (n:Nat):n<b^(aD b n).length:=by
 have:=oE (fC hb n)
 rwa [bX hb] at this
theorem oF (hb:2≤b) {n k:Nat} (h:n<b^k):(aD b n).length≤k:=by
 by_cases hn:n=0
 ·subst hn;rw[bZ];simp
 ·have h1:=II hb hn
  have h2:b^((aD b n).length-1)<b^k:=Nat.lt_of_le_of_lt h1 h
  have h3:(aD b n).length-1<k:=(Nat.pow_lt_pow_iff_right (by omega)).1 h2
  have fQ:aD b n≠[]:=fun h=>hn ((oJ hb).1 h)
  have:=List.length_pos_iff.2 fQ
  omega
theorem fA (hb:2≤b) {m n:Nat} (h:m≤n):(aD b m).length≤(aD b n).length :=
 oF hb (Nat.lt_of_le_of_lt h (jN hb n))
theorem pH (xs:List Nat) (i:Nat):val b xs=val b (xs.take i)+b^(xs.take i).length*val b (xs.drop i):=by
 rw[←wR,List.take_append_drop]
theorem aT {xs:List Nat} {i d:Nat} (h:xs[i]? = some d):val b (xs.take (i+1))=val b (xs.take i)+b^i*d:=by
 have aX:=(List.getElem?_eq_some_iff.1 h).1
 rw[List.take_add_one,h]
 simp only[Option.toList_some]
 rw[sL,List.length_take,Nat.min_eq_left (by omega)]
theorem sO {xs:List Nat} {i d:Nat} (h:xs[i]? = some d):val b (xs.drop i)=d+b*val b (xs.drop (i+1)):=by
 obtain⟨aX,he⟩:=List.getElem?_eq_some_iff.1 h
 rw[List.drop_eq_getElem_cons aX,he,sC]
theorem El {P A B O c x y s q r W:Nat} (h:A+B=O+P*c) (hs:c+x+y=s) (hr:r+W*q=s):(A+P*x)+(B+P*y)=(O+P*r)+(P*W)*q:=by grind
theorem H6 {P A B O l x y r W l':Nat} (h:A+P*l=O+B) (hd:r+y+l=x+W*l'):(A+P*x)+(P*W)*l'=(O+P*r)+(B+P*y):=by grind
theorem XW {xs:List Nat} {i d:Nat} (h:i<xs.length):(xs.set i d).take (i+1)=xs.take i++[d]:=by
 rw[List.set_eq_take_append_cons_drop,if_pos h,List.take_append]
 simp[List.take_take,Nat.min_eq_left (by omega:i≤xs.length),Nat.min_eq_right (by omega:i≤i+1)]
theorem dP {xs:List Nat} {i d:Nat} (h:i<xs.length):val b ((xs.set i d).take (i+1))=val b (xs.take i)+b^i*d:=by
 rw[XW h,sL,List.length_take,Nat.min_eq_left (by omega)]
theorem lO {xs:List Nat} {i d:Nat} (h:∀x∈xs,x<b) (hd:d<b):∀x∈xs.set i d,x<b:=by
 intro x hx
 rcases List.mem_or_eq_of_mem_set hx with h1 | h1
 ·exact h x h1
 ·subst h1;exact hd
theorem jL {xs:List Nat} {i:Nat} (h:xs.length≤i):val b (xs.take i)=val b xs:=by rw[List.take_of_length_le h]
theorem Ai (hb:0<b) (n:Nat):∀x∈List.replicate n 0,x<b:=by
 intro x hx
 rw[List.eq_of_mem_replicate hx]
 exact hb
theorem VE {P x y R t:Nat} (ht:t<P) (h:x<y):t+P*(x+R)<P*(y+R):=by
 have h1:P*(x+R+1)≤P*(y+R):=Nat.mul_le_mul_left _ (by omega)
 rw[Nat.mul_add,Nat.mul_one] at h1
 omega
theorem Dx {xs ys:List Nat} {i x y:Nat} (hx:∀d∈xs,d<b) (hl:xs.length=ys.length) (hi:xs[i]? = some x) (hj:ys[i]? = some y) (hd:xs.drop (i+1)=ys.drop (i+1)) (h:x<y):val b xs<val b ys:=by
 have h1:=(List.getElem?_eq_some_iff.1 hi).1
 have ht:(xs.take i).length=i:=by simp;omega
 have Zt:(ys.take i).length=i:=by simp;omega
 have h2:=oE (b:=b) (xs:=xs.take i) fun d hd=>hx d (List.mem_of_mem_take hd)
 rw[ht] at h2
 rw[pH xs i,pH ys i,ht,Zt,sO hi,sO hj,hd]
 have:=VE (R:=b*val b (ys.drop (i+1))) h2 h
 omega
theorem OJ (hb:2≤b) {m n:Nat} (h:aD b m=aD b n):m=n:=by
 have:=congrArg (val b) h
 rwa [bX hb,bX hb] at this
def fD (a b:Nat):Int:=if a<b then -1 else if a=b then 0 else 1
theorem Dv (hb:2≤b) {m n:Nat} (h:(aD b m).length<(aD b n).length):m<n:=by
 rcases Nat.lt_or_ge m n with h1 | h1
 ·exact h1
 ·have:=fA hb h1
  omega
end
end Go.PM
namespace Go.PM
abbrev VI (n:Int):VV := .sc (.int .i64 n)
abbrev VK (k:IntKind) (n:Int):VV := .sc (.int k n)
abbrev VB (t:Bool):VV := .sc (.bool t)
abbrev aC {α:Type} (f:α→VV) (xs:List α):VV := .tree (xs.map f) .op
section
variable {α:Type} {f:α→VV} {xs ys:List α} {x:α} {t:TK} {H:aA} {size i:Nat} {k:IntKind}
theorem dM:pX (.tree (xs.map f) t) H=some (VI xs.length):=by simp[pX]
theorem aG (hx:xs[i]? = some x) (hs:(aB (f x)).length=size):bF size (.tree (xs.map f) t) (VK k (i:Int)) H=some (.cP (f x) 0) :=
 Us (by simp[hx]) hs
theorem N9 (hs:∀x,(aB (f x)).length=size):∀y∈xs.map f,(aB y).length=size:=by
 intro y hy
 obtain⟨x,_,rfl⟩:=List.mem_map.1 hy
 exact hs x
theorem dZ (hp:∀x,aP (f x)=true):aN (xs.map f)=true:=by
 rw[A1]
 intro y hy
 obtain⟨x,_,rfl⟩:=List.mem_map.1 hy
 exact hp x
theorem Zj (hp:∀x,gK (f x)=true):pB (xs.map f)=true:=by
 rw[Kl]
 intro y hy
 obtain⟨x,_,rfl⟩:=List.mem_map.1 hy
 exact hp x
theorem Ts {size:Nat} (hs:∀x,(aB (f x)).length=size):uni (xs.map f)=true:=by
 cases xs with
 | nil=>rfl
 |
  cons x xs =>
  simp only[List.map_cons,uni,List.all_eq_true]
  intro y hy
  obtain⟨z,_,rfl⟩:=List.mem_map.1 hy
  simp[hs]
theorem lJ {size:Nat} (hs:∀x,(aB (f x)).length=size) (hp:∀x,aP (f x)=true):aP (aC f xs)=true:=by
 simp only[aC,aP,dZ hp,Ts hs,decide_true,Bool.and_self]
theorem uN {size:Nat} (hs:∀x,(aB (f x)).length=size) (hp:∀x,gK (f x)=true) (he:∀x,Ah (f x)=true):gK (aC f xs)=true:=by
 have h4:(xs.map f).all Ah=true:=by
  rw[List.all_eq_true]
  intro y hy
  obtain⟨z,_,rfl⟩:=List.mem_map.1 hy
  exact he z
 simp only[aC,gK,Zj hp,Ts hs,h4,decide_true,Bool.and_self]
theorem aaN {es:List VV} {h:Nat} (fQ:0<es.length) (hs:∀x∈es,(aB x).length=size) (hh:h≤es.length) {k2:IntKind} :
  EV size (.tree es t) none (some (VK k2 h)) none H=some (.tree (es.take h) .op):=by
 cases es with
 | nil=>simp at fQ
 |
  cons y ys =>
  have hy:=hs y List.mem_cons_self
  simp only[List.length_cons] at hh
  have e1:(0:Int)≤h∧(h:Int)≤((ys.length+1:Nat):Int):=by omega
  simp only[EV,FH,hy,if_true,eI,e1,Int.toNat_natCast,Option.isSome_none,Bool.false_eq_true,false_and,if_false]
  simp
theorem O4 (h:0<xs.length):0<(xs.map f).length:=by simpa using h
theorem Kv {b g o n c:Nat} {es:List VV} {w:Bool} {l h:Nat} (hr:aK H b g=some (es,size,w)) (hl:l≤h) (hh:h≤c) {k1 k2:IntKind} :
  EV size (.ref b g o n c) (some (VK k1 l)) (some (VK k2 h)) none H=some (.ref b g (o+l) (h-l) (c-l)):=by
 have e1:(0:Int)≤h∧(h:Int)≤(c:Int):=by omega
 have e2:(0:Int)≤l∧(l:Int)≤(h:Int):=by omega
 simp only[EV,FH,hr,if_true,eI,e1,e2,Int.toNat_natCast,Option.isSome_none,Bool.false_eq_true,false_and,if_false]
 simp[hl]
theorem rI {b g o n c:Nat} {es:List VV} {w:Bool} {h:Nat} (hr:aK H b g=some (es,size,w)) (hh:h≤c) {k2:IntKind} :
  EV size (.ref b g o n c) none (some (VK k2 h)) none H=some (.ref b g o h c):=by
 have e1:(0:Int)≤h∧(h:Int)≤(c:Int):=by omega
 simp only[EV,FH,hr,if_true,eI,e1,Int.toNat_natCast,Option.isSome_none,Bool.false_eq_true,false_and,if_false]
 simp
theorem H8 {h:Nat} (hs:∀x,(aB (f x)).length=size) (fQ:0<xs.length) (hh:h≤xs.length) {k2:IntKind} :
  EV size (.tree (xs.map f) t) none (some (VK k2 h)) none H=some (aC f (xs.take h)):=by
 rw[aaN (O4 fQ) (N9 hs) (by simpa using hh)]
 simp[aC]
theorem ON {b g e:Nat} {es:List VV} {w:Bool} {L K:aA} (h:b=L.length):aK (L ++ .row g es e w::K) b g=some (es,e,w):=by
 subst h
 simp[aK]
theorem aR {g e:Nat} {es:List VV} {w:Bool} {K:aA}:aK (.row g es e w::K) 0 g=some (es,e,w):=by simp[aK]
theorem bW {n:Nat}:(n=n+1)=False:=eq_false fun h=>by omega
theorem Wn {g g' e:Nat} {es:List VV} {w:Bool} {K:aA} (h:g'≠g):aK (.row g' es e w::K) 0 g=none:=by simp[aK,h]
theorem bL {g e:Nat} {es:List VV} {w:Bool} {K:aA}:aK (.row (g+1) es e w::K) 0 g=none:=Wn (Nat.succ_ne_self g)
theorem dU {b g:Nat} {x:eR} {K:aA}:aK (x::K) (b+1) g=aK K b g:=by simp[aK]
theorem aV {b g o n c e:Nat} {es:List VV} {w:Bool} (h:aK H b g=some (es,e,w)) (hi:i<n):bF e (.ref b g o n c) (VK k (i:Int)) H=some (.ptr b g (o+i) 0):=U5 h hi
theorem dI {b g j e lo:Nat} {es:List VV} {v:VV} (h:aK H b g=some (es,e,true)) (hj:j<es.length) (iD:lo≤b) (hv:(aB v).length=e) (hs:(aB v).all bU=true):cD lo e (.ptr b g j 0) v H=some (H.set b (.row g (es.set j v) e true)):=by
 obtain⟨x,hx⟩:∃x,es[j]? = some x:=⟨_,List.getElem?_eq_getElem hj⟩
 simp only[cD,h,hx]
 rw[if_pos ⟨hv,iD,hs⟩,if_pos ⟨trivial,trivial⟩]
theorem oW {z:List Value} {bytes n:Nat} (hz:elemOf (z.map jF)=f x) (hn:n*bytes≤281474976710656) (hm:n≤9223372036854775807):yP z bytes (VI n) (VI n) H=some (.ref H.length 0 0 n n,H++[.row 0 ((List.replicate n x).map f) z.length true]):=by
 simp only[yP]
 rw[if_pos ⟨by omega,by omega,by omega,by omega⟩,hz]
 simp
theorem tG {ag w:Bool} {b gn e j o:Nat} (h:aK H b gn=some (xs.map f,e,w)) (hx:xs[j]? = some x):cU ag size (.ptr b gn j o) H=dR ag size (f x) o :=
 NY h (by simp[hx])
theorem gU {b g j e lo:Nat} (h:aK H b g=some (xs.map f,e,true)) (hj:j<xs.length) (iD:lo≤b) (hv:(aB (f x)).length=e) (hs:(aB (f x)).all bU=true):cD lo e (.ptr b g j 0) (f x) H=some (H.set b (.row g ((xs.set j x).map f) e true)):=by
 rw[dI h (by simpa using hj) iD hv hs,List.map_set]
theorem Nu {b gn n c e:Nat} {es:List VV} {w:Bool} (h:aK H b gn=some (es,e,w)) (hn:n≤es.length) (hc:n≤c) (hp:aN es=true):fz depth H (.ref b gn 0 n c)=some (.tree (es.take n) .op):=by
 have:aP (.ref b gn 0 n c)=false:=rfl
 show fz (7+1) H _=_
 unfold fz
 simp only[this,h,Bool.false_eq_true,if_false]
 have Af:aN (es.take n)=true:=A1.2 fun x hx=>A1.1 hp x (List.mem_of_mem_take hx)
 rw[if_pos ⟨by omega,hc⟩,List.drop_zero,mapM_pure Af]
 rfl
theorem TC.flat {fn:Nat} {args kD:List VV} {r:VV} (h:TC fn kD r) (A7:Ez.contains fn=false) (Z3:aN kD=true) (hf:args.mapM (fz depth H)=some kD) (hr:Fa r=true) :
  ∀(lo:Nat) (K:VV→aA→Prop),cW fn args lo H K=K r H:=by
 intro lo K
 cases hp:aN args with
 |
  true =>
  have:=mapM_pure (n:=7) (H:=H) hp
  rw[show fz depth H=fz (7+1) H from rfl,this] at hf
  cases hf
  exact h lo H K
 | false=>rw[h.CS A7 Z3 hf hp,hr,if_pos rfl]
theorem fz1 {v v':VV} (h:fz depth H v=some v'):[v].mapM (fz depth H)=some [v']:=by rw[List.mapM_cons,h];rfl
theorem fz2 {v v' u u':VV} (h:fz depth H v=some v') (hu:fz depth H u=some u'):[v,u].mapM (fz depth H)=some [v',u']:=by rw[List.mapM_cons,h,fz1 hu];rfl
theorem TC.Z0 {fn b gn n c e size:Nat} {w:Bool} {r:VV} (h:TC fn [aC f xs] r) (hr:aK H b gn=some (xs.map f,e,w)) (hn:n=xs.length) (hc:n≤c) (hs:∀x,(aB (f x)).length=size) (hp:∀x,aP (f x)=true) (A7:Ez.contains fn=false) (hf:Fa r=false) :
  ∀(lo:Nat) (K:VV→aA→Prop),cW fn [.ref b gn 0 n c] lo H K=K r (cJ H [b]):=by
 intro lo K
 have e1:fz depth H (.ref b gn 0 n c)=some (aC f xs):=GR hr (by simpa using hn) hc (dZ hp)
 have e2:iN depth H (.ref b gn 0 n c)=[b]:=G3 hr (by simpa using hn) (dZ hp)
 have e3:[VV.ref b gn 0 n c].mapM (fz depth H)=some [aC f xs]:=by rw[List.mapM_cons,e1];rfl
 rw[h.CS A7 (by simp only[aN,lJ hs hp,Bool.and_self]) e3 rfl,hf]
 simp only[Bool.false_eq_true,if_false,List.flatMap_cons,List.flatMap_nil,e2,List.append_nil]
theorem abL {es:List VV} {e:Nat} (hp:aN es=true):fz depth H (.tree es (.cl e))=some (.tree es .op):=by
 show fz (7+1) H _=_
 unfold fz
 have:aP (.tree es (.cl e))=false:=by simp[aP]
 simp only[this,Bool.false_eq_true,if_false,mapM_pure hp]
 rfl
theorem Xy {es:List VV} {e:Nat} (hp:aN es=true):iN depth H (.tree es (.cl e))=[]:=by
 show iN (7+1) H _=_
 unfold iN
 have:aP (.tree es (.cl e))=false:=by simp[aP]
 simp only[this,Bool.false_eq_true,if_false,Bo hp]
theorem Kp:fz depth H (.tree [] .nil)=some (.tree [] .op):=by
 show fz (7+1) H _=_
 unfold fz
 have:aP (.tree [] .nil)=false:=by simp[aP]
 simp only[this,Bool.false_eq_true,if_false]
 rfl
theorem TC.args {fn:Nat} {args kD:List VV} {r:VV} (h:TC fn kD r) (A7:Ez.contains fn=false) (Z3:aN kD=true) (hf:args.mapM (fz depth H)=some kD) (hi:args.flatMap (iN depth H)=[]) :
  ∀(lo:Nat) (K:VV→aA→Prop),cW fn args lo H K=K r H:=by
 intro lo K
 cases hp:aN args with
 |
  true =>
  have:=mapM_pure (n:=7) (H:=H) hp
  rw[show fz depth H=fz (7+1) H from rfl,this] at hf
  cases hf
  exact h lo H K
 |
  false =>
  rw[h.CS A7 Z3 hf hp,hi]
  split<;>rfl
theorem vC {lr:Bool} {z:List Value} (hz:(z.map jF).all bU=true):tY lr z 0 [] H=some (.ref H.length 0 0 0 0,H++[.row 0 [] z.length true]):=by
 simp[tY,uI,hz]
theorem uM {z:List Value} {v:VV} (hz:(z.map jF).all bU=true) (hv:(aB v).length=z.length) (hs:(aB v).all bU=true):tY false z 1 [(0,v)] H=some (.tree [v] (.cl z.length),H):=by
 simp only[tY,uI,List.replicate_succ,List.replicate_zero,List.length_cons,List.length_nil,hv,hs,and_self,if_true,List.set_cons_zero,hz]
 simp[hs]
theorem X6 {z:List Value} {u v:VV} (hz:(z.map jF).all bU=true) (hu:(aB u).length=z.length) (hus:(aB u).all bU=true) (hv:(aB v).length=z.length) (hs:(aB v).all bU=true):tY false z 2 [(0,u),(1,v)] H=some (.tree [u,v] (.cl z.length),H):=by
 simp[tY,uI,hv,hs,hu,hus,hz,List.replicate_succ]
end
theorem wrap32 (n:Nat):IntKind.u32.wrap (n:Int)=((n % 4294967296:Nat):Int):=by rw[IntKind.wrap_u32];omega
theorem wrap_u64 (n:Int):IntKind.u64.wrap n=n % 18446744073709551616:=by simp[IntKind.wrap,IntKind.bits,IntKind.signed]
theorem fN (n:Nat) (h:n<18446744073709551616):IntKind.u64.wrap (n:Int)=(n:Int):=by rw[wrap_u64];omega
theorem wrapN {x:Int} (n:Nat) (h:x=n) (hn:n≤9223372036854775807):IntKind.i64.wrap x=(n:Int):=by subst h;exact wrap64 (by omega) (by omega)
theorem sK (n:Nat) (k:IntKind):fB .shr (.int .u64 (n:Int)) (.int k 32)=some (.int .u64 ((n / 4294967296:Nat):Int)):=by
 simp only[fB]
 have h1:¬((32:Int)<0):=by decide
 have h2:Nat.min (Int.toNat 32) IntKind.u64.bits=32:=by decide
 rw[if_neg h1,h2]
 congr 2
 rw[Int.fdiv_eq_ediv_of_nonneg _ (by decide)]
 omega
theorem De (n:Nat) (k:IntKind) (h:n<4294967296):fB .shl (.int .u64 (n:Int)) (.int k 32)=some (.int .u64 ((n*4294967296:Nat):Int)):=by
 simp only[fB]
 have h1:¬((32:Int)<0):=by decide
 have h2:Nat.min (Int.toNat 32) IntKind.u64.bits=32:=by decide
 rw[if_neg h1,h2]
 congr 2
 have:(n:Int)*2^32=((n*4294967296:Nat):Int):=by omega
 rw[this]
 exact fN _ (by omega)
section
variable {n k g:Nat} {K:aA} {x y:eR}
theorem IG:aK (List.replicate n eR.dead++K) n g=aK K 0 g:=by
 unfold aK
 rw[List.getElem?_append_right (by simp)]
 simp
theorem NV:aK (List.replicate n eR.dead++K) (n+k) g=aK K k g:=by
 unfold aK
 rw[List.getElem?_append_right (by simp)]
 simp
theorem X9:(List.replicate n eR.dead++K).set n y=List.replicate n eR.dead++K.set 0 y:=by
 rw[List.set_append_right _ _ (by simp)]
 simp
theorem agB:(List.replicate n eR.dead++K).set (n+k) y=List.replicate n eR.dead++K.set k y:=by
 rw[List.set_append_right _ _ (by simp)]
 simp
theorem alC:(List.replicate n eR.dead++K).length=n+K.length:=by simp
theorem ZG:(List.replicate n eR.dead++K).take (n+k)=List.replicate n eR.dead++K.take k:=by
 rw[List.take_append]
 simp
theorem aaM:(List.replicate n eR.dead++K).take n=List.replicate n eR.dead:=by
 rw[List.take_append]
 simp
end
theorem Ao {k g e:Nat} {es:List VV} {w:Bool} {K:aA} (h:lI k es=true):lQ k (.row g es e w::K)=lQ k K:=by
 unfold lQ
 rw[List.all_cons]
 simp only[h,Bool.true_and]
theorem G8 {k:Nat}:lQ k []=true:=rfl
theorem oI {size:Nat} {v:VV} {t:TK} {H:aA} (h:(aB v).length=size) (hs:(aB v).all bU=true):fF size (.tree [v] t) H=some [v]:=by
 simp[fF,h,hs]
theorem oG {α:Type} {f:α→VV} {xs:List α} {x:α} {lo b g n e bytes:Nat} {H:aA} (h:aK H b g=some (xs.map f,e,true)) (hn:n=xs.length) (iD:lo≤b) (he:1≤e) (hb:1≤bytes) (CO:(n+1)*bytes≤140737488355328) :
  eJ lo e bytes (.ref b g 0 n n) [f x] H=some (.ref b (g+1) 0 (n+1) (n+1),H.set b (.row (g+1) ((xs++[x]).map f) e true)):=by
 subst hn
 simp only[eJ,h,List.length_cons,List.length_nil,Nat.zero_add]
 rw[if_pos ⟨hb,he⟩,if_pos ⟨trivial,iD,by simp⟩,if_neg (by omega),if_pos CO,List.drop_zero,List.take_of_length_le (by simp)]
 simp
section
variable {H:aA} {b g o n c j lo size:Nat} {neg ag:Bool} {k:IntKind} {i:Int} {v:VV}
theorem fI:cU ag size (.ptr b g j o) H=(match aK H b g with
 |
  some (es,_,_)=>match es[j]? with
  | some x=>dR ag size x o
  | none=>none
 | none=>none):=rfl
theorem Cm:cD lo size (.ptr b g j o) v H=(match aK H b g with
 |
  some (es,e,true)=>match es[j]? with
  |
   some x =>
   if (aB v).length=size∧lo≤b∧(aB v).all bU then
    if o=0∧size=e then some (H.set b (.row g (es.set j v) e true))
    else if 2≤e∧o+size≤e then some (H.set b (.row g (es.set j (.agg (cR (aB x) o (aB v)))) e true))
    else none
   else none
  | none=>none
 | _=>none):=rfl
theorem Lv:pX (.ref b g o n c) H=(aK H b g).map fun _ => .sc (.int .i64 n):=rfl
theorem uP:F9 size (.ptr b g j o) H=(aK H b g).map fun _ => .ptr b g j (o+size):=rfl
theorem MD:UO (.ptr b g j o) H=(aK H b g).map fun _ => .ptr b g j o:=rfl
theorem Hv:Es neg (.ref b g o n c) H=(aK H b g).map fun _ => .sc (.bool (false != neg)):=rfl
theorem I2:Es neg (.tree [] .nil) H=some (.sc (.bool (true != neg))):=rfl
theorem Hs {x:VV} {xs:List VV} {t:TK}:Es neg (.tree (x::xs) t) H=some (.sc (.bool (false != neg))):=rfl
theorem H0:bF size (.ref b g o n c) (.sc (.int k i)) H=(match aK H b g with
 | some (_,e,_)=>if e=size∧0≤i∧i<n then some (.ptr b g (o+i.toNat) 0) else none
 | none=>none):=rfl
end
theorem E7 {v:Value}:isAny (.sc v)=false:=rfl
theorem Bu {es:List VV} {t:TK}:isAny (.tree es t)=false:=rfl
theorem C1 {b g o n c:Nat}:isAny (.ref b g o n c)=false:=rfl
theorem Df {cs:List VV}:isAny (.agg cs)=false:=rfl
theorem LC {f:Nat} {cs:List VV}:isAny (.uG f cs)=false:=rfl
theorem rE {x:VV}:elemOf [x]=x:=rfl
theorem oC {x y:VV} {cs:List VV}:elemOf (x::y::cs) = .agg (x::y::cs):=rfl
theorem gT {k t:Nat} {ρ:cG}:nG k ρ t=Fs k (ρ t):=rfl
theorem KG {k:Nat} {v:Value}:Fs k (.sc v) = .sc v:=rfl
theorem wS {k:Nat} {v:VV} (h:aP v=true):Fs k v=v:=Js (Ef v h)
theorem wL {k b g o n c:Nat} (h:b<k):Fs k (.ref b g o n c) = .ref b g o n c:=Js (by simp[below,h])
theorem PU {v:Value}:bU (.sc v)=true:=rfl
theorem Ju {es:List VV} {t:TK}:bU (.tree es t)=true:=rfl
theorem Lr {b g o n c:Nat}:bU (.ref b g o n c)=true:=rfl
theorem Lm {b g o n:Nat}:bU (.ptr b g o n)=true:=rfl
theorem KC {x:VV} {o:Nat}:bU (.cP x o)=true:=rfl
theorem Mc {f:Nat} {cs:List VV}:bU (.uG f cs)=true:=rfl
theorem Lp {v:Value}:aB (.sc v)=[.sc v]:=rfl
theorem JP {cs:List VV}:aB (.agg cs)=cs:=rfl
theorem Ie {es:List VV} {t:TK}:aB (.tree es t)=[.tree es t]:=rfl
theorem I7 {b g o n c:Nat}:aB (.ref b g o n c)=[.ref b g o n c]:=rfl
theorem Pw {k k':IntKind} {n:Int}:R3 k (.int k' n)=some (.int k (k.wrap n)):=rfl
theorem L5 {args:List VV} {t:Nat}:Hz args t=args.getD t pT:=rfl
theorem alE {n:Nat}:LT n = .tmp n:=rfl
theorem alH {n:Int}:LI n = .const (.int .i64 n):=rfl
theorem aiO:LG = .const (.bool true):=rfl
theorem akW:LF = .const (.bool false):=rfl
theorem ajQ {n:Nat}:LL n = .load false 1 (.tmp n):=rfl
theorem ajT {n:Nat}:LK n = .load true 3 (.tmp n):=rfl
theorem ahY {n k:Nat}:LX n k = .ext (.tmp n) k:=rfl
theorem aiD {k n:Nat}:LA k n = .faddr k (.tmp n):=rfl
theorem aiA {d:Nat} {p:nI}:LO d p=⟨some d,p,none,false,[]⟩:=rfl
theorem ajN {d:Nat} {p:nI}:LQ d p=⟨some d,p,none,true,[]⟩:=rfl
theorem akL {p:nI}:LN p=⟨none,p,none,false,[]⟩:=rfl
theorem aiH {d s:Nat}:LM d s=⟨some d,.mv (.tmp s),none,false,[]⟩:=rfl
theorem akX {g d:Nat} {p:nI}:LY g d p=⟨some d,p,some (g,true),false,[]⟩:=rfl
theorem ajP {g d:Nat} {p:nI}:LZ g d p=⟨some d,p,some (g,false),false,[]⟩:=rfl
theorem aiV {l:List PI} {c:aF}:LS l c = .seq (.eT l) c:=rfl
theorem VX:type_of% (
 And.intro @X4<|And.intro @XJ<|And.intro @Qg<|And.intro @Tq<|And.intro @TQ<|And.intro @XU<|And.intro @TY <|
 And.intro @Pl<|And.intro @BJ<|And.intro @D1<|And.intro @E1<|And.intro @DZ<|And.intro @Cf <|
 And.intro @JK<|And.intro @Fi<|And.intro @Md<|And.intro @JR<|And.intro @Qi<|And.intro @Oe <|
 And.intro @I0<|And.intro @Lz<|And.intro @WJ<|And.intro @acM<|And.intro @YE<|And.intro @acK<|And.intro @H7 <|
 And.intro @YY<|And.intro @PG<|And.intro @SD<|And.intro @Th<|And.intro @LJ<|And.intro @Ms<|And.intro @Yi <|
 And.intro @SS<|And.intro @TG<|And.intro @TO<|And.intro @SG<|And.intro @Mj<|And.intro @Ty<|And.intro @LU <|
 And.intro @Mr<|And.intro @Pm<|And.intro @Om<|And.intro @Qy<|And.intro @TD<|And.intro @Oq<|And.intro @SB <|
 And.intro @S5<|And.intro @Py<|And.intro @SC<|And.intro @SN<|And.intro @Td<|And.intro @Pz<|And.intro @To <|
 And.intro @MI<|And.intro @TF<|And.intro @O5<|And.intro @MC<|And.intro @O0<|And.intro @Mk <|
 And.intro @A9<|And.intro @Me<|And.intro @Qn<|And.intro @Mx<|And.intro @JJ<|And.intro @Ma <|
 And.intro @uZ<|And.intro @MH<|And.intro @Tf<|And.intro @L9<|And.intro @OO<|And.intro @Ta<|And.intro @PB <|
 And.intro @Tt<|And.intro @Tk<|And.intro @Tn<|And.intro @Pg<|And.intro @MB<|And.intro @PJ<|And.intro @OI <|
 And.intro @SY<|And.intro @SU<|And.intro @PS<|And.intro @OF<|And.intro @Mt<|And.intro @Qp<|And.intro @YV <|
 And.intro @IV<|And.intro @YC<|And.intro @Tp<|And.intro @Wf<|And.intro @W7<|And.intro @dC<|And.intro @XK <|
 And.intro @List.length_map.{0,0}<|And.intro @List.all_cons.{0}<|And.intro @List.all_nil.{0}<|And.intro @PU<|And.intro @Bool.and_self <|
 And.intro @Bool.and_true<|And.intro @Pw<|And.intro @S8<|And.intro @SJ<|And.intro @Qu<|And.intro @OD <|
 And.intro @PF<|And.intro @Ph<|And.intro @Oo<|And.intro @Qh<|And.intro @QJ<|And.intro @Ow<|And.intro @Pd <|
 And.intro @TJ<|And.intro @TE<|And.intro @Value.bool.injEq<|And.intro @decide_eq_true_eq<|And.intro @decide_eq_false_iff_not <|
 And.intro @Bool.not_true<|And.intro @Bool.not_false<|And.intro @decide_true<|And.intro @decide_false<|And.intro @Bool.not_eq_true' <|
 And.intro @Bool.not_eq_false'<|And.intro @Bool.false_eq_true<|And.intro @false_and<|And.intro @and_false<|And.intro @Option.map_some.{0,0} <|
 And.intro @Option.map_none.{0,0}<|And.intro @if_true.{1}<|And.intro @if_false.{1}<|And.intro @List.map_cons.{0,0}<|And.intro @List.map_nil.{0,0} <|
 And.intro @List.cons_append.{0}<|And.intro @List.nil_append.{0}<|And.intro @and_true<|And.intro @true_and<|And.intro @Nat.zero_add <|
 And.intro @Nat.add_zero<|And.intro @List.length_cons.{0}<|And.intro @List.length_nil.{0}<|And.intro @L5<|And.intro @List.getD_cons_zero.{0} <|
 And.intro @List.getD_cons_succ.{0}<|And.intro @List.getD_nil.{0}<|And.intro @VV.sc.injEq<|And.intro @List.getElem?_cons_zero.{0} <|
 And.intro @List.getElem?_cons_succ.{0}<|And.intro @Ju<|And.intro @Lr<|And.intro @Lm<|And.intro @KC <|
 And.intro @Mc<|And.intro @Lp<|And.intro @JP<|And.intro @Ie<|And.intro @I7<|And.intro @alE<|And.intro @alH <|
 And.intro @aiO<|And.intro @akW<|And.intro @ajQ<|And.intro @ajT<|And.intro @ahY<|And.intro @aiD<|And.intro @aiA<|And.intro @ajN <|
 And.intro @akL<|And.intro @aiH<|And.intro @akX<|And.intro @ajP <| @aiV) :=
 And.intro @X4<|And.intro @XJ<|And.intro @Qg<|And.intro @Tq<|And.intro @TQ<|And.intro @XU<|And.intro @TY <|
 And.intro @Pl<|And.intro @BJ<|And.intro @D1<|And.intro @E1<|And.intro @DZ<|And.intro @Cf <|
 And.intro @JK<|And.intro @Fi<|And.intro @Md<|And.intro @JR<|And.intro @Qi<|And.intro @Oe <|
 And.intro @I0<|And.intro @Lz<|And.intro @WJ<|And.intro @acM<|And.intro @YE<|And.intro @acK<|And.intro @H7 <|
 And.intro @YY<|And.intro @PG<|And.intro @SD<|And.intro @Th<|And.intro @LJ<|And.intro @Ms<|And.intro @Yi <|
 And.intro @SS<|And.intro @TG<|And.intro @TO<|And.intro @SG<|And.intro @Mj<|And.intro @Ty<|And.intro @LU <|
 And.intro @Mr<|And.intro @Pm<|And.intro @Om<|And.intro @Qy<|And.intro @TD<|And.intro @Oq<|And.intro @SB <|
 And.intro @S5<|And.intro @Py<|And.intro @SC<|And.intro @SN<|And.intro @Td<|And.intro @Pz<|And.intro @To <|
 And.intro @MI<|And.intro @TF<|And.intro @O5<|And.intro @MC<|And.intro @O0<|And.intro @Mk <|
 And.intro @A9<|And.intro @Me<|And.intro @Qn<|And.intro @Mx<|And.intro @JJ<|And.intro @Ma <|
 And.intro @uZ<|And.intro @MH<|And.intro @Tf<|And.intro @L9<|And.intro @OO<|And.intro @Ta<|And.intro @PB <|
 And.intro @Tt<|And.intro @Tk<|And.intro @Tn<|And.intro @Pg<|And.intro @MB<|And.intro @PJ<|And.intro @OI <|
 And.intro @SY<|And.intro @SU<|And.intro @PS<|And.intro @OF<|And.intro @Mt<|And.intro @Qp<|And.intro @YV <|
 And.intro @IV<|And.intro @YC<|And.intro @Tp<|And.intro @Wf<|And.intro @W7<|And.intro @dC<|And.intro @XK <|
 And.intro @List.length_map.{0,0}<|And.intro @List.all_cons.{0}<|And.intro @List.all_nil.{0}<|And.intro @PU<|And.intro @Bool.and_self <|
 And.intro @Bool.and_true<|And.intro @Pw<|And.intro @S8<|And.intro @SJ<|And.intro @Qu<|And.intro @OD <|
 And.intro @PF<|And.intro @Ph<|And.intro @Oo<|And.intro @Qh<|And.intro @QJ<|And.intro @Ow<|And.intro @Pd <|
 And.intro @TJ<|And.intro @TE<|And.intro @Value.bool.injEq<|And.intro @decide_eq_true_eq<|And.intro @decide_eq_false_iff_not <|
 And.intro @Bool.not_true<|And.intro @Bool.not_false<|And.intro @decide_true<|And.intro @decide_false<|And.intro @Bool.not_eq_true' <|
 And.intro @Bool.not_eq_false'<|And.intro @Bool.false_eq_true<|And.intro @false_and<|And.intro @and_false<|And.intro @Option.map_some.{0,0} <|
 And.intro @Option.map_none.{0,0}<|And.intro @if_true.{1}<|And.intro @if_false.{1}<|And.intro @List.map_cons.{0,0}<|And.intro @List.map_nil.{0,0} <|
 And.intro @List.cons_append.{0}<|And.intro @List.nil_append.{0}<|And.intro @and_true<|And.intro @true_and<|And.intro @Nat.zero_add <|
 And.intro @Nat.add_zero<|And.intro @List.length_cons.{0}<|And.intro @List.length_nil.{0}<|And.intro @L5<|And.intro @List.getD_cons_zero.{0} <|
 And.intro @List.getD_cons_succ.{0}<|And.intro @List.getD_nil.{0}<|And.intro @VV.sc.injEq<|And.intro @List.getElem?_cons_zero.{0} <|
 And.intro @List.getElem?_cons_succ.{0}<|And.intro @Ju<|And.intro @Lr<|And.intro @Lm<|And.intro @KC <|
 And.intro @Mc<|And.intro @Lp<|And.intro @JP<|And.intro @Ie<|And.intro @I7<|And.intro @alE<|And.intro @alH <|
 And.intro @aiO<|And.intro @akW<|And.intro @ajQ<|And.intro @ajT<|And.intro @ahY<|And.intro @aiD<|And.intro @aiA<|And.intro @ajN <|
 And.intro @akL<|And.intro @aiH<|And.intro @akX<|And.intro @ajP <| @aiV
theorem iH:type_of% (
 And.intro @fI<|And.intro @Cm<|And.intro @H0<|And.intro @Lv<|And.intro @uP<|And.intro @MD <|
 And.intro @Hv<|And.intro @I2<|And.intro @Hs<|And.intro @aR<|And.intro @dU<|And.intro @List.set_cons_zero.{0} <|
 And.intro @List.set_cons_succ.{0}<|And.intro @rE<|And.intro @oC<|And.intro @mQ.eq_1<|And.intro @pK.eq_1 <|
 And.intro @pK.eq_2<|And.intro @Cd.eq_1<|And.intro @Cd.eq_2<|And.intro @xL.eq_1<|And.intro @xL.eq_2<|And.intro @E7 <|
 And.intro @Bu<|And.intro @C1<|And.intro @Df<|And.intro @LC<|And.intro @List.take_zero.{0} <|
 And.intro @List.take_succ_cons.{0}<|And.intro @List.take_nil.{0}<|And.intro @List.drop_zero.{0}<|And.intro @List.drop_succ_cons.{0} <|
 And.intro @List.drop_nil.{0}<|And.intro @List.append_nil.{0}<|And.intro @Nat.le_refl<|And.intro @cR.eq_1<|And.intro @Int.toNat_natCast <|
 And.intro @eq_self.{1}<|And.intro @ge_iff_le.{0} <| @Bool.and_eq_true) :=
 And.intro @fI<|And.intro @Cm<|And.intro @H0<|And.intro @Lv<|And.intro @uP<|And.intro @MD <|
 And.intro @Hv<|And.intro @I2<|And.intro @Hs<|And.intro @aR<|And.intro @dU<|And.intro @List.set_cons_zero.{0} <|
 And.intro @List.set_cons_succ.{0}<|And.intro @rE<|And.intro @oC<|And.intro @mQ.eq_1<|And.intro @pK.eq_1 <|
 And.intro @pK.eq_2<|And.intro @Cd.eq_1<|And.intro @Cd.eq_2<|And.intro @xL.eq_1<|And.intro @xL.eq_2<|And.intro @E7 <|
 And.intro @Bu<|And.intro @C1<|And.intro @Df<|And.intro @LC<|And.intro @List.take_zero.{0} <|
 And.intro @List.take_succ_cons.{0}<|And.intro @List.take_nil.{0}<|And.intro @List.drop_zero.{0}<|And.intro @List.drop_succ_cons.{0} <|
 And.intro @List.drop_nil.{0}<|And.intro @List.append_nil.{0}<|And.intro @Nat.le_refl<|And.intro @cR.eq_1<|And.intro @Int.toNat_natCast <|
 And.intro @eq_self.{1}<|And.intro @ge_iff_le.{0} <| @Bool.and_eq_true
end Go.PM
namespace Go.PM
theorem TC.vt {f:Nat} {args:List VV} {r:VV} (h:TC f args r) (A7:Ez.contains f=false) (hp:aN args=true):VT f args r:=by
 have h1:=h 0 [] fun x _=>x=r
 unfold cW at h1
 simp only[A7,hp,Bool.false_eq_true,if_false,if_true] at h1
 have h2:EZ f args fun x=>x=r:=by rw[h1];trivial
 unfold EZ tk at h2
 split at h2
 ·rename_i x hx
  rw[←h2]
  exact(Nj hx).2.2
 ·exact h2.elim
theorem TC.yes {f:Nat} {args:List VV} {dN:List Value} {H:aE} (h:TC f args (.sc (.bool true))) (A7:Ez.contains f=false) (hp:aN args=true) (hl:VL (bare (· < H.length) H) args dN) :
  ∃v H',qY f dN H.length H=some (v,H')∧v = .bool true:=by
 obtain⟨P',pv,h1,_,h2⟩:=h.vt A7 hp (· < H.length) H dN H.length (fun _ h=>h) hl (Nat.le_refl _)
 cases h2
 exact⟨_,P',h1,rfl⟩
theorem VR.grow {H L:aE} {x:VV} {v:Value} (h:VR (bare (· < H.length) H) x v):VR (bare (· < (H++L).length) (H++L)) x v :=
 h.C0 fun b hb=>⟨by show b<_;rw[List.length_append];omega,List.getElem?_append_left hb⟩
end Go.PM
namespace Go.PM
mutual
def jB (n:Nat):VV→Bool
 | .any=>false
 | .sc v=>nJ v
 | .agg cs=>xI n cs
 | .eG vs=>xI n vs
 | .tree es k=>es.isEmpty&&decide (k = .nil)
 | .cP _ _=>false
 | .ref b _ _ _ _=>decide (n≤b)
 | .ptr b _ _ _=>decide (n≤b)
 | .uG _ _=>false
def xI (n:Nat):List VV→Bool
 | []=>true
 | x::xs=>jB n x&&xI n xs
end
theorem wY {n:Nat} {es:List VV}:xI n es=true↔∀x∈es,jB n x=true:=by
 induction es with
 | nil=>simp[xI]
 | cons x xs ih=>simp[xI,ih]
theorem Um {n:Nat} {es:List VV} (h:xI n es=true):xI n (es.flatMap aB)=true:=by
 rw[wY] at h ⊢
 intro x hx
 obtain⟨y,hy,Aj⟩:=List.mem_flatMap.1 hx
 have:=h y hy
 unfold aB at Aj
 split at Aj
 ·exact wY.1 (by simpa[jB] using this) x Aj
 ·rw[List.mem_singleton] at Aj;subst Aj;exact this
def kT (n:Nat) (L:aA):Bool:=L.all fun
 | .row _ es _ _=>xI n es
 | .dead=>true
theorem VR.own {V V':View} {k0:Nat} (Ws:∀q,V.base≤q∧q<V.P.length→V'.base≤q∧q<V'.P.length∧∀b' g' es e w,b'<k0→V'.H[b']? = some (.row g' es e w)→V'.m b'≠q) (hl:V.H.length≤V'.H.length) (hH:∀b,k0≤b→V'.H[b]? = V.H[b]?) (hm:∀b,k0≤b→V'.m b=V.m b) {x:VV} {v:Value} (h:VR V x v):jB k0 x=true→VR V' x v:=by
 induction h using VR.rec (motive_2:=fun xs vs _=>xI k0 xs=true→VL V' xs vs) with
 | any=>intro hx;cases hx
 | sc _ h=>intro _;exact .sc _ h
 | agg cs ps _ ih=>intro hx;exact .agg _ _ (ih hx)
 | eG cs ps _ ih=>intro hx;exact .eG _ _ (ih hx)
 | nK k hk=>intro _;exact .nK k hk
 |
  tree es k b o c r e p hF hb ho hc he hk _ _ =>
  intro hx
  simp only[jB,Bool.and_eq_true,decide_eq_true_eq] at hx
  obtain⟨_,rfl⟩:=hx
  exact hk.elim
 | cP=>intro hx;cases hx
 |
  ref b g o n c a n' c' aX hg ha hq =>
  intro hx
  have hb:k0≤b:=by simpa[jB] using hx
  exact .ref b g o n c a n' c' (Nat.lt_of_lt_of_le aX hl) (fun g' es e w hr=>hg g' es e w (by rw[←hH b hb];exact hr)) (fun es e w hr=>by rw[hm b hb];exact ha es e w (by rw[←hH b hb];exact hr)) fun a0 h=>by
   obtain⟨q1,q2,q3⟩:=hq a0 h
   obtain⟨q4,q5,q6⟩:=Ws _ ⟨q1,q2⟩
   refine⟨q4,q5,fun b' g' es e w hr fQ => ?_⟩
   rcases Nat.lt_or_ge b' k0 with J8 | DA
   ·exact q6 b' g' es e w J8 hr
   ·rw[hm b' DA]
    exact q3 b' g' es e w (by rw[←hH b' DA];exact hr) fQ
 |
  ptr b g j off a aX hg ha hq =>
  intro hx
  have hb:k0≤b:=by simpa[jB] using hx
  exact .ptr b g j off a (Nat.lt_of_lt_of_le aX hl) (fun g' es e w hr=>hg g' es e w (by rw[←hH b hb];exact hr)) (fun es e w hr=>by rw[hm b hb];exact ha es e w (by rw[←hH b hb];exact hr)) fun a0 h=>by
   obtain⟨q1,q2,q3⟩:=hq a0 h
   obtain⟨q4,q5,q6⟩:=Ws _ ⟨q1,q2⟩
   refine⟨q4,q5,fun b' g' es e w hr fQ => ?_⟩
   rcases Nat.lt_or_ge b' k0 with J8 | DA
   ·exact q6 b' g' es e w J8 hr
   ·rw[hm b' DA]
    exact q3 b' g' es e w (by rw[←hH b' DA];exact hr) fQ
 | uG=>intro hx;cases hx
 | nil=>exact .nil
 |
  cons x v xs vs _ _ ih RC =>
  rename_i hx
  simp only[xI,Bool.and_eq_true] at hx
  exact .cons _ _ _ _ (ih hx.1) (RC hx.2)
theorem VL.own {V V':View} {n:Nat} (Ws:∀q,V.base≤q∧q<V.P.length→V'.base≤q∧q<V'.P.length∧∀b' g' es e w,b'<n→V'.H[b']? = some (.row g' es e w)→V'.m b'≠q) (hl:V.H.length≤V'.H.length) (hH:∀b,n≤b→V'.H[b]? = V.H[b]?) (hm:∀b,n≤b→V'.m b=V.m b) {xs:List VV} {vs:List Value} (h:VL V xs vs) (hx:xI n xs=true):VL V' xs vs:=by
 induction xs generalizing vs with
 | nil=>cases h;exact .nil
 |
  cons x xs ih=>cases h with
  |
   cons _ v _ vs h hs =>
   simp only[xI,Bool.and_eq_true] at hx
   exact .cons _ _ _ _ (h.own Ws hl hH hm hx.1) (ih hs hx.2)
theorem VL.C0 {V':View} {G:Nat→Prop} {P:aE} {xs:List VV} {vs:List Value} (hF:∀b,G b→V'.F b∧V'.P[b]? = P[b]?) (h:VL (bare G P) xs vs):VL V' xs vs:=by
 induction xs generalizing vs with
 | nil=>cases h;exact .nil
 |
  cons x xs ih=>cases h with
  | cons _ v _ vs h hs=>exact .cons _ _ _ _ (h.C0 hF) (ih hs)
def FC (f:Nat) (args:List VV) (R:Nat→VV→aA→Prop):Prop :=
 ∀n,qD f args n (List.replicate n .dead) fun r H'=>∃L,H'=List.replicate n .dead++L∧jB n r=true∧kT n L=true∧R n r L
theorem FC.walk {f:Nat} {pf:aY} {args:List VV} {R:Nat→VV→aA→Prop} (fl:Fl) (ht:jE f=some pf) (hn:args.length≤pf.ntmps)
  (h:∀n,VW fl n pf.body (AY pf.res fun r H'=>∃L,H'=List.replicate n .dead++L∧jB n r=true∧kT n L=true∧R n r L) (Hz args) (List.replicate n .dead)):FC f args R :=
 fun n=>qD.walk fl ht hn (h n)
theorem FC.raw {f:Nat} {args kD:List VV} {R:Nat→VV→aA→Prop} {H:aA} {lo:Nat} (h:FC f kD R) (hf:args.mapM (fz depth H)=some kD):qD f args lo H fun r H'=>∃L,H'=H++L∧R H.length r L∧jB H.length r=true∧kT H.length L=true:=by
 intro V dO dN hH hS hl
 have h1:=h H.length
 let V0:View:={ m:=V.m,F:=(· < V.P.length),H:=List.replicate H.length .dead,P:=V.P,base:=V.P.length }
 have JV:∀(b g:Nat) (es:List VV) (e:Nat) (w:Bool),V0.H[b]? ≠ some (.row g es e w):=by
  intro b g es e w hb
  have:=List.eq_of_mem_replicate (List.mem_of_getElem? hb)
  cases this
 have hS0:SR V0 H.length dO:=⟨fun b g es e w hb=>absurd hb (JV _ _ _ _ _),fun b g es e hb=>absurd hb (JV _ _ _ _ _),fun a b g es e w _ _ _ _ ha=>absurd ha (JV _ _ _ _ _),fun b hb=>hb,hS.QQ,Nat.le_refl _⟩
 have zB:VL V0 kD dN:=by
  have:=Dm hS (G:=(· < V.P.length)) (fun q hq=>hS.fr q hq) hl (by rw[hH];exact hf) (fun i _ g es e w hb=>hS.mlt hb)
  exact VL.C0 (V':=V0) (fun b hb=>⟨hb,rfl⟩) this
 obtain⟨pv,V1,r,k1,k3,k4,k5,L,k2,h2,h3,hR⟩:=h1 V0 dO dN rfl hS0 zB
 have SL:∀b g es e w,V1.H[b]? = some (.row g es e w)→V.P.length≤V1.m b:=by
  intro b g es e w hb
  rcases Nat.lt_or_ge (V1.m b) V.P.length with aX | DA
  ·obtain⟨g0,es0,w0,j1,_⟩:=k4.A5 b g es e w hb aX
   exact absurd j1 (JV _ _ _ _ _)
  ·exact DA
 have akO:V1.H.length=H.length+(L).length:=by rw[k2];simp
 have Ay:∀q,q<V.P.length→V1.P[q]? = V.P[q]? := fun q hq=>k4.cZ q hq fun b g es e hb=>absurd hb (JV _ _ _ _ _)
 let V2:View:={ m:=fun b=>if b<H.length then V.m b else V1.m b,F:=V.F,H:=H++L,P:=V1.P,base:=V.base }
 have Zz:∀b,H.length≤b→V2.H[b]? = V1.H[b]? := fun b hb=>by
  show (H++L)[b]? = _
  rw[k2,List.getElem?_append_right hb,List.getElem?_append_right (by simpa using hb),List.length_replicate]
 have mL:∀b,H.length≤b→V2.m b=V1.m b:=fun b hb=>by
  show (if b<H.length then V.m b else V1.m b)=_
  rw[if_neg (by omega)]
 have Zr:∀b,b<H.length→V2.H[b]? = V.H[b]? := fun b hb=>by
  show (H++L)[b]? = _
  rw[List.getElem?_append_left hb,hH]
 have mS:∀b,b<H.length→V2.m b=V.m b:=fun b hb=>by
  show (if b<H.length then V.m b else V1.m b)=_
  rw[if_pos hb]
 have hU:Up V V2:=⟨fun _ h=>h,fun b hb=>Ay b (hS.fr b hb),by show V.H.length≤(H++L).length;rw[hH];simp,fun b g es e w aX hb=>⟨g,es,w,by rw[←Zr b (by rw[←hH];exact aX)];exact hb,Nat.le_refl _,fun _=>mS b (by rw[←hH];exact aX)⟩,rfl,k4.DP,fun b g es e w hb hm=>by
   rcases Nat.lt_or_ge b H.length with h | h
   ·exact⟨g,es,w,by rw[←Zr b h];exact hb,mS b h,id⟩
   ·rw[mL b h] at hm
    have:=SL b g es e w (by rw[←Zz b h];exact hb)
    omega⟩
 have TR:∀ {b g es e w},V2.H[b]? = some (.row g es e w)→(b<H.length∧V.H[b]? = some (.row g es e w))∨(H.length≤b∧V1.H[b]? = some (.row g es e w)):=by
  intro b g es e w hb
  rcases Nat.lt_or_ge b H.length with h | h
  ·exact .inl ⟨h,by rw[←Zr b h];exact hb⟩
  ·exact .inr ⟨h,by rw[←Zz b h];exact hb⟩
 have abH:V1.H.length≤V2.H.length:=by show _≤(H++L).length;rw[akO];simp
 have Lw:∀ {b g es e w},H.length≤b→V1.H[b]? = some (.row g es e w)→xI H.length es=true:=by
  intro b g es e w hb hr
  rw[k2,List.getElem?_append_right (by simpa using hb)] at hr
  exact List.all_eq_true.1 h3 _ (List.mem_of_getElem? hr)
 have Ws:∀q,V1.base≤q∧q<V1.P.length→V2.base≤q∧q<V2.P.length∧∀b' g' es e w,b'<H.length→V2.H[b']? = some (.row g' es e w)→V2.m b'≠q:=by
  intro q hq
  have DB:V.P.length≤q:=by have:=k4.IU;rw[this] at hq;exact hq.1
  refine⟨Nat.le_trans hS.IU DB,hq.2,fun b' g' es e w aX hr hm => ?_⟩
  rw[mS b' aX] at hm
  have:=hS.mlt (by rw[←Zr b' aX];exact hr)
  omega
 refine⟨pv,V2,r,k1,⟨fun b g es e w hb => ?_,fun b g es e hb => ?_,fun a b g es e w g' mU e' w' ha hb hm => ?_,fun b hb => ?_,?_,Nat.le_trans hS.IU k4.DP⟩,{ hU with cZ:=fun q hq _=>Ay q hq,B0:=fun q hq => .inl hq },?_,L,rfl,hR,h2,h3⟩
 ·rcases TR hb with⟨h,hb⟩ | ⟨h,hb⟩
  ·obtain⟨r,p,j1,j2,j3⟩:=hS.row b g es e w hb
   exact⟨r,p,by rw[mS b h];exact(Ay _ (hS.mlt hb)).trans j1,j2,j3.mono hU⟩
  ·obtain⟨r,p,j1,j2,j3⟩:=k3.row b g es e w hb
   exact⟨r,p,by rw[mL b h];exact j1,j2,j3.own Ws abH (fun b hb=>Zz b hb) (fun b hb=>mL b hb) (Um (Lw h hb))⟩
 ·rcases TR hb with⟨h,hb⟩ | ⟨h,hb⟩
  ·rw[mS b h]
   exact hS.wr b g es e hb
  ·rw[mL b h]
   have:=SL b g es e true hb
   exact⟨fun hF=>by have:=hS.fr _ hF;omega,fun _=>Nat.le_trans hS.QQ this⟩
 ·rcases TR ha with⟨h,ha⟩ | ⟨h,ha⟩<;>rcases TR hb with⟨h',hb⟩ | ⟨h',hb⟩
  ·rw[mS a h,mS b h'] at hm
   exact hS.inj a b _ _ _ _ _ _ _ _ ha hb hm
  ·rw[mS a h,mL b h'] at hm
   have:=SL b _ _ _ _ hb
   have:=hS.mlt ha
   omega
  ·rw[mL a h,mS b h'] at hm
   have:=SL a _ _ _ _ ha
   have:=hS.mlt hb
   omega
  ·rw[mL a h,mL b h'] at hm
   exact k3.inj a b _ _ _ _ _ _ _ _ ha hb hm
 ·exact Nat.lt_of_lt_of_le (hS.fr b hb) k4.DP
 ·exact Nat.le_trans hS.QQ k4.DP
 ·exact k5.own Ws abH (fun b hb=>Zz b hb) (fun b hb=>mL b hb) h2
theorem lT {f:Nat} {args:List VV} {lo:Nat} {H:aA} {K:VV→aA→Prop} (A7:Ez.contains f=true) (h:qD f args lo H K):cW f args lo H K:=by
 unfold cW
 rw[if_pos A7]
 exact h
theorem FC.call {f:Nat} {args kD:List VV} {R:Nat→VV→aA→Prop} {H:aA} {lo:Nat} {K:VV→aA→Prop} (h:FC f kD R) (A7:Ez.contains f=true) (hf:args.mapM (fz depth H)=some kD) (hk:∀r L,R H.length r L→K r (H++L)):cW f args lo H K :=
 lT A7 ((h.raw hf).mono fun r H' ⟨L,h1,h2,_⟩=>by subst h1;exact hk r L h2)
theorem FC.acB {f:Nat} {args kD:List VV} {R:Nat→VV→aA→Prop} {H:aA} {lo:Nat} {K:VV→aA→Prop} (h:FC f kD R) (A7:Ez.contains f=true) (hf:args.mapM (fz depth H)=some kD) (hk:∀r L,R H.length r L→jB H.length r=true→kT H.length L=true→K r (H++L)):cW f args lo H K :=
 lT A7 ((h.raw hf).mono fun r H' ⟨L,h1,h2,h3,h4⟩=>by subst h1;exact hk r L h2 h3 h4)
def Pv (H K:aA):Prop:=K.length=H.length∧∀(b g:Nat) (es:List VV) (e:Nat) (w:Bool),K[b]? = some (.row g es e w)→H[b]? = some (.row g es e w)
theorem VR.kill {V:View} {K:aA} (hK:Pv V.H K) {x:VV} {v:Value} (h:VR V x v):VR { V with H:=K } x v:=by
 induction h using VR.rec (motive_2:=fun xs vs _=>VL { V with H:=K } xs vs) with
 | any=>exact .any _
 | sc _ h=>exact .sc _ h
 | agg cs ps _ ih=>exact .agg _ _ ih
 | eG cs ps _ ih=>exact .eG _ _ ih
 | nK k hk=>exact .nK k hk
 | tree es k b o c r e p hF hb ho hc he hk _ ih=>exact .tree es k b o c r e p hF hb ho hc he hk ih
 | cP x off b o r e p hF hb ho _ ih=>exact .cP x off b o r e p hF hb ho ih
 |
  ref b g o n c a n' c' aX hg ha hq =>
  exact .ref b g o n c a n' c' (by show b<K.length;rw[hK.1];exact aX) (fun g' es e w hr=>hg g' es e w (hK.2 _ _ _ _ _ hr)) (fun es e w hr=>ha es e w (hK.2 _ _ _ _ _ hr)) fun a0 h=>⟨(hq a0 h).1,(hq a0 h).2.1,fun b' g' es e w hr=>(hq a0 h).2.2 b' g' es e w (hK.2 _ _ _ _ _ hr)⟩
 |
  ptr b g j off a aX hg ha hq =>
  exact .ptr b g j off a (by show b<K.length;rw[hK.1];exact aX) (fun g' es e w hr=>hg g' es e w (hK.2 _ _ _ _ _ hr)) (fun es e w hr=>ha es e w (hK.2 _ _ _ _ _ hr)) fun a0 h=>⟨(hq a0 h).1,(hq a0 h).2.1,fun b' g' es e w hr=>(hq a0 h).2.2 b' g' es e w (hK.2 _ _ _ _ _ hr)⟩
 | uG f fR ps _ ih=>exact .uG _ _ _ ih
 | nil=>exact .nil
 | cons x v xs vs _ _ ih RC=>exact .cons _ _ _ _ ih RC
theorem VL.kill {V:View} {K:aA} (hK:Pv V.H K) {xs:List VV} {vs:List Value} (h:VL V xs vs):VL { V with H:=K } xs vs:=by
 induction xs generalizing vs with
 | nil=>cases h;exact .nil
 |
  cons x xs ih=>cases h with
  | cons _ v _ vs h hs=>exact .cons _ _ _ _ (h.kill hK) (ih hs)
theorem qD.kill {f:Nat} {args:List VV} {lo:Nat} {H:aA} {P P':VV→aA→Prop} (h:qD f args lo H P) (hk:∀v H',P v H'→∃K,Pv H' K∧P' v K):qD f args lo H P':=by
 intro V dO dN hH hS hl
 obtain⟨pv,V',v,h1,h2,h3,h4,h5⟩:=h V dO dN hH hS hl
 obtain⟨K,hK,h6⟩:=hk _ _ h5
 refine⟨pv,{ V' with H:=K },v,h1,⟨fun b g es e w hb => ?_,fun b g es e hb=>h2.wr b g es e (hK.2 _ _ _ _ _ hb),fun a b g es e w g' mU e' w' ha hb hm=>h2.inj a b _ _ _ _ _ _ _ _ (hK.2 _ _ _ _ _ ha) (hK.2 _ _ _ _ _ hb) hm,h2.fr,h2.QQ,h2.IU⟩,
  { F:=h3.F,P:=h3.P,len:=by show V.H.length≤K.length;rw[hK.1];exact h3.len,row:=fun b g es e w aX hb=>h3.row b g es e w aX (hK.2 _ _ _ _ _ hb),IU:=h3.IU,DP:=h3.DP,A5:=fun b g es e w hb hm=>h3.A5 b g es e w (hK.2 _ _ _ _ _ hb) hm,cZ:=h3.cZ,B0:=h3.B0 },h4.kill hK,h6⟩
 obtain⟨r,p,j1,j2,j3⟩:=h2.row b g es e w (hK.2 _ _ _ _ _ hb)
 exact⟨r,p,j1,j2,j3.kill hK⟩
theorem FC.ajK {f:Nat} {pf:aY} {args:List VV} {R:Nat→VV→aA→Prop} (fl:Fl) (ht:jE f=some pf) (hn:args.length≤pf.ntmps)
  (h:∀n,VW fl n pf.body (AY pf.res fun r H'=>∃L,Pv H' (List.replicate n .dead++L)∧jB n r=true∧kT n L=true∧R n r L) (Hz args) (List.replicate n .dead)):FC f args R :=
 fun n=>(qD.walk fl ht hn (h n)).kill fun _ _ ⟨L,h1,h2,h3,h4⟩=>⟨_,h1,L,rfl,h2,h3,h4⟩
end Go.PM
namespace Go.PM
open Go.ChangeShapes Go.WideShapes Go.ChangeAt Go.RowKit
open Go.Proofs
def C5 (W:World):Prop:=∃(rb:Nat) (arr:Array Value) (e:TypeId) (fz:Nat×Nat),W.heap[rb]? = some (.cells arr e fz)
structure A4 (m m':dA) (H L:aE) (W:World) (cs G4:List Value) (vs:List VV):Prop where
 inn:In m' (H++L) W
 ext:∀b l,m b=some l→m' b=some l
 len:G4.length=cs.length
 rv:∀i,i<cs.length→RV m' (G4.getD i Go.undef) (cs.getD i Go.undef)
 sc:∀v∈G4,PM.gO v=true
 tree:VL (bare (· < (H++L).length) (H++L)) vs G4
def CC {T:Type} (vE:TypeId×Value→T) (P:Program) (W:World) (t:TypeId) (k:Nat) (S:List VV→Prop):Prop :=
 ∀fuel cs y,DataW.trod vE P W 0 (fun _=>true) true fuel t cs=some y→∀(m:dA) (H:aE),In m H W→cs.length=k∧∃m' L G4 vs,A4 m m' H L W cs G4 vs∧S vs
theorem VL.grow {H L:aE} {xs:List VV} {vs:List Value} (h:VL (bare (· < H.length) H) xs vs):VL (bare (· < (H++L).length) (H++L)) xs vs :=
 h.C0 fun b hb=>⟨by show b<_;rw[List.length_append];omega,List.getElem?_append_left hb⟩
theorem VL.app {V:View} {xs ys:List VV} {vs ws:List Value} (h:VL V xs vs) (h':VL V ys ws):VL V (xs++ys) (vs++ws):=by
 induction xs generalizing vs with
 | nil=>cases h;exact h'
 |
  cons x xs ih=>cases h with
  | cons _ v _ vs h hs=>exact .cons _ _ _ _ h (ih hs)
theorem Ge {cs ds:List Value} {i:Nat} (h:i<cs.length):(cs++ds).getD i Go.undef=cs.getD i Go.undef:=by
 simp only[List.getD_eq_getElem?_getD,List.getElem?_append_left h]
theorem ED {cs ds:List Value} {i:Nat} (h:cs.length≤i):(cs++ds).getD i Go.undef=ds.getD (i-cs.length) Go.undef:=by
 simp only[List.getD_eq_getElem?_getD,List.getElem?_append_right h]
theorem A4.both {m m1 m2:dA} {H L1 L2:aE} {W:World} {cs G4 Ad alL:List Value} {vs vs':List VV} (h:A4 m m1 H L1 W cs G4 vs) (h':A4 m1 m2 (H++L1) L2 W Ad alL vs'):A4 m m2 H (L1++L2) W (cs++Ad) (G4++alL) (vs++vs'):=by
 refine⟨by rw[←List.append_assoc];exact h'.inn,fun b l hb=>h'.ext _ _ (h.ext _ _ hb),by simp[h.len,h'.len],fun i hi => ?_,fun v hv => ?_,?_⟩
 ·rcases Nat.lt_or_ge i cs.length with aX | DA
  ·rw[Ge aX,Ge (by rw[h.len];exact aX)]
   exact(h.rv i aX).mono h'.ext
  ·rw[ED DA,ED (by rw[h.len];exact DA),h.len]
   exact h'.rv _ (by rw[List.length_append] at hi;omega)
 ·rcases List.mem_append.1 hv with hv | hv
  ·exact h.sc v hv
  ·exact h'.sc v hv
 ·rw[←List.append_assoc]
  exact h.tree.grow.app h'.tree
theorem A4.none {m:dA} {H:aE} {W:World} (hI:In m H W):A4 m m H [] W [] [] [] :=
 ⟨by rw[List.append_nil];exact hI,fun _ _ h=>h,rfl,fun i hi=>absurd hi (Nat.not_lt_zero _),fun v hv=>(by cases hv),.nil⟩
theorem NP {T:Type} {vE:TypeId×Value→T} {P:Program} {W:World} {t:TypeId} (ht:P.underlying t=some .string):CC vE P W t 1 (fun vs=>∃s:ByteArray,s.size≤maxLen∧vs=[.sc (.string s)]):=by
 intro fuel cs y h m H hI
 obtain⟨s,rfl,_,hs⟩:=DataW.trod_string ht h
 refine⟨rfl,m,[],[.string s],[.sc (.string s)],⟨by rw[List.append_nil];exact hI,fun _ _ h=>h,rfl,fun i hi => ?_,fun v hv => ?_,.cons _ _ _ _ (.sc _ rfl) .nil⟩,s,hs,rfl⟩
 ·have:i=0:=by simpa using hi
  subst this
  exact .str s
 ·rw[List.mem_singleton] at hv
  subst hv
  rfl
theorem J7 {T:Type} {vE:TypeId×Value→T} {P:Program} {W:World} {e:TypeId} {fM:Nat} {S:List VV→Prop} (ho:CC vE P W e fM S):∀(QL:List (List Value)),(∀cs∈QL,∃fuel y,DataW.trod vE P W 0 (fun _=>true) true fuel e cs=some y)→∀(m:dA) (H:aE),In m H W →
  ∃(m':dA) (L:aE) (G4:List Value) (gs:List (List VV)),A4 m m' H L W QL.flatten G4 gs.flatten∧gs.length=QL.length∧(∀g∈gs,S g)∧∀cs∈QL,cs.length=fM
 | [],_,m,H,hI=>⟨m,[],[],[],A4.none hI,rfl,fun g hg=>(by cases hg),fun cs Kx=>(by cases Kx)⟩
 |
  cs::QL,h,m,H,hI=>by
  obtain⟨fuel,y,hy⟩:=h cs List.mem_cons_self
  obtain⟨hl,m1,L1,arR,g,h1,hS⟩:=ho fuel cs y hy m H hI
  obtain⟨m2,L2,aqT,gs,h2,h3,h4,h5⟩:=J7 ho QL (fun cs Kx=>h cs (List.mem_cons_of_mem _ Kx)) m1 (H++L1) h1.inn
  refine⟨m2,L1++L2,arR++aqT,g::gs,?_,by simp[h3],fun g' Xc => ?_,fun Ad aeO => ?_⟩
  ·rw[List.flatten_cons,List.flatten_cons]
   exact h1.both h2
  ·rcases List.mem_cons.1 Xc with rfl | Xc
   ·exact hS
   ·exact h4 _ Xc
  ·rcases List.mem_cons.1 aeO with rfl | aeO
   ·exact hl
   ·exact h5 _ aeO
theorem CW {α:Type} {k:Nat}:∀ {Zb:List (List α)},(∀xs∈Zb,xs.length=k)→Zb.flatten.length=Zb.length*k
 | [],_=>by simp
 |
  xs::Zb,h=>by
  rw[List.flatten_cons,List.length_append,h xs List.mem_cons_self,CW fun y hy=>h y (List.mem_cons_of_mem _ hy),List.length_cons,Nat.succ_mul,Nat.add_comm]
theorem FY {α:Type} {k:Nat}:∀ {Zb:List (List α)} (n:Nat),(∀xs∈Zb,xs.length=k)→Zb.flatten.take (n*k)=(Zb.take n).flatten
 | [],n,_=>by simp
 | xs::Zb,0,_=>by simp
 |
  xs::Zb,n+1,h=>by
  have hl:=h xs List.mem_cons_self
  rw[List.flatten_cons,List.take_succ_cons,List.flatten_cons,←FY n fun y hy=>h y (List.mem_cons_of_mem _ hy),show (n+1)*k=xs.length+n*k by rw[hl,Nat.succ_mul,Nat.add_comm],List.take_length_add_append]
theorem M4 {k:Nat} (hk:1≤k) {QL:List (List Value)} (h:∀cs∈QL,cs.length=k) {i:Nat} (hi:i<QL.length*k):∃cs,QL[i / k]? = some cs∧QL.flatten.getD i Go.undef=cs.getD (i % k) Go.undef:=by
 induction QL generalizing i with
 | nil=>simp at hi
 |
  cons cs QL ih =>
  have hl:=h cs List.mem_cons_self
  rw[List.flatten_cons]
  rcases Nat.lt_or_ge i k with aX | DA
  ·refine⟨cs,by rw[Nat.div_eq_of_lt aX];rfl,?_⟩
   rw[Ge (by omega),Nat.mod_eq_of_lt aX]
  ·obtain⟨c',h1,h2⟩:=ih (fun y hy=>h y (List.mem_cons_of_mem _ hy)) (i:=i-k) (by rw[List.length_cons,Nat.succ_mul] at hi;omega)
   have e1:i / k=(i-k) / k+1:=by rw[Nat.div_eq_sub_div (by omega) DA]
   have e2:i % k=(i-k) % k:=by rw[Nat.mod_eq_sub_mod DA]
   exact⟨c',by rw[e1];exact h1,by rw[ED (by omega),hl,h2,e2]⟩
theorem Ht {T:Type} {vE:TypeId×Value→T} {α:Type} {f:α→VV} {WN:α→Prop} {P:Program} {W:World} {t e:TypeId} {fM:Nat} (ht:P.underlying t=some (.slice e)) (apW:P.cellsOf e=fM) (pos:1≤fM) (hB:C5 W)
  (hf:∀x,(aB (f x)).length=fM) (ho:CC vE P W e fM fun g=>∃x:α,WN x∧g=aB (f x)):CC vE P W t 1 fun vs=>∃xs:List α,xs.length≤maxLen∧(∀x∈xs,WN x)∧vs=[aC f xs]:=by
 intro fuel cs y h m H hI
 rcases DataW.trod_slice ht h with⟨rfl,_⟩ | ⟨a,n,c,elems,rest,k,_,rfl,_,_,V6,hmx,hlen,hE,hR,_⟩
 ·refine⟨rfl,m,[],[.slice none 0 0],[.tree [] .op],⟨by rw[List.append_nil];exact hI,fun _ _ h=>h,rfl,fun i hi => ?_,fun v hv => ?_,.cons _ _ _ _ (.nK _ (.inl rfl)) .nil⟩,[],Nat.zero_le _,fun x hx=>(by cases hx),rfl⟩
  ·have:i=0:=by simpa using hi
   subst this
   exact .Ik
  ·rw[List.mem_singleton] at hv
   subst hv
   rfl
 ·obtain⟨D4,hR⟩:=hR rfl
  have Tc:∀i,i<c→∃cs,W.cells? 0 (a.add (i*fM)) fM=some cs∧∃fuel y,DataW.trod vE P W 0 (fun _=>true) true fuel e cs=some y:=by
   intro i hi
   have key:∃y,(W.cells? 0 (a.add (i*P.cellsOf e)) (P.cellsOf e)).bind (DataW.trod vE P W 0 (fun _=>true) true k e)=some y:=by
    rcases Nat.lt_or_ge i n with cB | cB
    ·exact⟨elems[i]'(by omega),by rw[hE i cB];exact List.getElem?_eq_getElem _⟩
    ·have:=hR (i-n) (by omega)
     rw[show n+(i-n)=i by omega] at this
     exact⟨rest[i-n]'(by omega),by rw[this];exact List.getElem?_eq_getElem _⟩
   obtain⟨y,hy⟩:=key
   rw[Option.bind_eq_some_iff,apW] at hy
   obtain⟨cs,h1,h2⟩:=hy
   exact⟨cs,h1,k,y,h2⟩
  obtain⟨QL,kU,Kx⟩:=TW (fun i cs=>W.cells? 0 (a.add (i*fM)) fM=some cs∧∃fuel y,DataW.trod vE P W 0 (fun _=>true) true fuel e cs=some y) c Tc
  obtain⟨m1,L1,G4,gs,hO,YS,hgS,afK⟩:=J7 ho QL (fun cs hc=>by
   obtain⟨i,hi⟩:=List.getElem?_of_mem hc
   exact(Kx i cs hi).2) m H hI
  obtain⟨xs,hxg,N2⟩:∃xs:List α,(∀x∈xs,WN x)∧gs=xs.map fun x=>aB (f x):=by
   clear hO YS
   induction gs with
   | nil=>exact⟨[],fun x hx=>(by cases hx),rfl⟩
   |
    cons g gs ih =>
    obtain⟨xs,h1,h2⟩:=ih fun g hg=>hgS g (List.mem_cons_of_mem _ hg)
    obtain⟨x,h3,h4⟩:=hgS g List.mem_cons_self
    exact⟨x::xs,fun y hy=>by
     rcases List.mem_cons.1 hy with rfl | hy
     ·exact h3
     ·exact h1 y hy,by rw[List.map_cons,←h2,h4]⟩
  have hxl:xs.length=c:=by rw[←kU,←YS,N2,List.length_map]
  have KO:G4.length=c*fM:=by rw[hO.len,CW afK,kU]
  obtain⟨rb,base,arr,e',fz,aiL,QO,DB⟩:∃(rb base:Nat) (arr:Array Value) (e':TypeId) (fz:Nat×Nat),W.heap[rb]? = some (.cells arr e' fz)∧(c=0→base=0)∧(c≠0→a=⟨rb,base,none⟩):=by
   by_cases h0:c=0
   ·obtain⟨rb,arr,e',fz,hb⟩:=hB
    exact⟨rb,0,arr,e',fz,hb,fun _=>rfl,fun h=>absurd h0 h⟩
   ·obtain⟨cs,h1,_⟩:=Tc 0 (by omega)
    have h2:=(World.cells?_some h1).2
    have h3:=h2.2 0 (by omega)
    rw[List.getElem?_eq_getElem (by omega)] at h3
    have:(a.add (0*fM)).add 0=a:=by simp[Addr.add]
    rw[this] at h3
    unfold World.cell? at h3
    split at h3
    ·rename_i arr e' fz hb
     split at h3
     ·cases h3
     ·rename_i OW
      refine⟨a.block,a.off,arr,e',fz,hb,fun h=>absurd h h0,fun _ => ?_⟩
      obtain⟨b,o,sp⟩:=a
      cases sp with
      | none=>rfl
      | some x=>simp at OW
    ·cases h3
  have N1:∀i,i<c*fM→W.cell? ⟨rb,base+i,none⟩=some (QL.flatten.getD i Go.undef):=by
   intro i hi
   obtain⟨cs,h1,h2⟩:=M4 pos afK (i:=i) (by rw[kU];exact hi)
   have h0:c≠0:=by intro h0;rw[h0] at hi;simp at hi
   have ha:=DB h0
   have h3:=(World.cells?_some (Kx _ _ h1).1).2
   have hr:i % fM<fM:=Nat.mod_lt _ pos
   have h4:=h3.2 (i % fM) hr
   have K0:∀o k:Nat,(⟨rb,o,none⟩:Addr).add k=⟨rb,o+k,none⟩:=by
    intro o k
    unfold Addr.add
    split
    ·rename_i h0;subst h0;rfl
    ·rfl
   have aeI:i / fM*fM+i % fM=i:=by rw[Nat.mul_comm];exact Nat.div_add_mod i fM
   rw[ha,K0,K0,Nat.add_assoc,aeI] at h4
   rw[h2,List.getD_eq_getElem?_getD,h4]
   have aX:i % fM<cs.length:=by rw[h3.1];exact hr
   rw[List.getElem?_eq_getElem aX]
   rfl
  have wT:base+G4.length≤arr.size:=by
   rw[KO]
   by_cases h0:c=0
   ·rw[QO h0,h0];simp
   ·have Np:1≤c*fM:=Nat.mul_pos (by omega) pos
    have h3:=N1 (c*fM-1) (by omega)
    unfold World.cell? at h3
    simp only[aiL,Option.isSome_none,Bool.false_eq_true,if_false] at h3
    have:=(Array.getElem?_eq_some_iff.1 h3).1
    omega
  have K0:=hO.inn.add (fM:=fM) (cs:=G4) (base:=base) aiL wT (fun i hi=>by
   rw[KO] at hi
   refine⟨_,N1 i hi,(hO.rv i (by rw[CW afK,kU];exact hi)).mono (tU (hO.inn.PC (Nat.le_refl _))),?_⟩
   rw[List.getD_eq_getElem?_getD,List.getElem?_eq_getElem (by rw[KO];exact hi)]
   exact hO.sc _ (List.getElem_mem _))
  refine⟨rfl,_,L1++[.row G4 fM false],[.slice (some ⟨(H++L1).length,0,none⟩) n c],[aC f (xs.take n)],⟨by rw[←List.append_assoc];exact K0,fun b l hb=>tU (hO.inn.PC (Nat.le_refl _)) _ _ (hO.ext b l hb),rfl,fun i hi => ?_,fun v hv => ?_,?_⟩,xs.take n,by rw[List.length_take];omega,fun x hx=>hxg x (List.mem_of_mem_take hx),rfl⟩
  ·have:i=0:=by simpa using hi
   subst this
   refine .slice (H++L1).length 0 n c _ _ c (bQ _ _ _) V6 (Nat.le_refl _) (fun _=>rfl) ?_
   by_cases h0:c=0
   ·exact .inl h0
   ·exact .inr ⟨by simpa using DB h0,by simpa[KO] using wT⟩
  ·rw[List.mem_singleton] at hv
   subst hv
   rfl
  ·rw[←List.append_assoc]
   refine .cons _ _ _ _ ?_ .nil
   have hl:(xs.take n).length=n:=by rw[List.length_take];omega
   have DR:∀g∈gs,g.length=fM:=fun g hg=>by
    obtain⟨x,_,rfl⟩:=hgS g hg
    exact hf x
   have key:=hO.tree.grow (L:=[K1.row G4 fM false])
   have key:=key.take (n*fM)
   rw[FY n DR,N2,←List.map_take] at key
   have:=VR.tree (V:=bare (· < (H++L1++[K1.row G4 fM false]).length) (H++L1++[K1.row G4 fM false])) ((xs.take n).map f) .op (H++L1).length 0 c G4 fM false (by show (H++L1).length<_;simp) (by show (H++L1++[K1.row G4 fM false])[(H++L1).length]? = _;rw[List.getElem?_append_right (Nat.le_refl _),Nat.sub_self];rfl)
    (by rw[List.length_map,hl,KO];simp only[Nat.zero_add];exact Nat.mul_le_mul_right _ V6) (by rw[List.length_map,hl];exact V6) (fun y hy=>by
     obtain⟨x,_,rfl⟩:=List.mem_map.1 hy
     exact hf x) trivial (by rw[List.length_map,hl,List.drop_zero,List.flatMap_map,List.flatMap_def];exact key)
   rw[List.length_map,hl] at this
   exact this
theorem O6 {T:Type} {vE:TypeId×Value→T} {P:Program} {W:World} {t t0 t1 t2:TypeId} {fs:Array Field} {S0 S1 S2:List VV→Prop} (ht:P.underlying t=some (.struct fs)) (hc:P.cellsOf t=3)
  (h0:∃f,fs[0]? = some f∧f.type=t0∧f.offset=0) (h1:∃f,fs[1]? = some f∧f.type=t1∧f.offset=1) (h2:∃f,fs[2]? = some f∧f.type=t2∧f.offset=2) (hs:fs.size=3) (c0:P.cellsOf t0=1) (c1:P.cellsOf t1=1) (c2:P.cellsOf t2=1)
  (o0:CC vE P W t0 1 S0) (o1:CC vE P W t1 1 S1) (o2:CC vE P W t2 1 S2):CC vE P W t 3 fun vs=>∃a b c,S0 a∧S1 b∧S2 c∧vs=a++(b++c):=by
 intro fuel cs y h m H hI
 obtain⟨xs,n,_,_,hl,hlen,hf⟩:=DataW.trod_struct ht h
 rw[hc] at hl
 obtain⟨f0,g0,rfl,z0⟩:=h0
 obtain⟨f1,g1,rfl,z1⟩:=h1
 obtain⟨f2,g2,rfl,z2⟩:=h2
 have k0:=hf 0 f0 g0
 have k1:=hf 1 f1 g1
 have k2:=hf 2 f2 g2
 rw[z0,c0,List.getElem?_eq_getElem (by omega)] at k0
 rw[z1,c1,List.getElem?_eq_getElem (by omega)] at k1
 rw[z2,c2,List.getElem?_eq_getElem (by omega)] at k2
 match cs,hl with
 |
  [u,v,w],_ =>
  obtain⟨_,m1,L1,p1,v1,q1,s1⟩:=o0 _ _ _ k0 m H hI
  obtain⟨_,m2,L2,p2,v2,q2,s2⟩:=o1 _ _ _ k1 m1 (H++L1) q1.inn
  obtain⟨_,m3,L3,p3,v3,q3,s3⟩:=o2 _ _ _ k2 m2 (H++L1++L2) q2.inn
  exact⟨rfl,m3,L1++(L2++L3),p1++(p2++p3),v1++(v2++v3),q1.both (q2.both q3),v1,v2,v3,s1,s2,s3,rfl⟩
end Go.PM