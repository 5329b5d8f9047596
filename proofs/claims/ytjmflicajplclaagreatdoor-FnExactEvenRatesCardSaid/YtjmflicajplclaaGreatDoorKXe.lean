/- Texts of a claim, in one: part 5. -/
import Derived.Test.YtjmflicajplclaaGreatDoorKXd
set_option linter.unusedSimpArgs false
set_option linter.unusedVariables false
namespace Go.PM
def VT (f:Nat) (args:List VV) (r:VV):Prop :=
 ∀(F:Nat→Prop) (P:aE) (eO:List Value) (eK:Nat),(∀b,F b→b<P.length)→VL (bare F P) args eO→eK≤P.length →
  ∃P' pv,rV f eO eK P=some (pv,P')∧P <+: P'∧VR (bare (fun q=>F q∨(P.length≤q∧q<P'.length)) P') r pv
def Qg (lo eK:Nat) (V:View) (r:Option (Value×aE)) (K:VV→aA→Prop):Prop :=
 ∃pv V' v,r=some (pv,V'.P)∧SR V' lo eK∧E9 lo V V'∧VR V' v pv∧K v V'.H
def kS (f:Nat) (args:List VV) (lo:Nat) (H:aA) (K:VV→aA→Prop):Prop :=
 ∀(V:View) (eK:Nat) (eO:List Value),V.H=H→SR V lo eK→VL V args eO→Qg lo eK V (rV f eO eK V.P) K
theorem kS.mono {f:Nat} {args:List VV} {lo:Nat} {H:aA} {K K':VV→aA→Prop} (hk:∀v H,K v H→K' v H) (h:kS f args lo H K):kS f args lo H K':=by
 intro V eK eO hH hS hl
 obtain⟨pv,V',v,h1,h2,h3,h4,h5⟩:=h V eK eO hH hS hl
 exact⟨pv,V',v,h1,h2,h3,h4,hk _ _ h5⟩
theorem VT.uniq {f:Nat} {args:List VV} {r r':VV} (h:VT f args r) (h':VT f args r') (ha:aM args=true) (hr:iU r=true) (Fh:iU r'=true):r=r':=by
 obtain⟨P,ps,_,hl⟩:=On args ha []
 obtain⟨P',pv,h1,_,h2⟩:=h (· < P.length) P ps 0 (fun _ h=>h) hl (Nat.zero_le _)
 obtain⟨WV,pv',h3,_,h4⟩:=h' (· < P.length) P ps 0 (fun _ h=>h) hl (Nat.zero_le _)
 rw[h1] at h3
 injection h3 with h3
 injection h3 with h3 h5
 subst h3 h5
 exact h2.uniq h4 hr Fh
open Classical in
noncomputable def vT (f:Nat) (args:List VV):Option VV:=if h:∃r,aM args=true∧iU r=true∧VT f args r then some (Classical.choose h) else none
theorem PV {f:Nat} {args:List VV} {r:VV} (h:vT f args=some r):aM args=true∧iU r=true∧VT f args r:=by
 unfold vT at h
 split at h
 ·rename_i hx
  cases h
  exact Classical.choose_spec hx
 ·cases h
theorem aiP {f:Nat} {args:List VV} {r:VV} (ha:aM args=true) (hr:iU r=true) (h:VT f args r):vT f args=some r:=by
 have hx:∃r,aM args=true∧iU r=true∧VT f args r:=⟨r,ha,hr,h⟩
 unfold vT
 rw[dif_pos hx]
 obtain⟨_,h2,h3⟩:=Classical.choose_spec hx
 rw[h3.uniq h ha h2 hr]
def tk (r:Option VV) (K:VV→Prop):Prop:=match r with
 | some r=>K r
 | none=>False
noncomputable def GX (f:Nat) (args:List VV) (K:VV→Prop):Prop:=tk (vT f args) K
noncomputable def cZ (f:Nat) (args:List VV) (lo:Nat) (H:aA) (K:VV→aA→Prop):Prop :=
 if Dg.contains f=true then kS f args lo H K
 else if aM args=true then GX f args fun r=>K r H
 else match args.mapM (fz depth H) with
  | some jF=>GX f jF fun r=>if KJ r=true then K r H else K r (dD H (args.flatMap (jQ depth H)))
  | none=>False
noncomputable def eR (fl:Fl) (lo:Nat) (q:Bool) (op:oJ) (ρ:dH) (H:aA) (K:VV→aA→Prop):Prop :=
 match op with
 | .call f args=>cZ f (args.map (eQ ρ)) (if q then H.length else lo) H K
 |
  .callv fv args=>match eQ ρ fv with
  | .vM f gF=>cZ f (args.map (eQ ρ)++gF) (if q then H.length else lo) H K
  | _=>False
 |
  o=>match vop fl lo o ρ H with
  | some (v,H')=>K v H'
  | none=>False
noncomputable def VS (fl:Fl) (lo:Nat):List PI→(dH→aA→Prop)→dH→aA→Prop
 | [],K,ρ,H=>K ρ H
 |
  i::is,K,ρ,H=>match B1 i.g ρ with
  | none=>False
  | some false=>VS fl lo is K (J7 ρ i.dst qU) H
  | some true=>i.cf.all (wK ρ H)=true∧eR fl lo i.quiet i.op ρ H fun v H'=>VS fl lo is K (J7 ρ i.dst v) H'
def afT:List Nat→dH→aA→Option (dH×aA)
 | [],ρ,H=>some (ρ,H)
 |
  t::ts,ρ,H=>match fz depth H (ρ t) with
  | some v=>afT ts (J7 ρ (some t) v) (dD H (jQ depth H (ρ t)))
  | none=>none
def Kx (r:Option VV) (H:aA) (K:VV→aA→Prop):Prop:=match r with
 | some v=>K v H
 | none=>False
def gh (K:dH→aA→Prop) (ρ:dH) (H:aA):Prop:=∃ts bI H',afT ts ρ H=some (bI,H')∧K bI H'
def kI (k:Nat) (H:aA):Bool:=H.all fun
 | .row _ es _ _=>mH k es
 | .dead=>true
def IH (k:Nat) (ρ:dH):dH:=fun t=>Jn k (ρ t)
abbrev VQ:=Ex→dH→aA→Prop
def oB (K:dH→aA→Prop) (Q:VQ):VQ
 | .normal=>K
 | x=>Q x
def AO (id:Nat) (Q:VQ):VQ
 | .exit QN=>fun ρ H=>if QN=id then Q .normal ρ H else Q (.exit QN) ρ H
 | x=>Q x
def QY (body:VQ→dH→aA→Prop) (Q:VQ):Nat→dH→aA→Prop
 | 0,_,_=>False
 | n+1,ρ,H=>body (oB (fun bI H'=>QY body Q n bI H'∨(kI H.length (H'.take H.length)=true∧QY body Q n (IH H.length bI) (H'.take H.length))) Q) ρ H
noncomputable def VW (fl:Fl) (lo:Nat):aD→VQ→dH→aA→Prop
 | .skip,Q,ρ,H=>Q .normal ρ H
 | .dJ ops,Q,ρ,H=>VS fl lo ops (Q .normal) ρ H
 | .seq a b,Q,ρ,H=>VW fl lo a (oB (VW fl lo b Q) Q) ρ H
 |
  .cond c a b,Q,ρ,H=>match eQ ρ c with
  | .sc (.bool t)=>if t=true then VW fl lo a Q ρ H else VW fl lo b Q ρ H
  | _=>False
 | .block id a,Q,ρ,H=>VW fl lo a (AO id Q) ρ H
 | .loop a,Q,ρ,H=>∃n,QY (VW fl lo a) (fun x=>gh (Q x)) n ρ H
 | .exit id,Q,ρ,H=>Q (.exit id) ρ H
 | .ret,Q,ρ,H=>Q .ret ρ H
def Fp (ρ:dH) (H:aA):A1→Option VV
 | .tmp t=>some (ρ t)
 | .cell t agg size=>cN agg size (ρ t) H
def rN (ρ:dH) (H:aA):List A1→Option (List VV)
 | []=>some []
 |
  r::rs=>match Fp ρ H r,rN ρ H rs with
  | some v,some vs=>some (v::vs)
  | _,_=>none
def oO (res:List A1) (ρ:dH) (H:aA):Option VV :=
 match rN ρ H res with
 | some [v]=>some v
 | some vs=>some (.fN vs)
 | none=>none
def Gq (R:VV→aA→Prop):Option VV→aA→Prop
 | some v,H=>R v H
 | none,_=>False
def A5 (res:List A1) (R:VV→aA→Prop):VQ
 | .exit _,_,_=>False
 | .normal,ρ,H=>Gq R (oO res ρ H) H
 | .ret,ρ,H=>Gq R (oO res ρ H) H
def JC (args:List VV):dH:=fun k=>args.getD k qU
section
variable {lo eK:Nat}
theorem FR {V:View} (hS:SR V lo eK) {P':aE} (hp:V.P <+: P'):SR { V with P:=P',F:=fun q=>V.F q∨(V.P.length≤q∧q<P'.length) } lo eK∧E9 lo V { V with P:=P',F:=fun q=>V.F q∨(V.P.length≤q∧q<P'.length) }:=by
 obtain⟨L,rfl⟩:=hp
 have hU:Up V { V with P:=V.P++L,F:=fun q=>V.F q∨(V.P.length≤q∧q<(V.P++L).length) }:=⟨fun _ h => .inl h,fun b hb=>List.getElem?_append_left (hS.fr b hb),Nat.le_refl _,fun b g es e w _ h=>⟨g,es,w,h,Nat.le_refl _,fun _=>rfl⟩,rfl,by simp,fun b g es e w hb _=>⟨g,es,w,hb,rfl,id⟩⟩
 refine⟨⟨fun b g es e w hb => ?_,fun b g es e hb=>⟨fun hF => ?_,(hS.wr b g es e hb).2⟩,hS.inj,fun b hb => ?_,by have:=hS.S9;simp;omega,by have:=hS.Kp;simp;omega⟩,{ hU with cL:=fun q hq _=>List.getElem?_append_left hq,CZ:=fun q hq => ?_ }⟩
 ·obtain⟨r,p,h1,h2,h3⟩:=hS.row b g es e w hb
  exact⟨r,p,by rw[←h1];exact List.getElem?_append_left (hS.mlt hb),h2,h3.mono hU⟩
 ·rcases hF with hF | hF
  ·exact(hS.wr b g es e hb).1 hF
  ·have h1:=hS.mlt hb
   have h2:V.P.length≤V.m b:=hF.1
   omega
 ·rcases hb with hb | hb
  ·have:=hS.fr b hb
   simp;omega
  ·exact hb.2
 ·rcases hq with hq | hq
  ·exact .inl hq
  ·exact .inr (.inl hq.1)
theorem Zn {V V':View} {x:VV} {v:Value} (h:VR V x v):KJ x=true→VR V' x v:=by
 induction h using VR.rec (motive_2:=fun xs vs _=>Ru xs=true→VL V' xs vs) with
 | sc _ h=>intro _;exact .sc _ h
 | agg cs ps _ ih=>intro hx;exact .agg _ _ (ih hx)
 | fN cs ps _ ih=>intro hx;exact .fN _ _ (ih hx)
 | any=>intro hx;cases hx
 | pB=>intro hx;cases hx
 | tree=>intro hx;cases hx
 | dB=>intro hx;cases hx
 | ref=>intro hx;cases hx
 | ptr=>intro hx;cases hx
 | vM=>intro hx;cases hx
 | nil=>exact .nil
 |
  cons x v xs vs _ _ ih UC =>
  rename_i hx
  simp only[Ru,Bool.and_eq_true] at hx
  exact .cons _ _ _ _ (ih hx.1) (UC hx.2)
theorem VR.DB {V':View} {G:Nat→Prop} {P:aE} {x:VV} {v:Value} (hF:∀b,G b→V'.F b∧V'.P[b]? = P[b]?) (h:VR (bare G P) x v):VR V' x v:=by
 induction h using VR.rec (motive_2:=fun xs vs _=>VL V' xs vs) with
 | any=>exact .any _
 | sc _ h=>exact .sc _ h
 | agg cs ps _ ih=>exact .agg _ _ ih
 | fN cs ps _ ih=>exact .fN _ _ ih
 | pB k hk=>exact .pB k hk
 | tree es k b o c r e p Uh hb ho hc he hk _ ih=>exact .tree es k b o c r e p (hF _ Uh).1 (by rw[(hF _ Uh).2];exact hb) ho hc he hk ih
 | dB x off b o r e p Uh hb ho _ ih=>exact .dB x off b o r e p (hF _ Uh).1 (by rw[(hF _ Uh).2];exact hb) ho ih
 | ref b g o n c a n' c' bH hg ha hq=>exact absurd bH (Nat.not_lt_zero _)
 | ptr b g j off a bH hg ha hq=>exact absurd bH (Nat.not_lt_zero _)
 | vM f gF ps _ ih=>exact .vM _ _ _ ih
 | nil=>exact .nil
 | cons x v xs vs _ _ ih UC=>exact .cons _ _ _ _ ih UC
theorem Rn {V:View} (hS:SR V lo eK) {f afD:Nat} (agX:afD≤V.P.length) {args:List VV} {eO:List Value} {G:Nat→Prop} (hG:∀b,G b→b<V.P.length) (hl:VL (bare G V.P) args eO) {K:VV→Prop} (h:GX f args K) :
  ∃P' pv r,rV f eO afD V.P=some (pv,P')∧V.P <+: P'∧VR (bare (fun q=>G q∨(V.P.length≤q∧q<P'.length)) P') r pv∧bA r=true∧K r:=by
 unfold GX tk at h
 split at h
 ·rename_i r hr
  obtain⟨h1,h2,h3⟩:=PV hr
  obtain⟨P',pv,h4,h5,h6⟩:=h3 G V.P eO afD hG hl agX
  exact⟨P',pv,r,h4,h5,h6,SI r h2,h⟩
 ·cases h
theorem Hm {V:View} (hS:SR V lo eK) {f:Nat} {args:List VV} {eO:List Value} (hl:VL V args eO) {q:Bool} {K:VV→aA→Prop} (h:cZ f args (if q then V.H.length else lo) V.H K):Qg lo eK V (rV f eO (if q then V.P.length else eK) V.P) K:=by
 have hlq:(if q=true then V.P.length else eK)≤V.P.length:=by split;exact Nat.le_refl _;exact hS.S9
 unfold cZ at h
 split at h
 ·cases q with
  | false=>exact h V eK eO rfl hS hl
  |
   true =>
   have hS':SR V V.H.length V.P.length:=⟨hS.row,fun b g es e hb=>⟨(hS.wr b g es e hb).1,fun hl=>by have:=(List.getElem?_eq_some_iff.1 hb).1;omega⟩,hS.inj,hS.fr,Nat.le_refl _,hS.Kp⟩
   obtain⟨pv,V',r,g1,g3,g4,g5,g6⟩:=h V V.P.length eO rfl hS' hl
   refine⟨pv,V',r,g1,⟨g3.row,fun b g es e hb=>⟨(g3.wr b g es e hb).1,fun EV => ?_⟩,g3.inj,g3.fr,Nat.le_trans hS.S9 g4.EJ,g3.Kp⟩,{ g4.toUp with cL:=fun p hp _=>g4.cL p hp fun b g es e hb EV => ?_,CZ:=g4.CZ },g5,g6⟩
   ·rcases Nat.lt_or_ge (V'.m b) V.P.length with bH | CR
    ·obtain⟨g0,es0,w0,k1,k2,k3⟩:=g4.B8 b g es e true hb bH
     have:=k3 rfl
     subst this
     rw[k2]
     exact(hS.wr _ _ _ _ k1).2 EV
    ·exact Nat.le_trans hS.S9 CR
   ·have:=(List.getElem?_eq_some_iff.1 hb).1
    have EV:V.H.length≤b:=EV
    omega
 ·split at h
  ·rename_i hp
   obtain⟨P',pv,r,g1,g2,g3,g4,g5⟩:=Rn hS (afD:=if q=true then V.P.length else eK) hlq (G:=V.F) hS.fr (VL.pure (V:=V) (V':=bare V.F V.P) (fun b hb=>⟨hb,rfl⟩) hl hp) h
   obtain⟨k1,k2⟩:=FR hS g2
   exact⟨pv,_,r,g1,k1,k2,g3.DB (fun b hb=>⟨hb,rfl⟩),g5⟩
  ·split at h
   case h_2=>cases h
   rename_i jF Un
   unfold GX tk at h
   split at h
   case h_2=>cases h
   rename_i r hr
   obtain⟨h1,h2,h3⟩:=PV hr
   split at h
   ·rename_i hfl
    have B7:=D9 hS (G:=(· < V.P.length)) (fun q hq=>hS.fr q hq) hl Un (fun i _ g es e w hb=>hS.mlt hb)
    obtain⟨P',pv,g1,g2,g3⟩:=h3 _ V.P eO _ (fun _ h=>h) B7 hlq
    obtain⟨k1,k2⟩:=FR hS g2
    exact⟨pv,_,r,g1,k1,k2,Zn g3 hfl,h⟩
   ·obtain⟨k1,k2,k3,k4,k5,k6⟩:=wL (args.flatMap (jQ depth V.H)) hS
    have B7:=D9 hS (G:=(V.dD (args.flatMap (jQ depth V.H))).F) (fun q hq=>k2.F q hq) hl Un k6
    rw[←k4] at B7
    obtain⟨P',pv,g1,g2,g3⟩:=h3 _ _ eO _ k1.fr B7 (by rw[k4];exact hlq)
    obtain⟨j1,j2⟩:=FR k1 g2
    rw[k4] at g1
    refine⟨pv,_,r,g1,j1,k2.trans j2,g3.DB (fun b hb=>⟨hb,rfl⟩),?_⟩
    show K r (V.dD (args.flatMap (jQ depth V.H))).H
    rw[k3]
    exact h
def AU (lo eK:Nat) (V:View) (c:aD) (Q:VQ) (lD:Env):Prop :=
 W eK c (fun x Nx P'=>∃V' bI,V'.P=P'∧SR V' lo eK∧E9 lo V V'∧ER V' bI Nx∧Q x bI V'.H) lD V.P
theorem Hb {V:View} {ρ:dH} {lD:Env} (hE:ER V ρ lD) {g:Option (Nat×Bool)} {t:Bool} (h:B1 g ρ=some t):Aw g lD=some t:=by
 unfold B1 at h
 unfold Aw
 split at h
 ·exact h
 ·rename_i t' want
  have ht:=hE t'
  split at h
  ·rename_i b hb
   obtain⟨e,_⟩:=rZ ht hb
   simp only[e]
   exact h
  ·rename_i vs hb
   rw[hb] at ht
   generalize hu:lD t'=u at ht
   cases ht with
   | fN cs ps hl=>simp only[hu];exact h
  ·cases h
theorem Tn {V:View} (hS:SR V lo eK) {x y:VV} {u w:Value} (hx:VR V x u) (hy:VR V y w) (h:Bh V.H x y=true):aoJ u w=true:=by
 have key:∀ {z:VV} {v:Value},VR V z v→(match Ck V.H z with
   | .bad=>True
   | .no=>jP v=none
   | .row i wr=>jP v=some (V.m i)∧∃g es e,V.H[i]? = some (.row g es e wr)
   | .B8 i=>∀q,jP v=some q→∀b' g' es e w,V.H[b']? = some (.row g' es e w)→b'≠i→V.m b'≠q
   | .tree=>∀b,jP v=some b→V.F b):=by
  intro z v hz
  cases hz with
  | any=>simp only[Ck]
  | sc v h =>
      cases v<;>first | rfl | cases h | skip
      rename_i a;cases a<;>first | rfl | cases h
  | agg=>rfl
  | fN=>rfl
  | pB k hk =>
       rcases hk with rfl | rfl
       ·intro b hb;cases hb
       ·rfl
  |
   tree es k b o c r e p hF hb ho hc he hk hl =>
   cases es with
   |
    nil=>cases k with
    | nil=>exact hk.elim
    | op=>intro b' uC;cases uC;exact hF
    | cl=>intro b' uC;cases uC;exact hF
   | cons=>intro b' uC;cases uC;exact hF
  | dB x off b o r e p hF hb ho hl=>intro b' uC;cases uC;exact hF
  |
   ref b g o n c a n' c' bH hg ha hq =>
   simp only[Ck]
   cases hr:aH V.H b g with
   | none=>exact fun q h=>(by
     cases a with
     | none=>cases h
     | some a0=>cases h;exact(hq a0 rfl).2.2)
   |
    some q =>
    obtain⟨es,e,wr⟩:=q
    rw[cW] at hr
    obtain⟨rfl,rfl,rfl⟩:=ha _ _ _ hr
    exact⟨rfl,g,es,e,hr⟩
  |
   ptr b g j off a bH hg ha hq =>
   simp only[Ck]
   cases hr:aH V.H b g with
   | none=>exact fun q h=>(by
     cases a with
     | none=>cases h
     | some a0=>cases h;exact(hq a0 rfl).2.2)
   |
    some q =>
    obtain⟨es,e,wr⟩:=q
    rw[cW] at hr
    have:=ha _ _ _ hr
    subst this
    exact⟨rfl,g,es,e,hr⟩
  | vM=>rfl
 have kx:=key hx
 have ky:=key hy
 unfold Bh at h
 unfold aoJ
 cases hbx:Ck V.H x with
 | bad=>rw[hbx] at h;have h:false=true:=h;cases h
 |
  no =>
  rw[hbx] at kx
  have kx:jP u=none:=kx
  rw[kx]
 |
  B8 i =>
  rw[hbx] at kx h
  have kx:∀q,jP u=some q→∀b' g' es e w,V.H[b']? = some (.row g' es e w)→b'≠i→V.m b'≠q:=kx
  cases Q0:Ck V.H y with
  | bad=>rw[Q0] at h;have h:false=true:=h;cases h
  |
   no =>
   rw[Q0] at ky
   have ky:jP w=none:=ky
   rw[ky]
   cases jP u<;>rfl
  | B8 j=>rw[Q0] at h;have h:false=true:=h;cases h
  | tree=>rw[Q0] at h;have h:false=true:=h;cases h
  |
   row j wj =>
   rw[Q0] at ky h
   obtain⟨k3,g2,Z3,e2,k4⟩:jP w=some (V.m j)∧∃g es e,V.H[j]? = some (.row g es e wj):=ky
   have h:(i != j)=true:=h
   simp only[bne_iff_ne,ne_eq] at h
   rw[k3]
   cases hu:jP u with
   | none=>rfl
   |
    some q =>
    simp only[bne_iff_ne,ne_eq]
    exact fun hm=>kx q hu j _ _ _ _ k4 (Ne.symm h) hm.symm
 |
  row i wi =>
  rw[hbx] at kx h
  obtain⟨k1,g1,Cy,e1,k2⟩:jP u=some (V.m i)∧∃g es e,V.H[i]? = some (.row g es e wi):=kx
  cases Q0:Ck V.H y with
  | bad=>rw[Q0] at h;have h:false=true:=h;cases h
  |
   no =>
   rw[Q0] at ky
   have ky:jP w=none:=ky
   rw[ky]
   cases jP u<;>rfl
  |
   B8 j =>
   rw[Q0] at ky h
   have ky:∀q,jP w=some q→∀b' g' es e w,V.H[b']? = some (.row g' es e w)→b'≠j→V.m b'≠q:=ky
   have h:(i != j)=true:=h
   simp only[bne_iff_ne,ne_eq] at h
   rw[k1]
   cases hw:jP w with
   | none=>rfl
   |
    some q =>
    simp only[bne_iff_ne,ne_eq]
    exact fun hm=>ky q hw i _ _ _ _ k2 h hm
  |
   row j wj =>
   rw[Q0] at ky h
   obtain⟨k3,g2,Z3,e2,k4⟩:jP w=some (V.m j)∧∃g es e,V.H[j]? = some (.row g es e wj):=ky
   rw[k1,k3]
   have h:(i != j)=true:=h
   simp only[bne_iff_ne,ne_eq] at h ⊢
   exact fun hm=>h (hS.inj _ _ _ _ _ _ _ _ _ _ k2 k4 hm)
  |
   tree =>
   rw[Q0] at ky h
   have ky:∀b,jP w=some b→V.F b:=ky
   have h:wi=true:=h
   subst h
   cases hw:jP w with
   | none=>rw[k1]
   |
    some b =>
    rw[k1]
    simp only[bne_iff_ne,ne_eq]
    exact fun hm=>(hS.wr _ _ _ _ k2).1 (by rw[hm];exact ky b hw)
 |
  tree =>
  rw[hbx] at kx h
  have kx:∀b,jP u=some b→V.F b:=kx
  cases Q0:Ck V.H y with
  | bad=>rw[Q0] at h;have h:false=true:=h;cases h
  |
   no =>
   rw[Q0] at ky
   have ky:jP w=none:=ky
   rw[ky]
   cases jP u<;>rfl
  | tree=>rw[Q0] at h;have h:false=true:=h;cases h
  | B8 j=>rw[Q0] at h;have h:false=true:=h;cases h
  |
   row j wj =>
   rw[Q0] at ky h
   obtain⟨k1,g1,Cy,e1,k2⟩:jP w=some (V.m j)∧∃g es e,V.H[j]? = some (.row g es e wj):=ky
   have h:wj=true:=h
   subst h
   cases hw:jP u with
   | none=>rfl
   |
    some b =>
    rw[k1]
    simp only[bne_iff_ne,ne_eq]
    exact fun hm=>(hS.wr _ _ _ _ k2).1 (by rw[←hm];exact kx b hw)
theorem RB {V:View} (hS:SR V lo eK) {ρ:dH} {lD:Env} (hE:ER V ρ lD) {fl:Fl} {q:Bool} {op:oJ} {K:VV→aA→Prop} (h:eR fl lo q op ρ V.H K):Qg lo eK V (kL eK q op lD V.P) K:=by
 have other:∀ {v H'},vop fl lo op ρ V.H=some (v,H')→K v H'→Qg lo eK V (kL eK q op lD V.P) K:=by
  intro v H' h1 h2
  obtain⟨pv,V',g1,g2,g3,g4,g5⟩:=XZ hS hE (q:=q) h1
  exact⟨pv,V',v,g1,g3,g4,g5,by rw[g2];exact h2⟩
 unfold eR at h
 split at h
 ·rw[XT]
  exact Hm hS (hE.evs _) h
 ·rename_i fv args
  rw[Td]
  have hf:=hE.ev fv
  split at h
  ·rename_i f gF hfv
   rw[hfv] at hf
   generalize ev lD fv=u at hf ⊢
   cases hf with
   |
    vM f gF ps hl =>
    unfold aaT
    simp only[List.nil_append]
    exact Hm hS ((hE.evs args).append hl) h
  ·cases h
 ·split at h
  ·rename_i v H' h1
   exact other h1 h
  ·cases h
theorem KX {fl:Fl} {K:dH→aA→Prop}:∀(is:List PI) {V:View} {ρ:dH} {lD:Env},SR V lo eK→ER V ρ lD→VS fl lo is K ρ V.H →
  WS eK is (fun Nx P'=>∃V' bI,V'.P=P'∧SR V' lo eK∧E9 lo V V'∧ER V' bI Nx∧K bI V'.H) lD V.P
 |
  [],V,ρ,lD,hS,hE,h=>by
  rw[akK]
  exact⟨V,ρ,rfl,hS,E9.refl _ _,hE,h⟩
 |
  i::is,V,ρ,lD,hS,hE,h=>by
  unfold VS at h
  rw[anY]
  unfold Ad
  split at h
  ·cases h
  ·rename_i hw
   rw[Hb hE hw]
   exact⟨_,_,rfl,KX is hS (hE.put (.fN [] [] .nil)) h⟩
  ·rename_i hw
   rw[Hb hE hw]
   obtain⟨Qm,h⟩:=h
   have axI:i.cf.all (Bu lD)=true:=by
    rw[List.all_eq_true] at Qm ⊢
    intro c hc
    exact Tn hS (hE.ev c.1) (hE.ev c.2) (Qm c hc)
   simp only[axI,if_true]
   obtain⟨pv,V',v,g1,g2,g3,g4,g5⟩:=RB hS hE h
   refine⟨pv,V'.P,?_,?_⟩
   ·unfold kL at g1
    exact g1
   ·obtain⟨VU,WV,k1,QL,Ac,k2,k3,k4,k5,k6⟩:=KX is g2 ((hE.mono g3.toUp).put g4) g5
    exact⟨VU,WV,k1,QL,Ac,k2,k3,g3.trans k4,k5,k6⟩
theorem Mk:∀(ts:List Nat) {V:View} {ρ bI:dH} {lD:Env} {H':aA},SR V lo eK→ER V ρ lD→afT ts ρ V.H=some (bI,H')→∃V',V'.P=V.P∧V'.H=H'∧SR V' lo eK∧E9 lo V V'∧ER V' bI lD
 |
  [],V,ρ,bI,lD,H',hS,hE,h=>by
  cases h
  exact⟨V,rfl,rfl,hS,E9.refl _ _,hE⟩
 |
  t::ts,V,ρ,bI,lD,H',hS,hE,h=>by
  unfold afT at h
  split at h
  case h_2=>cases h
  rename_i v hv
  obtain⟨k1,k2,k3,k4,k5,k6⟩:=wL (jQ depth V.H (ρ t)) hS
  have hx:=MC hS (G:=(V.dD (jQ depth V.H (ρ t))).F) (fun q hq=>k2.F q hq) depth (ρ t) v (lD t) (hE t) hv k6
  have Gg:VR (V.dD (jQ depth V.H (ρ t))) v (lD t):=hx.DB (fun b hb=>⟨hb,by rw[k4]⟩)
  rw[←k3] at h
  obtain⟨V',g1,g2,g3,g4,g5⟩:=Mk ts (lD:=lD) k1 (by
   have e:=(hE.mono k2.toUp).put (d:=some t) Gg
   have ee:put lD (some t) (lD t)=lD:=by
    funext k
    simp only[put]
    split
    ·rename_i hk;rw[hk]
    ·rfl
   rw[ee] at e
   exact e) h
  exact⟨V',g1.trans k4,g2,g3,k2.trans g4,g5⟩
theorem QC {V:View} (hS:SR V lo eK) {ρ:dH} {lD:Env} (hE:ER V ρ lD) {K:dH→aA→Prop} (h:gh K ρ V.H):∃V' bI,V'.P=V.P∧SR V' lo eK∧E9 lo V V'∧ER V' bI lD∧K bI V'.H:=by
 obtain⟨ts,bI,H',h1,h2⟩:=h
 obtain⟨V',g1,g2,g3,g4,g5⟩:=Mk ts hS hE h1
 exact⟨V',bI,g1,g3,g4,g5,by rw[g2];exact h2⟩
theorem MJ {k:Nat} {es:List VV}:mH k es=true↔∀x∈es,below k x=true:=by
 induction es with
 | nil=>simp[mH]
 | cons x xs ih=>simp[mH,ih]
theorem DU {k:Nat} {es:List VV} (h:mH k es=true):mH k (es.flatMap aB)=true:=by
 rw[MJ] at h ⊢
 intro x hx
 obtain⟨y,hy,AY⟩:=List.mem_flatMap.1 hx
 have:=h y hy
 unfold aB at AY
 split at AY
 ·exact MJ.1 (by simpa[below] using this) x AY
 ·rw[List.mem_singleton] at AY;subst AY;exact this
theorem SW {k:Nat} {x:VV} (h:below k x=true):mH k (aB x)=true:=by
 have:=DU (k:=k) (es:=[x]) (by simp[mH,h])
 simpa using this
def View.Au (V:View) (k:Nat):View:={ V with H:=V.H.take k }
theorem VR.Au {V:View} {k:Nat} (hk:k≤V.H.length) {x:VV} {v:Value} (h:VR V x v):PM.below k x=true→VR (V.Au k) x v:=by
 have he:∀ {b:Nat},b<k→∀y,(V.Au k).H[b]? = some y→V.H[b]? = some y:=fun Vn y hy=>by
  have:(V.H.take k)[_]? = some y:=hy
  rw[List.getElem?_take,if_pos Vn] at this
  exact this
 have hT:∀ {b:Nat} {y:cA},(V.Au k).H[b]? = some y→V.H[b]? = some y:=fun {b y} hy=>by
  have h:(V.H.take k)[b]? = some y:=hy
  rw[List.getElem?_take] at h
  split at h
  ·exact h
  ·cases h
 induction h using VR.rec (motive_2:=fun xs vs _=>mH k xs=true→VL (V.Au k) xs vs) with
 | any=>intro _;exact .any _
 | sc _ h=>intro _;exact .sc _ h
 | agg cs ps _ ih=>intro hb;exact .agg _ _ (ih hb)
 | fN cs ps _ ih=>intro hb;exact .fN _ _ (ih hb)
 | pB k hk=>intro _;exact .pB k hk
 | tree es k b o c r e p Uh vL ho hc he hk' _ ih=>intro hb;exact .tree es k b o c r e p Uh vL ho hc he hk' (ih (DU hb))
 | dB x off b o r e p Uh vL ho _ ih=>intro hb;exact .dB x off b o r e p Uh vL ho (ih (SW hb))
 |
  ref b g o n c a n' c' bH hg ha hq =>
  intro hb
  have Vn:b<k:=by simpa[PM.below] using hb
  exact .ref b g o n c a n' c' (by show b<(V.H.take k).length;simp;omega) (fun g' es e w hr=>hg _ _ _ _ (he Vn _ hr)) (fun es e w hr=>ha _ _ _ (he Vn _ hr)) fun a0 h=>⟨(hq a0 h).1,(hq a0 h).2.1,fun b' g' es e w hr=>(hq a0 h).2.2 b' g' es e w (hT hr)⟩
 |
  ptr b g j off a bH hg ha hq =>
  intro hb
  have Vn:b<k:=by simpa[PM.below] using hb
  exact .ptr b g j off a (by show b<(V.H.take k).length;simp;omega) (fun g' es e w hr=>hg _ _ _ _ (he Vn _ hr)) (fun es e w hr=>ha _ _ _ (he Vn _ hr)) fun a0 h=>⟨(hq a0 h).1,(hq a0 h).2.1,fun b' g' es e w hr=>(hq a0 h).2.2 b' g' es e w (hT hr)⟩
 | vM f gF ps _ ih=>intro hb;exact .vM _ _ _ (ih hb)
 | nil=>exact .nil
 |
  cons x v xs vs _ _ ih UC =>
  rename_i hb
  simp only[mH,Bool.and_eq_true] at hb
  exact .cons _ _ _ _ (ih hb.1) (UC hb.2)
theorem VL.Au {V:View} {k:Nat} (hk:k≤V.H.length) {xs:List VV} {vs:List Value} (h:VL V xs vs) (hb:mH k xs=true):VL (V.Au k) xs vs:=by
 induction xs generalizing vs with
 | nil=>cases h;exact .nil
 |
  cons x xs ih=>cases h with
  |
   cons _ v _ vs h hs =>
   simp only[mH,Bool.and_eq_true] at hb
   exact .cons _ _ _ _ (h.Au hk hb.1) (ih hs hb.2)
theorem Ri {V V':View} (hS:SR V' lo eK) {ρ:dH} {lD:Env} (hE:ER V' ρ lD) (hx:E9 lo V V') (hr:kI V.H.length (V'.H.take V.H.length)=true) :
  SR (V'.Au V.H.length) lo eK∧E9 lo V (V'.Au V.H.length)∧ER (V'.Au V.H.length) (IH V.H.length ρ) lD:=by
 have hk:=hx.len
 have get:∀ {b:Nat} {y:cA},(V'.Au V.H.length).H[b]? = some y→V'.H[b]? = some y:=by
  intro b y h
  have h:(V'.H.take V.H.length)[b]? = some y:=h
  rw[List.getElem?_take] at h
  split at h
  ·exact h
  ·cases h
 refine⟨⟨fun b g es e w hb => ?_,fun b g es e hb=>hS.wr b g es e (get hb),fun a b g es e w g' nE e' w' ha hb hm=>hS.inj a b _ _ _ _ _ _ _ _ (get ha) (get hb) hm,hS.fr,hS.S9,hS.Kp⟩,
  { F:=hx.F,P:=hx.P,len:=by show V.H.length≤(V'.H.take V.H.length).length;simp;omega,row:=fun b g es e w bH hb=>hx.row b g es e w bH (get hb),Kp:=hx.Kp,EJ:=hx.EJ,B8:=fun b g es e w hb hm=>hx.B8 b g es e w (get hb) hm,cL:=hx.cL,CZ:=hx.CZ },fun t => ?_⟩
 ·obtain⟨r,p,h1,h2,h3⟩:=hS.row b g es e w (get hb)
  refine⟨r,p,h1,h2,h3.Au hk (DU ?_)⟩
  have:=List.all_eq_true.1 hr _ (List.mem_of_getElem? (show (V'.H.take V.H.length)[b]? = some _ from hb))
  exact this
 ·unfold IH Jn
  split
  ·rename_i hb
   exact(hE t).Au hk hb
  ·exact .any _
theorem Se {c:aD} {Q:Ex→Env→aE→Prop} {ρ:Env} {H:aE} (h:W eK c (aoW (fun bI H'=>W eK (.loop c) Q bI H') Q) ρ H):W eK (.loop c) Q ρ H:=by
 obtain⟨x,bI,H',h1,h2⟩:=h
 unfold W
 rw[XG,h1]
 cases x with
 |
  normal =>
  obtain⟨y,Ac,H'',h3,h4⟩:=h2
  exact⟨y,Ac,H'',h3,h4⟩
 | exit i=>exact⟨_,_,_,rfl,h2⟩
 | ret=>exact⟨_,_,_,rfl,h2⟩
theorem vR {fl:Fl}:∀(c:aD) {V:View} {ρ:dH} {lD:Env} {Q:VQ},SR V lo eK→ER V ρ lD→VW fl lo c Q ρ V.H→AU lo eK V c Q lD
 |
  .skip,V,ρ,lD,Q,hS,hE,h=>by
  unfold AU
  rw[ajC]
  exact⟨V,ρ,rfl,hS,E9.refl _ _,hE,h⟩
 |
  .exit id,V,ρ,lD,Q,hS,hE,h=>by
  unfold AU
  rw[aiU]
  exact⟨V,ρ,rfl,hS,E9.refl _ _,hE,h⟩
 |
  .ret,V,ρ,lD,Q,hS,hE,h=>by
  unfold AU
  rw[aqK]
  exact⟨V,ρ,rfl,hS,E9.refl _ _,hE,h⟩
 |
  .dJ ops,V,ρ,lD,Q,hS,hE,h=>by
  unfold AU
  rw[aqA]
  exact KX ops hS hE h
 |
  .seq a b,V,ρ,lD,Q,hS,hE,h=>by
  unfold AU
  rw[arG]
  refine(vR a hS hE h).mono ?_
  rintro x Nx P' ⟨V',bI,rfl,g2,g3,g4,g5⟩
  cases x with
  |
   normal =>
   refine(vR b g2 g4 g5).mono ?_
   rintro y VU WV ⟨QL,Ac,k1,k2,k3,k4,k5⟩
   exact⟨QL,Ac,k1,k2,g3.trans k3,k4,k5⟩
  | exit i=>exact⟨V',bI,rfl,g2,g3,g4,g5⟩
  | ret=>exact⟨V',bI,rfl,g2,g3,g4,g5⟩
 |
  .cond c a b,V,ρ,lD,Q,hS,hE,h=>by
  unfold AU
  rw[ajQ]
  unfold VW at h
  split at h
  ·rename_i t hc
   obtain⟨e,_⟩:=rZ (hE.ev c) hc
   refine⟨t,e,fun ht => ?_,fun ht => ?_⟩
   ·rw[if_pos ht] at h
    exact vR a hS hE h
   ·rw[if_neg (by simp[ht])] at h
    exact vR b hS hE h
  ·cases h
 |
  .block id a,V,ρ,lD,Q,hS,hE,h=>by
  unfold AU
  rw[agR]
  refine(vR a hS hE h).mono ?_
  rintro x Nx P' ⟨V',bI,rfl,g2,g3,g4,g5⟩
  cases x with
  | normal=>exact⟨V',bI,rfl,g2,g3,g4,g5⟩
  |
   exit i =>
   rw[I7]
   have g5:if i=id then Q .normal bI V'.H else Q (.exit i) bI V'.H:=g5
   split at g5
   ·rename_i hi
    rw[if_pos hi]
    exact⟨V',bI,rfl,g2,g3,g4,g5⟩
   ·rename_i hi
    rw[if_neg hi]
    exact⟨V',bI,rfl,g2,g3,g4,g5⟩
  | ret=>exact⟨V',bI,rfl,g2,g3,g4,g5⟩
 |
  .loop a,V,ρ,lD,Q,hS,hE,h=>by
  obtain⟨n,h⟩:=h
  have key:∀n {V:View} {ρ:dH} {lD:Env},SR V lo eK→ER V ρ lD→QY (VW fl lo a) (fun x=>gh (Q x)) n ρ V.H→AU lo eK V (.loop a) Q lD:=by
   intro n
   induction n with
   | zero=>intro V ρ lD _ _ h;cases h
   |
    succ n ih =>
    intro V ρ lD hS hE h
    unfold AU
    refine Se ?_
    refine(vR a hS hE h).mono ?_
    rintro x Nx P' ⟨V',bI,rfl,g2,g3,g4,g5⟩
    cases x with
    |
     normal =>
     rcases g5 with g5 | ⟨g5,g6⟩
     ·refine(ih g2 g4 g5).mono ?_
      rintro y VU WV ⟨QL,Ac,k1,k2,k3,k4,k5⟩
      exact⟨QL,Ac,k1,k2,g3.trans k3,k4,k5⟩
     ·obtain⟨t1,t2,t3⟩:=Ri g2 g4 g3 g5
      refine(ih t1 t3 g6).mono ?_
      rintro y VU WV ⟨QL,Ac,k1,k2,k3,k4,k5⟩
      exact⟨QL,Ac,k1,k2,t2.trans k3,k4,k5⟩
    |
     exit i =>
     obtain⟨QL,Ac,k1,k2,k3,k4,k5⟩:=QC g2 g4 g5
     exact⟨QL,Ac,k1,k2,g3.trans k3,k4,k5⟩
    |
     ret =>
     obtain⟨QL,Ac,k1,k2,k3,k4,k5⟩:=QC g2 g4 g5
     exact⟨QL,Ac,k1,k2,g3.trans k3,k4,k5⟩
  exact key n hS hE h
theorem xH {V:View} (hS:SR V lo eK) {ρ:dH} {lD:Env} (hE:ER V ρ lD) {res:List A1} {v:VV} (h:oO res ρ V.H=some v):∃pv,rJ res lD V.P=some pv∧VR V v pv:=by
 have one:∀ {r:A1} {v:VV},Fp ρ V.H r=some v→∃pv,Vg lD V.P r=some pv∧VR V v pv:=by
  intro r v h
  cases r with
  | tmp t=>cases h;exact⟨_,rfl,hE t⟩
  | cell t agg size=>exact L7 hS (hE t) h
 have all:∀ {rs:List A1} {vs:List VV},rN ρ V.H rs=some vs→∃ps,B3 lD V.P rs=some ps∧VL V vs ps:=by
  intro rs
  induction rs with
  | nil=>intro vs h;cases h;exact⟨[],rfl,.nil⟩
  |
   cons r rs ih =>
   intro vs h
   unfold rN at h
   split at h
   ·rename_i v vs' h1 h2
    cases h
    obtain⟨pv,k1,k2⟩:=one h1
    obtain⟨ps,k3,k4⟩:=ih h2
    exact⟨pv::ps,by unfold B3;rw[k1,k3],.cons _ _ _ _ k2 k4⟩
   ·cases h
 unfold oO at h
 split at h
 ·rename_i v' hv
  cases h
  obtain⟨ps,k1,k2⟩:=all hv
  cases k2 with
  |
   cons _ pv _ _ hx Qo =>
   cases Qo
   exact⟨pv,by unfold rJ;rw[k1],hx⟩
 ·rename_i vs fQ hv
  cases h
  obtain⟨ps,k1,k2⟩:=all hv
  refine⟨.tuple ps.toArray,?_,.fN _ _ k2⟩
  unfold rJ
  rw[k1]
  split
  ·rename_i pv he
   injection he with he
   subst he
   cases k2 with
   | cons x _ _ _ hx Qo=>cases Qo;exact absurd rfl (fQ x)
  ·rename_i he
   injection he with he
   rw[he]
  ·rename_i he;cases he
 ·cases h
theorem R4 {V:View} {args:List VV} {eO:List Value} (h:VL V args eO):ER V (JC args) (WI eO):=by
 intro t
 unfold JC WI
 rw[List.getD_eq_getElem?_getD,List.getD_eq_getElem?_getD]
 cases hx:args[t]? with
 |
  none =>
  have:eO[t]? = none:=by
   rw[List.getElem?_eq_none_iff] at hx ⊢
   rw[h.length]
   exact hx
  rw[this]
  exact .fN [] [] .nil
 |
  some x =>
  obtain⟨v,h1,h2⟩:=h.get hx
  rw[h1]
  exact h2
theorem kS.walk {f:Nat} {pf:aT} {args:List VV} {H:aA} {K:VV→aA→Prop} (fl:Fl) (ht:gO f=some pf) (ha:args.length≤pf.ntmps) (h:VW fl lo pf.body (A5 pf.res K) (JC args) H):kS f args lo H K:=by
 intro V eK eO hH hS hl
 subst hH
 obtain⟨x,Nx,P',h1,V',bI,rfl,g2,g3,g4,g5⟩:=vR pf.body hS (R4 hl) h
 have key:∃pv WV,rV f eO eK V.P=some (pv,WV)∧WV=V'.P∧∃r,VR V' r pv∧K r V'.H:=by
  refine ZC ht (by rw[hl.length];exact ha) ?_
  refine⟨x,Nx,V'.P,h1,?_⟩
  cases x with
  | exit i=>exact g5.elim
  |
   normal =>
   simp only[A5,Gq] at g5
   split at g5
   ·rename_i v hv
    obtain⟨pv,k2,k3⟩:=xH g2 g4 hv
    exact⟨pv,k2,rfl,v,k3,g5⟩
   ·cases g5
  |
   ret =>
   simp only[A5,Gq] at g5
   split at g5
   ·rename_i v hv
    obtain⟨pv,k2,k3⟩:=xH g2 g4 hv
    exact⟨pv,k2,rfl,v,k3,g5⟩
   ·cases g5
 obtain⟨pv,WV,k1,rfl,r,k2,k3⟩:=key
 exact⟨pv,V',r,k1,g2,g3,k2,k3⟩
theorem VT.walk {f:Nat} {pf:aT} {args:List VV} {r:VV} (fl:Fl) (ht:gO f=some pf) (ha:args.length≤pf.ntmps) (h:VW fl 0 pf.body (A5 pf.res fun v H=>fz depth H v=some r) (JC args) []):VT f args r:=by
 intro F P eO eK hF hl agX
 have hS:SR (bare F P) 0 eK:=⟨fun b g es e w hb=>by simp[bare] at hb,fun b g es e hb=>by simp[bare] at hb,fun a b g es e w g' nE e' w' ha=>by simp[bare] at ha,hF,agX,Nat.zero_le _⟩
 obtain⟨x,Nx,P',h1,V',bI,rfl,g2,g3,g4,g5⟩:=vR pf.body hS (R4 hl) h
 have fin:∀ {v:VV} {pv:Value},VR V' v pv→fz depth V'.H v=some r→VR (bare (fun q=>F q∨(P.length≤q∧q<V'.P.length)) V'.P) r pv:=by
  intro v pv hv hf
  refine MC g2 (fun q hq => ?_) depth v r pv hv hf fun i _ g es e w hr => ?_
  ·rcases g3.CZ q hq with h | h | ⟨b,g,es,e,w,h,_⟩
   ·exact .inl h
   ·exact .inr ⟨h,g2.fr q hq⟩
   ·simp[bare] at h
  ·rcases Nat.lt_or_ge (V'.m i) P.length with bH | CR
   ·obtain⟨g0,es0,w0,k1,_⟩:=g3.B8 i g es e w hr bH
    simp[bare] at k1
   ·exact .inr ⟨CR,g2.mlt hr⟩
 have key:∃pv WV,rV f eO eK P=some (pv,WV)∧WV=V'.P∧VR (bare (fun q=>F q∨(P.length≤q∧q<V'.P.length)) V'.P) r pv:=by
  refine ZC ht (by rw[hl.length];exact ha) ?_
  refine⟨x,Nx,V'.P,h1,?_⟩
  cases x with
  | exit i=>exact g5.elim
  |
   normal =>
   simp only[A5,Gq] at g5
   split at g5
   ·rename_i v hv
    obtain⟨pv,k2,k3⟩:=xH g2 g4 hv
    exact⟨pv,k2,rfl,fin k3 g5⟩
   ·cases g5
  |
   ret =>
   simp only[A5,Gq] at g5
   split at g5
   ·rename_i v hv
    obtain⟨pv,k2,k3⟩:=xH g2 g4 hv
    exact⟨pv,k2,rfl,fin k3 g5⟩
   ·cases g5
 obtain⟨pv,WV,k1,rfl,k3⟩:=key
 refine⟨V'.P,pv,k1,?_,k3⟩
 refine⟨V'.P.drop P.length,List.ext_getElem? fun i => ?_⟩
 rcases Nat.lt_or_ge i P.length with hi | hi
 ·rw[List.getElem?_append_left hi]
  exact(g3.cL i hi fun b g es e hb=>by simp[bare] at hb).symm
 ·rw[List.getElem?_append_right hi,List.getElem?_drop,show P.length+(i-P.length)=i by omega]
end
end Go.PM
namespace Go.PM
section
variable {fl:Fl} {lo:Nat} {ρ:dH} {H:aA} {Q:VQ} {K:dH→aA→Prop} {k:VV→aA→Prop} {a b:aD} {d:Option Nat} {is:List PI} {q:Bool} {op:oJ}
def RH (fl:Fl) (lo:Nat) (d:Option Nat) (is:List PI) (K:dH→aA→Prop) (ρ:dH):VV→aA→Prop:=fun v H'=>VS fl lo is K (J7 ρ d v) H'
def Pe (r:Option (VV×aA)) (k:VV→aA→Prop):Prop:=match r with
 | some (v,H')=>k v H'
 | none=>False
theorem OO {v:VV} {H':aA}:RH fl lo d is K ρ v H'=VS fl lo is K (J7 ρ d v) H':=rfl
theorem Rk {v:VV}:Kx (some v) H k=k v H:=rfl
theorem N1 {v:VV} {H':aA}:Pe (some (v,H')) k=k v H':=rfl
theorem aeO {r:VV} {K:VV→Prop}:tk (some r) K=K r:=rfl
theorem U9:VW fl lo .skip Q ρ H=Q .normal ρ H:=rfl
theorem Wv {i:Nat}:VW fl lo (.exit i) Q ρ H=Q (.exit i) ρ H:=rfl
theorem abS:VW fl lo .ret Q ρ H=Q .ret ρ H:=rfl
theorem aaM {ops:List PI}:VW fl lo (.dJ ops) Q ρ H=VS fl lo ops (Q .normal) ρ H:=rfl
theorem acU:VW fl lo (.seq a b) Q ρ H=VW fl lo a (oB (VW fl lo b Q) Q) ρ H:=rfl
theorem RT {i:Nat}:VW fl lo (.block i a) Q ρ H=VW fl lo a (AO i Q) ρ H:=rfl
theorem Vd {c:Operand} {t:Bool} (h:eQ ρ c = .sc (.bool t)):VW fl lo (.cond c a b) Q ρ H=if t=true then VW fl lo a Q ρ H else VW fl lo b Q ρ H:=by
 simp only[VW,h]
theorem Cr:oB K Q .normal=K:=rfl
theorem Fo {i:Nat}:oB K Q (.exit i)=Q (.exit i):=rfl
theorem Gl:oB K Q .ret=Q .ret:=rfl
theorem E7 {i:Nat}:AO i Q .normal=Q .normal:=rfl
theorem DW {i j:Nat}:AO i Q (.exit j) ρ H=if j=i then Q .normal ρ H else Q (.exit j) ρ H:=rfl
theorem KF {i:Nat}:AO i Q .ret=Q .ret:=rfl
theorem Hg {res:List A1} {R:VV→aA→Prop}:A5 res R .normal ρ H=Gq R (oO res ρ H) H:=rfl
theorem OW {res:List A1} {R:VV→aA→Prop}:A5 res R .ret ρ H=Gq R (oO res ρ H) H:=rfl
theorem LP {R:VV→aA→Prop} {v:VV}:Gq R (some v) H=R v H:=rfl
theorem Q3 {t:Nat}:oO [.tmp t] ρ H=some (ρ t):=rfl
theorem Q4 {t u:Nat}:oO [.tmp t,.tmp u] ρ H=some (.fN [ρ t,ρ u]):=rfl
theorem KQ {t u v:Nat}:oO [.tmp t,.tmp u,.tmp v] ρ H=some (.fN [ρ t,ρ u,ρ v]):=rfl
theorem NS:oO [] ρ H=some (.fN []):=rfl
theorem aaA:VS fl lo [] K ρ H=K ρ H:=rfl
theorem aiF:VS fl lo (⟨d,op,none,q,[]⟩::is) K ρ H=eR fl lo q op ρ H (RH fl lo d is K ρ):=by
 simp only[VS,B1,List.all_nil,true_and]
 rfl
theorem GM {c:Operand×Operand} {cs:List (Operand×Operand)}:VS fl lo (⟨d,op,none,q,c::cs⟩::is) K ρ H=((c::cs).all (wK ρ H)=true∧eR fl lo q op ρ H (RH fl lo d is K ρ)):=by
 simp only[VS,B1]
 rfl
theorem RM {t:Nat} {want x:Bool} {cf:List (Operand×Operand)} (h:ρ t = .sc (.bool x)):VS fl lo (⟨d,op,some (t,want),q,cf⟩::is) K ρ H =
  if (x == want)=true then (cf.all (wK ρ H)=true∧eR fl lo q op ρ H (RH fl lo d is K ρ)) else VS fl lo is K (J7 ρ d qU) H:=by
 simp only[VS,B1,h]
 cases (x == want)<;>rfl
theorem acN {t:Nat} {want:Bool} (h:ρ t = .sc (.bool want)):VS fl lo (⟨d,op,some (t,want),q,[]⟩::is) K ρ H=eR fl lo q op ρ H (RH fl lo d is K ρ):=by
 rw[RM h]
 simp
theorem ahU {t:Nat} {want:Bool} {cf:List (Operand×Operand)} (h:ρ t = .sc (.bool (!want))):VS fl lo (⟨d,op,some (t,want),q,cf⟩::is) K ρ H=VS fl lo is K (J7 ρ d qU) H:=by
 rw[RM h]
 cases want<;>rfl
theorem Ve {c:Operand} (h:eQ ρ c = .sc (.bool true)):VW fl lo (.cond c a b) Q ρ H=VW fl lo a Q ρ H:=by
 rw[Vd h,if_pos rfl]
theorem Re {c:Operand} (h:eQ ρ c = .sc (.bool false)):VW fl lo (.cond c a b) Q ρ H=VW fl lo b Q ρ H:=by
 rw[Vd h,if_neg (by decide)]
theorem Jh {t:Nat} {want:Bool} {cf:List (Operand×Operand)} (h:ρ t=qU):VS fl lo (⟨d,op,some (t,want),q,cf⟩::is) K ρ H=VS fl lo is K (J7 ρ d qU) H:=by
 simp only[VS,B1,h,qU]
theorem vV {d t:Nat} {v:VV}:J7 ρ (some d) v t=if t=d then v else ρ t:=rfl
theorem OD {v:VV}:J7 ρ none v=ρ:=rfl
theorem Vc {t:Nat}:eQ ρ (.tmp t)=ρ t:=rfl
theorem NJ {v:Value}:eQ ρ (.const v)=inj v:=rfl
theorem Sq {f:Nat}:eQ ρ (.func f) = .vM f []:=rfl
theorem Wo {k:IntKind} {n:Int}:inj (.int k n) = .sc (.int k n):=rfl
theorem SE {t:Bool}:inj (.bool t) = .sc (.bool t):=rfl
theorem Wb {s:ByteArray}:inj (.string s) = .sc (.string s):=rfl
theorem U8:inj (.slice none 0 0) = .tree [] .nil:=rfl
theorem Vt {cs:Array Value}:inj (.agg cs) = .agg (cs.toList.map jX):=rfl
theorem RX {k:IntKind} {n:Int}:jX (.int k n) = .sc (.int k n):=rfl
theorem OE {t:Bool}:jX (.bool t) = .sc (.bool t):=rfl
theorem Sm {s:ByteArray}:jX (.string s) = .sc (.string s):=rfl
theorem SS:jX (.slice none 0 0) = .tree [] .nil:=rfl
theorem Zq {x:Operand}:eR fl lo q (.mv x) ρ H k=k (eQ ρ x) H:=rfl
theorem iO {r:Option VV}:(match r.map (fun v=>(v,H)) with | some (v,H')=>k v H' | none=>False)=Kx r H k:=by cases r<;>rfl
theorem QB {c x y:Operand}:eR fl lo q (.pick c x y) ρ H k=Kx (Qz (eQ ρ c) (eQ ρ x) (eQ ρ y)) H k:=iO
theorem Wz {o:BinOp} {x y:Operand}:eR fl lo q (.bin o x y) ρ H k=Kx (IL (dU o) (eQ ρ x) (eQ ρ y)) H k:=iO
theorem We {n:Bool} {x y:Operand}:eR fl lo q (.eqb n x y) ρ H k=Kx (IL (Nh n) (eQ ρ x) (eQ ρ y)) H k:=iO
theorem Oc {n:Bool} {x:Operand}:eR fl lo q (.isnil n x) ρ H k=Kx (Fx n (eQ ρ x) H) H k:=iO
theorem OL {n:Bool} {ks:List CK} {x y:Operand}:eR fl lo q (.eqagg n ks x y) ρ H k=Kx (Tu n ks (eQ ρ x) (eQ ρ y)) H k:=iO
theorem YR {o:UnOp} {x:Operand}:eR fl lo q (.un o x) ρ H k=Kx (Mw (pun o) (eQ ρ x)) H k:=iO
theorem Vi {o:IntKind} {x:Operand}:eR fl lo q (.cvt o x) ρ H k=Kx (Mw (Uz o) (eQ ρ x)) H k:=iO
theorem U4 {x:Operand}:eR fl lo q (.cvs x) ρ H k=Kx (Mw WA (eQ ρ x)) H k:=iO
theorem UW {x:Operand} {i:Nat}:eR fl lo q (.ext x i) ρ H k=Kx (acK i (eQ ρ x)) H k:=iO
theorem Vu {g:Bool} {off size:Nat} {x:Operand}:eR fl lo q (.fld g off size x) ρ H k=Kx (aeB g off size (eQ ρ x)) H k:=iO
theorem Oz {z:List Value} {places:List (Nat×Nat)} {parts:List (Nat×Operand)}:eR fl lo q (.build z places parts) ρ H k=Kx ((zP places (z.map jX) (parts.map fun(i,x)=>(i,eQ ρ x))).map .agg) H k:=by
 show (match (zP places (z.map jX) (parts.map fun(i,x)=>(i,eQ ρ x))).map fun cs=>(VV.agg cs,H) with | some (v,H')=>k v H' | none=>False)=_
 cases zP places (z.map jX) (parts.map fun(i,x)=>(i,eQ ρ x))<;>rfl
theorem Vk {x:Operand}:eR fl lo q (.chk x) ρ H k=Kx (W4 (eQ ρ x) H) H k:=iO
theorem NT {off:Nat} {x:Operand}:eR fl lo q (.faddr off x) ρ H k=Kx (HF off (eQ ρ x) H) H k:=iO
theorem Oy {size:Nat} {x i:Operand}:eR fl lo q (.iaddr size x i) ρ H k=Kx (bP size (eQ ρ x) (eQ ρ i) H) H k:=iO
theorem RA {x i:Operand}:eR fl lo q (.sidx x i) ρ H k=Kx (IL Gy (eQ ρ x) (eQ ρ i)) H k:=iO
theorem RQ {x:Operand} {l h:Option Operand}:eR fl lo q (.ssub x l h) ρ H k=Kx (wD (eQ ρ x) (l.map (eQ ρ)) (h.map (eQ ρ))) H k:=iO
theorem Qp {f:Nat} {gF:List Operand}:eR fl lo q (.mkfn f gF) ρ H k=k (.vM f (gF.map (eQ ρ))) H:=rfl
theorem Vr {x:Operand}:eR fl lo q (.len x) ρ H k=Kx (qB (eQ ρ x) H) H k:=iO
theorem SB {x:Operand}:eR fl lo q (.slen x) ρ H k=Kx (Mw BK (eQ ρ x)) H k:=iO
theorem U5 {x y:Operand}:eR fl lo q (.min x y) ρ H k=Kx (IL Q8 (eQ ρ x) (eQ ρ y)) H k:=iO
theorem VM {x y:Operand}:eR fl lo q (.max x y) ρ H k=Kx (IL QG (eQ ρ x) (eQ ρ y)) H k:=iO
theorem Rw {g:Bool} {size:Nat} {p:Operand}:eR fl lo q (.load g size p) ρ H k=Kx (cN g size (eQ ρ p) H) H k:=iO
theorem VF {size:Nat} {x:Operand} {l h m:Option Operand}:eR fl lo q (.sub size x l h m) ρ H k=Kx (Gb size (eQ ρ x) (l.map (eQ ρ)) (h.map (eQ ρ)) (m.map (eQ ρ)) H) H k:=iO
theorem UZ {z:List Value}:eR fl lo q (.new z) ρ H k=Pe (if (z.map jX).all cC then some (.ptr H.length 0 0 0,H++[.row 0 [elemOf (z.map jX)] z.length true]) else none) k:=rfl
theorem VA {x:Operand}:eR fl lo q (.box x) ρ H k=Pe (if (aB (eQ ρ x)).all cC then (if fl.bf then some (.dB (eQ ρ x) 0,H) else some (.ptr H.length 0 0 0,H++[.row 0 [eQ ρ x] (aB (eQ ρ x)).length true])) else none) k:=rfl
theorem R0 {z:List Value} {bytes:Nat} {l c:Operand}:eR fl lo q (.make z bytes l c) ρ H k=Pe (if (z.map jX).all cC then Bn z bytes (eQ ρ l) (eQ ρ c) H else none) k:=rfl
theorem Wx {z:List Value} {n:Nat} {parts:List (Nat×Operand)}:eR fl lo q (.lit z n parts) ρ H k=Pe (jY fl.lr z n (parts.map fun(i,x)=>(i,eQ ρ x)) H) k:=rfl
def Vp (r:Option aA) (k:VV→aA→Prop):Prop:=match r with
 | some H'=>k qU H'
 | none=>False
theorem Mc {H':aA}:Vp (some H') k=k qU H':=rfl
theorem NF {r:Option aA}:(match r.map (fun H'=>(qU,H')) with | some (v,H')=>k v H' | none=>False)=Vp r k:=by cases r<;>rfl
theorem Oh {size:Nat} {p v:Operand}:eR fl lo q (.store size p v) ρ H k=Vp (cD lo size (eQ ρ p) (eQ ρ v) H) k:=NF
def aoR (lo size bytes:Nat) (x:VV) (new:Option (List VV)) (H:aA) (k:VV→aA→Prop):Prop:=match new with
 | some new=>Pe (eE lo size bytes x new H) k
 | none=>False
theorem NK {size bytes:Nat} {x:VV} {new:List VV}:aoR lo size bytes x (some new) H k=Pe (eE lo size bytes x new H) k:=rfl
theorem Vb {size bytes:Nat} {x y:Operand}:eR fl lo q (.app size bytes x y) ρ H k=aoR lo size bytes (eQ ρ x) (dF size (eQ ρ y) H) H k:=by
 show (match (match dF size (eQ ρ y) H with | some new=>eE lo size bytes (eQ ρ x) new H | none=>none) with | some (v,H')=>k v H' | none=>False)=_
 cases dF size (eQ ρ y) H<;>rfl
theorem SM {size:Nat} {x y:Operand}:eR fl lo q (.copy size x y) ρ H k=Pe (NO lo size (eQ ρ x) (eQ ρ y) H) k:=rfl
theorem Ow {z:List Value} {x:Operand}:eR fl lo q (.clear z x) ρ H k=Vp (PU lo z (eQ ρ x) H) k:=NF
theorem QU {f:Nat} {args:List Operand}:eR fl lo q (.call f args) ρ H k=cZ f (args.map (eQ ρ)) (if q then H.length else lo) H k:=rfl
noncomputable def UO (x:VV) (args:List VV) (lo:Nat) (H:aA) (k:VV→aA→Prop):Prop:=match x with
 | .vM f gF=>cZ f (args++gF) lo H k
 | _=>False
theorem Cl {f:Nat} {gF args:List VV}:UO (.vM f gF) args lo H k=cZ f (args++gF) lo H k:=rfl
theorem OX {fv:Operand} {args:List Operand}:eR fl lo q (.callv fv args) ρ H k=UO (eQ ρ fv) (args.map (eQ ρ)) (if q then H.length else lo) H k:=by
 simp only[eR,UO]
 all_goals (cases eQ ρ fv<;>rfl)
theorem P0 {x:Operand}:eR fl lo q (.b2s x) ρ H k=Pe (vop fl lo (.b2s x) ρ H) k:=rfl
theorem UX {f:Value→Option Value} {x:Value}:Mw f (.sc x)=(f x).map .sc:=rfl
theorem VD {f:Value→Value→Option Value} {x y:Value}:IL f (.sc x) (.sc y)=(f x y).map .sc:=rfl
theorem RW {t:Bool} {x y:VV}:Qz (.sc (.bool t)) x y=some (if t=true then x else y):=rfl
theorem Qx {vs:List VV} {i:Nat}:acK i (.fN vs)=vs[i]? := rfl
theorem Ol {es:List VV} {t:TK}:qB (.tree es t) H=some (.sc (.int .i64 es.length)):=rfl
theorem dP {b g o n c:Nat} {r:List VV×Nat×Bool} (h:aH H b g=some r):qB (.ref b g o n c) H=some (.sc (.int .i64 n)):=by
 simp only[qB,h,Option.map_some]
theorem SV {x:VV} {o off:Nat}:HF off (.dB x o) H=some (.dB x (o+off)):=rfl
theorem Z0 {x:VV} {o:Nat}:W4 (.dB x o) H=some (.dB x o):=rfl
theorem Ku {g:Bool} {size o:Nat} {x:VV}:cN g size (.dB x o) H=dK g size x o:=rfl
theorem PT {g:Bool} {size b gn j o:Nat} {es:List VV} {e:Nat} {w:Bool} {x:VV} (h:aH H b gn=some (es,e,w)) (hx:es[j]? = some x):cN g size (.ptr b gn j o) H=dK g size x o:=by
 simp only[cN,h,hx]
theorem YM {size:Nat} {v:Value}:dK false size (.sc v) 0=some (.sc v):=rfl
theorem Wn {size:Nat} {es:List VV} {t:TK}:dK false size (.tree es t) 0=some (.tree es t):=rfl
theorem Y8 {size b g o n c:Nat}:dK false size (.ref b g o n c) 0=some (.ref b g o n c):=rfl
theorem acV {size f:Nat} {gF:List VV}:dK false size (.vM f gF) 0=some (.vM f gF):=rfl
theorem Pd {size o:Nat} {cs:List VV}:dK false size (.agg cs) o=cs[o]? := rfl
theorem aaP {size:Nat} {cs:List VV} (h:cs.length=size):dK true size (.agg cs) 0=some (.agg cs):=by
 subst h
 simp[dK,aB]
theorem Zx {size:Nat} {es:List VV} {t:TK} {kk:IntKind} {i:Int} {x:VV} (h0:0≤i) (hx:es[i.toNat]? = some x) (hs:(aB x).length=size):bP size (.tree es t) (.sc (.int kk i)) H=some (.dB x 0):=by
 simp only[bP,h0,hx,hs,if_true]
theorem XH {size:Nat} {es:List VV} {t:TK} {kk:IntKind} {i:Nat} {x:VV} (hx:es[i]? = some x) (hs:(aB x).length=size):bP size (.tree es t) (.sc (.int kk (i:Int))) H=some (.dB x 0) :=
 Zx (by omega) (by simpa using hx) hs
theorem Zv {size b g o n c:Nat} {kk:IntKind} {i:Int} {es:List VV} {w:Bool} (h:aH H b g=some (es,size,w)) (h0:0≤i) (h1:i<n):bP size (.ref b g o n c) (.sc (.int kk i)) H=some (.ptr b g (o+i.toNat) 0):=by
 simp only[bP,h]
 rw[if_pos ⟨trivial,h0,h1⟩]
theorem XN {size b g o n c:Nat} {kk:IntKind} {i:Nat} {es:List VV} {w:Bool} (h:aH H b g=some (es,size,w)) (h1:i<n):bP size (.ref b g o n c) (.sc (.int kk (i:Int))) H=some (.ptr b g (o+i) 0):=by
 rw[Zv h (by omega) (by omega),Int.toNat_natCast]
abbrev TC (f:Nat) (args:List VV) (r:VV):Prop:=∀(lo:Nat) (H:aA) (k:VV→aA→Prop),cZ f args lo H k=k r H
theorem TC.of {f:Nat} {args:List VV} {r:VV} (hr:Dg.contains f=false) (ha:aM args=true) (h:vT f args=some r):TC f args r:=by
 intro lo H k
 unfold cZ GX
 simp only[hr,ha,if_true,h,Bool.false_eq_true,if_false,aeO]
theorem TC.walk {f:Nat} {pf:aT} {args:List VV} {r:VV} (fl:Fl) (ht:gO f=some pf) (hr:Dg.contains f=false) (hn:args.length≤pf.ntmps) (ha:aM args=true) (UD:iU r=true) (h:VW fl 0 pf.body (A5 pf.res fun v H=>fz depth H v=some r) (JC args) []):TC f args r :=
 TC.of hr ha (aiP ha UD (VT.walk fl ht hn h))
theorem TC.GJ {f:Nat} {args jF:List VV} {r:VV} (h:TC f jF r) (hr:Dg.contains f=false) (ha':aM jF=true) (hf:args.mapM (fz depth H)=some jF) (ha:aM args=false):cZ f args lo H k=if KJ r=true then k r H else k r (dD H (args.flatMap (jQ depth H))):=by
 have e:∀K,GX f jF K=K r:=fun K=>by
  have:=h 0 [] fun r _=>K r
  unfold cZ at this
  simpa only[hr,ha',if_true,Bool.false_eq_true,if_false] using this
 unfold cZ
 simp only[hr,ha,hf,Bool.false_eq_true,if_false]
 rw[e]
theorem aJ {n:Nat} {v:VV} (h:bA v=true):fz (n+1) H v=some v:=by
 unfold PM.fz
 rw[if_pos h]
theorem aK {v:VV} (h:bA v=true):fz depth H v=some v:=aJ h
theorem mapM_pure {n:Nat}:∀ {es:List VV},aM es=true→es.mapM (PM.fz (n+1) H)=some es
 | [],_=>rfl
 |
  x::xs,h=>by
  simp only[aM,Bool.and_eq_true] at h
  rw[List.mapM_cons,aJ h.1,mapM_pure h.2]
  rfl
theorem FB {b g n c e:Nat} {es:List VV} {w:Bool} (h:aH H b g=some (es,e,w)) (hn:n=es.length) (hc:n≤c) (hp:aM es=true):fz depth H (.ref b g 0 n c)=some (.tree es .op):=by
 have:bA (.ref b g 0 n c)=false:=rfl
 show fz (7+1) H _=_
 unfold PM.fz
 simp only[this,h,Bool.false_eq_true,if_false]
 subst hn
 rw[if_pos ⟨by omega,hc⟩,List.drop_zero,List.take_length,mapM_pure hp]
 rfl
theorem Fw {n:Nat} {v:VV} (h:bA v=true):jQ n H v=[]:=by
 cases n with
 | zero=>rfl
 | succ n=>unfold jQ;rw[if_pos h]
theorem Cf {n:Nat}:∀ {es:List VV},aM es=true→es.flatMap (jQ n H)=[]
 | [],_=>rfl
 |
  x::xs,h=>by
  simp only[aM,Bool.and_eq_true] at h
  rw[List.flatMap_cons,Fw h.1,Cf h.2]
  rfl
theorem N8 {b g n c e:Nat} {es:List VV} {w:Bool} (h:aH H b g=some (es,e,w)) (hn:n=es.length) (hp:aM es=true):jQ depth H (.ref b g 0 n c)=[b]:=by
 have:bA (.ref b g 0 n c)=false:=rfl
 show jQ (7+1) H _=_
 unfold jQ
 simp only[this,h,Bool.false_eq_true,if_false]
 subst hn
 rw[List.drop_zero,List.take_length,Cf hp]
theorem VJ {r:Option VV} {K K':VV→Prop} (hk:∀v,K v→K' v) (h:tk r K):tk r K':=by
 cases r with
 | none=>exact h
 | some v=>exact hk _ h
theorem Ja {f:Nat} {args:List VV} {k k':VV→aA→Prop} (hk:∀v H,k v H→k' v H) (h:cZ f args lo H k):cZ f args lo H k':=by
 unfold cZ at h ⊢
 split at h
 ·rename_i h1
  rw[if_pos h1]
  exact h.mono hk
 ·rename_i h1
  rw[if_neg h1]
  split at h
  ·rename_i h2
   rw[if_pos h2]
   exact VJ (fun v=>hk v H) h
  ·rename_i h2
   rw[if_neg h2]
   split at h
   ·refine VJ (fun v hv => ?_) h
    split at hv
    ·rename_i h3;rw[if_pos h3];exact hk _ _ hv
    ·rename_i h3;rw[if_neg h3];exact hk _ _ hv
   ·cases h
theorem TW {k k':VV→aA→Prop} (hk:∀v H,k v H→k' v H) (h:eR fl lo q op ρ H k):eR fl lo q op ρ H k':=by
 unfold eR at h ⊢
 split at h
 ·exact Ja hk h
 ·split at h
  ·exact Ja hk h
  ·cases h
 ·split at h
  ·exact hk _ _ h
  ·cases h
theorem PN {K K':dH→aA→Prop} (hk:∀ρ H,K ρ H→K' ρ H):∀ {is:List PI} {ρ:dH} {H:aA},VS fl lo is K ρ H→VS fl lo is K' ρ H
 | [],ρ,H,h=>hk _ _ h
 |
  i::is,ρ,H,h=>by
  unfold VS at h ⊢
  split at h
  ·cases h
  ·exact PN hk h
  ·exact⟨h.1,TW (fun v H' hv=>PN hk hv) h.2⟩
theorem qX {K K':dH→aA→Prop} {Q Q':VQ} (hk:∀ρ H,K ρ H→K' ρ H) (hq:∀x ρ H,Q x ρ H→Q' x ρ H):∀x ρ H,oB K Q x ρ H→oB K' Q' x ρ H
 | .normal,ρ,H,h=>hk _ _ h
 | .exit _,ρ,H,h=>hq _ _ _ h
 | .ret,ρ,H,h=>hq _ _ _ h
theorem aeW {K K':dH→aA→Prop} (hk:∀ρ H,K ρ H→K' ρ H) (h:gh K ρ H):gh K' ρ H:=by
 obtain⟨ts,bI,H',h1,h2⟩:=h
 exact⟨ts,bI,H',h1,hk _ _ h2⟩
theorem xO:∀ {c:aD} {Q Q':VQ} {ρ:dH} {H:aA},(∀x ρ H,Q x ρ H→Q' x ρ H)→VW fl lo c Q ρ H→VW fl lo c Q' ρ H
 | .skip,_,_,_,_,hq,h=>hq _ _ _ h
 | .exit _,_,_,_,_,hq,h=>hq _ _ _ h
 | .ret,_,_,_,_,hq,h=>hq _ _ _ h
 | .dJ _,_,_,_,_,hq,h=>PN (fun ρ H=>hq .normal ρ H) h
 | .seq a b,Q,Q',_,_,hq,h=>xO (c:=a) (qX (fun ρ H h=>xO (c:=b) hq h) hq) h
 |
  .cond c a b,Q,Q',ρ,H,hq,h=>by
  unfold VW at h ⊢
  split at h
  ·split at h
   ·rename_i h1;rw[if_pos h1];exact xO (c:=a) hq h
   ·rename_i h1;rw[if_neg h1];exact xO (c:=b) hq h
  ·cases h
 |
  .block i a,Q,Q',_,_,hq,h=>by
  refine xO (c:=a) (fun x ρ H hx => ?_) h
  cases x with
  | normal=>exact hq _ _ _ hx
  | ret=>exact hq _ _ _ hx
  |
   exit j =>
   rw[DW] at hx ⊢
   split at hx
   ·rename_i h1;rw[if_pos h1];exact hq _ _ _ hx
   ·rename_i h1;rw[if_neg h1];exact hq _ _ _ hx
 |
  .loop a,Q,Q',ρ,H,hq,h=>by
  obtain⟨n,h⟩:=h
  refine⟨n,?_⟩
  induction n generalizing ρ H with
  | zero=>cases h
  |
   succ n ih =>
   refine xO (c:=a) (qX (fun ρ H h => ?_) fun x ρ H h=>aeW (hq x) h) h
   rcases h with h | ⟨h1,h2⟩
   ·exact .inl (ih _ _ h)
   ·exact .inr ⟨h1,ih _ _ h2⟩
theorem ahL {K:dH→aA→Prop} (h:K ρ H):gh K ρ H:=⟨[],ρ,H,rfl,h⟩
theorem St {α:Type} {c:aD} (I:α→dH→aA→Prop) (μ:α→Nat) (s:α) (h0:I s ρ H)
  (round:∀s ρ H,I s ρ H→VW fl lo c (oB (fun bI H'=>∃s',μ s'<μ s∧(I s' bI H'∨(kI H.length (H'.take H.length)=true∧I s' (IH H.length bI) (H'.take H.length)))) (fun x=>gh (Q x))) ρ H):VW fl lo (.loop c) Q ρ H:=by
 refine⟨μ s+1,?_⟩
 have key:∀n s ρ H,μ s<n→I s ρ H→QY (VW fl lo c) (fun x=>gh (Q x)) n ρ H:=by
  intro n
  induction n with
  | zero=>intro s ρ H h;omega
  |
   succ n ih =>
   intro s ρ H hn hI
   refine xO (qX (fun bI H' h => ?_) fun x ρ H h=>h) (round s ρ H hI)
   obtain⟨s',h1,h2 | ⟨h2,h3⟩⟩:=h
   ·exact .inl (ih s' _ _ (by omega) h2)
   ·exact .inr ⟨h2,ih s' _ _ (by omega) h3⟩
 exact key _ s ρ H (Nat.lt_succ_self _) h0
theorem aP {α:Type} {c:aD} (I:α→dH→aA→Prop) (μ:α→Nat) (s:α) (h0:I s ρ H)
  (round:∀s ρ H,I s ρ H→VW fl lo c (oB (fun bI H'=>∃s',μ s'<μ s∧I s' bI H') Q) ρ H):VW fl lo (.loop c) Q ρ H :=
 St I μ s h0 fun s ρ H h=>xO (qX (fun _ _ ⟨s',h1,h2⟩=>⟨s',h1,.inl h2⟩) fun _ _ _ h=>ahL h) (round s ρ H h)
theorem Lb {α:Type} {c:aD} (I:α→dH→aA→Prop) (μ:α→Nat) (s:α) (h0:I s ρ H)
  (round:∀s ρ H,I s ρ H→VW fl lo c (oB (fun bI H'=>∃s',μ s'<μ s∧kI H.length (H'.take H.length)=true∧I s' (IH H.length bI) (H'.take H.length)) Q) ρ H):VW fl lo (.loop c) Q ρ H :=
 St I μ s h0 fun s ρ H h=>xO (qX (fun _ _ ⟨s',h1,h2⟩=>⟨s',h1,.inr h2⟩) fun _ _ _ h=>ahL h) (round s ρ H h)
theorem MF {n:Nat} {v:VV} (h:below n v=true):Jn n v=v:=by
 unfold Jn
 rw[if_pos h]
mutual
theorem F2 {n:Nat} (v:VV) (h:bA v=true):below n v=true:=by
 cases v with
 | any=>rfl
 | sc=>rfl
 | agg cs=>exact mT cs h
 | fN cs=>exact mT cs h
 | tree es t=>exact mT es (ID h).2.1
 | dB x o=>exact F2 x h
 | ref=>cases h
 | ptr=>cases h
 | vM f gF=>exact mT gF h
theorem mT {n:Nat} (vs:List VV) (h:aM vs=true):mH n vs=true:=by
 cases vs with
 | nil=>rfl
 |
  cons x xs =>
  simp only[aM,Bool.and_eq_true] at h
  simp only[mH,F2 x h.1,mT xs h.2,Bool.and_self]
end
end
end Go.PM
namespace Go.PM
def val (b:Nat):List Nat→Nat
 | []=>0
 | d::ds=>d+b*val b ds
def aC (b n:Nat):List Nat:=if h:n=0∨b<2 then [] else n % b::aC b (n / b)
termination_by n
decreasing_by exact Nat.div_lt_self (by omega) (by omega)
section
variable {b:Nat}
theorem cG:aC b 0=[]:=by rw[aC];simp
theorem jN (hb:2≤b) {n:Nat} (hn:n≠0):aC b n=n % b::aC b (n / b):=by rw[aC,dif_neg (by omega)]
theorem sW {d:Nat} {ds:List Nat}:val b (d::ds)=d+b*val b ds:=rfl
theorem yX (xs ys:List Nat):val b (xs++ys)=val b xs+b^xs.length*val b ys:=by
 induction xs with
 | nil=>simp[val]
 |
  cons x xs ih =>
  simp only[List.cons_append,sW,ih,List.length_cons,Nat.pow_succ]
  rw[Nat.mul_add,Nat.mul_comm (b^xs.length) b,Nat.mul_assoc,Nat.add_assoc]
theorem val_one (d:Nat):val b [d]=d:=by simp[val]
theorem tE (xs:List Nat) (d:Nat):val b (xs++[d])=val b xs+b^xs.length*d:=by rw[yX,val_one]
theorem rW (n:Nat):val b (List.replicate n 0)=0:=by
 induction n with
 | zero=>rfl
 | succ n ih=>simp[List.replicate_succ,val,ih]
theorem pF {xs:List Nat} (h:∀d∈xs,d<b):val b xs<b^xs.length:=by
 induction xs with
 | nil=>simp[val]
 |
  cons x xs ih =>
  have h1:=h x List.mem_cons_self
  have h2:=ih fun d hd=>h d (List.mem_cons_of_mem _ hd)
  simp only[sW,List.length_cons,Nat.pow_succ]
  have h3:b*(val b xs+1)≤b*b^xs.length:=Nat.mul_le_mul_left _ h2
  rw[Nat.mul_add,Nat.mul_one] at h3
  rw[Nat.mul_comm (b^xs.length) b]
  omega
theorem cJ (hb:2≤b) (n:Nat):val b (aC b n)=n:=by
 induction n using Nat.strongRecOn with
 |
  _ n ih =>
  by_cases h:n=0
  ·subst h;rw[cG];rfl
  ·rw[jN hb h,sW,ih _ (Nat.div_lt_self (by omega) (by omega))]
   exact Nat.mod_add_div n b
theorem fP (hb:2≤b) (n:Nat):∀d∈aC b n,d<b:=by
 induction n using Nat.strongRecOn with
 |
  _ n ih =>
  by_cases h:n=0
  ·subst h;rw[cG];intro d hd;cases hd
  ·rw[jN hb h]
   intro d hd
   rcases List.mem_cons.1 hd with rfl | hd
   ·exact Nat.mod_lt _ (by omega)
   ·exact ih _ (Nat.div_lt_self (by omega) (by omega)) d hd
theorem mJ (hb:2≤b) {n:Nat}:aC b n=[]↔n=0:=by
 constructor
 ·intro h
  have:=cJ hb n
  rw[h] at this
  exact this.symm
 ·rintro rfl;exact cG
theorem OZ (hb:2≤b) (n:Nat):(aC b n).getLast? ≠ some 0:=by
 induction n using Nat.strongRecOn with
 |
  _ n ih =>
  by_cases h:n=0
  ·subst h;rw[cG];simp
  ·rw[jN hb h]
   have h1:=ih _ (Nat.div_lt_self (n:=n) (k:=b) (by omega) (by omega))
   by_cases h2:n / b=0
   ·rw[h2,cG]
    have:n<b:=by
     rcases Nat.div_eq_zero_iff.1 h2 with h | h<;>omega
    simp[Nat.mod_eq_of_lt this,h]
   ·have fQ:aC b (n / b)≠[]:=fun h=>h2 ((mJ hb).1 h)
    obtain⟨x,xs,hx⟩:=List.exists_cons_of_ne_nil fQ
    rw[hx] at h1 ⊢
    rw[List.getLast?_cons_cons]
    exact h1
theorem Mx (hb:2≤b) {xs:List Nat} (h:∀d∈xs,d<b) (hl:xs.getLast? ≠ some 0):aC b (val b xs)=xs:=by
 induction xs with
 | nil=>exact cG
 |
  cons x xs ih =>
  have h1:=h x List.mem_cons_self
  have hr:(x+b*val b xs) % b=x:=by rw[Nat.add_mul_mod_self_left,Nat.mod_eq_of_lt h1]
  have hq:(x+b*val b xs) / b=val b xs:=by rw[Nat.add_mul_div_left _ _ (by omega),Nat.div_eq_of_lt h1,Nat.zero_add]
  cases xs with
  |
   nil =>
   have hx:x≠0:=by rintro rfl;simp at hl
   rw[val_one,jN hb hx,Nat.mod_eq_of_lt h1,Nat.div_eq_of_lt h1,cG]
  |
   cons y ys =>
   rw[List.getLast?_cons_cons] at hl
   have h2:=ih (fun d hd=>h d (List.mem_cons_of_mem _ hd)) hl
   have h3:val b (y::ys)≠0:=fun h0=>by rw[h0,cG] at h2;cases h2
   have h4:b*val b (y::ys)≠0:=Nat.mul_ne_zero (by omega) h3
   rw[sW,jN hb (by omega),hr,hq,h2]
theorem KA (hb:2≤b) {n:Nat} (hn:n≠0):b^((aC b n).length-1)≤n:=by
 induction n using Nat.strongRecOn with
 |
  _ n ih =>
  rw[jN hb hn]
  by_cases h2:n / b=0
  ·rw[h2,cG];simp;omega
  ·have h3:=ih _ (Nat.div_lt_self (by omega) (by omega)) h2
   have fQ:aC b (n / b)≠[]:=fun h=>h2 ((mJ hb).1 h)
   obtain⟨x,xs,hx⟩:=List.exists_cons_of_ne_nil fQ
   rw[hx] at h3 ⊢
   simp only[List.length_cons,Nat.add_sub_cancel] at h3 ⊢
   rw[Nat.pow_succ]
   calc b^xs.length*b≤n / b*b:=Nat.mul_le_mul_right _ h3
    _≤n:=Nat.div_mul_le_self n b
theorem gW (hb:2≤b) (n:Nat):n<b^(aC b n).length:=by
 have:=pF (fP hb n)
 rwa [cJ hb] at this
theorem mV (hb:2≤b) {n k:Nat} (h:n<b^k):(aC b n).length≤k:=by
 by_cases hn:n=0
 ·subst hn;rw[cG];simp
 ·have h1:=KA hb hn
  have h2:b^((aC b n).length-1)<b^k:=Nat.lt_of_le_of_lt h1 h
  have h3:(aC b n).length-1<k:=(Nat.pow_lt_pow_iff_right (by omega)).1 h2
  have fQ:aC b n≠[]:=fun h=>hn ((mJ hb).1 h)
  have:=List.length_pos_iff.2 fQ
  omega
theorem eJ (hb:2≤b) {m n:Nat} (h:m≤n):(aC b m).length≤(aC b n).length :=
 mV hb (Nat.lt_of_le_of_lt h (gW hb n))
theorem pV (xs:List Nat) (i:Nat):val b xs=val b (xs.take i)+b^(xs.take i).length*val b (xs.drop i):=by
 rw[←yX,List.take_append_drop]
theorem bD {xs:List Nat} {i d:Nat} (h:xs[i]? = some d):val b (xs.take (i+1))=val b (xs.take i)+b^i*d:=by
 have bH:=(List.getElem?_eq_some_iff.1 h).1
 rw[List.take_add_one,h]
 simp only[Option.toList_some]
 rw[tE,List.length_take,Nat.min_eq_left (by omega)]
theorem tC {xs:List Nat} {i d:Nat} (h:xs[i]? = some d):val b (xs.drop i)=d+b*val b (xs.drop (i+1)):=by
 obtain⟨bH,he⟩:=List.getElem?_eq_some_iff.1 h
 rw[List.drop_eq_getElem_cons bH,he,sW]
theorem FO {P A B O c x y s q r W:Nat} (h:A+B=O+P*c) (hs:c+x+y=s) (hr:r+W*q=s):(A+P*x)+(B+P*y)=(O+P*r)+(P*W)*q:=by grind
theorem Jv {P A B O l x y r W l':Nat} (h:A+P*l=O+B) (hd:r+y+l=x+W*l'):(A+P*x)+(P*W)*l'=(O+P*r)+(B+P*y):=by grind
theorem Y1 {xs:List Nat} {i d:Nat} (h:i<xs.length):(xs.set i d).take (i+1)=xs.take i++[d]:=by
 rw[List.set_eq_take_append_cons_drop,if_pos h,List.take_append]
 simp[List.take_take,Nat.min_eq_left (by omega:i≤xs.length),Nat.min_eq_right (by omega:i≤i+1)]
theorem eT {xs:List Nat} {i d:Nat} (h:i<xs.length):val b ((xs.set i d).take (i+1))=val b (xs.take i)+b^i*d:=by
 rw[Y1 h,tE,List.length_take,Nat.min_eq_left (by omega)]
theorem mN {xs:List Nat} {i d:Nat} (h:∀x∈xs,x<b) (hd:d<b):∀x∈xs.set i d,x<b:=by
 intro x hx
 rcases List.mem_or_eq_of_mem_set hx with h1 | h1
 ·exact h x h1
 ·subst h1;exact hd
theorem kD {xs:List Nat} {i:Nat} (h:xs.length≤i):val b (xs.take i)=val b xs:=by rw[List.take_of_length_le h]
theorem AQ (hb:0<b) (n:Nat):∀x∈List.replicate n 0,x<b:=by
 intro x hx
 rw[List.eq_of_mem_replicate hx]
 exact hb
theorem X7 {P x y R t:Nat} (ht:t<P) (h:x<y):t+P*(x+R)<P*(y+R):=by
 have h1:P*(x+R+1)≤P*(y+R):=Nat.mul_le_mul_left _ (by omega)
 rw[Nat.mul_add,Nat.mul_one] at h1
 omega
theorem Ew {xs ys:List Nat} {i x y:Nat} (hx:∀d∈xs,d<b) (hl:xs.length=ys.length) (hi:xs[i]? = some x) (hj:ys[i]? = some y) (hd:xs.drop (i+1)=ys.drop (i+1)) (h:x<y):val b xs<val b ys:=by
 have h1:=(List.getElem?_eq_some_iff.1 hi).1
 have ht:(xs.take i).length=i:=by simp;omega
 have ht':(ys.take i).length=i:=by simp;omega
 have h2:=pF (b:=b) (xs:=xs.take i) fun d hd=>hx d (List.mem_of_mem_take hd)
 rw[ht] at h2
 rw[pV xs i,pV ys i,ht,ht',tC hi,tC hj,hd]
 have:=X7 (R:=b*val b (ys.drop (i+1))) h2 h
 omega
theorem SJ (hb:2≤b) {m n:Nat} (h:aC b m=aC b n):m=n:=by
 have:=congrArg (val b) h
 rwa [cJ hb,cJ hb] at this
def fB (a b:Nat):Int:=if a<b then -1 else if a=b then 0 else 1
theorem Ek (hb:2≤b) {m n:Nat} (h:(aC b m).length<(aC b n).length):m<n:=by
 rcases Nat.lt_or_ge m n with h1 | h1
 ·exact h1
 ·have:=eJ hb h1
  omega
end
end Go.PM
namespace Go.PM
abbrev VI (n:Int):VV := .sc (.int .i64 n)
abbrev VK (k:IntKind) (n:Int):VV := .sc (.int k n)
abbrev VB (t:Bool):VV := .sc (.bool t)
abbrev aQ {α:Type} (f:α→VV) (xs:List α):VV := .tree (xs.map f) .op
section
variable {α:Type} {f:α→VV} {xs ys:List α} {x:α} {t:TK} {H:aA} {size i:Nat} {k:IntKind}
theorem eI:qB (.tree (xs.map f) t) H=some (VI xs.length):=by simp[qB]
theorem aI (hx:xs[i]? = some x) (hs:(aB (f x)).length=size):bP size (.tree (xs.map f) t) (VK k (i:Int)) H=some (.dB (f x) 0) :=
 XH (by simp[hx]) hs
theorem SD (hs:∀x,(aB (f x)).length=size):∀y∈xs.map f,(aB y).length=size:=by
 intro y hy
 obtain⟨x,_,rfl⟩:=List.mem_map.1 hy
 exact hs x
theorem fJ (hp:∀x,bA (f x)=true):aM (xs.map f)=true:=by
 rw[BE]
 intro y hy
 obtain⟨x,_,rfl⟩:=List.mem_map.1 hy
 exact hp x
theorem afE (hp:∀x,iU (f x)=true):sK (xs.map f)=true:=by
 rw[Lx]
 intro y hy
 obtain⟨x,_,rfl⟩:=List.mem_map.1 hy
 exact hp x
theorem Va {size:Nat} (hs:∀x,(aB (f x)).length=size):uni (xs.map f)=true:=by
 cases xs with
 | nil=>rfl
 |
  cons x xs =>
  simp only[List.map_cons,uni,List.all_eq_true]
  intro y hy
  obtain⟨z,_,rfl⟩:=List.mem_map.1 hy
  simp[hs]
theorem oD {size:Nat} (hs:∀x,(aB (f x)).length=size) (hp:∀x,bA (f x)=true):bA (aQ f xs)=true:=by
 simp only[aQ,bA,fJ hp,Va hs,decide_true,Bool.and_self]
theorem DI {size:Nat} (hs:∀x,(aB (f x)).length=size) (hp:∀x,iU (f x)=true) (he:∀x,AP (f x)=true):iU (aQ f xs)=true:=by
 have h4:(xs.map f).all AP=true:=by
  rw[List.all_eq_true]
  intro y hy
  obtain⟨z,_,rfl⟩:=List.mem_map.1 hy
  exact he z
 simp only[aQ,iU,afE hp,Va hs,h4,decide_true,Bool.and_self]
theorem agF {es:List VV} {h:Nat} (fQ:0<es.length) (hs:∀x∈es,(aB x).length=size) (hh:h≤es.length) {k2:IntKind} :
  Gb size (.tree es t) none (some (VK k2 h)) none H=some (.tree (es.take h) .op):=by
 cases es with
 | nil=>simp at fQ
 |
  cons y ys =>
  have hy:=hs y List.mem_cons_self
  simp only[List.length_cons] at hh
  have e1:(0:Int)≤h∧(h:Int)≤((ys.length+1:Nat):Int):=by omega
  simp only[Gb,Hz,hy,if_true,fD,e1,Int.toNat_natCast,Option.isSome_none,Bool.false_eq_true,false_and,if_false]
  simp
theorem Qs (h:0<xs.length):0<(xs.map f).length:=by simpa using h
theorem LR {b g o n c:Nat} {es:List VV} {w:Bool} {l h:Nat} (hr:aH H b g=some (es,size,w)) (hl:l≤h) (hh:h≤c) {k1 k2:IntKind} :
  Gb size (.ref b g o n c) (some (VK k1 l)) (some (VK k2 h)) none H=some (.ref b g (o+l) (h-l) (c-l)):=by
 have e1:(0:Int)≤h∧(h:Int)≤(c:Int):=by omega
 have e2:(0:Int)≤l∧(l:Int)≤(h:Int):=by omega
 simp only[Gb,Hz,hr,if_true,fD,e1,e2,Int.toNat_natCast,Option.isSome_none,Bool.false_eq_true,false_and,if_false]
 simp[hl]
theorem sD {b g o n c:Nat} {es:List VV} {w:Bool} {h:Nat} (hr:aH H b g=some (es,size,w)) (hh:h≤c) {k2:IntKind} :
  Gb size (.ref b g o n c) none (some (VK k2 h)) none H=some (.ref b g o h c):=by
 have e1:(0:Int)≤h∧(h:Int)≤(c:Int):=by omega
 simp only[Gb,Hz,hr,if_true,fD,e1,Int.toNat_natCast,Option.isSome_none,Bool.false_eq_true,false_and,if_false]
 simp
theorem Jg {h:Nat} (hs:∀x,(aB (f x)).length=size) (fQ:0<xs.length) (hh:h≤xs.length) {k2:IntKind} :
  Gb size (.tree (xs.map f) t) none (some (VK k2 h)) none H=some (aQ f (xs.take h)):=by
 rw[agF (Qs fQ) (SD hs) (by simpa using hh)]
 simp[aQ]
theorem Sa {b g e:Nat} {es:List VV} {w:Bool} {L K:aA} (h:b=L.length):aH (L ++ .row g es e w::K) b g=some (es,e,w):=by
 subst h
 simp[aH]
theorem aU {g e:Nat} {es:List VV} {w:Bool} {K:aA}:aH (.row g es e w::K) 0 g=some (es,e,w):=by simp[aH]
theorem sI {n:Nat}:(n=n+1)=False:=eq_false fun h=>by omega
theorem Zj {g g' e:Nat} {es:List VV} {w:Bool} {K:aA} (h:g'≠g):aH (.row g' es e w::K) 0 g=none:=by simp[aH,h]
theorem pR {g e:Nat} {es:List VV} {w:Bool} {K:aA}:aH (.row (g+1) es e w::K) 0 g=none:=Zj (Nat.succ_ne_self g)
theorem jB {b g:Nat} {x:cA} {K:aA}:aH (x::K) (b+1) g=aH K b g:=by simp[aH]
theorem aS {b g o n c e:Nat} {es:List VV} {w:Bool} (h:aH H b g=some (es,e,w)) (hi:i<n):bP e (.ref b g o n c) (VK k (i:Int)) H=some (.ptr b g (o+i) 0):=XN h hi
theorem bX {b g j e lo:Nat} {es:List VV} {v:VV} (h:aH H b g=some (es,e,true)) (hj:j<es.length) (fG:lo≤b) (hv:(aB v).length=e) (hs:(aB v).all cC=true):cD lo e (.ptr b g j 0) v H=some (H.set b (.row g (es.set j v) e true)):=by
 obtain⟨x,hx⟩:∃x,es[j]? = some x:=⟨_,List.getElem?_eq_getElem hj⟩
 simp only[cD,h,hx]
 rw[if_pos ⟨hv,fG,hs⟩,if_pos ⟨trivial,trivial⟩]
theorem uO {z:List Value} {bytes n:Nat} (hz:elemOf (z.map jX)=f x) (hn:n*bytes≤281474976710656) (hm:n≤9223372036854775807):Bn z bytes (VI n) (VI n) H=some (.ref H.length 0 0 n n,H++[.row 0 ((List.replicate n x).map f) z.length true]):=by
 simp only[Bn]
 rw[if_pos ⟨by omega,by omega,by omega,by omega⟩,hz]
 simp
theorem qD {ag w:Bool} {b gn e j o:Nat} (h:aH H b gn=some (xs.map f,e,w)) (hx:xs[j]? = some x):cN ag size (.ptr b gn j o) H=dK ag size (f x) o :=
 PT h (by simp[hx])
theorem eH {b g j e lo:Nat} (h:aH H b g=some (xs.map f,e,true)) (hj:j<xs.length) (fG:lo≤b) (hv:(aB (f x)).length=e) (hs:(aB (f x)).all cC=true):cD lo e (.ptr b g j 0) (f x) H=some (H.set b (.row g ((xs.set j x).map f) e true)):=by
 rw[bX h (by simpa using hj) fG hv hs,List.map_set]
theorem VZ {b gn n c e:Nat} {es:List VV} {w:Bool} (h:aH H b gn=some (es,e,w)) (hn:n≤es.length) (hc:n≤c) (hp:aM es=true):fz depth H (.ref b gn 0 n c)=some (.tree (es.take n) .op):=by
 have:bA (.ref b gn 0 n c)=false:=rfl
 show fz (7+1) H _=_
 unfold fz
 simp only[this,h,Bool.false_eq_true,if_false]
 have Dq:aM (es.take n)=true:=BE.2 fun x hx=>BE.1 hp x (List.mem_of_mem_take hx)
 rw[if_pos ⟨by omega,hc⟩,List.drop_zero,mapM_pure Dq]
 rfl
theorem TC.flat {fn:Nat} {args jF:List VV} {r:VV} (h:TC fn jF r) (yZ:Dg.contains fn=false) (ha':aM jF=true) (hf:args.mapM (fz depth H)=some jF) (hr:KJ r=true) :
  ∀(lo:Nat) (K:VV→aA→Prop),cZ fn args lo H K=K r H:=by
 intro lo K
 cases hp:aM args with
 |
  true =>
  have:=mapM_pure (n:=7) (H:=H) hp
  rw[show fz depth H=fz (7+1) H from rfl,this] at hf
  cases hf
  exact h lo H K
 | false=>rw[h.GJ yZ ha' hf hp,hr,if_pos rfl]
theorem X8 {v v':VV} (h:fz depth H v=some v'):[v].mapM (fz depth H)=some [v']:=by rw[List.mapM_cons,h];rfl
theorem fz2 {v v' u u':VV} (h:fz depth H v=some v') (hu:fz depth H u=some u'):[v,u].mapM (fz depth H)=some [v',u']:=by rw[List.mapM_cons,h,X8 hu];rfl
theorem TC.afC {fn b gn n c e size:Nat} {w:Bool} {r:VV} (h:TC fn [aQ f xs] r) (hr:aH H b gn=some (xs.map f,e,w)) (hn:n=xs.length) (hc:n≤c) (hs:∀x,(aB (f x)).length=size) (hp:∀x,bA (f x)=true) (yZ:Dg.contains fn=false) (hf:KJ r=false) :
  ∀(lo:Nat) (K:VV→aA→Prop),cZ fn [.ref b gn 0 n c] lo H K=K r (dD H [b]):=by
 intro lo K
 have e1:fz depth H (.ref b gn 0 n c)=some (aQ f xs):=FB hr (by simpa using hn) hc (fJ hp)
 have e2:jQ depth H (.ref b gn 0 n c)=[b]:=N8 hr (by simpa using hn) (fJ hp)
 have e3:[VV.ref b gn 0 n c].mapM (fz depth H)=some [aQ f xs]:=by rw[List.mapM_cons,e1];rfl
 rw[h.GJ yZ (by simp only[aM,oD hs hp,Bool.and_self]) e3 rfl,hf]
 simp only[Bool.false_eq_true,if_false,List.flatMap_cons,List.flatMap_nil,e2,List.append_nil]
theorem aiI {es:List VV} {e:Nat} (hp:aM es=true):fz depth H (.tree es (.cl e))=some (.tree es .op):=by
 show fz (7+1) H _=_
 unfold fz
 have:bA (.tree es (.cl e))=false:=by simp[bA]
 simp only[this,Bool.false_eq_true,if_false,mapM_pure hp]
 rfl
theorem acA {es:List VV} {e:Nat} (hp:aM es=true):jQ depth H (.tree es (.cl e))=[]:=by
 show jQ (7+1) H _=_
 unfold jQ
 have:bA (.tree es (.cl e))=false:=by simp[bA]
 simp only[this,Bool.false_eq_true,if_false,Cf hp]
theorem Tz:fz depth H (.tree [] .nil)=some (.tree [] .op):=by
 show fz (7+1) H _=_
 unfold fz
 have:bA (.tree [] .nil)=false:=by simp[bA]
 simp only[this,Bool.false_eq_true,if_false]
 rfl
theorem TC.args {fn:Nat} {args jF:List VV} {r:VV} (h:TC fn jF r) (yZ:Dg.contains fn=false) (ha':aM jF=true) (hf:args.mapM (fz depth H)=some jF) (hi:args.flatMap (jQ depth H)=[]) :
  ∀(lo:Nat) (K:VV→aA→Prop),cZ fn args lo H K=K r H:=by
 intro lo K
 cases hp:aM args with
 |
  true =>
  have:=mapM_pure (n:=7) (H:=H) hp
  rw[show fz depth H=fz (7+1) H from rfl,this] at hf
  cases hf
  exact h lo H K
 |
  false =>
  rw[h.GJ yZ ha' hf hp,hi]
  split<;>rfl
theorem iA {lr:Bool} {z:List Value} (hz:(z.map jX).all cC=true):jY lr z 0 [] H=some (.ref H.length 0 0 0 0,H++[.row 0 [] z.length true]):=by
 simp[jY,vH,hz]
theorem gJ {z:List Value} {v:VV} (hz:(z.map jX).all cC=true) (hv:(aB v).length=z.length) (hs:(aB v).all cC=true):jY false z 1 [(0,v)] H=some (.tree [v] (.cl z.length),H):=by
 simp only[jY,vH,List.replicate_succ,List.replicate_zero,List.length_cons,List.length_nil,hv,hs,and_self,if_true,List.set_cons_zero,hz]
 simp[hs]
theorem aaD {z:List Value} {u v:VV} (hz:(z.map jX).all cC=true) (hu:(aB u).length=z.length) (hus:(aB u).all cC=true) (hv:(aB v).length=z.length) (hs:(aB v).all cC=true):jY false z 2 [(0,u),(1,v)] H=some (.tree [u,v] (.cl z.length),H):=by
 simp[jY,vH,hv,hs,hu,hus,hz,List.replicate_succ]
end
theorem wrap32 (n:Nat):IntKind.u32.wrap (n:Int)=((n % 4294967296:Nat):Int):=by rw[IntKind.wrap_u32];omega
theorem wrap_u64 (n:Int):IntKind.u64.wrap n=n % 18446744073709551616:=by simp[IntKind.wrap,IntKind.bits,IntKind.signed]
theorem fR (n:Nat) (h:n<18446744073709551616):IntKind.u64.wrap (n:Int)=(n:Int):=by rw[wrap_u64];omega
theorem wrapN {x:Int} (n:Nat) (h:x=n) (hn:n≤9223372036854775807):IntKind.i64.wrap x=(n:Int):=by subst h;exact wrap64 (by omega) (by omega)
theorem tU (n:Nat) (k:IntKind):dU .shr (.int .u64 (n:Int)) (.int k 32)=some (.int .u64 ((n / 4294967296:Nat):Int)):=by
 simp only[dU]
 have h1:¬((32:Int)<0):=by decide
 have h2:Nat.min (Int.toNat 32) IntKind.u64.bits=32:=by decide
 rw[if_neg h1,h2]
 congr 2
 rw[Int.fdiv_eq_ediv_of_nonneg _ (by decide)]
 omega
theorem Es (n:Nat) (k:IntKind) (h:n<4294967296):dU .shl (.int .u64 (n:Int)) (.int k 32)=some (.int .u64 ((n*4294967296:Nat):Int)):=by
 simp only[dU]
 have h1:¬((32:Int)<0):=by decide
 have h2:Nat.min (Int.toNat 32) IntKind.u64.bits=32:=by decide
 rw[if_neg h1,h2]
 congr 2
 have:(n:Int)*2^32=((n*4294967296:Nat):Int):=by omega
 rw[this]
 exact fR _ (by omega)
section
variable {n k g:Nat} {K:aA} {x y:cA}
theorem Am:aH (List.replicate n cA.dead++K) n g=aH K 0 g:=by
 unfold aH
 rw[List.getElem?_append_right (by simp)]
 simp
theorem xK:aH (List.replicate n cA.dead++K) (n+k) g=aH K k g:=by
 unfold aH
 rw[List.getElem?_append_right (by simp)]
 simp
theorem BR:(List.replicate n cA.dead++K).set n y=List.replicate n cA.dead++K.set 0 y:=by
 rw[List.set_append_right _ _ (by simp)]
 simp
theorem Ts:(List.replicate n cA.dead++K).set (n+k) y=List.replicate n cA.dead++K.set k y:=by
 rw[List.set_append_right _ _ (by simp)]
 simp
theorem DV:(List.replicate n cA.dead++K).length=n+K.length:=by simp
theorem agA:kI k (List.replicate n cA.dead++K)=kI k K:=by
 induction n with
 | zero=>rfl
 | succ n ih=>rw[List.replicate_succ,List.cons_append,←ih];rfl
end
theorem A0 {k g e:Nat} {es:List VV} {w:Bool} {K:aA} (h:mH k es=true):kI k (.row g es e w::K)=kI k K:=by
 unfold kI
 rw[List.all_cons]
 simp only[h,Bool.true_and]
theorem Iq {k:Nat}:kI k []=true:=rfl
theorem dV {size:Nat} {v:VV} {t:TK} {H:aA} (h:(aB v).length=size) (hs:(aB v).all cC=true):dF size (.tree [v] t) H=some [v]:=by
 simp[dF,h,hs]
theorem gZ {α:Type} {f:α→VV} {xs:List α} {x:α} {lo b g n e bytes:Nat} {H:aA} (h:aH H b g=some (xs.map f,e,true)) (hn:n=xs.length) (fG:lo≤b) (he:1≤e) (hb:1≤bytes) (C0:(n+1)*bytes≤140737488355328) :
  eE lo e bytes (.ref b g 0 n n) [f x] H=some (.ref b (g+1) 0 (n+1) (n+1),H.set b (.row (g+1) ((xs++[x]).map f) e true)):=by
 subst hn
 simp only[eE,h,List.length_cons,List.length_nil,Nat.zero_add]
 rw[if_pos ⟨hb,he⟩,if_pos ⟨trivial,fG,by simp⟩,if_neg (by omega),if_pos C0,List.drop_zero,List.take_of_length_le (by simp)]
 simp
section
variable {H:aA} {b g o n c j lo size:Nat} {neg ag:Bool} {k:IntKind} {i:Int} {v:VV}
theorem bR:cN ag size (.ptr b g j o) H=(match aH H b g with
 |
  some (es,_,_)=>match es[j]? with
  | some x=>dK ag size x o
  | none=>none
 | none=>none):=rfl
theorem Jx:cD lo size (.ptr b g j o) v H=(match aH H b g with
 |
  some (es,e,true)=>match es[j]? with
  |
   some x =>
   if (aB v).length=size∧lo≤b∧(aB v).all cC then
    if o=0∧size=e then some (H.set b (.row g (es.set j v) e true))
    else if 2≤e∧o+size≤e then some (H.set b (.row g (es.set j (.agg (dG (aB x) o (aB v)))) e true))
    else none
   else none
  | none=>none
 | _=>none):=rfl
theorem Ov:qB (.ref b g o n c) H=(aH H b g).map fun _ => .sc (.int .i64 n):=rfl
theorem Ag:HF size (.ptr b g j o) H=(aH H b g).map fun _ => .ptr b g j (o+size):=rfl
theorem OM:W4 (.ptr b g j o) H=(aH H b g).map fun _ => .ptr b g j o:=rfl
theorem JM:Fx neg (.ref b g o n c) H=(aH H b g).map fun _ => .sc (.bool (false != neg)):=rfl
theorem MQ:Fx neg (.tree [] .nil) H=some (.sc (.bool (true != neg))):=rfl
theorem JF {x:VV} {xs:List VV} {t:TK}:Fx neg (.tree (x::xs) t) H=some (.sc (.bool (false != neg))):=rfl
theorem JR:bP size (.ref b g o n c) (.sc (.int k i)) H=(match aH H b g with
 | some (_,e,_)=>if e=size∧0≤i∧i<n then some (.ptr b g (o+i.toNat) 0) else none
 | none=>none):=rfl
end
theorem Hf {v:Value}:isAny (.sc v)=false:=rfl
theorem Cj {es:List VV} {t:TK}:isAny (.tree es t)=false:=rfl
theorem Et {b g o n c:Nat}:isAny (.ref b g o n c)=false:=rfl
theorem Ea {cs:List VV}:isAny (.agg cs)=false:=rfl
theorem NV {f:Nat} {cs:List VV}:isAny (.vM f cs)=false:=rfl
theorem jJ {x:VV}:elemOf [x]=x:=rfl
theorem zF {x y:VV} {cs:List VV}:elemOf (x::y::cs) = .agg (x::y::cs):=rfl
theorem uS {k t:Nat} {ρ:dH}:IH k ρ t=Jn k (ρ t):=rfl
theorem Ly {k:Nat} {v:Value}:Jn k (.sc v) = .sc v:=rfl
theorem BI {k:Nat} {v:VV} (h:bA v=true):Jn k v=v:=MF (F2 v h)
theorem Im {k b g o n c:Nat} (h:b<k):Jn k (.ref b g o n c) = .ref b g o n c:=MF (by simp[below,h])
theorem R3 {v:Value}:cC (.sc v)=true:=rfl
theorem KM {es:List VV} {t:TK}:cC (.tree es t)=true:=rfl
theorem NQ {b g o n c:Nat}:cC (.ref b g o n c)=true:=rfl
theorem OG {b g o n:Nat}:cC (.ptr b g o n)=true:=rfl
theorem K7 {x:VV} {o:Nat}:cC (.dB x o)=true:=rfl
theorem OI {f:Nat} {cs:List VV}:cC (.vM f cs)=true:=rfl
theorem Ok {v:Value}:aB (.sc v)=[.sc v]:=rfl
theorem FP {cs:List VV}:aB (.agg cs)=cs:=rfl
theorem JV {es:List VV} {t:TK}:aB (.tree es t)=[.tree es t]:=rfl
theorem Mo {b g o n c:Nat}:aB (.ref b g o n c)=[.ref b g o n c]:=rfl
theorem Qv {k k':IntKind} {n:Int}:Uz k (.int k' n)=some (.int k (k.wrap n)):=rfl
theorem Og {args:List VV} {t:Nat}:JC args t=args.getD t qU:=rfl
theorem aqI {n:Nat}:LT n = .tmp n:=rfl
theorem anP {n:Int}:LI n = .const (.int .i64 n):=rfl
theorem apH:LG = .const (.bool true):=rfl
theorem aoH:LF = .const (.bool false):=rfl
theorem apM {n:Nat}:LL n = .load false 1 (.tmp n):=rfl
theorem aqE {n:Nat}:LK n = .load true 3 (.tmp n):=rfl
theorem anT {n k:Nat}:LX n k = .ext (.tmp n) k:=rfl
theorem aqD {k n:Nat}:LA k n = .faddr k (.tmp n):=rfl
theorem apZ {d:Nat} {p:oJ}:LO d p=⟨some d,p,none,false,[]⟩:=rfl
theorem anZ {d:Nat} {p:oJ}:LQ d p=⟨some d,p,none,true,[]⟩:=rfl
theorem aoG {p:oJ}:LN p=⟨none,p,none,false,[]⟩:=rfl
theorem aqH {d s:Nat}:LM d s=⟨some d,.mv (.tmp s),none,false,[]⟩:=rfl
theorem aqG {g d:Nat} {p:oJ}:LY g d p=⟨some d,p,some (g,true),false,[]⟩:=rfl
theorem aqV {g d:Nat} {p:oJ}:LZ g d p=⟨some d,p,some (g,false),false,[]⟩:=rfl
theorem arH {l:List PI} {c:aD}:LS l c = .seq (.dJ l) c:=rfl
theorem VX:type_of% (
 And.intro @acU<|And.intro @aaM<|And.intro @RT<|And.intro @U9<|And.intro @Wv<|And.intro @abS<|And.intro @Ve <|
 And.intro @Re<|And.intro @Cr<|And.intro @Fo<|And.intro @Gl<|And.intro @E7<|And.intro @DW <|
 And.intro @KF<|And.intro @Hg<|And.intro @OW<|And.intro @LP<|And.intro @Q3<|And.intro @Q4 <|
 And.intro @KQ<|And.intro @NS<|And.intro @aaA<|And.intro @aiF<|And.intro @acN<|And.intro @ahU<|And.intro @Jh <|
 And.intro @Zq<|And.intro @QB<|And.intro @Wz<|And.intro @We<|And.intro @Oc<|And.intro @OL<|And.intro @YR <|
 And.intro @Vi<|And.intro @U4<|And.intro @UW<|And.intro @Vu<|And.intro @Oz<|And.intro @Vk<|And.intro @NT <|
 And.intro @Oy<|And.intro @RA<|And.intro @RQ<|And.intro @Qp<|And.intro @Vr<|And.intro @SB<|And.intro @U5 <|
 And.intro @VM<|And.intro @Rw<|And.intro @VF<|And.intro @UZ<|And.intro @VA<|And.intro @R0<|And.intro @Wx <|
 And.intro @Oh<|And.intro @Vb<|And.intro @SM<|And.intro @Ow<|And.intro @QU<|And.intro @OX <|
 And.intro @Cl<|And.intro @OO<|And.intro @Rk<|And.intro @N1<|And.intro @Mc<|And.intro @NK <|
 And.intro @vV<|And.intro @OD<|And.intro @Vc<|And.intro @NJ<|And.intro @Sq<|And.intro @Wo<|And.intro @SE <|
 And.intro @Wb<|And.intro @U8<|And.intro @Vt<|And.intro @RX<|And.intro @OE<|And.intro @Sm<|And.intro @SS <|
 And.intro @UX<|And.intro @VD<|And.intro @RW<|And.intro @Qx<|And.intro @Ol<|And.intro @SV<|And.intro @Z0 <|
 And.intro @Ku<|And.intro @YM<|And.intro @Wn<|And.intro @Y8<|And.intro @acV<|And.intro @Pd<|And.intro @aaP <|
 And.intro @List.length_map.{0,0}<|And.intro @List.all_cons.{0}<|And.intro @List.all_nil.{0}<|And.intro @R3<|And.intro @Bool.and_self <|
 And.intro @Bool.and_true<|And.intro @Qv<|And.intro @Ww<|And.intro @Vs<|And.intro @Rz<|And.intro @Rv <|
 And.intro @So<|And.intro @QF<|And.intro @SX<|And.intro @Qu<|And.intro @SP<|And.intro @QA<|And.intro @Qy <|
 And.intro @V9<|And.intro @VH<|And.intro @Value.bool.injEq<|And.intro @decide_eq_true_eq<|And.intro @decide_eq_false_iff_not <|
 And.intro @Bool.not_true<|And.intro @Bool.not_false<|And.intro @decide_true<|And.intro @decide_false<|And.intro @Bool.not_eq_true' <|
 And.intro @Bool.not_eq_false'<|And.intro @Bool.false_eq_true<|And.intro @false_and<|And.intro @and_false<|And.intro @Option.map_some.{0,0} <|
 And.intro @Option.map_none.{0,0}<|And.intro @if_true.{1}<|And.intro @if_false.{1}<|And.intro @List.map_cons.{0,0}<|And.intro @List.map_nil.{0,0} <|
 And.intro @List.cons_append.{0}<|And.intro @List.nil_append.{0}<|And.intro @and_true<|And.intro @true_and<|And.intro @Nat.zero_add <|
 And.intro @Nat.add_zero<|And.intro @List.length_cons.{0}<|And.intro @List.length_nil.{0}<|And.intro @Og<|And.intro @List.getD_cons_zero.{0} <|
 And.intro @List.getD_cons_succ.{0}<|And.intro @List.getD_nil.{0}<|And.intro @VV.sc.injEq<|And.intro @List.getElem?_cons_zero.{0} <|
 And.intro @List.getElem?_cons_succ.{0}<|And.intro @KM<|And.intro @NQ<|And.intro @OG<|And.intro @K7 <|
 And.intro @OI<|And.intro @Ok<|And.intro @FP<|And.intro @JV<|And.intro @Mo<|And.intro @aqI<|And.intro @anP <|
 And.intro @apH<|And.intro @aoH<|And.intro @apM<|And.intro @aqE<|And.intro @anT<|And.intro @aqD<|And.intro @apZ<|And.intro @anZ <|
 And.intro @aoG<|And.intro @aqH<|And.intro @aqG<|And.intro @aqV <| @arH) :=
 And.intro @acU<|And.intro @aaM<|And.intro @RT<|And.intro @U9<|And.intro @Wv<|And.intro @abS<|And.intro @Ve <|
 And.intro @Re<|And.intro @Cr<|And.intro @Fo<|And.intro @Gl<|And.intro @E7<|And.intro @DW <|
 And.intro @KF<|And.intro @Hg<|And.intro @OW<|And.intro @LP<|And.intro @Q3<|And.intro @Q4 <|
 And.intro @KQ<|And.intro @NS<|And.intro @aaA<|And.intro @aiF<|And.intro @acN<|And.intro @ahU<|And.intro @Jh <|
 And.intro @Zq<|And.intro @QB<|And.intro @Wz<|And.intro @We<|And.intro @Oc<|And.intro @OL<|And.intro @YR <|
 And.intro @Vi<|And.intro @U4<|And.intro @UW<|And.intro @Vu<|And.intro @Oz<|And.intro @Vk<|And.intro @NT <|
 And.intro @Oy<|And.intro @RA<|And.intro @RQ<|And.intro @Qp<|And.intro @Vr<|And.intro @SB<|And.intro @U5 <|
 And.intro @VM<|And.intro @Rw<|And.intro @VF<|And.intro @UZ<|And.intro @VA<|And.intro @R0<|And.intro @Wx <|
 And.intro @Oh<|And.intro @Vb<|And.intro @SM<|And.intro @Ow<|And.intro @QU<|And.intro @OX <|
 And.intro @Cl<|And.intro @OO<|And.intro @Rk<|And.intro @N1<|And.intro @Mc<|And.intro @NK <|
 And.intro @vV<|And.intro @OD<|And.intro @Vc<|And.intro @NJ<|And.intro @Sq<|And.intro @Wo<|And.intro @SE <|
 And.intro @Wb<|And.intro @U8<|And.intro @Vt<|And.intro @RX<|And.intro @OE<|And.intro @Sm<|And.intro @SS <|
 And.intro @UX<|And.intro @VD<|And.intro @RW<|And.intro @Qx<|And.intro @Ol<|And.intro @SV<|And.intro @Z0 <|
 And.intro @Ku<|And.intro @YM<|And.intro @Wn<|And.intro @Y8<|And.intro @acV<|And.intro @Pd<|And.intro @aaP <|
 And.intro @List.length_map.{0,0}<|And.intro @List.all_cons.{0}<|And.intro @List.all_nil.{0}<|And.intro @R3<|And.intro @Bool.and_self <|
 And.intro @Bool.and_true<|And.intro @Qv<|And.intro @Ww<|And.intro @Vs<|And.intro @Rz<|And.intro @Rv <|
 And.intro @So<|And.intro @QF<|And.intro @SX<|And.intro @Qu<|And.intro @SP<|And.intro @QA<|And.intro @Qy <|
 And.intro @V9<|And.intro @VH<|And.intro @Value.bool.injEq<|And.intro @decide_eq_true_eq<|And.intro @decide_eq_false_iff_not <|
 And.intro @Bool.not_true<|And.intro @Bool.not_false<|And.intro @decide_true<|And.intro @decide_false<|And.intro @Bool.not_eq_true' <|
 And.intro @Bool.not_eq_false'<|And.intro @Bool.false_eq_true<|And.intro @false_and<|And.intro @and_false<|And.intro @Option.map_some.{0,0} <|
 And.intro @Option.map_none.{0,0}<|And.intro @if_true.{1}<|And.intro @if_false.{1}<|And.intro @List.map_cons.{0,0}<|And.intro @List.map_nil.{0,0} <|
 And.intro @List.cons_append.{0}<|And.intro @List.nil_append.{0}<|And.intro @and_true<|And.intro @true_and<|And.intro @Nat.zero_add <|
 And.intro @Nat.add_zero<|And.intro @List.length_cons.{0}<|And.intro @List.length_nil.{0}<|And.intro @Og<|And.intro @List.getD_cons_zero.{0} <|
 And.intro @List.getD_cons_succ.{0}<|And.intro @List.getD_nil.{0}<|And.intro @VV.sc.injEq<|And.intro @List.getElem?_cons_zero.{0} <|
 And.intro @List.getElem?_cons_succ.{0}<|And.intro @KM<|And.intro @NQ<|And.intro @OG<|And.intro @K7 <|
 And.intro @OI<|And.intro @Ok<|And.intro @FP<|And.intro @JV<|And.intro @Mo<|And.intro @aqI<|And.intro @anP <|
 And.intro @apH<|And.intro @aoH<|And.intro @apM<|And.intro @aqE<|And.intro @anT<|And.intro @aqD<|And.intro @apZ<|And.intro @anZ <|
 And.intro @aoG<|And.intro @aqH<|And.intro @aqG<|And.intro @aqV <| @arH
theorem jS:type_of% (
 And.intro @bR<|And.intro @Jx<|And.intro @JR<|And.intro @Ov<|And.intro @Ag<|And.intro @OM <|
 And.intro @JM<|And.intro @MQ<|And.intro @JF<|And.intro @aU<|And.intro @jB<|And.intro @List.set_cons_zero.{0} <|
 And.intro @List.set_cons_succ.{0}<|And.intro @jJ<|And.intro @zF<|And.intro @oO.eq_1<|And.intro @rN.eq_1 <|
 And.intro @rN.eq_2<|And.intro @Fp.eq_1<|And.intro @Fp.eq_2<|And.intro @zP.eq_1<|And.intro @zP.eq_2<|And.intro @Hf <|
 And.intro @Cj<|And.intro @Et<|And.intro @Ea<|And.intro @NV<|And.intro @List.take_zero.{0} <|
 And.intro @List.take_succ_cons.{0}<|And.intro @List.take_nil.{0}<|And.intro @List.drop_zero.{0}<|And.intro @List.drop_succ_cons.{0} <|
 And.intro @List.drop_nil.{0}<|And.intro @List.append_nil.{0}<|And.intro @Nat.le_refl<|And.intro @dG.eq_1<|And.intro @Int.toNat_natCast <|
 And.intro @eq_self.{1}<|And.intro @ge_iff_le.{0} <| @Bool.and_eq_true) :=
 And.intro @bR<|And.intro @Jx<|And.intro @JR<|And.intro @Ov<|And.intro @Ag<|And.intro @OM <|
 And.intro @JM<|And.intro @MQ<|And.intro @JF<|And.intro @aU<|And.intro @jB<|And.intro @List.set_cons_zero.{0} <|
 And.intro @List.set_cons_succ.{0}<|And.intro @jJ<|And.intro @zF<|And.intro @oO.eq_1<|And.intro @rN.eq_1 <|
 And.intro @rN.eq_2<|And.intro @Fp.eq_1<|And.intro @Fp.eq_2<|And.intro @zP.eq_1<|And.intro @zP.eq_2<|And.intro @Hf <|
 And.intro @Cj<|And.intro @Et<|And.intro @Ea<|And.intro @NV<|And.intro @List.take_zero.{0} <|
 And.intro @List.take_succ_cons.{0}<|And.intro @List.take_nil.{0}<|And.intro @List.drop_zero.{0}<|And.intro @List.drop_succ_cons.{0} <|
 And.intro @List.drop_nil.{0}<|And.intro @List.append_nil.{0}<|And.intro @Nat.le_refl<|And.intro @dG.eq_1<|And.intro @Int.toNat_natCast <|
 And.intro @eq_self.{1}<|And.intro @ge_iff_le.{0} <| @Bool.and_eq_true
end Go.PM
namespace Go.PM
theorem TC.vt {f:Nat} {args:List VV} {r:VV} (h:TC f args r) (yZ:Dg.contains f=false) (hp:aM args=true):VT f args r:=by
 have h1:=h 0 [] fun x _=>x=r
 unfold cZ at h1
 simp only[yZ,hp,Bool.false_eq_true,if_false,if_true] at h1
 have h2:GX f args fun x=>x=r:=by rw[h1];trivial
 unfold GX tk at h2
 split at h2
 ·rename_i x hx
  rw[←h2]
  exact(PV hx).2.2
 ·exact h2.elim
theorem TC.yes {f:Nat} {args:List VV} {eO:List Value} {H:aE} (h:TC f args (.sc (.bool true))) (yZ:Dg.contains f=false) (hp:aM args=true) (hl:VL (bare (· < H.length) H) args eO) :
  ∃v H',rV f eO H.length H=some (v,H')∧v = .bool true:=by
 obtain⟨P',pv,h1,_,h2⟩:=h.vt yZ hp (· < H.length) H eO H.length (fun _ h=>h) hl (Nat.le_refl _)
 cases h2
 exact⟨_,P',h1,rfl⟩
theorem VR.grow {H L:aE} {x:VV} {v:Value} (h:VR (bare (· < H.length) H) x v):VR (bare (· < (H++L).length) (H++L)) x v :=
 h.DB fun b hb=>⟨by show b<_;rw[List.length_append];omega,List.getElem?_append_left hb⟩
end Go.PM
namespace Go.PM
mutual
def dY (n:Nat):VV→Bool
 | .any=>false
 | .sc v=>lQ v
 | .agg cs=>pC n cs
 | .fN vs=>pC n vs
 | .tree es k=>es.isEmpty&&decide (k = .nil)
 | .dB _ _=>false
 | .ref b _ _ _ _=>decide (n≤b)
 | .ptr b _ _ _=>decide (n≤b)
 | .vM _ _=>false
def pC (n:Nat):List VV→Bool
 | []=>true
 | x::xs=>dY n x&&pC n xs
end
theorem vS {n:Nat} {es:List VV}:pC n es=true↔∀x∈es,dY n x=true:=by
 induction es with
 | nil=>simp[pC]
 | cons x xs ih=>simp[pC,ih]
theorem X0 {n:Nat} {es:List VV} (h:pC n es=true):pC n (es.flatMap aB)=true:=by
 rw[vS] at h ⊢
 intro x hx
 obtain⟨y,hy,AY⟩:=List.mem_flatMap.1 hx
 have:=h y hy
 unfold aB at AY
 split at AY
 ·exact vS.1 (by simpa[dY] using this) x AY
 ·rw[List.mem_singleton] at AY;subst AY;exact this
def dR (n:Nat) (L:aA):Bool:=L.all fun
 | .row _ es _ _=>pC n es
 | .dead=>true
theorem VR.own {V V':View} {k0:Nat} (NR:∀q,V.base≤q∧q<V.P.length→V'.base≤q∧q<V'.P.length∧∀b' g' es e w,b'<k0→V'.H[b']? = some (.row g' es e w)→V'.m b'≠q) (hl:V.H.length≤V'.H.length) (hH:∀b,k0≤b→V'.H[b]? = V.H[b]?) (hm:∀b,k0≤b→V'.m b=V.m b) {x:VV} {v:Value} (h:VR V x v):dY k0 x=true→VR V' x v:=by
 induction h using VR.rec (motive_2:=fun xs vs _=>pC k0 xs=true→VL V' xs vs) with
 | any=>intro hx;cases hx
 | sc _ h=>intro _;exact .sc _ h
 | agg cs ps _ ih=>intro hx;exact .agg _ _ (ih hx)
 | fN cs ps _ ih=>intro hx;exact .fN _ _ (ih hx)
 | pB k hk=>intro _;exact .pB k hk
 |
  tree es k b o c r e p hF hb ho hc he hk _ _ =>
  intro hx
  simp only[dY,Bool.and_eq_true,decide_eq_true_eq] at hx
  obtain⟨_,rfl⟩:=hx
  exact hk.elim
 | dB=>intro hx;cases hx
 |
  ref b g o n c a n' c' bH hg ha hq =>
  intro hx
  have hb:k0≤b:=by simpa[dY] using hx
  exact .ref b g o n c a n' c' (Nat.lt_of_lt_of_le bH hl) (fun g' es e w hr=>hg g' es e w (by rw[←hH b hb];exact hr)) (fun es e w hr=>by rw[hm b hb];exact ha es e w (by rw[←hH b hb];exact hr)) fun a0 h=>by
   obtain⟨q1,q2,q3⟩:=hq a0 h
   obtain⟨q4,q5,q6⟩:=NR _ ⟨q1,q2⟩
   refine⟨q4,q5,fun b' g' es e w hr fQ => ?_⟩
   rcases Nat.lt_or_ge b' k0 with MA | CR
   ·exact q6 b' g' es e w MA hr
   ·rw[hm b' CR]
    exact q3 b' g' es e w (by rw[←hH b' CR];exact hr) fQ
 |
  ptr b g j off a bH hg ha hq =>
  intro hx
  have hb:k0≤b:=by simpa[dY] using hx
  exact .ptr b g j off a (Nat.lt_of_lt_of_le bH hl) (fun g' es e w hr=>hg g' es e w (by rw[←hH b hb];exact hr)) (fun es e w hr=>by rw[hm b hb];exact ha es e w (by rw[←hH b hb];exact hr)) fun a0 h=>by
   obtain⟨q1,q2,q3⟩:=hq a0 h
   obtain⟨q4,q5,q6⟩:=NR _ ⟨q1,q2⟩
   refine⟨q4,q5,fun b' g' es e w hr fQ => ?_⟩
   rcases Nat.lt_or_ge b' k0 with MA | CR
   ·exact q6 b' g' es e w MA hr
   ·rw[hm b' CR]
    exact q3 b' g' es e w (by rw[←hH b' CR];exact hr) fQ
 | vM=>intro hx;cases hx
 | nil=>exact .nil
 |
  cons x v xs vs _ _ ih UC =>
  rename_i hx
  simp only[pC,Bool.and_eq_true] at hx
  exact .cons _ _ _ _ (ih hx.1) (UC hx.2)
theorem VL.own {V V':View} {n:Nat} (NR:∀q,V.base≤q∧q<V.P.length→V'.base≤q∧q<V'.P.length∧∀b' g' es e w,b'<n→V'.H[b']? = some (.row g' es e w)→V'.m b'≠q) (hl:V.H.length≤V'.H.length) (hH:∀b,n≤b→V'.H[b]? = V.H[b]?) (hm:∀b,n≤b→V'.m b=V.m b) {xs:List VV} {vs:List Value} (h:VL V xs vs) (hx:pC n xs=true):VL V' xs vs:=by
 induction xs generalizing vs with
 | nil=>cases h;exact .nil
 |
  cons x xs ih=>cases h with
  |
   cons _ v _ vs h hs =>
   simp only[pC,Bool.and_eq_true] at hx
   exact .cons _ _ _ _ (h.own NR hl hH hm hx.1) (ih hs hx.2)
theorem VL.DB {V':View} {G:Nat→Prop} {P:aE} {xs:List VV} {vs:List Value} (hF:∀b,G b→V'.F b∧V'.P[b]? = P[b]?) (h:VL (bare G P) xs vs):VL V' xs vs:=by
 induction xs generalizing vs with
 | nil=>cases h;exact .nil
 |
  cons x xs ih=>cases h with
  | cons _ v _ vs h hs=>exact .cons _ _ _ _ (h.DB hF) (ih hs)
def FC (f:Nat) (args:List VV) (R:Nat→VV→aA→Prop):Prop :=
 ∀n,kS f args n (List.replicate n .dead) fun r H'=>∃L,H'=List.replicate n .dead++L∧dY n r=true∧dR n L=true∧R n r L
theorem FC.walk {f:Nat} {pf:aT} {args:List VV} {R:Nat→VV→aA→Prop} (fl:Fl) (ht:gO f=some pf) (hn:args.length≤pf.ntmps)
  (h:∀n,VW fl n pf.body (A5 pf.res fun r H'=>∃L,H'=List.replicate n .dead++L∧dY n r=true∧dR n L=true∧R n r L) (JC args) (List.replicate n .dead)):FC f args R :=
 fun n=>kS.walk fl ht hn (h n)
theorem FC.raw {f:Nat} {args jF:List VV} {R:Nat→VV→aA→Prop} {H:aA} {lo:Nat} (h:FC f jF R) (hf:args.mapM (fz depth H)=some jF):kS f args lo H fun r H'=>∃L,H'=H++L∧R H.length r L∧dY H.length r=true∧dR H.length L=true:=by
 intro V eK eO hH hS hl
 have h1:=h H.length
 let V0:View:={ m:=V.m,F:=(· < V.P.length),H:=List.replicate H.length .dead,P:=V.P,base:=V.P.length }
 have KH:∀(b g:Nat) (es:List VV) (e:Nat) (w:Bool),V0.H[b]? ≠ some (.row g es e w):=by
  intro b g es e w hb
  have:=List.eq_of_mem_replicate (List.mem_of_getElem? hb)
  cases this
 have hS0:SR V0 H.length eK:=⟨fun b g es e w hb=>absurd hb (KH _ _ _ _ _),fun b g es e hb=>absurd hb (KH _ _ _ _ _),fun a b g es e w _ _ _ _ ha=>absurd ha (KH _ _ _ _ _),fun b hb=>hb,hS.S9,Nat.le_refl _⟩
 have Ak:VL V0 jF eO:=by
  have:=D9 hS (G:=(· < V.P.length)) (fun q hq=>hS.fr q hq) hl (by rw[hH];exact hf) (fun i _ g es e w hb=>hS.mlt hb)
  exact VL.DB (V':=V0) (fun b hb=>⟨hb,rfl⟩) this
 obtain⟨pv,V1,r,k1,k3,k4,k5,L,k2,h2,h3,hR⟩:=h1 V0 eK eO rfl hS0 Ak
 have VP:∀b g es e w,V1.H[b]? = some (.row g es e w)→V.P.length≤V1.m b:=by
  intro b g es e w hb
  rcases Nat.lt_or_ge (V1.m b) V.P.length with bH | CR
  ·obtain⟨g0,es0,w0,j1,_⟩:=k4.B8 b g es e w hb bH
   exact absurd j1 (KH _ _ _ _ _)
  ·exact CR
 have apY:V1.H.length=H.length+(L).length:=by rw[k2];simp
 have DS:∀q,q<V.P.length→V1.P[q]? = V.P[q]? := fun q hq=>k4.cL q hq fun b g es e hb=>absurd hb (KH _ _ _ _ _)
 let V2:View:={ m:=fun b=>if b<H.length then V.m b else V1.m b,F:=V.F,H:=H++L,P:=V1.P,base:=V.base }
 have agP:∀b,H.length≤b→V2.H[b]? = V1.H[b]? := fun b hb=>by
  show (H++L)[b]? = _
  rw[k2,List.getElem?_append_right hb,List.getElem?_append_right (by simpa using hb),List.length_replicate]
 have mL:∀b,H.length≤b→V2.m b=V1.m b:=fun b hb=>by
  show (if b<H.length then V.m b else V1.m b)=_
  rw[if_neg (by omega)]
 have afI:∀b,b<H.length→V2.H[b]? = V.H[b]? := fun b hb=>by
  show (H++L)[b]? = _
  rw[List.getElem?_append_left hb,hH]
 have mS:∀b,b<H.length→V2.m b=V.m b:=fun b hb=>by
  show (if b<H.length then V.m b else V1.m b)=_
  rw[if_pos hb]
 have hU:Up V V2:=⟨fun _ h=>h,fun b hb=>DS b (hS.fr b hb),by show V.H.length≤(H++L).length;rw[hH];simp,fun b g es e w bH hb=>⟨g,es,w,by rw[←afI b (by rw[←hH];exact bH)];exact hb,Nat.le_refl _,fun _=>mS b (by rw[←hH];exact bH)⟩,rfl,k4.EJ,fun b g es e w hb hm=>by
   rcases Nat.lt_or_ge b H.length with h | h
   ·exact⟨g,es,w,by rw[←afI b h];exact hb,mS b h,id⟩
   ·rw[mL b h] at hm
    have:=VP b g es e w (by rw[←agP b h];exact hb)
    omega⟩
 have Vl:∀ {b g es e w},V2.H[b]? = some (.row g es e w)→(b<H.length∧V.H[b]? = some (.row g es e w))∨(H.length≤b∧V1.H[b]? = some (.row g es e w)):=by
  intro b g es e w hb
  rcases Nat.lt_or_ge b H.length with h | h
  ·exact .inl ⟨h,by rw[←afI b h];exact hb⟩
  ·exact .inr ⟨h,by rw[←agP b h];exact hb⟩
 have ahZ:V1.H.length≤V2.H.length:=by show _≤(H++L).length;rw[apY];simp
 have aoQ:∀ {b g es e w},H.length≤b→V1.H[b]? = some (.row g es e w)→pC H.length es=true:=by
  intro b g es e w hb hr
  rw[k2,List.getElem?_append_right (by simpa using hb)] at hr
  exact List.all_eq_true.1 h3 _ (List.mem_of_getElem? hr)
 have NR:∀q,V1.base≤q∧q<V1.P.length→V2.base≤q∧q<V2.P.length∧∀b' g' es e w,b'<H.length→V2.H[b']? = some (.row g' es e w)→V2.m b'≠q:=by
  intro q hq
  have C2:V.P.length≤q:=by have:=k4.Kp;rw[this] at hq;exact hq.1
  refine⟨Nat.le_trans hS.Kp C2,hq.2,fun b' g' es e w bH hr hm => ?_⟩
  rw[mS b' bH] at hm
  have:=hS.mlt (by rw[←afI b' bH];exact hr)
  omega
 refine⟨pv,V2,r,k1,⟨fun b g es e w hb => ?_,fun b g es e hb => ?_,fun a b g es e w g' nE e' w' ha hb hm => ?_,fun b hb => ?_,?_,Nat.le_trans hS.Kp k4.EJ⟩,{ hU with cL:=fun q hq _=>DS q hq,CZ:=fun q hq => .inl hq },?_,L,rfl,hR,h2,h3⟩
 ·rcases Vl hb with⟨h,hb⟩ | ⟨h,hb⟩
  ·obtain⟨r,p,j1,j2,j3⟩:=hS.row b g es e w hb
   exact⟨r,p,by rw[mS b h];exact(DS _ (hS.mlt hb)).trans j1,j2,j3.mono hU⟩
  ·obtain⟨r,p,j1,j2,j3⟩:=k3.row b g es e w hb
   exact⟨r,p,by rw[mL b h];exact j1,j2,j3.own NR ahZ (fun b hb=>agP b hb) (fun b hb=>mL b hb) (X0 (aoQ h hb))⟩
 ·rcases Vl hb with⟨h,hb⟩ | ⟨h,hb⟩
  ·rw[mS b h]
   exact hS.wr b g es e hb
  ·rw[mL b h]
   have:=VP b g es e true hb
   exact⟨fun hF=>by have:=hS.fr _ hF;omega,fun _=>Nat.le_trans hS.S9 this⟩
 ·rcases Vl ha with⟨h,ha⟩ | ⟨h,ha⟩<;>rcases Vl hb with⟨h',hb⟩ | ⟨h',hb⟩
  ·rw[mS a h,mS b h'] at hm
   exact hS.inj a b _ _ _ _ _ _ _ _ ha hb hm
  ·rw[mS a h,mL b h'] at hm
   have:=VP b _ _ _ _ hb
   have:=hS.mlt ha
   omega
  ·rw[mL a h,mS b h'] at hm
   have:=VP a _ _ _ _ ha
   have:=hS.mlt hb
   omega
  ·rw[mL a h,mL b h'] at hm
   exact k3.inj a b _ _ _ _ _ _ _ _ ha hb hm
 ·exact Nat.lt_of_lt_of_le (hS.fr b hb) k4.EJ
 ·exact Nat.le_trans hS.S9 k4.EJ
 ·exact k5.own NR ahZ (fun b hb=>agP b hb) (fun b hb=>mL b hb) h2
theorem gC {f:Nat} {args:List VV} {lo:Nat} {H:aA} {K:VV→aA→Prop} (yZ:Dg.contains f=true) (h:kS f args lo H K):cZ f args lo H K:=by
 unfold cZ
 rw[if_pos yZ]
 exact h
theorem FC.call {f:Nat} {args jF:List VV} {R:Nat→VV→aA→Prop} {H:aA} {lo:Nat} {K:VV→aA→Prop} (h:FC f jF R) (yZ:Dg.contains f=true) (hf:args.mapM (fz depth H)=some jF) (hk:∀r L,R H.length r L→K r (H++L)):cZ f args lo H K :=
 gC yZ ((h.raw hf).mono fun r H' ⟨L,h1,h2,_⟩=>by subst h1;exact hk r L h2)
theorem FC.adE {f:Nat} {args jF:List VV} {R:Nat→VV→aA→Prop} {H:aA} {lo:Nat} {K:VV→aA→Prop} (h:FC f jF R) (yZ:Dg.contains f=true) (hf:args.mapM (fz depth H)=some jF) (hk:∀r L,R H.length r L→dY H.length r=true→dR H.length L=true→K r (H++L)):cZ f args lo H K :=
 gC yZ ((h.raw hf).mono fun r H' ⟨L,h1,h2,h3,h4⟩=>by subst h1;exact hk r L h2 h3 h4)
def Gk (H K:aA):Prop:=K.length=H.length∧∀(b g:Nat) (es:List VV) (e:Nat) (w:Bool),K[b]? = some (.row g es e w)→H[b]? = some (.row g es e w)
theorem VR.kill {V:View} {K:aA} (hK:Gk V.H K) {x:VV} {v:Value} (h:VR V x v):VR { V with H:=K } x v:=by
 induction h using VR.rec (motive_2:=fun xs vs _=>VL { V with H:=K } xs vs) with
 | any=>exact .any _
 | sc _ h=>exact .sc _ h
 | agg cs ps _ ih=>exact .agg _ _ ih
 | fN cs ps _ ih=>exact .fN _ _ ih
 | pB k hk=>exact .pB k hk
 | tree es k b o c r e p hF hb ho hc he hk _ ih=>exact .tree es k b o c r e p hF hb ho hc he hk ih
 | dB x off b o r e p hF hb ho _ ih=>exact .dB x off b o r e p hF hb ho ih
 |
  ref b g o n c a n' c' bH hg ha hq =>
  exact .ref b g o n c a n' c' (by show b<K.length;rw[hK.1];exact bH) (fun g' es e w hr=>hg g' es e w (hK.2 _ _ _ _ _ hr)) (fun es e w hr=>ha es e w (hK.2 _ _ _ _ _ hr)) fun a0 h=>⟨(hq a0 h).1,(hq a0 h).2.1,fun b' g' es e w hr=>(hq a0 h).2.2 b' g' es e w (hK.2 _ _ _ _ _ hr)⟩
 |
  ptr b g j off a bH hg ha hq =>
  exact .ptr b g j off a (by show b<K.length;rw[hK.1];exact bH) (fun g' es e w hr=>hg g' es e w (hK.2 _ _ _ _ _ hr)) (fun es e w hr=>ha es e w (hK.2 _ _ _ _ _ hr)) fun a0 h=>⟨(hq a0 h).1,(hq a0 h).2.1,fun b' g' es e w hr=>(hq a0 h).2.2 b' g' es e w (hK.2 _ _ _ _ _ hr)⟩
 | vM f gF ps _ ih=>exact .vM _ _ _ ih
 | nil=>exact .nil
 | cons x v xs vs _ _ ih UC=>exact .cons _ _ _ _ ih UC
theorem VL.kill {V:View} {K:aA} (hK:Gk V.H K) {xs:List VV} {vs:List Value} (h:VL V xs vs):VL { V with H:=K } xs vs:=by
 induction xs generalizing vs with
 | nil=>cases h;exact .nil
 |
  cons x xs ih=>cases h with
  | cons _ v _ vs h hs=>exact .cons _ _ _ _ (h.kill hK) (ih hs)
theorem kS.kill {f:Nat} {args:List VV} {lo:Nat} {H:aA} {P P':VV→aA→Prop} (h:kS f args lo H P) (hk:∀v H',P v H'→∃K,Gk H' K∧P' v K):kS f args lo H P':=by
 intro V eK eO hH hS hl
 obtain⟨pv,V',v,h1,h2,h3,h4,h5⟩:=h V eK eO hH hS hl
 obtain⟨K,hK,h6⟩:=hk _ _ h5
 refine⟨pv,{ V' with H:=K },v,h1,⟨fun b g es e w hb => ?_,fun b g es e hb=>h2.wr b g es e (hK.2 _ _ _ _ _ hb),fun a b g es e w g' nE e' w' ha hb hm=>h2.inj a b _ _ _ _ _ _ _ _ (hK.2 _ _ _ _ _ ha) (hK.2 _ _ _ _ _ hb) hm,h2.fr,h2.S9,h2.Kp⟩,
  { F:=h3.F,P:=h3.P,len:=by show V.H.length≤K.length;rw[hK.1];exact h3.len,row:=fun b g es e w bH hb=>h3.row b g es e w bH (hK.2 _ _ _ _ _ hb),Kp:=h3.Kp,EJ:=h3.EJ,B8:=fun b g es e w hb hm=>h3.B8 b g es e w (hK.2 _ _ _ _ _ hb) hm,cL:=h3.cL,CZ:=h3.CZ },h4.kill hK,h6⟩
 obtain⟨r,p,j1,j2,j3⟩:=h2.row b g es e w (hK.2 _ _ _ _ _ hb)
 exact⟨r,p,j1,j2,j3.kill hK⟩
theorem FC.Mu {f:Nat} {pf:aT} {args:List VV} {R:Nat→VV→aA→Prop} (fl:Fl) (ht:gO f=some pf) (hn:args.length≤pf.ntmps)
  (h:∀n,VW fl n pf.body (A5 pf.res fun r H'=>∃L,Gk H' (List.replicate n .dead++L)∧dY n r=true∧dR n L=true∧R n r L) (JC args) (List.replicate n .dead)):FC f args R :=
 fun n=>(kS.walk fl ht hn (h n)).kill fun _ _ ⟨L,h1,h2,h3,h4⟩=>⟨_,h1,L,rfl,h2,h3,h4⟩
end Go.PM
namespace Go.PM
open Go.ChangeShapes Go.WideShapes Go.ChangeAt Go.RowKit
open Go.Proofs
def AG (W:World):Prop:=∃(rb:Nat) (arr:Array Value) (e:TypeId) (fz:Nat×Nat),W.heap[rb]? = some (.cells arr e fz)
structure Cd (m m':dM) (H L:aE) (W:World) (cs HV:List Value) (vs:List VV):Prop where
 inn:In m' (H++L) W
 ext:∀b l,m b=some l→m' b=some l
 len:HV.length=cs.length
 rv:∀i,i<cs.length→RV m' (HV.getD i Go.undef) (cs.getD i Go.undef)
 sc:∀v∈HV,PM.gE v=true
 tree:VL (bare (· < (H++L).length) (H++L)) vs HV
def K4 {T:Type} (AS:TypeId×Value→T) (P:Program) (W:World) (t:TypeId) (k:Nat) (S:List VV→Prop):Prop :=
 ∀fuel cs y,DataW.trod AS P W 0 (fun _=>true) true fuel t cs=some y→∀(m:dM) (H:aE),In m H W→cs.length=k∧∃m' L HV vs,Cd m m' H L W cs HV vs∧S vs
theorem VL.grow {H L:aE} {xs:List VV} {vs:List Value} (h:VL (bare (· < H.length) H) xs vs):VL (bare (· < (H++L).length) (H++L)) xs vs :=
 h.DB fun b hb=>⟨by show b<_;rw[List.length_append];omega,List.getElem?_append_left hb⟩
theorem VL.app {V:View} {xs ys:List VV} {vs ws:List Value} (h:VL V xs vs) (h':VL V ys ws):VL V (xs++ys) (vs++ws):=by
 induction xs generalizing vs with
 | nil=>cases h;exact h'
 |
  cons x xs ih=>cases h with
  | cons _ v _ vs h hs=>exact .cons _ _ _ _ h (ih hs)
theorem IS {cs ds:List Value} {i:Nat} (h:i<cs.length):(cs++ds).getD i Go.undef=cs.getD i Go.undef:=by
 simp only[List.getD_eq_getElem?_getD,List.getElem?_append_left h]
theorem FF {cs ds:List Value} {i:Nat} (h:cs.length≤i):(cs++ds).getD i Go.undef=ds.getD (i-cs.length) Go.undef:=by
 simp only[List.getD_eq_getElem?_getD,List.getElem?_append_right h]
theorem Cd.both {m m1 m2:dM} {H L1 L2:aE} {W:World} {cs HV AZ aqJ:List Value} {vs vs':List VV} (h:Cd m m1 H L1 W cs HV vs) (h':Cd m1 m2 (H++L1) L2 W AZ aqJ vs'):Cd m m2 H (L1++L2) W (cs++AZ) (HV++aqJ) (vs++vs'):=by
 refine⟨by rw[←List.append_assoc];exact h'.inn,fun b l hb=>h'.ext _ _ (h.ext _ _ hb),by simp[h.len,h'.len],fun i hi => ?_,fun v hv => ?_,?_⟩
 ·rcases Nat.lt_or_ge i cs.length with bH | CR
  ·rw[IS bH,IS (by rw[h.len];exact bH)]
   exact(h.rv i bH).mono h'.ext
  ·rw[FF CR,FF (by rw[h.len];exact CR),h.len]
   exact h'.rv _ (by rw[List.length_append] at hi;omega)
 ·rcases List.mem_append.1 hv with hv | hv
  ·exact h.sc v hv
  ·exact h'.sc v hv
 ·rw[←List.append_assoc]
  exact h.tree.grow.app h'.tree
theorem Cd.none {m:dM} {H:aE} {W:World} (hI:In m H W):Cd m m H [] W [] [] [] :=
 ⟨by rw[List.append_nil];exact hI,fun _ _ h=>h,rfl,fun i hi=>absurd hi (Nat.not_lt_zero _),fun v hv=>(by cases hv),.nil⟩
theorem Pt {T:Type} {AS:TypeId×Value→T} {P:Program} {W:World} {t:TypeId} (ht:P.underlying t=some .string):K4 AS P W t 1 (fun vs=>∃s:ByteArray,s.size≤maxLen∧vs=[.sc (.string s)]):=by
 intro fuel cs y h m H hI
 obtain⟨s,rfl,_,hs⟩:=DataW.trod_string ht h
 refine⟨rfl,m,[],[.string s],[.sc (.string s)],⟨by rw[List.append_nil];exact hI,fun _ _ h=>h,rfl,fun i hi => ?_,fun v hv => ?_,.cons _ _ _ _ (.sc _ rfl) .nil⟩,s,hs,rfl⟩
 ·have:i=0:=by simpa using hi
  subst this
  exact .str s
 ·rw[List.mem_singleton] at hv
  subst hv
  rfl
theorem Mm {T:Type} {AS:TypeId×Value→T} {P:Program} {W:World} {e:TypeId} {fZ:Nat} {S:List VV→Prop} (ho:K4 AS P W e fZ S):∀(S5:List (List Value)),(∀cs∈S5,∃fuel y,DataW.trod AS P W 0 (fun _=>true) true fuel e cs=some y)→∀(m:dM) (H:aE),In m H W →
  ∃(m':dM) (L:aE) (HV:List Value) (gs:List (List VV)),Cd m m' H L W S5.flatten HV gs.flatten∧gs.length=S5.length∧(∀g∈gs,S g)∧∀cs∈S5,cs.length=fZ
 | [],_,m,H,hI=>⟨m,[],[],[],Cd.none hI,rfl,fun g hg=>(by cases hg),fun cs OJ=>(by cases OJ)⟩
 |
  cs::S5,h,m,H,hI=>by
  obtain⟨fuel,y,hy⟩:=h cs List.mem_cons_self
  obtain⟨hl,m1,L1,atY,g,h1,hS⟩:=ho fuel cs y hy m H hI
  obtain⟨m2,L2,auV,gs,h2,h3,h4,h5⟩:=Mm ho S5 (fun cs OJ=>h cs (List.mem_cons_of_mem _ OJ)) m1 (H++L1) h1.inn
  refine⟨m2,L1++L2,atY++auV,g::gs,?_,by simp[h3],fun g' hg' => ?_,fun AZ aiY => ?_⟩
  ·rw[List.flatten_cons,List.flatten_cons]
   exact h1.both h2
  ·rcases List.mem_cons.1 hg' with rfl | hg'
   ·exact hS
   ·exact h4 _ hg'
  ·rcases List.mem_cons.1 aiY with rfl | aiY
   ·exact hl
   ·exact h5 _ aiY
theorem C9 {α:Type} {k:Nat}:∀ {xss:List (List α)},(∀xs∈xss,xs.length=k)→xss.flatten.length=xss.length*k
 | [],_=>by simp
 |
  xs::xss,h=>by
  rw[List.flatten_cons,List.length_append,h xs List.mem_cons_self,C9 fun y hy=>h y (List.mem_cons_of_mem _ hy),List.length_cons,Nat.succ_mul,Nat.add_comm]
theorem GR {α:Type} {k:Nat}:∀ {xss:List (List α)} (n:Nat),(∀xs∈xss,xs.length=k)→xss.flatten.take (n*k)=(xss.take n).flatten
 | [],n,_=>by simp
 | xs::xss,0,_=>by simp
 |
  xs::xss,n+1,h=>by
  have hl:=h xs List.mem_cons_self
  rw[List.flatten_cons,List.take_succ_cons,List.flatten_cons,←GR n fun y hy=>h y (List.mem_cons_of_mem _ hy),show (n+1)*k=xs.length+n*k by rw[hl,Nat.succ_mul,Nat.add_comm],List.take_length_add_append]
theorem Pf {k:Nat} (hk:1≤k) {S5:List (List Value)} (h:∀cs∈S5,cs.length=k) {i:Nat} (hi:i<S5.length*k):∃cs,S5[i / k]? = some cs∧S5.flatten.getD i Go.undef=cs.getD (i % k) Go.undef:=by
 induction S5 generalizing i with
 | nil=>simp at hi
 |
  cons cs S5 ih =>
  have hl:=h cs List.mem_cons_self
  rw[List.flatten_cons]
  rcases Nat.lt_or_ge i k with bH | CR
  ·refine⟨cs,by rw[Nat.div_eq_of_lt bH];rfl,?_⟩
   rw[IS (by omega),Nat.mod_eq_of_lt bH]
  ·obtain⟨c',h1,h2⟩:=ih (fun y hy=>h y (List.mem_cons_of_mem _ hy)) (i:=i-k) (by rw[List.length_cons,Nat.succ_mul] at hi;omega)
   have e1:i / k=(i-k) / k+1:=by rw[Nat.div_eq_sub_div (by omega) CR]
   have e2:i % k=(i-k) % k:=by rw[Nat.mod_eq_sub_mod CR]
   exact⟨c',by rw[e1];exact h1,by rw[FF (by omega),hl,h2,e2]⟩
theorem JW {T:Type} {AS:TypeId×Value→T} {α:Type} {f:α→VV} {Z9:α→Prop} {P:Program} {W:World} {t e:TypeId} {fZ:Nat} (ht:P.underlying t=some (.slice e)) (awK:P.cellsOf e=fZ) (pos:1≤fZ) (hB:AG W)
  (hf:∀x,(aB (f x)).length=fZ) (ho:K4 AS P W e fZ fun g=>∃x:α,Z9 x∧g=aB (f x)):K4 AS P W t 1 fun vs=>∃xs:List α,xs.length≤maxLen∧(∀x∈xs,Z9 x)∧vs=[aQ f xs]:=by
 intro fuel cs y h m H hI
 rcases DataW.trod_slice ht h with⟨rfl,_⟩ | ⟨a,n,c,elems,rest,k,_,rfl,_,_,Yy,hmx,hlen,hE,hR,_⟩
 ·refine⟨rfl,m,[],[.slice none 0 0],[.tree [] .op],⟨by rw[List.append_nil];exact hI,fun _ _ h=>h,rfl,fun i hi => ?_,fun v hv => ?_,.cons _ _ _ _ (.pB _ (.inl rfl)) .nil⟩,[],Nat.zero_le _,fun x hx=>(by cases hx),rfl⟩
  ·have:i=0:=by simpa using hi
   subst this
   exact .Nl
  ·rw[List.mem_singleton] at hv
   subst hv
   rfl
 ·obtain⟨AX,hR⟩:=hR rfl
  have NZ:∀i,i<c→∃cs,W.cells? 0 (a.add (i*fZ)) fZ=some cs∧∃fuel y,DataW.trod AS P W 0 (fun _=>true) true fuel e cs=some y:=by
   intro i hi
   have key:∃y,(W.cells? 0 (a.add (i*P.cellsOf e)) (P.cellsOf e)).bind (DataW.trod AS P W 0 (fun _=>true) true k e)=some y:=by
    rcases Nat.lt_or_ge i n with cK | cK
    ·exact⟨elems[i]'(by omega),by rw[hE i cK];exact List.getElem?_eq_getElem _⟩
    ·have:=hR (i-n) (by omega)
     rw[show n+(i-n)=i by omega] at this
     exact⟨rest[i-n]'(by omega),by rw[this];exact List.getElem?_eq_getElem _⟩
   obtain⟨y,hy⟩:=key
   rw[Option.bind_eq_some_iff,awK] at hy
   obtain⟨cs,h1,h2⟩:=hy
   exact⟨cs,h1,k,y,h2⟩
  obtain⟨S5,lO,OJ⟩:=Wr (fun i cs=>W.cells? 0 (a.add (i*fZ)) fZ=some cs∧∃fuel y,DataW.trod AS P W 0 (fun _=>true) true fuel e cs=some y) c NZ
  obtain⟨m1,L1,HV,gs,hO,Zu,hgS,akF⟩:=Mm ho S5 (fun cs hc=>by
   obtain⟨i,hi⟩:=List.getElem?_of_mem hc
   exact(OJ i cs hi).2) m H hI
  obtain⟨xs,hxg,Qo⟩:∃xs:List α,(∀x∈xs,Z9 x)∧gs=xs.map fun x=>aB (f x):=by
   clear hO Zu
   induction gs with
   | nil=>exact⟨[],fun x hx=>(by cases hx),rfl⟩
   |
    cons g gs ih =>
    obtain⟨xs,h1,h2⟩:=ih fun g hg=>hgS g (List.mem_cons_of_mem _ hg)
    obtain⟨x,h3,h4⟩:=hgS g List.mem_cons_self
    exact⟨x::xs,fun y hy=>by
     rcases List.mem_cons.1 hy with rfl | hy
     ·exact h3
     ·exact h1 y hy,by rw[List.map_cons,←h2,h4]⟩
  have hxl:xs.length=c:=by rw[←lO,←Zu,Qo,List.length_map]
  have MZ:HV.length=c*fZ:=by rw[hO.len,C9 akF,lO]
  obtain⟨rb,base,arr,e',fz,arA,Ny,C2⟩:∃(rb base:Nat) (arr:Array Value) (e':TypeId) (fz:Nat×Nat),W.heap[rb]? = some (.cells arr e' fz)∧(c=0→base=0)∧(c≠0→a=⟨rb,base,none⟩):=by
   by_cases h0:c=0
   ·obtain⟨rb,arr,e',fz,hb⟩:=hB
    exact⟨rb,0,arr,e',fz,hb,fun _=>rfl,fun h=>absurd h0 h⟩
   ·obtain⟨cs,h1,_⟩:=NZ 0 (by omega)
    have h2:=(World.cells?_some h1).2
    have h3:=h2.2 0 (by omega)
    rw[List.getElem?_eq_getElem (by omega)] at h3
    have:(a.add (0*fZ)).add 0=a:=by simp[Addr.add]
    rw[this] at h3
    unfold World.cell? at h3
    split at h3
    ·rename_i arr e' fz hb
     split at h3
     ·cases h3
     ·rename_i QO
      refine⟨a.block,a.off,arr,e',fz,hb,fun h=>absurd h h0,fun _ => ?_⟩
      obtain⟨b,o,sp⟩:=a
      cases sp with
      | none=>rfl
      | some x=>simp at QO
    ·cases h3
  have Qj:∀i,i<c*fZ→W.cell? ⟨rb,base+i,none⟩=some (S5.flatten.getD i Go.undef):=by
   intro i hi
   obtain⟨cs,h1,h2⟩:=Pf pos akF (i:=i) (by rw[lO];exact hi)
   have h0:c≠0:=by intro h0;rw[h0] at hi;simp at hi
   have ha:=C2 h0
   have h3:=(World.cells?_some (OJ _ _ h1).1).2
   have hr:i % fZ<fZ:=Nat.mod_lt _ pos
   have h4:=h3.2 (i % fZ) hr
   have Kl:∀o k:Nat,(⟨rb,o,none⟩:Addr).add k=⟨rb,o+k,none⟩:=by
    intro o k
    unfold Addr.add
    split
    ·rename_i h0;subst h0;rfl
    ·rfl
   have ajB:i / fZ*fZ+i % fZ=i:=by rw[Nat.mul_comm];exact Nat.div_add_mod i fZ
   rw[ha,Kl,Kl,Nat.add_assoc,ajB] at h4
   rw[h2,List.getD_eq_getElem?_getD,h4]
   have bH:i % fZ<cs.length:=by rw[h3.1];exact hr
   rw[List.getElem?_eq_getElem bH]
   rfl
  have rU:base+HV.length≤arr.size:=by
   rw[MZ]
   by_cases h0:c=0
   ·rw[Ny h0,h0];simp
   ·have O3:1≤c*fZ:=Nat.mul_pos (by omega) pos
    have h3:=Qj (c*fZ-1) (by omega)
    unfold World.cell? at h3
    simp only[arA,Option.isSome_none,Bool.false_eq_true,if_false] at h3
    have:=(Array.getElem?_eq_some_iff.1 h3).1
    omega
  have Kl:=hO.inn.add (fZ:=fZ) (cs:=HV) (base:=base) arA rU (fun i hi=>by
   rw[MZ] at hi
   refine⟨_,Qj i hi,(hO.rv i (by rw[C9 akF,lO];exact hi)).mono (uR (hO.inn.Rt (Nat.le_refl _))),?_⟩
   rw[List.getD_eq_getElem?_getD,List.getElem?_eq_getElem (by rw[MZ];exact hi)]
   exact hO.sc _ (List.getElem_mem _))
  refine⟨rfl,_,L1++[.row HV fZ false],[.slice (some ⟨(H++L1).length,0,none⟩) n c],[aQ f (xs.take n)],⟨by rw[←List.append_assoc];exact Kl,fun b l hb=>uR (hO.inn.Rt (Nat.le_refl _)) _ _ (hO.ext b l hb),rfl,fun i hi => ?_,fun v hv => ?_,?_⟩,xs.take n,by rw[List.length_take];omega,fun x hx=>hxg x (List.mem_of_mem_take hx),rfl⟩
  ·have:i=0:=by simpa using hi
   subst this
   refine .slice (H++L1).length 0 n c _ _ c (cE _ _ _) Yy (Nat.le_refl _) (fun _=>rfl) ?_
   by_cases h0:c=0
   ·exact .inl h0
   ·exact .inr ⟨by simpa using C2 h0,by simpa[MZ] using rU⟩
  ·rw[List.mem_singleton] at hv
   subst hv
   rfl
  ·rw[←List.append_assoc]
   refine .cons _ _ _ _ ?_ .nil
   have hl:(xs.take n).length=n:=by rw[List.length_take];omega
   have E3:∀g∈gs,g.length=fZ:=fun g hg=>by
    obtain⟨x,_,rfl⟩:=hgS g hg
    exact hf x
   have key:=hO.tree.grow (L:=[M7.row HV fZ false])
   have key:=key.take (n*fZ)
   rw[GR n E3,Qo,←List.map_take] at key
   have:=VR.tree (V:=bare (· < (H++L1++[M7.row HV fZ false]).length) (H++L1++[M7.row HV fZ false])) ((xs.take n).map f) .op (H++L1).length 0 c HV fZ false (by show (H++L1).length<_;simp) (by show (H++L1++[M7.row HV fZ false])[(H++L1).length]? = _;rw[List.getElem?_append_right (Nat.le_refl _),Nat.sub_self];rfl)
    (by rw[List.length_map,hl,MZ];simp only[Nat.zero_add];exact Nat.mul_le_mul_right _ Yy) (by rw[List.length_map,hl];exact Yy) (fun y hy=>by
     obtain⟨x,_,rfl⟩:=List.mem_map.1 hy
     exact hf x) trivial (by rw[List.length_map,hl,List.drop_zero,List.flatMap_map,List.flatMap_def];exact key)
   rw[List.length_map,hl] at this
   exact this
end Go.PM