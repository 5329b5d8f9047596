/- Texts of a claim, in one: part 5. -/
import Derived.KernelRfl
import Derived.Laws.Strings
import Derived.Test.YtjmflicajplclaaGreatDoorKZd
set_option linter.unusedSimpArgs false
set_option linter.unusedVariables false
namespace Go.PM
def VT (f:Nat) (args:List VV) (r:VV):Prop :=
 ∀(F:Nat→Prop) (P:aE) (eG:List Value) (dZ:Nat),(∀b,F b→b<P.length)→VL (bare F P) args eG→dZ≤P.length →
  ∃P' pv,qU f eG dZ P=some (pv,P')∧P <+: P'∧VR (bare (fun q=>F q∨(P.length≤q∧q<P'.length)) P') r pv
def Pw (lo dZ:Nat) (V:View) (r:Option (Value×aE)) (K:VV→aA→Prop):Prop :=
 ∃pv V' v,r=some (pv,V'.P)∧SR V' lo dZ∧EF lo V V'∧VR V' v pv∧K v V'.H
def gQ (f:Nat) (args:List VV) (lo:Nat) (H:aA) (K:VV→aA→Prop):Prop :=
 ∀(V:View) (dZ:Nat) (eG:List Value),V.H=H→SR V lo dZ→VL V args eG→Pw lo dZ V (qU f eG dZ V.P) K
theorem gQ.mono {f:Nat} {args:List VV} {lo:Nat} {H:aA} {K K':VV→aA→Prop} (hk:∀v H,K v H→K' v H) (h:gQ f args lo H K):gQ f args lo H K':=by
 intro V dZ eG hH hS hl
 obtain⟨pv,V',v,h1,h2,h3,h4,h5⟩:=h V dZ eG hH hS hl
 exact⟨pv,V',v,h1,h2,h3,h4,hk _ _ h5⟩
theorem VT.uniq {f:Nat} {args:List VV} {r r':VV} (h:VT f args r) (h':VT f args r') (ha:aM args=true) (hr:iD r=true) (Ef:iD r'=true):r=r':=by
 obtain⟨P,ps,_,hl⟩:=NG args ha []
 obtain⟨P',pv,h1,_,h2⟩:=h (· < P.length) P ps 0 (fun _ h=>h) hl (Nat.zero_le _)
 obtain⟨W5,pv',h3,_,h4⟩:=h' (· < P.length) P ps 0 (fun _ h=>h) hl (Nat.zero_le _)
 rw[h1] at h3
 injection h3 with h3
 injection h3 with h3 h5
 subst h3 h5
 exact h2.uniq h4 hr Ef
open Classical in
noncomputable def vT (f:Nat) (args:List VV):Option VV:=if h:∃r,aM args=true∧iD r=true∧VT f args r then some (Classical.choose h) else none
theorem OR {f:Nat} {args:List VV} {r:VV} (h:vT f args=some r):aM args=true∧iD r=true∧VT f args r:=by
 unfold vT at h
 split at h
 ·rename_i hx
  cases h
  exact Classical.choose_spec hx
 ·cases h
theorem ahY {f:Nat} {args:List VV} {r:VV} (ha:aM args=true) (hr:iD r=true) (h:VT f args r):vT f args=some r:=by
 have hx:∃r,aM args=true∧iD r=true∧VT f args r:=⟨r,ha,hr,h⟩
 unfold vT
 rw[dif_pos hx]
 obtain⟨_,h2,h3⟩:=Classical.choose_spec hx
 rw[h3.uniq h ha h2 hr]
def tk (r:Option VV) (K:VV→Prop):Prop:=match r with
 | some r=>K r
 | none=>False
noncomputable def Gf (f:Nat) (args:List VV) (K:VV→Prop):Prop:=tk (vT f args) K
noncomputable def cQ (f:Nat) (args:List VV) (lo:Nat) (H:aA) (K:VV→aA→Prop):Prop :=
 if Ci.contains f=true then gQ f args lo H K
 else if aM args=true then Gf f args fun r=>K r H
 else match args.mapM (fz depth H) with
  | some iH=>Gf f iH fun r=>if KU r=true then K r H else K r (dB H (args.flatMap (gZ depth H)))
  | none=>False
noncomputable def eE (fl:Fl) (lo:Nat) (q:Bool) (op:nO) (ρ:dS) (H:aA) (K:VV→aA→Prop):Prop :=
 match op with
 | .call f args=>cQ f (args.map (eH ρ)) (if q then H.length else lo) H K
 |
  .callv fv args=>match eH ρ fv with
  | .vB f fS=>cQ f (args.map (eH ρ)++fS) (if q then H.length else lo) H K
  | _=>False
 |
  o=>match vop fl lo o ρ H with
  | some (v,H')=>K v H'
  | none=>False
noncomputable def VS (fl:Fl) (lo:Nat):List PI→(dS→aA→Prop)→dS→aA→Prop
 | [],K,ρ,H=>K ρ H
 |
  i::is,K,ρ,H=>match Bq i.g ρ with
  | none=>False
  | some false=>VS fl lo is K (JD ρ i.dst pU) H
  | some true=>i.cf.all (tX ρ H)=true∧eE fl lo i.quiet i.op ρ H fun v H'=>VS fl lo is K (JD ρ i.dst v) H'
def aeY:List Nat→dS→aA→Option (dS×aA)
 | [],ρ,H=>some (ρ,H)
 |
  t::ts,ρ,H=>match fz depth H (ρ t) with
  | some v=>aeY ts (JD ρ (some t) v) (dB H (gZ depth H (ρ t)))
  | none=>none
def JR (r:Option VV) (H:aA) (K:VV→aA→Prop):Prop:=match r with
 | some v=>K v H
 | none=>False
def gh (K:dS→aA→Prop) (ρ:dS) (H:aA):Prop:=∃ts bJ H',aeY ts ρ H=some (bJ,H')∧K bJ H'
def kH (k:Nat) (H:aA):Bool:=H.all fun
 | .row _ es _ _=>lO k es
 | .dead=>true
def HG (k:Nat) (ρ:dS):dS:=fun t=>IF k (ρ t)
abbrev VQ:=Ex→dS→aA→Prop
def nB (K:dS→aA→Prop) (Q:VQ):VQ
 | .normal=>K
 | x=>Q x
def zR (id:Nat) (Q:VQ):VQ
 | .exit Rs=>fun ρ H=>if Rs=id then Q .normal ρ H else Q (.exit Rs) ρ H
 | x=>Q x
def R8 (body:VQ→dS→aA→Prop) (Q:VQ):Nat→dS→aA→Prop
 | 0,_,_=>False
 | n+1,ρ,H=>body (nB (fun bJ H'=>R8 body Q n bJ H'∨(kH H.length (H'.take H.length)=true∧R8 body Q n (HG H.length bJ) (H'.take H.length))) Q) ρ H
noncomputable def VW (fl:Fl) (lo:Nat):aD→VQ→dS→aA→Prop
 | .skip,Q,ρ,H=>Q .normal ρ H
 | .dG ops,Q,ρ,H=>VS fl lo ops (Q .normal) ρ H
 | .seq a b,Q,ρ,H=>VW fl lo a (nB (VW fl lo b Q) Q) ρ H
 |
  .cond c a b,Q,ρ,H=>match eH ρ c with
  | .sc (.bool t)=>if t=true then VW fl lo a Q ρ H else VW fl lo b Q ρ H
  | _=>False
 | .block id a,Q,ρ,H=>VW fl lo a (zR id Q) ρ H
 | .loop a,Q,ρ,H=>∃n,R8 (VW fl lo a) (fun x=>gh (Q x)) n ρ H
 | .exit id,Q,ρ,H=>Q (.exit id) ρ H
 | .ret,Q,ρ,H=>Q .ret ρ H
def EE (ρ:dS) (H:aA):A1→Option VV
 | .tmp t=>some (ρ t)
 | .cell t agg size=>cE agg size (ρ t) H
def qM (ρ:dS) (H:aA):List A1→Option (List VV)
 | []=>some []
 |
  r::rs=>match EE ρ H r,qM ρ H rs with
  | some v,some vs=>some (v::vs)
  | _,_=>none
def nS (res:List A1) (ρ:dS) (H:aA):Option VV :=
 match qM ρ H res with
 | some [v]=>some v
 | some vs=>some (.eX vs)
 | none=>none
def Ge (R:VV→aA→Prop):Option VV→aA→Prop
 | some v,H=>R v H
 | none,_=>False
def AW (res:List A1) (R:VV→aA→Prop):VQ
 | .exit _,_,_=>False
 | .normal,ρ,H=>Ge R (nS res ρ H) H
 | .ret,ρ,H=>Ge R (nS res ρ H) H
def Ja (args:List VV):dS:=fun k=>args.getD k pU
section
variable {lo dZ:Nat}
theorem Fw {V:View} (hS:SR V lo dZ) {P':aE} (hp:V.P <+: P'):SR { V with P:=P',F:=fun q=>V.F q∨(V.P.length≤q∧q<P'.length) } lo dZ∧EF lo V { V with P:=P',F:=fun q=>V.F q∨(V.P.length≤q∧q<P'.length) }:=by
 obtain⟨L,rfl⟩:=hp
 have hU:Up V { V with P:=V.P++L,F:=fun q=>V.F q∨(V.P.length≤q∧q<(V.P++L).length) }:=⟨fun _ h => .inl h,fun b hb=>List.getElem?_append_left (hS.fr b hb),Nat.le_refl _,fun b g es e w _ h=>⟨g,es,w,h,Nat.le_refl _,fun _=>rfl⟩,rfl,by simp,fun b g es e w hb _=>⟨g,es,w,hb,rfl,id⟩⟩
 refine⟨⟨fun b g es e w hb => ?_,fun b g es e hb=>⟨fun hF => ?_,(hS.wr b g es e hb).2⟩,hS.inj,fun b hb => ?_,by have:=hS.S5;simp;omega,by have:=hS.JT;simp;omega⟩,{ hU with cK:=fun q hq _=>List.getElem?_append_left hq,Cl:=fun q hq => ?_ }⟩
 ·obtain⟨r,p,h1,h2,h3⟩:=hS.row b g es e w hb
  exact⟨r,p,by rw[←h1];exact List.getElem?_append_left (hS.mlt hb),h2,h3.mono hU⟩
 ·rcases hF with hF | hF
  ·exact(hS.wr b g es e hb).1 hF
  ·have h1:=hS.mlt hb
   have h2:V.P.length≤V.m b:=hF.1
   omega
 ·rcases hb with hb | hb
  ·have:=hS.fr b hb
   simp;omega
  ·exact hb.2
 ·rcases hq with hq | hq
  ·exact .inl hq
  ·exact .inr (.inl hq.1)
theorem acD {V V':View} {x:VV} {v:Value} (h:VR V x v):KU x=true→VR V' x v:=by
 induction h using VR.rec (motive_2:=fun xs vs _=>QU xs=true→VL V' xs vs) with
 | sc _ h=>intro _;exact .sc _ h
 | agg cs ps _ ih=>intro hx;exact .agg _ _ (ih hx)
 | eX cs ps _ ih=>intro hx;exact .eX _ _ (ih hx)
 | any=>intro hx;cases hx
 | pH=>intro hx;cases hx
 | tree=>intro hx;cases hx
 | cU=>intro hx;cases hx
 | ref=>intro hx;cases hx
 | ptr=>intro hx;cases hx
 | vB=>intro hx;cases hx
 | nil=>exact .nil
 |
  cons x v xs vs _ _ ih Tp =>
  rename_i hx
  simp only[QU,Bool.and_eq_true] at hx
  exact .cons _ _ _ _ (ih hx.1) (Tp hx.2)
theorem VR.Dd {V':View} {G:Nat→Prop} {P:aE} {x:VV} {v:Value} (hF:∀b,G b→V'.F b∧V'.P[b]? = P[b]?) (h:VR (bare G P) x v):VR V' x v:=by
 induction h using VR.rec (motive_2:=fun xs vs _=>VL V' xs vs) with
 | any=>exact .any _
 | sc _ h=>exact .sc _ h
 | agg cs ps _ ih=>exact .agg _ _ ih
 | eX cs ps _ ih=>exact .eX _ _ ih
 | pH k hk=>exact .pH k hk
 | tree es k b o c r e p Uk hb ho hc he hk _ ih=>exact .tree es k b o c r e p (hF _ Uk).1 (by rw[(hF _ Uk).2];exact hb) ho hc he hk ih
 | cU x off b o r e p Uk hb ho _ ih=>exact .cU x off b o r e p (hF _ Uk).1 (by rw[(hF _ Uk).2];exact hb) ho ih
 | ref b g o n c a n' c' bH hg ha hq=>exact absurd bH (Nat.not_lt_zero _)
 | ptr b g j off a bH hg ha hq=>exact absurd bH (Nat.not_lt_zero _)
 | vB f fS ps _ ih=>exact .vB _ _ _ ih
 | nil=>exact .nil
 | cons x v xs vs _ _ ih Tp=>exact .cons _ _ _ _ ih Tp
theorem QH {V:View} (hS:SR V lo dZ) {f aeK:Nat} (agH:aeK≤V.P.length) {args:List VV} {eG:List Value} {G:Nat→Prop} (hG:∀b,G b→b<V.P.length) (hl:VL (bare G V.P) args eG) {K:VV→Prop} (h:Gf f args K) :
  ∃P' pv r,qU f eG aeK V.P=some (pv,P')∧V.P <+: P'∧VR (bare (fun q=>G q∨(V.P.length≤q∧q<P'.length)) P') r pv∧aP r=true∧K r:=by
 unfold Gf tk at h
 split at h
 ·rename_i r hr
  obtain⟨h1,h2,h3⟩:=OR hr
  obtain⟨P',pv,h4,h5,h6⟩:=h3 G V.P eG aeK hG hl agH
  exact⟨P',pv,r,h4,h5,h6,Si r h2,h⟩
 ·cases h
theorem FH {V:View} (hS:SR V lo dZ) {f:Nat} {args:List VV} {eG:List Value} (hl:VL V args eG) {q:Bool} {K:VV→aA→Prop} (h:cQ f args (if q then V.H.length else lo) V.H K):Pw lo dZ V (qU f eG (if q then V.P.length else dZ) V.P) K:=by
 have hlq:(if q=true then V.P.length else dZ)≤V.P.length:=by split;exact Nat.le_refl _;exact hS.S5
 unfold cQ at h
 split at h
 ·cases q with
  | false=>exact h V dZ eG rfl hS hl
  |
   true =>
   have hS':SR V V.H.length V.P.length:=⟨hS.row,fun b g es e hb=>⟨(hS.wr b g es e hb).1,fun hl=>by have:=(List.getElem?_eq_some_iff.1 hb).1;omega⟩,hS.inj,hS.fr,Nat.le_refl _,hS.JT⟩
   obtain⟨pv,V',r,g1,g3,g4,g5,g6⟩:=h V V.P.length eG rfl hS' hl
   refine⟨pv,V',r,g1,⟨g3.row,fun b g es e hb=>⟨(g3.wr b g es e hb).1,fun Ep => ?_⟩,g3.inj,g3.fr,Nat.le_trans hS.S5 g4.D4,g3.JT⟩,{ g4.toUp with cK:=fun p hp _=>g4.cK p hp fun b g es e hb Ep => ?_,Cl:=g4.Cl },g5,g6⟩
   ·rcases Nat.lt_or_ge (V'.m b) V.P.length with bH | Eh
    ·obtain⟨g0,es0,w0,k1,k2,k3⟩:=g4.Bh b g es e true hb bH
     have:=k3 rfl
     subst this
     rw[k2]
     exact(hS.wr _ _ _ _ k1).2 Ep
    ·exact Nat.le_trans hS.S5 Eh
   ·have:=(List.getElem?_eq_some_iff.1 hb).1
    have Ep:V.H.length≤b:=Ep
    omega
 ·split at h
  ·rename_i hp
   obtain⟨P',pv,r,g1,g2,g3,g4,g5⟩:=QH hS (aeK:=if q=true then V.P.length else dZ) hlq (G:=V.F) hS.fr (VL.pure (V:=V) (V':=bare V.F V.P) (fun b hb=>⟨hb,rfl⟩) hl hp) h
   obtain⟨k1,k2⟩:=Fw hS g2
   exact⟨pv,_,r,g1,k1,k2,g3.Dd (fun b hb=>⟨hb,rfl⟩),g5⟩
  ·split at h
   case h_2=>cases h
   rename_i iH Yt
   unfold Gf tk at h
   split at h
   case h_2=>cases h
   rename_i r hr
   obtain⟨h1,h2,h3⟩:=OR hr
   split at h
   ·rename_i hfl
    have BL:=Dy hS (G:=(· < V.P.length)) (fun q hq=>hS.fr q hq) hl Yt (fun i _ g es e w hb=>hS.mlt hb)
    obtain⟨P',pv,g1,g2,g3⟩:=h3 _ V.P eG _ (fun _ h=>h) BL hlq
    obtain⟨k1,k2⟩:=Fw hS g2
    exact⟨pv,_,r,g1,k1,k2,acD g3 hfl,h⟩
   ·obtain⟨k1,k2,k3,k4,k5,k6⟩:=vL (args.flatMap (gZ depth V.H)) hS
    have BL:=Dy hS (G:=(V.dB (args.flatMap (gZ depth V.H))).F) (fun q hq=>k2.F q hq) hl Yt k6
    rw[←k4] at BL
    obtain⟨P',pv,g1,g2,g3⟩:=h3 _ _ eG _ k1.fr BL (by rw[k4];exact hlq)
    obtain⟨j1,j2⟩:=Fw k1 g2
    rw[k4] at g1
    refine⟨pv,_,r,g1,j1,k2.trans j2,g3.Dd (fun b hb=>⟨hb,rfl⟩),?_⟩
    show K r (V.dB (args.flatMap (gZ depth V.H))).H
    rw[k3]
    exact h
def zZ (lo dZ:Nat) (V:View) (c:aD) (Q:VQ) (kO:Env):Prop :=
 W dZ c (fun x MP P'=>∃V' bJ,V'.P=P'∧SR V' lo dZ∧EF lo V V'∧ER V' bJ MP∧Q x bJ V'.H) kO V.P
theorem GI {V:View} {ρ:dS} {kO:Env} (hE:ER V ρ kO) {g:Option (Nat×Bool)} {t:Bool} (h:Bq g ρ=some t):yV g kO=some t:=by
 unfold Bq at h
 unfold yV
 split at h
 ·exact h
 ·rename_i t' want
  have ht:=hE t'
  split at h
  ·rename_i b hb
   obtain⟨e,_⟩:=rB ht hb
   simp only[e]
   exact h
  ·rename_i vs hb
   rw[hb] at ht
   generalize hu:kO t'=u at ht
   cases ht with
   | eX cs ps hl=>simp only[hu];exact h
  ·cases h
theorem TL {V:View} (hS:SR V lo dZ) {x y:VV} {u w:Value} (hx:VR V x u) (hy:VR V y w) (h:AQ V.H x y=true):arO u w=true:=by
 have key:∀ {z:VV} {v:Value},VR V z v→(match AM V.H z with
   | .bad=>True
   | .no=>iY v=none
   | .row i wr=>iY v=some (V.m i)∧∃g es e,V.H[i]? = some (.row g es e wr)
   | .Bh i=>∀q,iY v=some q→∀b' g' es e w,V.H[b']? = some (.row g' es e w)→b'≠i→V.m b'≠q
   | .tree=>∀b,iY v=some b→V.F b):=by
  intro z v hz
  cases hz with
  | any=>simp only[AM]
  | sc v h =>
      cases v<;>first | rfl | cases h | skip
      rename_i a;cases a<;>first | rfl | cases h
  | agg=>rfl
  | eX=>rfl
  | pH k hk =>
       rcases hk with rfl | rfl
       ·intro b hb;cases hb
       ·rfl
  |
   tree es k b o c r e p hF hb ho hc he hk hl =>
   cases es with
   |
    nil=>cases k with
    | nil=>exact hk.elim
    | op=>intro b' uD;cases uD;exact hF
    | cl=>intro b' uD;cases uD;exact hF
   | cons=>intro b' uD;cases uD;exact hF
  | cU x off b o r e p hF hb ho hl=>intro b' uD;cases uD;exact hF
  |
   ref b g o n c a n' c' bH hg ha hq =>
   simp only[AM]
   cases hr:aH V.H b g with
   | none=>exact fun q h=>(by
     cases a with
     | none=>cases h
     | some a0=>cases h;exact(hq a0 rfl).2.2)
   |
    some q =>
    obtain⟨es,e,wr⟩:=q
    rw[cH] at hr
    obtain⟨rfl,rfl,rfl⟩:=ha _ _ _ hr
    exact⟨rfl,g,es,e,hr⟩
  |
   ptr b g j off a bH hg ha hq =>
   simp only[AM]
   cases hr:aH V.H b g with
   | none=>exact fun q h=>(by
     cases a with
     | none=>cases h
     | some a0=>cases h;exact(hq a0 rfl).2.2)
   |
    some q =>
    obtain⟨es,e,wr⟩:=q
    rw[cH] at hr
    have:=ha _ _ _ hr
    subst this
    exact⟨rfl,g,es,e,hr⟩
  | vB=>rfl
 have kx:=key hx
 have ky:=key hy
 unfold AQ at h
 unfold arO
 cases hbx:AM V.H x with
 | bad=>rw[hbx] at h;have h:false=true:=h;cases h
 |
  no =>
  rw[hbx] at kx
  have kx:iY u=none:=kx
  rw[kx]
 |
  Bh i =>
  rw[hbx] at kx h
  have kx:∀q,iY u=some q→∀b' g' es e w,V.H[b']? = some (.row g' es e w)→b'≠i→V.m b'≠q:=kx
  cases Ql:AM V.H y with
  | bad=>rw[Ql] at h;have h:false=true:=h;cases h
  |
   no =>
   rw[Ql] at ky
   have ky:iY w=none:=ky
   rw[ky]
   cases iY u<;>rfl
  | Bh j=>rw[Ql] at h;have h:false=true:=h;cases h
  | tree=>rw[Ql] at h;have h:false=true:=h;cases h
  |
   row j wj =>
   rw[Ql] at ky h
   obtain⟨k3,g2,es2,e2,k4⟩:iY w=some (V.m j)∧∃g es e,V.H[j]? = some (.row g es e wj):=ky
   have h:(i != j)=true:=h
   simp only[bne_iff_ne,ne_eq] at h
   rw[k3]
   cases hu:iY u with
   | none=>rfl
   |
    some q =>
    simp only[bne_iff_ne,ne_eq]
    exact fun hm=>kx q hu j _ _ _ _ k4 (Ne.symm h) hm.symm
 |
  row i wi =>
  rw[hbx] at kx h
  obtain⟨k1,g1,Cb,e1,k2⟩:iY u=some (V.m i)∧∃g es e,V.H[i]? = some (.row g es e wi):=kx
  cases Ql:AM V.H y with
  | bad=>rw[Ql] at h;have h:false=true:=h;cases h
  |
   no =>
   rw[Ql] at ky
   have ky:iY w=none:=ky
   rw[ky]
   cases iY u<;>rfl
  |
   Bh j =>
   rw[Ql] at ky h
   have ky:∀q,iY w=some q→∀b' g' es e w,V.H[b']? = some (.row g' es e w)→b'≠j→V.m b'≠q:=ky
   have h:(i != j)=true:=h
   simp only[bne_iff_ne,ne_eq] at h
   rw[k1]
   cases hw:iY w with
   | none=>rfl
   |
    some q =>
    simp only[bne_iff_ne,ne_eq]
    exact fun hm=>ky q hw i _ _ _ _ k2 h hm
  |
   row j wj =>
   rw[Ql] at ky h
   obtain⟨k3,g2,es2,e2,k4⟩:iY w=some (V.m j)∧∃g es e,V.H[j]? = some (.row g es e wj):=ky
   rw[k1,k3]
   have h:(i != j)=true:=h
   simp only[bne_iff_ne,ne_eq] at h ⊢
   exact fun hm=>h (hS.inj _ _ _ _ _ _ _ _ _ _ k2 k4 hm)
  |
   tree =>
   rw[Ql] at ky h
   have ky:∀b,iY w=some b→V.F b:=ky
   have h:wi=true:=h
   subst h
   cases hw:iY w with
   | none=>rw[k1]
   |
    some b =>
    rw[k1]
    simp only[bne_iff_ne,ne_eq]
    exact fun hm=>(hS.wr _ _ _ _ k2).1 (by rw[hm];exact ky b hw)
 |
  tree =>
  rw[hbx] at kx h
  have kx:∀b,iY u=some b→V.F b:=kx
  cases Ql:AM V.H y with
  | bad=>rw[Ql] at h;have h:false=true:=h;cases h
  |
   no =>
   rw[Ql] at ky
   have ky:iY w=none:=ky
   rw[ky]
   cases iY u<;>rfl
  | tree=>rw[Ql] at h;have h:false=true:=h;cases h
  | Bh j=>rw[Ql] at h;have h:false=true:=h;cases h
  |
   row j wj =>
   rw[Ql] at ky h
   obtain⟨k1,g1,Cb,e1,k2⟩:iY w=some (V.m j)∧∃g es e,V.H[j]? = some (.row g es e wj):=ky
   have h:wj=true:=h
   subst h
   cases hw:iY u with
   | none=>rfl
   |
    some b =>
    rw[k1]
    simp only[bne_iff_ne,ne_eq]
    exact fun hm=>(hS.wr _ _ _ _ k2).1 (by rw[←hm];exact kx b hw)
theorem Rj {V:View} (hS:SR V lo dZ) {ρ:dS} {kO:Env} (hE:ER V ρ kO) {fl:Fl} {q:Bool} {op:nO} {K:VV→aA→Prop} (h:eE fl lo q op ρ V.H K):Pw lo dZ V (jZ dZ q op kO V.P) K:=by
 have other:∀ {v H'},vop fl lo op ρ V.H=some (v,H')→K v H'→Pw lo dZ V (jZ dZ q op kO V.P) K:=by
  intro v H' h1 h2
  obtain⟨pv,V',g1,g2,g3,g4,g5⟩:=Yf hS hE (q:=q) h1
  exact⟨pv,V',v,g1,g3,g4,g5,by rw[g2];exact h2⟩
 unfold eE at h
 split at h
 ·rw[XQ]
  exact FH hS (hE.evs _) h
 ·rename_i fv args
  rw[Ue]
  have hf:=hE.ev fv
  split at h
  ·rename_i f fS hfv
   rw[hfv] at hf
   generalize ev kO fv=u at hf ⊢
   cases hf with
   |
    vB f fS ps hl =>
    unfold YS
    simp only[List.nil_append]
    exact FH hS ((hE.evs args).append hl) h
  ·cases h
 ·split at h
  ·rename_i v H' h1
   exact other h1 h
  ·cases h
theorem KA {fl:Fl} {K:dS→aA→Prop}:∀(is:List PI) {V:View} {ρ:dS} {kO:Env},SR V lo dZ→ER V ρ kO→VS fl lo is K ρ V.H →
  WS dZ is (fun MP P'=>∃V' bJ,V'.P=P'∧SR V' lo dZ∧EF lo V V'∧ER V' bJ MP∧K bJ V'.H) kO V.P
 |
  [],V,ρ,kO,hS,hE,h=>by
  rw[ajU]
  exact⟨V,ρ,rfl,hS,EF.refl _ _,hE,h⟩
 |
  i::is,V,ρ,kO,hS,hE,h=>by
  unfold VS at h
  rw[anW]
  unfold yN
  split at h
  ·cases h
  ·rename_i hw
   rw[GI hE hw]
   exact⟨_,_,rfl,KA is hS (hE.put (.eX [] [] .nil)) h⟩
  ·rename_i hw
   rw[GI hE hw]
   obtain⟨Qc,h⟩:=h
   have atX:i.cf.all (A7 kO)=true:=by
    rw[List.all_eq_true] at Qc ⊢
    intro c hc
    exact TL hS (hE.ev c.1) (hE.ev c.2) (Qc c hc)
   simp only[atX,if_true]
   obtain⟨pv,V',v,g1,g2,g3,g4,g5⟩:=Rj hS hE h
   refine⟨pv,V'.P,?_,?_⟩
   ·unfold jZ at g1
    exact g1
   ·obtain⟨Vb,W5,k1,Rf,D5,k2,k3,k4,k5,k6⟩:=KA is g2 ((hE.mono g3.toUp).put g4) g5
    exact⟨Vb,W5,k1,Rf,D5,k2,k3,g3.trans k4,k5,k6⟩
theorem KR:∀(ts:List Nat) {V:View} {ρ bJ:dS} {kO:Env} {H':aA},SR V lo dZ→ER V ρ kO→aeY ts ρ V.H=some (bJ,H')→∃V',V'.P=V.P∧V'.H=H'∧SR V' lo dZ∧EF lo V V'∧ER V' bJ kO
 |
  [],V,ρ,bJ,kO,H',hS,hE,h=>by
  cases h
  exact⟨V,rfl,rfl,hS,EF.refl _ _,hE⟩
 |
  t::ts,V,ρ,bJ,kO,H',hS,hE,h=>by
  unfold aeY at h
  split at h
  case h_2=>cases h
  rename_i v hv
  obtain⟨k1,k2,k3,k4,k5,k6⟩:=vL (gZ depth V.H (ρ t)) hS
  have hx:=KM hS (G:=(V.dB (gZ depth V.H (ρ t))).F) (fun q hq=>k2.F q hq) depth (ρ t) v (kO t) (hE t) hv k6
  have Uy:VR (V.dB (gZ depth V.H (ρ t))) v (kO t):=hx.Dd (fun b hb=>⟨hb,by rw[k4]⟩)
  rw[←k3] at h
  obtain⟨V',g1,g2,g3,g4,g5⟩:=KR ts (kO:=kO) k1 (by
   have e:=(hE.mono k2.toUp).put (d:=some t) Uy
   have ee:put kO (some t) (kO t)=kO:=by
    funext k
    simp only[put]
    split
    ·rename_i hk;rw[hk]
    ·rfl
   rw[ee] at e
   exact e) h
  exact⟨V',g1.trans k4,g2,g3,k2.trans g4,g5⟩
theorem Q6 {V:View} (hS:SR V lo dZ) {ρ:dS} {kO:Env} (hE:ER V ρ kO) {K:dS→aA→Prop} (h:gh K ρ V.H):∃V' bJ,V'.P=V.P∧SR V' lo dZ∧EF lo V V'∧ER V' bJ kO∧K bJ V'.H:=by
 obtain⟨ts,bJ,H',h1,h2⟩:=h
 obtain⟨V',g1,g2,g3,g4,g5⟩:=KR ts hS hE h1
 exact⟨V',bJ,g1,g3,g4,g5,by rw[g2];exact h2⟩
theorem K6 {k:Nat} {es:List VV}:lO k es=true↔∀x∈es,below k x=true:=by
 induction es with
 | nil=>simp[lO]
 | cons x xs ih=>simp[lO,ih]
theorem C4 {k:Nat} {es:List VV} (h:lO k es=true):lO k (es.flatMap aB)=true:=by
 rw[K6] at h ⊢
 intro x hx
 obtain⟨y,hy,Ah⟩:=List.mem_flatMap.1 hx
 have:=h y hy
 unfold aB at Ah
 split at Ah
 ·exact K6.1 (by simpa[below] using this) x Ah
 ·rw[List.mem_singleton] at Ah;subst Ah;exact this
theorem Sa {k:Nat} {x:VV} (h:below k x=true):lO k (aB x)=true:=by
 have:=C4 (k:=k) (es:=[x]) (by simp[lO,h])
 simpa using this
def View.zF (V:View) (k:Nat):View:={ V with H:=V.H.take k }
theorem VR.zF {V:View} {k:Nat} (hk:k≤V.H.length) {x:VV} {v:Value} (h:VR V x v):PM.below k x=true→VR (V.zF k) x v:=by
 have he:∀ {b:Nat},b<k→∀y,(V.zF k).H[b]? = some y→V.H[b]? = some y:=fun VD y hy=>by
  have:(V.H.take k)[_]? = some y:=hy
  rw[List.getElem?_take,if_pos VD] at this
  exact this
 have hT:∀ {b:Nat} {y:cG},(V.zF k).H[b]? = some y→V.H[b]? = some y:=fun {b y} hy=>by
  have h:(V.H.take k)[b]? = some y:=hy
  rw[List.getElem?_take] at h
  split at h
  ·exact h
  ·cases h
 induction h using VR.rec (motive_2:=fun xs vs _=>lO k xs=true→VL (V.zF k) xs vs) with
 | any=>intro _;exact .any _
 | sc _ h=>intro _;exact .sc _ h
 | agg cs ps _ ih=>intro hb;exact .agg _ _ (ih hb)
 | eX cs ps _ ih=>intro hb;exact .eX _ _ (ih hb)
 | pH k hk=>intro _;exact .pH k hk
 | tree es k b o c r e p Uk uE ho hc he hk' _ ih=>intro hb;exact .tree es k b o c r e p Uk uE ho hc he hk' (ih (C4 hb))
 | cU x off b o r e p Uk uE ho _ ih=>intro hb;exact .cU x off b o r e p Uk uE ho (ih (Sa hb))
 |
  ref b g o n c a n' c' bH hg ha hq =>
  intro hb
  have VD:b<k:=by simpa[PM.below] using hb
  exact .ref b g o n c a n' c' (by show b<(V.H.take k).length;simp;omega) (fun g' es e w hr=>hg _ _ _ _ (he VD _ hr)) (fun es e w hr=>ha _ _ _ (he VD _ hr)) fun a0 h=>⟨(hq a0 h).1,(hq a0 h).2.1,fun b' g' es e w hr=>(hq a0 h).2.2 b' g' es e w (hT hr)⟩
 |
  ptr b g j off a bH hg ha hq =>
  intro hb
  have VD:b<k:=by simpa[PM.below] using hb
  exact .ptr b g j off a (by show b<(V.H.take k).length;simp;omega) (fun g' es e w hr=>hg _ _ _ _ (he VD _ hr)) (fun es e w hr=>ha _ _ _ (he VD _ hr)) fun a0 h=>⟨(hq a0 h).1,(hq a0 h).2.1,fun b' g' es e w hr=>(hq a0 h).2.2 b' g' es e w (hT hr)⟩
 | vB f fS ps _ ih=>intro hb;exact .vB _ _ _ (ih hb)
 | nil=>exact .nil
 |
  cons x v xs vs _ _ ih Tp =>
  rename_i hb
  simp only[lO,Bool.and_eq_true] at hb
  exact .cons _ _ _ _ (ih hb.1) (Tp hb.2)
theorem VL.zF {V:View} {k:Nat} (hk:k≤V.H.length) {xs:List VV} {vs:List Value} (h:VL V xs vs) (hb:lO k xs=true):VL (V.zF k) xs vs:=by
 induction xs generalizing vs with
 | nil=>cases h;exact .nil
 |
  cons x xs ih=>cases h with
  |
   cons _ v _ vs h hs =>
   simp only[lO,Bool.and_eq_true] at hb
   exact .cons _ _ _ _ (h.zF hk hb.1) (ih hs hb.2)
theorem Qt {V V':View} (hS:SR V' lo dZ) {ρ:dS} {kO:Env} (hE:ER V' ρ kO) (hx:EF lo V V') (hr:kH V.H.length (V'.H.take V.H.length)=true) :
  SR (V'.zF V.H.length) lo dZ∧EF lo V (V'.zF V.H.length)∧ER (V'.zF V.H.length) (HG V.H.length ρ) kO:=by
 have hk:=hx.len
 have get:∀ {b:Nat} {y:cG},(V'.zF V.H.length).H[b]? = some y→V'.H[b]? = some y:=by
  intro b y h
  have h:(V'.H.take V.H.length)[b]? = some y:=h
  rw[List.getElem?_take] at h
  split at h
  ·exact h
  ·cases h
 refine⟨⟨fun b g es e w hb => ?_,fun b g es e hb=>hS.wr b g es e (get hb),fun a b g es e w g' mQ e' w' ha hb hm=>hS.inj a b _ _ _ _ _ _ _ _ (get ha) (get hb) hm,hS.fr,hS.S5,hS.JT⟩,
  { F:=hx.F,P:=hx.P,len:=by show V.H.length≤(V'.H.take V.H.length).length;simp;omega,row:=fun b g es e w bH hb=>hx.row b g es e w bH (get hb),JT:=hx.JT,D4:=hx.D4,Bh:=fun b g es e w hb hm=>hx.Bh b g es e w (get hb) hm,cK:=hx.cK,Cl:=hx.Cl },fun t => ?_⟩
 ·obtain⟨r,p,h1,h2,h3⟩:=hS.row b g es e w (get hb)
  refine⟨r,p,h1,h2,h3.zF hk (C4 ?_)⟩
  have:=List.all_eq_true.1 hr _ (List.mem_of_getElem? (show (V'.H.take V.H.length)[b]? = some _ from hb))
  exact this
 ·unfold HG IF
  split
  ·rename_i hb
   exact(hE t).zF hk hb
  ·exact .any _
theorem SL {c:aD} {Q:Ex→Env→aE→Prop} {ρ:Env} {H:aE} (h:W dZ c (arS (fun bJ H'=>W dZ (.loop c) Q bJ H') Q) ρ H):W dZ (.loop c) Q ρ H:=by
 obtain⟨x,bJ,H',h1,h2⟩:=h
 unfold W
 rw[Yc,h1]
 cases x with
 |
  normal =>
  obtain⟨y,D5,H'',h3,h4⟩:=h2
  exact⟨y,D5,H'',h3,h4⟩
 | exit i=>exact⟨_,_,_,rfl,h2⟩
 | ret=>exact⟨_,_,_,rfl,h2⟩
theorem uO {fl:Fl}:∀(c:aD) {V:View} {ρ:dS} {kO:Env} {Q:VQ},SR V lo dZ→ER V ρ kO→VW fl lo c Q ρ V.H→zZ lo dZ V c Q kO
 |
  .skip,V,ρ,kO,Q,hS,hE,h=>by
  unfold zZ
  rw[ajO]
  exact⟨V,ρ,rfl,hS,EF.refl _ _,hE,h⟩
 |
  .exit id,V,ρ,kO,Q,hS,hE,h=>by
  unfold zZ
  rw[amW]
  exact⟨V,ρ,rfl,hS,EF.refl _ _,hE,h⟩
 |
  .ret,V,ρ,kO,Q,hS,hE,h=>by
  unfold zZ
  rw[aoS]
  exact⟨V,ρ,rfl,hS,EF.refl _ _,hE,h⟩
 |
  .dG ops,V,ρ,kO,Q,hS,hE,h=>by
  unfold zZ
  rw[aoY]
  exact KA ops hS hE h
 |
  .seq a b,V,ρ,kO,Q,hS,hE,h=>by
  unfold zZ
  rw[aqL]
  refine(uO a hS hE h).mono ?_
  rintro x MP P' ⟨V',bJ,rfl,g2,g3,g4,g5⟩
  cases x with
  |
   normal =>
   refine(uO b g2 g4 g5).mono ?_
   rintro y Vb W5 ⟨Rf,D5,k1,k2,k3,k4,k5⟩
   exact⟨Rf,D5,k1,k2,g3.trans k3,k4,k5⟩
  | exit i=>exact⟨V',bJ,rfl,g2,g3,g4,g5⟩
  | ret=>exact⟨V',bJ,rfl,g2,g3,g4,g5⟩
 |
  .cond c a b,V,ρ,kO,Q,hS,hE,h=>by
  unfold zZ
  rw[amE]
  unfold VW at h
  split at h
  ·rename_i t hc
   obtain⟨e,_⟩:=rB (hE.ev c) hc
   refine⟨t,e,fun ht => ?_,fun ht => ?_⟩
   ·rw[if_pos ht] at h
    exact uO a hS hE h
   ·rw[if_neg (by simp[ht])] at h
    exact uO b hS hE h
  ·cases h
 |
  .block id a,V,ρ,kO,Q,hS,hE,h=>by
  unfold zZ
  rw[afY]
  refine(uO a hS hE h).mono ?_
  rintro x MP P' ⟨V',bJ,rfl,g2,g3,g4,g5⟩
  cases x with
  | normal=>exact⟨V',bJ,rfl,g2,g3,g4,g5⟩
  |
   exit i =>
   rw[HU]
   have g5:if i=id then Q .normal bJ V'.H else Q (.exit i) bJ V'.H:=g5
   split at g5
   ·rename_i hi
    rw[if_pos hi]
    exact⟨V',bJ,rfl,g2,g3,g4,g5⟩
   ·rename_i hi
    rw[if_neg hi]
    exact⟨V',bJ,rfl,g2,g3,g4,g5⟩
  | ret=>exact⟨V',bJ,rfl,g2,g3,g4,g5⟩
 |
  .loop a,V,ρ,kO,Q,hS,hE,h=>by
  obtain⟨n,h⟩:=h
  have key:∀n {V:View} {ρ:dS} {kO:Env},SR V lo dZ→ER V ρ kO→R8 (VW fl lo a) (fun x=>gh (Q x)) n ρ V.H→zZ lo dZ V (.loop a) Q kO:=by
   intro n
   induction n with
   | zero=>intro V ρ kO _ _ h;cases h
   |
    succ n ih =>
    intro V ρ kO hS hE h
    unfold zZ
    refine SL ?_
    refine(uO a hS hE h).mono ?_
    rintro x MP P' ⟨V',bJ,rfl,g2,g3,g4,g5⟩
    cases x with
    |
     normal =>
     rcases g5 with g5 | ⟨g5,g6⟩
     ·refine(ih g2 g4 g5).mono ?_
      rintro y Vb W5 ⟨Rf,D5,k1,k2,k3,k4,k5⟩
      exact⟨Rf,D5,k1,k2,g3.trans k3,k4,k5⟩
     ·obtain⟨t1,t2,t3⟩:=Qt g2 g4 g3 g5
      refine(ih t1 t3 g6).mono ?_
      rintro y Vb W5 ⟨Rf,D5,k1,k2,k3,k4,k5⟩
      exact⟨Rf,D5,k1,k2,t2.trans k3,k4,k5⟩
    |
     exit i =>
     obtain⟨Rf,D5,k1,k2,k3,k4,k5⟩:=Q6 g2 g4 g5
     exact⟨Rf,D5,k1,k2,g3.trans k3,k4,k5⟩
    |
     ret =>
     obtain⟨Rf,D5,k1,k2,k3,k4,k5⟩:=Q6 g2 g4 g5
     exact⟨Rf,D5,k1,k2,g3.trans k3,k4,k5⟩
  exact key n hS hE h
theorem vW {V:View} (hS:SR V lo dZ) {ρ:dS} {kO:Env} (hE:ER V ρ kO) {res:List A1} {v:VV} (h:nS res ρ V.H=some v):∃pv,qQ res kO V.P=some pv∧VR V v pv:=by
 have one:∀ {r:A1} {v:VV},EE ρ V.H r=some v→∃pv,Vm kO V.P r=some pv∧VR V v pv:=by
  intro r v h
  cases r with
  | tmp t=>cases h;exact⟨_,rfl,hE t⟩
  | cell t agg size=>exact Kv hS (hE t) h
 have all:∀ {rs:List A1} {vs:List VV},qM ρ V.H rs=some vs→∃ps,Bt kO V.P rs=some ps∧VL V vs ps:=by
  intro rs
  induction rs with
  | nil=>intro vs h;cases h;exact⟨[],rfl,.nil⟩
  |
   cons r rs ih =>
   intro vs h
   unfold qM at h
   split at h
   ·rename_i v vs' h1 h2
    cases h
    obtain⟨pv,k1,k2⟩:=one h1
    obtain⟨ps,k3,k4⟩:=ih h2
    exact⟨pv::ps,by unfold Bt;rw[k1,k3],.cons _ _ _ _ k2 k4⟩
   ·cases h
 unfold nS at h
 split at h
 ·rename_i v' hv
  cases h
  obtain⟨ps,k1,k2⟩:=all hv
  cases k2 with
  |
   cons _ pv _ _ hx PA =>
   cases PA
   exact⟨pv,by unfold qQ;rw[k1],hx⟩
 ·rename_i vs fC hv
  cases h
  obtain⟨ps,k1,k2⟩:=all hv
  refine⟨.tuple ps.toArray,?_,.eX _ _ k2⟩
  unfold qQ
  rw[k1]
  split
  ·rename_i pv he
   injection he with he
   subst he
   cases k2 with
   | cons x _ _ _ hx PA=>cases PA;exact absurd rfl (fC x)
  ·rename_i he
   injection he with he
   rw[he]
  ·rename_i he;cases he
 ·cases h
theorem Rt {V:View} {args:List VV} {eG:List Value} (h:VL V args eG):ER V (Ja args) (X5 eG):=by
 intro t
 unfold Ja X5
 rw[List.getD_eq_getElem?_getD,List.getD_eq_getElem?_getD]
 cases hx:args[t]? with
 |
  none =>
  have:eG[t]? = none:=by
   rw[List.getElem?_eq_none_iff] at hx ⊢
   rw[h.length]
   exact hx
  rw[this]
  exact .eX [] [] .nil
 |
  some x =>
  obtain⟨v,h1,h2⟩:=h.get hx
  rw[h1]
  exact h2
theorem gQ.walk {f:Nat} {pf:aR} {args:List VV} {H:aA} {K:VV→aA→Prop} (fl:Fl) (ht:fV f=some pf) (ha:args.length≤pf.ntmps) (h:VW fl lo pf.body (AW pf.res K) (Ja args) H):gQ f args lo H K:=by
 intro V dZ eG hH hS hl
 subst hH
 obtain⟨x,MP,P',h1,V',bJ,rfl,g2,g3,g4,g5⟩:=uO pf.body hS (Rt hl) h
 have key:∃pv W5,qU f eG dZ V.P=some (pv,W5)∧W5=V'.P∧∃r,VR V' r pv∧K r V'.H:=by
  refine Zz ht (by rw[hl.length];exact ha) ?_
  refine⟨x,MP,V'.P,h1,?_⟩
  cases x with
  | exit i=>exact g5.elim
  |
   normal =>
   simp only[AW,Ge] at g5
   split at g5
   ·rename_i v hv
    obtain⟨pv,k2,k3⟩:=vW g2 g4 hv
    exact⟨pv,k2,rfl,v,k3,g5⟩
   ·cases g5
  |
   ret =>
   simp only[AW,Ge] at g5
   split at g5
   ·rename_i v hv
    obtain⟨pv,k2,k3⟩:=vW g2 g4 hv
    exact⟨pv,k2,rfl,v,k3,g5⟩
   ·cases g5
 obtain⟨pv,W5,k1,rfl,r,k2,k3⟩:=key
 exact⟨pv,V',r,k1,g2,g3,k2,k3⟩
theorem VT.walk {f:Nat} {pf:aR} {args:List VV} {r:VV} (fl:Fl) (ht:fV f=some pf) (ha:args.length≤pf.ntmps) (h:VW fl 0 pf.body (AW pf.res fun v H=>fz depth H v=some r) (Ja args) []):VT f args r:=by
 intro F P eG dZ hF hl agH
 have hS:SR (bare F P) 0 dZ:=⟨fun b g es e w hb=>by simp[bare] at hb,fun b g es e hb=>by simp[bare] at hb,fun a b g es e w g' mQ e' w' ha=>by simp[bare] at ha,hF,agH,Nat.zero_le _⟩
 obtain⟨x,MP,P',h1,V',bJ,rfl,g2,g3,g4,g5⟩:=uO pf.body hS (Rt hl) h
 have fin:∀ {v:VV} {pv:Value},VR V' v pv→fz depth V'.H v=some r→VR (bare (fun q=>F q∨(P.length≤q∧q<V'.P.length)) V'.P) r pv:=by
  intro v pv hv hf
  refine KM g2 (fun q hq => ?_) depth v r pv hv hf fun i _ g es e w hr => ?_
  ·rcases g3.Cl q hq with h | h | ⟨b,g,es,e,w,h,_⟩
   ·exact .inl h
   ·exact .inr ⟨h,g2.fr q hq⟩
   ·simp[bare] at h
  ·rcases Nat.lt_or_ge (V'.m i) P.length with bH | Eh
   ·obtain⟨g0,es0,w0,k1,_⟩:=g3.Bh i g es e w hr bH
    simp[bare] at k1
   ·exact .inr ⟨Eh,g2.mlt hr⟩
 have key:∃pv W5,qU f eG dZ P=some (pv,W5)∧W5=V'.P∧VR (bare (fun q=>F q∨(P.length≤q∧q<V'.P.length)) V'.P) r pv:=by
  refine Zz ht (by rw[hl.length];exact ha) ?_
  refine⟨x,MP,V'.P,h1,?_⟩
  cases x with
  | exit i=>exact g5.elim
  |
   normal =>
   simp only[AW,Ge] at g5
   split at g5
   ·rename_i v hv
    obtain⟨pv,k2,k3⟩:=vW g2 g4 hv
    exact⟨pv,k2,rfl,fin k3 g5⟩
   ·cases g5
  |
   ret =>
   simp only[AW,Ge] at g5
   split at g5
   ·rename_i v hv
    obtain⟨pv,k2,k3⟩:=vW g2 g4 hv
    exact⟨pv,k2,rfl,fin k3 g5⟩
   ·cases g5
 obtain⟨pv,W5,k1,rfl,k3⟩:=key
 refine⟨V'.P,pv,k1,?_,k3⟩
 refine⟨V'.P.drop P.length,List.ext_getElem? fun i => ?_⟩
 rcases Nat.lt_or_ge i P.length with hi | hi
 ·rw[List.getElem?_append_left hi]
  exact(g3.cK i hi fun b g es e hb=>by simp[bare] at hb).symm
 ·rw[List.getElem?_append_right hi,List.getElem?_drop,show P.length+(i-P.length)=i by omega]
end
end Go.PM
namespace Go.PM
section
variable {fl:Fl} {lo:Nat} {ρ:dS} {H:aA} {Q:VQ} {K:dS→aA→Prop} {k:VV→aA→Prop} {a b:aD} {d:Option Nat} {is:List PI} {q:Bool} {op:nO}
def Rv (fl:Fl) (lo:Nat) (d:Option Nat) (is:List PI) (K:dS→aA→Prop) (ρ:dS):VV→aA→Prop:=fun v H'=>VS fl lo is K (JD ρ d v) H'
def P6 (r:Option (VV×aA)) (k:VV→aA→Prop):Prop:=match r with
 | some (v,H')=>k v H'
 | none=>False
theorem N2 {v:VV} {H':aA}:Rv fl lo d is K ρ v H'=VS fl lo is K (JD ρ d v) H':=rfl
theorem Qu {v:VV}:JR (some v) H k=k v H:=rfl
theorem Ny {v:VV} {H':aA}:P6 (some (v,H')) k=k v H':=rfl
theorem aeV {r:VV} {K:VV→Prop}:tk (some r) K=K r:=rfl
theorem VM:VW fl lo .skip Q ρ H=Q .normal ρ H:=rfl
theorem U7 {i:Nat}:VW fl lo (.exit i) Q ρ H=Q (.exit i) ρ H:=rfl
theorem abU:VW fl lo .ret Q ρ H=Q .ret ρ H:=rfl
theorem abO {ops:List PI}:VW fl lo (.dG ops) Q ρ H=VS fl lo ops (Q .normal) ρ H:=rfl
theorem ZW:VW fl lo (.seq a b) Q ρ H=VW fl lo a (nB (VW fl lo b Q) Q) ρ H:=rfl
theorem Qx {i:Nat}:VW fl lo (.block i a) Q ρ H=VW fl lo a (zR i Q) ρ H:=rfl
theorem Vl {c:Operand} {t:Bool} (h:eH ρ c = .sc (.bool t)):VW fl lo (.cond c a b) Q ρ H=if t=true then VW fl lo a Q ρ H else VW fl lo b Q ρ H:=by
 simp only[VW,h]
theorem BU:nB K Q .normal=K:=rfl
theorem Ej {i:Nat}:nB K Q (.exit i)=Q (.exit i):=rfl
theorem Gx:nB K Q .ret=Q .ret:=rfl
theorem Ec {i:Nat}:zR i Q .normal=Q .normal:=rfl
theorem C2 {i j:Nat}:zR i Q (.exit j) ρ H=if j=i then Q .normal ρ H else Q (.exit j) ρ H:=rfl
theorem K9 {i:Nat}:zR i Q .ret=Q .ret:=rfl
theorem Gm {res:List A1} {R:VV→aA→Prop}:AW res R .normal ρ H=Ge R (nS res ρ H) H:=rfl
theorem Oy {res:List A1} {R:VV→aA→Prop}:AW res R .ret ρ H=Ge R (nS res ρ H) H:=rfl
theorem Ms {R:VV→aA→Prop} {v:VV}:Ge R (some v) H=R v H:=rfl
theorem SV {t:Nat}:nS [.tmp t] ρ H=some (ρ t):=rfl
theorem QC {t u:Nat}:nS [.tmp t,.tmp u] ρ H=some (.eX [ρ t,ρ u]):=rfl
theorem Kt {t u v:Nat}:nS [.tmp t,.tmp u,.tmp v] ρ H=some (.eX [ρ t,ρ u,ρ v]):=rfl
theorem NI:nS [] ρ H=some (.eX []):=rfl
theorem aaF:VS fl lo [] K ρ H=K ρ H:=rfl
theorem ahK:VS fl lo (⟨d,op,none,q,[]⟩::is) K ρ H=eE fl lo q op ρ H (Rv fl lo d is K ρ):=by
 simp only[VS,Bq,List.all_nil,true_and]
 rfl
theorem Eo {c:Operand×Operand} {cs:List (Operand×Operand)}:VS fl lo (⟨d,op,none,q,c::cs⟩::is) K ρ H=((c::cs).all (tX ρ H)=true∧eE fl lo q op ρ H (Rv fl lo d is K ρ)):=by
 simp only[VS,Bq]
 rfl
theorem RI {t:Nat} {want x:Bool} {cf:List (Operand×Operand)} (h:ρ t = .sc (.bool x)):VS fl lo (⟨d,op,some (t,want),q,cf⟩::is) K ρ H =
  if (x == want)=true then (cf.all (tX ρ H)=true∧eE fl lo q op ρ H (Rv fl lo d is K ρ)) else VS fl lo is K (JD ρ d pU) H:=by
 simp only[VS,Bq,h]
 cases (x == want)<;>rfl
theorem acT {t:Nat} {want:Bool} (h:ρ t = .sc (.bool want)):VS fl lo (⟨d,op,some (t,want),q,[]⟩::is) K ρ H=eE fl lo q op ρ H (Rv fl lo d is K ρ):=by
 rw[RI h]
 simp
theorem aiL {t:Nat} {want:Bool} {cf:List (Operand×Operand)} (h:ρ t = .sc (.bool (!want))):VS fl lo (⟨d,op,some (t,want),q,cf⟩::is) K ρ H=VS fl lo is K (JD ρ d pU) H:=by
 rw[RI h]
 cases want<;>rfl
theorem Wi {c:Operand} (h:eH ρ c = .sc (.bool true)):VW fl lo (.cond c a b) Q ρ H=VW fl lo a Q ρ H:=by
 rw[Vl h,if_pos rfl]
theorem Q9 {c:Operand} (h:eH ρ c = .sc (.bool false)):VW fl lo (.cond c a b) Q ρ H=VW fl lo b Q ρ H:=by
 rw[Vl h,if_neg (by decide)]
theorem IA {t:Nat} {want:Bool} {cf:List (Operand×Operand)} (h:ρ t=pU):VS fl lo (⟨d,op,some (t,want),q,cf⟩::is) K ρ H=VS fl lo is K (JD ρ d pU) H:=by
 simp only[VS,Bq,h,pU]
theorem uP {d t:Nat} {v:VV}:JD ρ (some d) v t=if t=d then v else ρ t:=rfl
theorem OE {v:VV}:JD ρ none v=ρ:=rfl
theorem Vs {t:Nat}:eH ρ (.tmp t)=ρ t:=rfl
theorem OD {v:Value}:eH ρ (.const v)=inj v:=rfl
theorem Q3 {f:Nat}:eH ρ (.func f) = .vB f []:=rfl
theorem VU {k:IntKind} {n:Int}:inj (.int k n) = .sc (.int k n):=rfl
theorem Ro {t:Bool}:inj (.bool t) = .sc (.bool t):=rfl
theorem UX {s:ByteArray}:inj (.string s) = .sc (.string s):=rfl
theorem Wl:inj (.slice none 0 0) = .tree [] .nil:=rfl
theorem VF {cs:Array Value}:inj (.agg cs) = .agg (cs.toList.map jK):=rfl
theorem QK {k:IntKind} {n:Int}:jK (.int k n) = .sc (.int k n):=rfl
theorem ON {t:Bool}:jK (.bool t) = .sc (.bool t):=rfl
theorem QT {s:ByteArray}:jK (.string s) = .sc (.string s):=rfl
theorem SA:jK (.slice none 0 0) = .tree [] .nil:=rfl
theorem YT {x:Operand}:eE fl lo q (.mv x) ρ H k=k (eH ρ x) H:=rfl
theorem hC {r:Option VV}:(match r.map (fun v=>(v,H)) with | some (v,H')=>k v H' | none=>False)=JR r H k:=by cases r<;>rfl
theorem R6 {c x y:Operand}:eE fl lo q (.pick c x y) ρ H k=JR (Qr (eH ρ c) (eH ρ x) (eH ρ y)) H k:=hC
theorem Vq {o:BinOp} {x y:Operand}:eE fl lo q (.bin o x y) ρ H k=JR (HW (dH o) (eH ρ x) (eH ρ y)) H k:=hC
theorem Vi {n:Bool} {x y:Operand}:eE fl lo q (.eqb n x y) ρ H k=JR (HW (MY n) (eH ρ x) (eH ρ y)) H k:=hC
theorem OK {n:Bool} {x:Operand}:eE fl lo q (.isnil n x) ρ H k=JR (Fx n (eH ρ x) H) H k:=hC
theorem Og {n:Bool} {ks:List CK} {x y:Operand}:eE fl lo q (.eqagg n ks x y) ρ H k=JR (Tx n ks (eH ρ x) (eH ρ y)) H k:=hC
theorem ZH {o:UnOp} {x:Operand}:eE fl lo q (.un o x) ρ H k=JR (Mv (pun o) (eH ρ x)) H k:=hC
theorem UY {o:IntKind} {x:Operand}:eE fl lo q (.cvt o x) ρ H k=JR (Mv (T6 o) (eH ρ x)) H k:=hC
theorem UU {x:Operand}:eE fl lo q (.cvs x) ρ H k=JR (Mv Xx (eH ρ x)) H k:=hC
theorem UZ {x:Operand} {i:Nat}:eE fl lo q (.ext x i) ρ H k=JR (Zm i (eH ρ x)) H k:=hC
theorem U2 {g:Bool} {off size:Nat} {x:Operand}:eE fl lo q (.fld g off size x) ρ H k=JR (agW g off size (eH ρ x)) H k:=hC
theorem NM {z:List Value} {places:List (Nat×Nat)} {parts:List (Nat×Operand)}:eE fl lo q (.build z places parts) ρ H k=JR ((wV places (z.map jK) (parts.map fun(i,x)=>(i,eH ρ x))).map .agg) H k:=by
 show (match (wV places (z.map jK) (parts.map fun(i,x)=>(i,eH ρ x))).map fun cs=>(VV.agg cs,H) with | some (v,H')=>k v H' | none=>False)=_
 cases wV places (z.map jK) (parts.map fun(i,x)=>(i,eH ρ x))<;>rfl
theorem Wp {x:Operand}:eE fl lo q (.chk x) ρ H k=JR (WR (eH ρ x) H) H k:=hC
theorem OF {off:Nat} {x:Operand}:eE fl lo q (.faddr off x) ρ H k=JR (HH off (eH ρ x) H) H k:=hC
theorem NL {size:Nat} {x i:Operand}:eE fl lo q (.iaddr size x i) ρ H k=JR (bK size (eH ρ x) (eH ρ i) H) H k:=hC
theorem RY {x i:Operand}:eE fl lo q (.sidx x i) ρ H k=JR (HW FQ (eH ρ x) (eH ρ i)) H k:=hC
theorem Se {x:Operand} {l h:Option Operand}:eE fl lo q (.ssub x l h) ρ H k=JR (uL (eH ρ x) (l.map (eH ρ)) (h.map (eH ρ))) H k:=hC
theorem QI {f:Nat} {fS:List Operand}:eE fl lo q (.mkfn f fS) ρ H k=k (.vB f (fS.map (eH ρ))) H:=rfl
theorem Wb {x:Operand}:eE fl lo q (.len x) ρ H k=JR (oK (eH ρ x) H) H k:=hC
theorem Sc {x:Operand}:eE fl lo q (.slen x) ρ H k=JR (Mv zN (eH ρ x)) H k:=hC
theorem Vw {x y:Operand}:eE fl lo q (.min x y) ρ H k=JR (HW QP (eH ρ x) (eH ρ y)) H k:=hC
theorem Ww {x y:Operand}:eE fl lo q (.max x y) ρ H k=JR (HW Sm (eH ρ x) (eH ρ y)) H k:=hC
theorem RD {g:Bool} {size:Nat} {p:Operand}:eE fl lo q (.load g size p) ρ H k=JR (cE g size (eH ρ p) H) H k:=hC
theorem Vo {size:Nat} {x:Operand} {l h m:Option Operand}:eE fl lo q (.sub size x l h m) ρ H k=JR (Fu size (eH ρ x) (l.map (eH ρ)) (h.map (eH ρ)) (m.map (eH ρ)) H) H k:=hC
theorem Wa {z:List Value}:eE fl lo q (.new z) ρ H k=P6 (if (z.map jK).all bP then some (.ptr H.length 0 0 0,H++[.row 0 [elemOf (z.map jK)] z.length true]) else none) k:=rfl
theorem Wc {x:Operand}:eE fl lo q (.box x) ρ H k=P6 (if (aB (eH ρ x)).all bP then (if fl.bf then some (.cU (eH ρ x) 0,H) else some (.ptr H.length 0 0 0,H++[.row 0 [eH ρ x] (aB (eH ρ x)).length true])) else none) k:=rfl
theorem Q7 {z:List Value} {bytes:Nat} {l c:Operand}:eE fl lo q (.make z bytes l c) ρ H k=P6 (if (z.map jK).all bP then An z bytes (eH ρ l) (eH ρ c) H else none) k:=rfl
theorem VN {z:List Value} {n:Nat} {parts:List (Nat×Operand)}:eE fl lo q (.lit z n parts) ρ H k=P6 (jQ fl.lr z n (parts.map fun(i,x)=>(i,eH ρ x)) H) k:=rfl
def We (r:Option aA) (k:VV→aA→Prop):Prop:=match r with
 | some H'=>k pU H'
 | none=>False
theorem L6 {H':aA}:We (some H') k=k pU H':=rfl
theorem NW {r:Option aA}:(match r.map (fun H'=>(pU,H')) with | some (v,H')=>k v H' | none=>False)=We r k:=by cases r<;>rfl
theorem Of {size:Nat} {p v:Operand}:eE fl lo q (.store size p v) ρ H k=We (bQ lo size (eH ρ p) (eH ρ v) H) k:=NW
def aqC (lo size bytes:Nat) (x:VV) (new:Option (List VV)) (H:aA) (k:VV→aA→Prop):Prop:=match new with
 | some new=>P6 (eJ lo size bytes x new H) k
 | none=>False
theorem NN {size bytes:Nat} {x:VV} {new:List VV}:aqC lo size bytes x (some new) H k=P6 (eJ lo size bytes x new H) k:=rfl
theorem Wd {size bytes:Nat} {x y:Operand}:eE fl lo q (.app size bytes x y) ρ H k=aqC lo size bytes (eH ρ x) (cT size (eH ρ y) H) H k:=by
 show (match (match cT size (eH ρ y) H with | some new=>eJ lo size bytes (eH ρ x) new H | none=>none) with | some (v,H')=>k v H' | none=>False)=_
 cases cT size (eH ρ y) H<;>rfl
theorem Sj {size:Nat} {x y:Operand}:eE fl lo q (.copy size x y) ρ H k=P6 (ID lo size (eH ρ x) (eH ρ y) H) k:=rfl
theorem On {z:List Value} {x:Operand}:eE fl lo q (.clear z x) ρ H k=We (Pb lo z (eH ρ x) H) k:=NW
theorem RJ {f:Nat} {args:List Operand}:eE fl lo q (.call f args) ρ H k=cQ f (args.map (eH ρ)) (if q then H.length else lo) H k:=rfl
noncomputable def T4 (x:VV) (args:List VV) (lo:Nat) (H:aA) (k:VV→aA→Prop):Prop:=match x with
 | .vB f fS=>cQ f (args++fS) lo H k
 | _=>False
theorem Ky {f:Nat} {fS args:List VV}:T4 (.vB f fS) args lo H k=cQ f (args++fS) lo H k:=rfl
theorem Nl {fv:Operand} {args:List Operand}:eE fl lo q (.callv fv args) ρ H k=T4 (eH ρ fv) (args.map (eH ρ)) (if q then H.length else lo) H k:=by
 simp only[eE,T4]
 all_goals (cases eH ρ fv<;>rfl)
theorem Pq {x:Operand}:eE fl lo q (.b2s x) ρ H k=P6 (vop fl lo (.b2s x) ρ H) k:=rfl
theorem U1 {f:Value→Option Value} {x:Value}:Mv f (.sc x)=(f x).map .sc:=rfl
theorem Wq {f:Value→Value→Option Value} {x y:Value}:HW f (.sc x) (.sc y)=(f x y).map .sc:=rfl
theorem RC {t:Bool} {x y:VV}:Qr (.sc (.bool t)) x y=some (if t=true then x else y):=rfl
theorem QV {vs:List VV} {i:Nat}:Zm i (.eX vs)=vs[i]? := rfl
theorem Ol {es:List VV} {t:TK}:oK (.tree es t) H=some (.sc (.int .i64 es.length)):=rfl
theorem fL {b g o n c:Nat} {r:List VV×Nat×Bool} (h:aH H b g=some r):oK (.ref b g o n c) H=some (.sc (.int .i64 n)):=by
 simp only[oK,h,Option.map_some]
theorem QB {x:VV} {o off:Nat}:HH off (.cU x o) H=some (.cU x (o+off)):=rfl
theorem Zf {x:VV} {o:Nat}:WR (.cU x o) H=some (.cU x o):=rfl
theorem JS {g:Bool} {size o:Nat} {x:VV}:cE g size (.cU x o) H=dC g size x o:=rfl
theorem OT {g:Bool} {size b gn j o:Nat} {es:List VV} {e:Nat} {w:Bool} {x:VV} (h:aH H b gn=some (es,e,w)) (hx:es[j]? = some x):cE g size (.ptr b gn j o) H=dC g size x o:=by
 simp only[cE,h,hx]
theorem YM {size:Nat} {v:Value}:dC false size (.sc v) 0=some (.sc v):=rfl
theorem Wn {size:Nat} {es:List VV} {t:TK}:dC false size (.tree es t) 0=some (.tree es t):=rfl
theorem abM {size b g o n c:Nat}:dC false size (.ref b g o n c) 0=some (.ref b g o n c):=rfl
theorem acM {size f:Nat} {fS:List VV}:dC false size (.vB f fS) 0=some (.vB f fS):=rfl
theorem PU {size o:Nat} {cs:List VV}:dC false size (.agg cs) o=cs[o]? := rfl
theorem ZD {size:Nat} {cs:List VV} (h:cs.length=size):dC true size (.agg cs) 0=some (.agg cs):=by
 subst h
 simp[dC,aB]
theorem Zj {size:Nat} {es:List VV} {t:TK} {kk:IntKind} {i:Int} {x:VV} (h0:0≤i) (hx:es[i.toNat]? = some x) (hs:(aB x).length=size):bK size (.tree es t) (.sc (.int kk i)) H=some (.cU x 0):=by
 simp only[bK,h0,hx,hs,if_true]
theorem XT {size:Nat} {es:List VV} {t:TK} {kk:IntKind} {i:Nat} {x:VV} (hx:es[i]? = some x) (hs:(aB x).length=size):bK size (.tree es t) (.sc (.int kk (i:Int))) H=some (.cU x 0) :=
 Zj (by omega) (by simpa using hx) hs
theorem aaL {size b g o n c:Nat} {kk:IntKind} {i:Int} {es:List VV} {w:Bool} (h:aH H b g=some (es,size,w)) (h0:0≤i) (h1:i<n):bK size (.ref b g o n c) (.sc (.int kk i)) H=some (.ptr b g (o+i.toNat) 0):=by
 simp only[bK,h]
 rw[if_pos ⟨trivial,h0,h1⟩]
theorem XJ {size b g o n c:Nat} {kk:IntKind} {i:Nat} {es:List VV} {w:Bool} (h:aH H b g=some (es,size,w)) (h1:i<n):bK size (.ref b g o n c) (.sc (.int kk (i:Int))) H=some (.ptr b g (o+i) 0):=by
 rw[aaL h (by omega) (by omega),Int.toNat_natCast]
abbrev TC (f:Nat) (args:List VV) (r:VV):Prop:=∀(lo:Nat) (H:aA) (k:VV→aA→Prop),cQ f args lo H k=k r H
theorem TC.of {f:Nat} {args:List VV} {r:VV} (hr:Ci.contains f=false) (ha:aM args=true) (h:vT f args=some r):TC f args r:=by
 intro lo H k
 unfold cQ Gf
 simp only[hr,ha,if_true,h,Bool.false_eq_true,if_false,aeV]
theorem TC.walk {f:Nat} {pf:aR} {args:List VV} {r:VV} (fl:Fl) (ht:fV f=some pf) (hr:Ci.contains f=false) (hn:args.length≤pf.ntmps) (ha:aM args=true) (UO:iD r=true) (h:VW fl 0 pf.body (AW pf.res fun v H=>fz depth H v=some r) (Ja args) []):TC f args r :=
 TC.of hr ha (ahY ha UO (VT.walk fl ht hn h))
theorem TC.De {f:Nat} {args iH:List VV} {r:VV} (h:TC f iH r) (hr:Ci.contains f=false) (ha':aM iH=true) (hf:args.mapM (fz depth H)=some iH) (ha:aM args=false):cQ f args lo H k=if KU r=true then k r H else k r (dB H (args.flatMap (gZ depth H))):=by
 have e:∀K,Gf f iH K=K r:=fun K=>by
  have:=h 0 [] fun r _=>K r
  unfold cQ at this
  simpa only[hr,ha',if_true,Bool.false_eq_true,if_false] using this
 unfold cQ
 simp only[hr,ha,hf,Bool.false_eq_true,if_false]
 rw[e]
theorem aJ {n:Nat} {v:VV} (h:aP v=true):fz (n+1) H v=some v:=by
 unfold PM.fz
 rw[if_pos h]
theorem aI {v:VV} (h:aP v=true):fz depth H v=some v:=aJ h
theorem mapM_pure {n:Nat}:∀ {es:List VV},aM es=true→es.mapM (PM.fz (n+1) H)=some es
 | [],_=>rfl
 |
  x::xs,h=>by
  simp only[aM,Bool.and_eq_true] at h
  rw[List.mapM_cons,aJ h.1,mapM_pure h.2]
  rfl
theorem Kn {b g n c e:Nat} {es:List VV} {w:Bool} (h:aH H b g=some (es,e,w)) (hn:n=es.length) (hc:n≤c) (hp:aM es=true):fz depth H (.ref b g 0 n c)=some (.tree es .op):=by
 have:aP (.ref b g 0 n c)=false:=rfl
 show fz (7+1) H _=_
 unfold PM.fz
 simp only[this,h,Bool.false_eq_true,if_false]
 subst hn
 rw[if_pos ⟨by omega,hc⟩,List.drop_zero,List.take_length,mapM_pure hp]
 rfl
theorem Fz {n:Nat} {v:VV} (h:aP v=true):gZ n H v=[]:=by
 cases n with
 | zero=>rfl
 | succ n=>unfold gZ;rw[if_pos h]
theorem wA {n:Nat}:∀ {es:List VV},aM es=true→es.flatMap (gZ n H)=[]
 | [],_=>rfl
 |
  x::xs,h=>by
  simp only[aM,Bool.and_eq_true] at h
  rw[List.flatMap_cons,Fz h.1,wA h.2]
  rfl
theorem NQ {b g n c e:Nat} {es:List VV} {w:Bool} (h:aH H b g=some (es,e,w)) (hn:n=es.length) (hp:aM es=true):gZ depth H (.ref b g 0 n c)=[b]:=by
 have:aP (.ref b g 0 n c)=false:=rfl
 show gZ (7+1) H _=_
 unfold gZ
 simp only[this,h,Bool.false_eq_true,if_false]
 subst hn
 rw[List.drop_zero,List.take_length,wA hp]
theorem U5 {r:Option VV} {K K':VV→Prop} (hk:∀v,K v→K' v) (h:tk r K):tk r K':=by
 cases r with
 | none=>exact h
 | some v=>exact hk _ h
theorem II {f:Nat} {args:List VV} {k k':VV→aA→Prop} (hk:∀v H,k v H→k' v H) (h:cQ f args lo H k):cQ f args lo H k':=by
 unfold cQ at h ⊢
 split at h
 ·rename_i h1
  rw[if_pos h1]
  exact h.mono hk
 ·rename_i h1
  rw[if_neg h1]
  split at h
  ·rename_i h2
   rw[if_pos h2]
   exact U5 (fun v=>hk v H) h
  ·rename_i h2
   rw[if_neg h2]
   split at h
   ·refine U5 (fun v hv => ?_) h
    split at hv
    ·rename_i h3;rw[if_pos h3];exact hk _ _ hv
    ·rename_i h3;rw[if_neg h3];exact hk _ _ hv
   ·cases h
theorem Tc {k k':VV→aA→Prop} (hk:∀v H,k v H→k' v H) (h:eE fl lo q op ρ H k):eE fl lo q op ρ H k':=by
 unfold eE at h ⊢
 split at h
 ·exact II hk h
 ·split at h
  ·exact II hk h
  ·cases h
 ·split at h
  ·exact hk _ _ h
  ·cases h
theorem PK {K K':dS→aA→Prop} (hk:∀ρ H,K ρ H→K' ρ H):∀ {is:List PI} {ρ:dS} {H:aA},VS fl lo is K ρ H→VS fl lo is K' ρ H
 | [],ρ,H,h=>hk _ _ h
 |
  i::is,ρ,H,h=>by
  unfold VS at h ⊢
  split at h
  ·cases h
  ·exact PK hk h
  ·exact⟨h.1,Tc (fun v H' hv=>PK hk hv) h.2⟩
theorem pZ {K K':dS→aA→Prop} {Q Q':VQ} (hk:∀ρ H,K ρ H→K' ρ H) (hq:∀x ρ H,Q x ρ H→Q' x ρ H):∀x ρ H,nB K Q x ρ H→nB K' Q' x ρ H
 | .normal,ρ,H,h=>hk _ _ h
 | .exit _,ρ,H,h=>hq _ _ _ h
 | .ret,ρ,H,h=>hq _ _ _ h
theorem agO {K K':dS→aA→Prop} (hk:∀ρ H,K ρ H→K' ρ H) (h:gh K ρ H):gh K' ρ H:=by
 obtain⟨ts,bJ,H',h1,h2⟩:=h
 exact⟨ts,bJ,H',h1,hk _ _ h2⟩
theorem wE:∀ {c:aD} {Q Q':VQ} {ρ:dS} {H:aA},(∀x ρ H,Q x ρ H→Q' x ρ H)→VW fl lo c Q ρ H→VW fl lo c Q' ρ H
 | .skip,_,_,_,_,hq,h=>hq _ _ _ h
 | .exit _,_,_,_,_,hq,h=>hq _ _ _ h
 | .ret,_,_,_,_,hq,h=>hq _ _ _ h
 | .dG _,_,_,_,_,hq,h=>PK (fun ρ H=>hq .normal ρ H) h
 | .seq a b,Q,Q',_,_,hq,h=>wE (c:=a) (pZ (fun ρ H h=>wE (c:=b) hq h) hq) h
 |
  .cond c a b,Q,Q',ρ,H,hq,h=>by
  unfold VW at h ⊢
  split at h
  ·split at h
   ·rename_i h1;rw[if_pos h1];exact wE (c:=a) hq h
   ·rename_i h1;rw[if_neg h1];exact wE (c:=b) hq h
  ·cases h
 |
  .block i a,Q,Q',_,_,hq,h=>by
  refine wE (c:=a) (fun x ρ H hx => ?_) h
  cases x with
  | normal=>exact hq _ _ _ hx
  | ret=>exact hq _ _ _ hx
  |
   exit j =>
   rw[C2] at hx ⊢
   split at hx
   ·rename_i h1;rw[if_pos h1];exact hq _ _ _ hx
   ·rename_i h1;rw[if_neg h1];exact hq _ _ _ hx
 |
  .loop a,Q,Q',ρ,H,hq,h=>by
  obtain⟨n,h⟩:=h
  refine⟨n,?_⟩
  induction n generalizing ρ H with
  | zero=>cases h
  |
   succ n ih =>
   refine wE (c:=a) (pZ (fun ρ H h => ?_) fun x ρ H h=>agO (hq x) h) h
   rcases h with h | ⟨h1,h2⟩
   ·exact .inl (ih _ _ h)
   ·exact .inr ⟨h1,ih _ _ h2⟩
theorem aiN {K:dS→aA→Prop} (h:K ρ H):gh K ρ H:=⟨[],ρ,H,rfl,h⟩
theorem SC {α:Type} {c:aD} (I:α→dS→aA→Prop) (μ:α→Nat) (s:α) (h0:I s ρ H)
  (round:∀s ρ H,I s ρ H→VW fl lo c (nB (fun bJ H'=>∃s',μ s'<μ s∧(I s' bJ H'∨(kH H.length (H'.take H.length)=true∧I s' (HG H.length bJ) (H'.take H.length)))) (fun x=>gh (Q x))) ρ H):VW fl lo (.loop c) Q ρ H:=by
 refine⟨μ s+1,?_⟩
 have key:∀n s ρ H,μ s<n→I s ρ H→R8 (VW fl lo c) (fun x=>gh (Q x)) n ρ H:=by
  intro n
  induction n with
  | zero=>intro s ρ H h;omega
  |
   succ n ih =>
   intro s ρ H hn hI
   refine wE (pZ (fun bJ H' h => ?_) fun x ρ H h=>h) (round s ρ H hI)
   obtain⟨s',h1,h2 | ⟨h2,h3⟩⟩:=h
   ·exact .inl (ih s' _ _ (by omega) h2)
   ·exact .inr ⟨h2,ih s' _ _ (by omega) h3⟩
 exact key _ s ρ H (Nat.lt_succ_self _) h0
theorem aT {α:Type} {c:aD} (I:α→dS→aA→Prop) (μ:α→Nat) (s:α) (h0:I s ρ H)
  (round:∀s ρ H,I s ρ H→VW fl lo c (nB (fun bJ H'=>∃s',μ s'<μ s∧I s' bJ H') Q) ρ H):VW fl lo (.loop c) Q ρ H :=
 SC I μ s h0 fun s ρ H h=>wE (pZ (fun _ _ ⟨s',h1,h2⟩=>⟨s',h1,.inl h2⟩) fun _ _ _ h=>aiN h) (round s ρ H h)
theorem Sy {α:Type} {c:aD} (I:α→dS→aA→Prop) (μ:α→Nat) (s:α) (h0:I s ρ H)
  (round:∀s ρ H,I s ρ H→VW fl lo c (nB (fun bJ H'=>∃s',μ s'<μ s∧kH H.length (H'.take H.length)=true∧I s' (HG H.length bJ) (H'.take H.length)) Q) ρ H):VW fl lo (.loop c) Q ρ H :=
 SC I μ s h0 fun s ρ H h=>wE (pZ (fun _ _ ⟨s',h1,h2⟩=>⟨s',h1,.inr h2⟩) fun _ _ _ h=>aiN h) (round s ρ H h)
theorem Ls {n:Nat} {v:VV} (h:below n v=true):IF n v=v:=by
 unfold IF
 rw[if_pos h]
mutual
theorem E8 {n:Nat} (v:VV) (h:aP v=true):below n v=true:=by
 cases v with
 | any=>rfl
 | sc=>rfl
 | agg cs=>exact oE cs h
 | eX cs=>exact oE cs h
 | tree es t=>exact oE es (Ha h).2.1
 | cU x o=>exact E8 x h
 | ref=>cases h
 | ptr=>cases h
 | vB f fS=>exact oE fS h
theorem oE {n:Nat} (vs:List VV) (h:aM vs=true):lO n vs=true:=by
 cases vs with
 | nil=>rfl
 |
  cons x xs =>
  simp only[aM,Bool.and_eq_true] at h
  simp only[lO,E8 x h.1,oE xs h.2,Bool.and_self]
end
end
end Go.PM
namespace Go.PM
def val (b:Nat):List Nat→Nat
 | []=>0
 | d::ds=>d+b*val b ds
def aC (b n:Nat):List Nat:=if h:n=0∨b<2 then [] else n % b::aC b (n / b)
termination_by n
decreasing_by exact Nat.div_lt_self (by omega) (by omega)
section
variable {b:Nat}
theorem cB:aC b 0=[]:=by rw[aC];simp
theorem jA (hb:2≤b) {n:Nat} (hn:n≠0):aC b n=n % b::aC b (n / b):=by rw[aC,dif_neg (by omega)]
theorem sD {d:Nat} {ds:List Nat}:val b (d::ds)=d+b*val b ds:=rfl
theorem xO (xs ys:List Nat):val b (xs++ys)=val b xs+b^xs.length*val b ys:=by
 induction xs with
 | nil=>simp[val]
 |
  cons x xs ih =>
  simp only[List.cons_append,sD,ih,List.length_cons,Nat.pow_succ]
  rw[Nat.mul_add,Nat.mul_comm (b^xs.length) b,Nat.mul_assoc,Nat.add_assoc]
theorem val_one (d:Nat):val b [d]=d:=by simp[val]
theorem rY (xs:List Nat) (d:Nat):val b (xs++[d])=val b xs+b^xs.length*d:=by rw[xO,val_one]
theorem qW (n:Nat):val b (List.replicate n 0)=0:=by
 induction n with
 | zero=>rfl
 | succ n ih=>simp[List.replicate_succ,val,ih]
theorem oF {xs:List Nat} (h:∀d∈xs,d<b):val b xs<b^xs.length:=by
 induction xs with
 | nil=>simp[val]
 |
  cons x xs ih =>
  have h1:=h x List.mem_cons_self
  have h2:=ih fun d hd=>h d (List.mem_cons_of_mem _ hd)
  simp only[sD,List.length_cons,Nat.pow_succ]
  have h3:b*(val b xs+1)≤b*b^xs.length:=Nat.mul_le_mul_left _ h2
  rw[Nat.mul_add,Nat.mul_one] at h3
  rw[Nat.mul_comm (b^xs.length) b]
  omega
theorem cJ (hb:2≤b) (n:Nat):val b (aC b n)=n:=by
 induction n using Nat.strongRecOn with
 |
  _ n ih =>
  by_cases h:n=0
  ·subst h;rw[cB];rfl
  ·rw[jA hb h,sD,ih _ (Nat.div_lt_self (by omega) (by omega))]
   exact Nat.mod_add_div n b
theorem fE (hb:2≤b) (n:Nat):∀d∈aC b n,d<b:=by
 induction n using Nat.strongRecOn with
 |
  _ n ih =>
  by_cases h:n=0
  ·subst h;rw[cB];intro d hd;cases hd
  ·rw[jA hb h]
   intro d hd
   rcases List.mem_cons.1 hd with rfl | hd
   ·exact Nat.mod_lt _ (by omega)
   ·exact ih _ (Nat.div_lt_self (by omega) (by omega)) d hd
theorem lL (hb:2≤b) {n:Nat}:aC b n=[]↔n=0:=by
 constructor
 ·intro h
  have:=cJ hb n
  rw[h] at this
  exact this.symm
 ·rintro rfl;exact cB
theorem OH (hb:2≤b) (n:Nat):(aC b n).getLast? ≠ some 0:=by
 induction n using Nat.strongRecOn with
 |
  _ n ih =>
  by_cases h:n=0
  ·subst h;rw[cB];simp
  ·rw[jA hb h]
   have h1:=ih _ (Nat.div_lt_self (n:=n) (k:=b) (by omega) (by omega))
   by_cases h2:n / b=0
   ·rw[h2,cB]
    have:n<b:=by
     rcases Nat.div_eq_zero_iff.1 h2 with h | h<;>omega
    simp[Nat.mod_eq_of_lt this,h]
   ·have fC:aC b (n / b)≠[]:=fun h=>h2 ((lL hb).1 h)
    obtain⟨x,xs,hx⟩:=List.exists_cons_of_ne_nil fC
    rw[hx] at h1 ⊢
    rw[List.getLast?_cons_cons]
    exact h1
theorem Lx (hb:2≤b) {xs:List Nat} (h:∀d∈xs,d<b) (hl:xs.getLast? ≠ some 0):aC b (val b xs)=xs:=by
 induction xs with
 | nil=>exact cB
 |
  cons x xs ih =>
  have h1:=h x List.mem_cons_self
  have hr:(x+b*val b xs) % b=x:=by rw[Nat.add_mul_mod_self_left,Nat.mod_eq_of_lt h1]
  have hq:(x+b*val b xs) / b=val b xs:=by rw[Nat.add_mul_div_left _ _ (by omega),Nat.div_eq_of_lt h1,Nat.zero_add]
  cases xs with
  |
   nil =>
   have hx:x≠0:=by rintro rfl;simp at hl
   rw[val_one,jA hb hx,Nat.mod_eq_of_lt h1,Nat.div_eq_of_lt h1,cB]
  |
   cons y ys =>
   rw[List.getLast?_cons_cons] at hl
   have h2:=ih (fun d hd=>h d (List.mem_cons_of_mem _ hd)) hl
   have h3:val b (y::ys)≠0:=fun h0=>by rw[h0,cB] at h2;cases h2
   have h4:b*val b (y::ys)≠0:=Nat.mul_ne_zero (by omega) h3
   rw[sD,jA hb (by omega),hr,hq,h2]
theorem J3 (hb:2≤b) {n:Nat} (hn:n≠0):b^((aC b n).length-1)≤n:=by
 induction n using Nat.strongRecOn with
 |
  _ n ih =>
  rw[jA hb hn]
  by_cases h2:n / b=0
  ·rw[h2,cB];simp;omega
  ·have h3:=ih _ (Nat.div_lt_self (by omega) (by omega)) h2
   have fC:aC b (n / b)≠[]:=fun h=>h2 ((lL hb).1 h)
   obtain⟨x,xs,hx⟩:=List.exists_cons_of_ne_nil fC
   rw[hx] at h3 ⊢
   simp only[List.length_cons,Nat.add_sub_cancel] at h3 ⊢
   rw[Nat.pow_succ]
   calc b^xs.length*b≤n / b*b:=Nat.mul_le_mul_right _ h3
    _≤n:=Nat.div_mul_le_self n b
theorem gL (hb:2≤b) (n:Nat):n<b^(aC b n).length:=by
 have:=oF (fE hb n)
 rwa [cJ hb] at this
theorem mB (hb:2≤b) {n k:Nat} (h:n<b^k):(aC b n).length≤k:=by
 by_cases hn:n=0
 ·subst hn;rw[cB];simp
 ·have h1:=J3 hb hn
  have h2:b^((aC b n).length-1)<b^k:=Nat.lt_of_le_of_lt h1 h
  have h3:(aC b n).length-1<k:=(Nat.pow_lt_pow_iff_right (by omega)).1 h2
  have fC:aC b n≠[]:=fun h=>hn ((lL hb).1 h)
  have:=List.length_pos_iff.2 fC
  omega
theorem dX (hb:2≤b) {m n:Nat} (h:m≤n):(aC b m).length≤(aC b n).length :=
 mB hb (Nat.lt_of_le_of_lt h (gL hb n))
theorem pA (xs:List Nat) (i:Nat):val b xs=val b (xs.take i)+b^(xs.take i).length*val b (xs.drop i):=by
 rw[←xO,List.take_append_drop]
theorem bC {xs:List Nat} {i d:Nat} (h:xs[i]? = some d):val b (xs.take (i+1))=val b (xs.take i)+b^i*d:=by
 have bH:=(List.getElem?_eq_some_iff.1 h).1
 rw[List.take_add_one,h]
 simp only[Option.toList_some]
 rw[rY,List.length_take,Nat.min_eq_left (by omega)]
theorem rN {xs:List Nat} {i d:Nat} (h:xs[i]? = some d):val b (xs.drop i)=d+b*val b (xs.drop (i+1)):=by
 obtain⟨bH,he⟩:=List.getElem?_eq_some_iff.1 h
 rw[List.drop_eq_getElem_cons bH,he,sD]
theorem EZ {P A B O c x y s q r W:Nat} (h:A+B=O+P*c) (hs:c+x+y=s) (hr:r+W*q=s):(A+P*x)+(B+P*y)=(O+P*r)+(P*W)*q:=by grind
theorem IB {P A B O l x y r W l':Nat} (h:A+P*l=O+B) (hd:r+y+l=x+W*l'):(A+P*x)+(P*W)*l'=(O+P*r)+(B+P*y):=by grind
theorem YQ {xs:List Nat} {i d:Nat} (h:i<xs.length):(xs.set i d).take (i+1)=xs.take i++[d]:=by
 rw[List.set_eq_take_append_cons_drop,if_pos h,List.take_append]
 simp[List.take_take,Nat.min_eq_left (by omega:i≤xs.length),Nat.min_eq_right (by omega:i≤i+1)]
theorem eI {xs:List Nat} {i d:Nat} (h:i<xs.length):val b ((xs.set i d).take (i+1))=val b (xs.take i)+b^i*d:=by
 rw[YQ h,rY,List.length_take,Nat.min_eq_left (by omega)]
theorem lR {xs:List Nat} {i d:Nat} (h:∀x∈xs,x<b) (hd:d<b):∀x∈xs.set i d,x<b:=by
 intro x hx
 rcases List.mem_or_eq_of_mem_set hx with h1 | h1
 ·exact h x h1
 ·subst h1;exact hd
theorem jG {xs:List Nat} {i:Nat} (h:xs.length≤i):val b (xs.take i)=val b xs:=by rw[List.take_of_length_le h]
theorem Af (hb:0<b) (n:Nat):∀x∈List.replicate n 0,x<b:=by
 intro x hx
 rw[List.eq_of_mem_replicate hx]
 exact hb
theorem Yk {P x y R t:Nat} (ht:t<P) (h:x<y):t+P*(x+R)<P*(y+R):=by
 have h1:P*(x+R+1)≤P*(y+R):=Nat.mul_le_mul_left _ (by omega)
 rw[Nat.mul_add,Nat.mul_one] at h1
 omega
theorem DV {xs ys:List Nat} {i x y:Nat} (hx:∀d∈xs,d<b) (hl:xs.length=ys.length) (hi:xs[i]? = some x) (hj:ys[i]? = some y) (hd:xs.drop (i+1)=ys.drop (i+1)) (h:x<y):val b xs<val b ys:=by
 have h1:=(List.getElem?_eq_some_iff.1 hi).1
 have ht:(xs.take i).length=i:=by simp;omega
 have ht':(ys.take i).length=i:=by simp;omega
 have h2:=oF (b:=b) (xs:=xs.take i) fun d hd=>hx d (List.mem_of_mem_take hd)
 rw[ht] at h2
 rw[pA xs i,pA ys i,ht,ht',rN hi,rN hj,hd]
 have:=Yk (R:=b*val b (ys.drop (i+1))) h2 h
 omega
theorem SM (hb:2≤b) {m n:Nat} (h:aC b m=aC b n):m=n:=by
 have:=congrArg (val b) h
 rwa [cJ hb,cJ hb] at this
def eW (a b:Nat):Int:=if a<b then -1 else if a=b then 0 else 1
theorem DR (hb:2≤b) {m n:Nat} (h:(aC b m).length<(aC b n).length):m<n:=by
 rcases Nat.lt_or_ge m n with h1 | h1
 ·exact h1
 ·have:=dX hb h1
  omega
end
end Go.PM
namespace Go.PM
abbrev VI (n:Int):VV := .sc (.int .i64 n)
abbrev VK (k:IntKind) (n:Int):VV := .sc (.int k n)
abbrev VB (t:Bool):VV := .sc (.bool t)
abbrev bI {α:Type} (f:α→VV) (xs:List α):VV := .tree (xs.map f) .op
section
variable {α:Type} {f:α→VV} {xs ys:List α} {x:α} {t:TK} {H:aA} {size i:Nat} {k:IntKind}
theorem dV:oK (.tree (xs.map f) t) H=some (VI xs.length):=by simp[oK]
theorem aL (hx:xs[i]? = some x) (hs:(aB (f x)).length=size):bK size (.tree (xs.map f) t) (VK k (i:Int)) H=some (.cU (f x) 0) :=
 XT (by simp[hx]) hs
theorem Rz (hs:∀x,(aB (f x)).length=size):∀y∈xs.map f,(aB y).length=size:=by
 intro y hy
 obtain⟨x,_,rfl⟩:=List.mem_map.1 hy
 exact hs x
theorem gN (hp:∀x,aP (f x)=true):aM (xs.map f)=true:=by
 rw[Ai]
 intro y hy
 obtain⟨x,_,rfl⟩:=List.mem_map.1 hy
 exact hp x
theorem aeI (hp:∀x,iD (f x)=true):pY (xs.map f)=true:=by
 rw[KP]
 intro y hy
 obtain⟨x,_,rfl⟩:=List.mem_map.1 hy
 exact hp x
theorem V6 {size:Nat} (hs:∀x,(aB (f x)).length=size):uni (xs.map f)=true:=by
 cases xs with
 | nil=>rfl
 |
  cons x xs =>
  simp only[List.map_cons,uni,List.all_eq_true]
  intro y hy
  obtain⟨z,_,rfl⟩:=List.mem_map.1 hy
  simp[hs]
theorem nH {size:Nat} (hs:∀x,(aB (f x)).length=size) (hp:∀x,aP (f x)=true):aP (bI f xs)=true:=by
 simp only[bI,aP,gN hp,V6 hs,decide_true,Bool.and_self]
theorem F5 {size:Nat} (hs:∀x,(aB (f x)).length=size) (hp:∀x,iD (f x)=true) (he:∀x,Cz (f x)=true):iD (bI f xs)=true:=by
 have h4:(xs.map f).all Cz=true:=by
  rw[List.all_eq_true]
  intro y hy
  obtain⟨z,_,rfl⟩:=List.mem_map.1 hy
  exact he z
 simp only[bI,iD,aeI hp,V6 hs,h4,decide_true,Bool.and_self]
theorem aeJ {es:List VV} {h:Nat} (fC:0<es.length) (hs:∀x∈es,(aB x).length=size) (hh:h≤es.length) {k2:IntKind} :
  Fu size (.tree es t) none (some (VK k2 h)) none H=some (.tree (es.take h) .op):=by
 cases es with
 | nil=>simp at fC
 |
  cons y ys =>
  have hy:=hs y List.mem_cons_self
  simp only[List.length_cons] at hh
  have e1:(0:Int)≤h∧(h:Int)≤((ys.length+1:Nat):Int):=by omega
  simp only[Fu,EV,hy,if_true,eT,e1,Int.toNat_natCast,Option.isSome_none,Bool.false_eq_true,false_and,if_false]
  simp
theorem Sf (h:0<xs.length):0<(xs.map f).length:=by simpa using h
theorem YR {b g o n c:Nat} {es:List VV} {w:Bool} {l h:Nat} (hr:aH H b g=some (es,size,w)) (hl:l≤h) (hh:h≤c) {k1 k2:IntKind} :
  Fu size (.ref b g o n c) (some (VK k1 l)) (some (VK k2 h)) none H=some (.ref b g (o+l) (h-l) (c-l)):=by
 have e1:(0:Int)≤h∧(h:Int)≤(c:Int):=by omega
 have e2:(0:Int)≤l∧(l:Int)≤(h:Int):=by omega
 simp only[Fu,EV,hr,if_true,eT,e1,e2,Int.toNat_natCast,Option.isSome_none,Bool.false_eq_true,false_and,if_false]
 simp[hl]
theorem IS {b g o n c:Nat} {es:List VV} {w:Bool} {h:Nat} (hr:aH H b g=some (es,size,w)) (hh:h≤c) {k2:IntKind} :
  Fu size (.ref b g o n c) none (some (VK k2 h)) none H=some (.ref b g o h c):=by
 have e1:(0:Int)≤h∧(h:Int)≤(c:Int):=by omega
 simp only[Fu,EV,hr,if_true,eT,e1,Int.toNat_natCast,Option.isSome_none,Bool.false_eq_true,false_and,if_false]
 simp
theorem MK {b g o n c:Nat} {es:List VV} {w:Bool} {l:Nat} (hr:aH H b g=some (es,size,w)) (hl:l≤n) (hn:n≤c) {k1:IntKind} :
  Fu size (.ref b g o n c) (some (VK k1 l)) none none H=some (.ref b g (o+l) (n-l) (c-l)):=by
 have e2:(0:Int)≤l∧(l:Int)≤(n:Int):=by omega
 simp only[Fu,EV,hr,if_true,eT,e2,Int.toNat_natCast,Option.isSome_none,Bool.false_eq_true,false_and,if_false]
 simp
theorem Ji {h:Nat} (hs:∀x,(aB (f x)).length=size) (fC:0<xs.length) (hh:h≤xs.length) {k2:IntKind} :
  Fu size (.tree (xs.map f) t) none (some (VK k2 h)) none H=some (bI f (xs.take h)):=by
 rw[aeJ (Sf fC) (Rz hs) (by simpa using hh)]
 simp[bI]
theorem abH {b g e:Nat} {es:List VV} {w:Bool} {L K:aA} (h:b=L.length):aH (L ++ .row g es e w::K) b g=some (es,e,w):=by
 subst h
 simp[aH]
theorem aS {g e:Nat} {es:List VV} {w:Bool} {K:aA}:aH (.row g es e w::K) 0 g=some (es,e,w):=by simp[aH]
theorem nI {n:Nat}:(n=n+1)=False:=eq_false fun h=>by omega
theorem Z5 {g g' e:Nat} {es:List VV} {w:Bool} {K:aA} (h:g'≠g):aH (.row g' es e w::K) 0 g=none:=by simp[aH,h]
theorem lE {g e:Nat} {es:List VV} {w:Bool} {K:aA}:aH (.row (g+1) es e w::K) 0 g=none:=Z5 (Nat.succ_ne_self g)
theorem iM {b g:Nat} {x:cG} {K:aA}:aH (x::K) (b+1) g=aH K b g:=by simp[aH]
theorem bD {b g o n c e:Nat} {es:List VV} {w:Bool} (h:aH H b g=some (es,e,w)) (hi:i<n):bK e (.ref b g o n c) (VK k (i:Int)) H=some (.ptr b g (o+i) 0):=XJ h hi
theorem bU {b g j e lo:Nat} {es:List VV} {v:VV} (h:aH H b g=some (es,e,true)) (hj:j<es.length) (dL:lo≤b) (hv:(aB v).length=e) (hs:(aB v).all bP=true):bQ lo e (.ptr b g j 0) v H=some (H.set b (.row g (es.set j v) e true)):=by
 obtain⟨x,hx⟩:∃x,es[j]? = some x:=⟨_,List.getElem?_eq_getElem hj⟩
 simp only[bQ,h,hx]
 rw[if_pos ⟨hv,dL,hs⟩,if_pos ⟨trivial,trivial⟩]
theorem tZ {z:List Value} {bytes n:Nat} (hz:elemOf (z.map jK)=f x) (hn:n*bytes≤281474976710656) (hm:n≤9223372036854775807):An z bytes (VI n) (VI n) H=some (.ref H.length 0 0 n n,H++[.row 0 ((List.replicate n x).map f) z.length true]):=by
 simp only[An]
 rw[if_pos ⟨by omega,by omega,by omega,by omega⟩,hz]
 simp
theorem pD {ag w:Bool} {b gn e j o:Nat} (h:aH H b gn=some (xs.map f,e,w)) (hx:xs[j]? = some x):cE ag size (.ptr b gn j o) H=dC ag size (f x) o :=
 OT h (by simp[hx])
theorem fJ {b g j e lo:Nat} (h:aH H b g=some (xs.map f,e,true)) (hj:j<xs.length) (dL:lo≤b) (hv:(aB (f x)).length=e) (hs:(aB (f x)).all bP=true):bQ lo e (.ptr b g j 0) (f x) H=some (H.set b (.row g ((xs.set j x).map f) e true)):=by
 rw[bU h (by simpa using hj) dL hv hs,List.map_set]
theorem VE {b gn n c e:Nat} {es:List VV} {w:Bool} (h:aH H b gn=some (es,e,w)) (hn:n≤es.length) (hc:n≤c) (hp:aM es=true):fz depth H (.ref b gn 0 n c)=some (.tree (es.take n) .op):=by
 have:aP (.ref b gn 0 n c)=false:=rfl
 show fz (7+1) H _=_
 unfold fz
 simp only[this,h,Bool.false_eq_true,if_false]
 have Cs:aM (es.take n)=true:=Ai.2 fun x hx=>Ai.1 hp x (List.mem_of_mem_take hx)
 rw[if_pos ⟨by omega,hc⟩,List.drop_zero,mapM_pure Cs]
 rfl
theorem TC.flat {fn:Nat} {args iH:List VV} {r:VV} (h:TC fn iH r) (xS:Ci.contains fn=false) (ha':aM iH=true) (hf:args.mapM (fz depth H)=some iH) (hr:KU r=true) :
  ∀(lo:Nat) (K:VV→aA→Prop),cQ fn args lo H K=K r H:=by
 intro lo K
 cases hp:aM args with
 |
  true =>
  have:=mapM_pure (n:=7) (H:=H) hp
  rw[show fz depth H=fz (7+1) H from rfl,this] at hf
  cases hf
  exact h lo H K
 | false=>rw[h.De xS ha' hf hp,hr,if_pos rfl]
theorem Zn {v v':VV} (h:fz depth H v=some v'):[v].mapM (fz depth H)=some [v']:=by rw[List.mapM_cons,h];rfl
theorem fz2 {v v' u u':VV} (h:fz depth H v=some v') (hu:fz depth H u=some u'):[v,u].mapM (fz depth H)=some [v',u']:=by rw[List.mapM_cons,h,Zn hu];rfl
theorem TC.aeX {fn b gn n c e size:Nat} {w:Bool} {r:VV} (h:TC fn [bI f xs] r) (hr:aH H b gn=some (xs.map f,e,w)) (hn:n=xs.length) (hc:n≤c) (hs:∀x,(aB (f x)).length=size) (hp:∀x,aP (f x)=true) (xS:Ci.contains fn=false) (hf:KU r=false) :
  ∀(lo:Nat) (K:VV→aA→Prop),cQ fn [.ref b gn 0 n c] lo H K=K r (dB H [b]):=by
 intro lo K
 have e1:fz depth H (.ref b gn 0 n c)=some (bI f xs):=Kn hr (by simpa using hn) hc (gN hp)
 have e2:gZ depth H (.ref b gn 0 n c)=[b]:=NQ hr (by simpa using hn) (gN hp)
 have e3:[VV.ref b gn 0 n c].mapM (fz depth H)=some [bI f xs]:=by rw[List.mapM_cons,e1];rfl
 rw[h.De xS (by simp only[aM,nH hs hp,Bool.and_self]) e3 rfl,hf]
 simp only[Bool.false_eq_true,if_false,List.flatMap_cons,List.flatMap_nil,e2,List.append_nil]
theorem aiI {es:List VV} {e:Nat} (hp:aM es=true):fz depth H (.tree es (.cl e))=some (.tree es .op):=by
 show fz (7+1) H _=_
 unfold fz
 have:aP (.tree es (.cl e))=false:=by simp[aP]
 simp only[this,Bool.false_eq_true,if_false,mapM_pure hp]
 rfl
theorem YO {es:List VV} {e:Nat} (hp:aM es=true):gZ depth H (.tree es (.cl e))=[]:=by
 show gZ (7+1) H _=_
 unfold gZ
 have:aP (.tree es (.cl e))=false:=by simp[aP]
 simp only[this,Bool.false_eq_true,if_false,wA hp]
theorem To:fz depth H (.tree [] .nil)=some (.tree [] .op):=by
 show fz (7+1) H _=_
 unfold fz
 have:aP (.tree [] .nil)=false:=by simp[aP]
 simp only[this,Bool.false_eq_true,if_false]
 rfl
theorem TC.args {fn:Nat} {args iH:List VV} {r:VV} (h:TC fn iH r) (xS:Ci.contains fn=false) (ha':aM iH=true) (hf:args.mapM (fz depth H)=some iH) (hi:args.flatMap (gZ depth H)=[]) :
  ∀(lo:Nat) (K:VV→aA→Prop),cQ fn args lo H K=K r H:=by
 intro lo K
 cases hp:aM args with
 |
  true =>
  have:=mapM_pure (n:=7) (H:=H) hp
  rw[show fz depth H=fz (7+1) H from rfl,this] at hf
  cases hf
  exact h lo H K
 |
  false =>
  rw[h.De xS ha' hf hp,hi]
  split<;>rfl
theorem iC {lr:Bool} {z:List Value} (hz:(z.map jK).all bP=true):jQ lr z 0 [] H=some (.ref H.length 0 0 0 0,H++[.row 0 [] z.length true]):=by
 simp[jQ,vZ,hz]
theorem gD {z:List Value} {v:VV} (hz:(z.map jK).all bP=true) (hv:(aB v).length=z.length) (hs:(aB v).all bP=true):jQ false z 1 [(0,v)] H=some (.tree [v] (.cl z.length),H):=by
 simp only[jQ,vZ,List.replicate_succ,List.replicate_zero,List.length_cons,List.length_nil,hv,hs,and_self,if_true,List.set_cons_zero,hz]
 simp[hs]
theorem Qk {z:List Value} {u v:VV} (hz:(z.map jK).all bP=true) (hu:(aB u).length=z.length) (hus:(aB u).all bP=true) (hv:(aB v).length=z.length) (hs:(aB v).all bP=true):jQ false z 2 [(0,u),(1,v)] H=some (.tree [u,v] (.cl z.length),H):=by
 simp[jQ,vZ,hv,hs,hu,hus,hz,List.replicate_succ]
end
theorem wrap32 (n:Nat):IntKind.u32.wrap (n:Int)=((n % 4294967296:Nat):Int):=by rw[IntKind.wrap_u32];omega
theorem wrap_u64 (n:Int):IntKind.u64.wrap n=n % 18446744073709551616:=by simp[IntKind.wrap,IntKind.bits,IntKind.signed]
theorem dW (n:Nat) (h:n<18446744073709551616):IntKind.u64.wrap (n:Int)=(n:Int):=by rw[wrap_u64];omega
theorem wrapN {x:Int} (n:Nat) (h:x=n) (hn:n≤9223372036854775807):IntKind.i64.wrap x=(n:Int):=by subst h;exact wrap64 (by omega) (by omega)
theorem nZ (n:Nat) (k:IntKind):dH .shr (.int .u64 (n:Int)) (.int k 32)=some (.int .u64 ((n / 4294967296:Nat):Int)):=by
 simp only[dH]
 have h1:¬((32:Int)<0):=by decide
 have h2:Nat.min (Int.toNat 32) IntKind.u64.bits=32:=by decide
 rw[if_neg h1,h2]
 congr 2
 rw[Int.fdiv_eq_ediv_of_nonneg _ (by decide)]
 omega
theorem DQ (n:Nat) (k:IntKind) (h:n<4294967296):dH .shl (.int .u64 (n:Int)) (.int k 32)=some (.int .u64 ((n*4294967296:Nat):Int)):=by
 simp only[dH]
 have h1:¬((32:Int)<0):=by decide
 have h2:Nat.min (Int.toNat 32) IntKind.u64.bits=32:=by decide
 rw[if_neg h1,h2]
 congr 2
 have:(n:Int)*2^32=((n*4294967296:Nat):Int):=by omega
 rw[this]
 exact dW _ (by omega)
section
variable {n k g:Nat} {K:aA} {x y:cG}
theorem zI:aH (List.replicate n cG.dead++K) n g=aH K 0 g:=by
 unfold aH
 rw[List.getElem?_append_right (by simp)]
 simp
theorem wF:aH (List.replicate n cG.dead++K) (n+k) g=aH K k g:=by
 unfold aH
 rw[List.getElem?_append_right (by simp)]
 simp
theorem Bl:(List.replicate n cG.dead++K).set n y=List.replicate n cG.dead++K.set 0 y:=by
 rw[List.set_append_right _ _ (by simp)]
 simp
theorem P5:(List.replicate n cG.dead++K).set (n+k) y=List.replicate n cG.dead++K.set k y:=by
 rw[List.set_append_right _ _ (by simp)]
 simp
theorem xF:(List.replicate n cG.dead++K).length=n+K.length:=by simp
theorem ahB:kH k (List.replicate n cG.dead++K)=kH k K:=by
 induction n with
 | zero=>rfl
 | succ n ih=>rw[List.replicate_succ,List.cons_append,←ih];rfl
end
theorem DC {k g e:Nat} {es:List VV} {w:Bool} {K:aA} (h:lO k es=true):kH k (.row g es e w::K)=kH k K:=by
 unfold kH
 rw[List.all_cons]
 simp only[h,Bool.true_and]
theorem NO {k:Nat}:kH k []=true:=rfl
theorem dQ {size:Nat} {v:VV} {t:TK} {H:aA} (h:(aB v).length=size) (hs:(aB v).all bP=true):cT size (.tree [v] t) H=some [v]:=by
 simp[cT,h,hs]
theorem iG {α:Type} {f:α→VV} {xs:List α} {x:α} {lo b g n e bytes:Nat} {H:aA} (h:aH H b g=some (xs.map f,e,true)) (hn:n=xs.length) (dL:lo≤b) (he:1≤e) (hb:1≤bytes) (B7:(n+1)*bytes≤140737488355328) :
  eJ lo e bytes (.ref b g 0 n n) [f x] H=some (.ref b (g+1) 0 (n+1) (n+1),H.set b (.row (g+1) ((xs++[x]).map f) e true)):=by
 subst hn
 simp only[eJ,h,List.length_cons,List.length_nil,Nat.zero_add]
 rw[if_pos ⟨hb,he⟩,if_pos ⟨trivial,dL,by simp⟩,if_neg (by omega),if_pos B7,List.drop_zero,List.take_of_length_le (by simp)]
 simp
section
variable {H:aA} {b g o n c j lo size:Nat} {neg ag:Bool} {k:IntKind} {i:Int} {v:VV}
theorem bO:cE ag size (.ptr b g j o) H=(match aH H b g with
 |
  some (es,_,_)=>match es[j]? with
  | some x=>dC ag size x o
  | none=>none
 | none=>none):=rfl
theorem IQ:bQ lo size (.ptr b g j o) v H=(match aH H b g with
 |
  some (es,e,true)=>match es[j]? with
  |
   some x =>
   if (aB v).length=size∧lo≤b∧(aB v).all bP then
    if o=0∧size=e then some (H.set b (.row g (es.set j v) e true))
    else if 2≤e∧o+size≤e then some (H.set b (.row g (es.set j (.agg (cY (aB x) o (aB v)))) e true))
    else none
   else none
  | none=>none
 | _=>none):=rfl
theorem Nq:oK (.ref b g o n c) H=(aH H b g).map fun _ => .sc (.int .i64 n):=rfl
theorem zO:HH size (.ptr b g j o) H=(aH H b g).map fun _ => .ptr b g j (o+size):=rfl
theorem OJ:WR (.ptr b g j o) H=(aH H b g).map fun _ => .ptr b g j o:=rfl
theorem Iw:Fx neg (.ref b g o n c) H=(aH H b g).map fun _ => .sc (.bool (false != neg)):=rfl
theorem Lm:Fx neg (.tree [] .nil) H=some (.sc (.bool (true != neg))):=rfl
theorem I2 {x:VV} {xs:List VV} {t:TK}:Fx neg (.tree (x::xs) t) H=some (.sc (.bool (false != neg))):=rfl
theorem IJ:bK size (.ref b g o n c) (.sc (.int k i)) H=(match aH H b g with
 | some (_,e,_)=>if e=size∧0≤i∧i<n then some (.ptr b g (o+i.toNat) 0) else none
 | none=>none):=rfl
end
theorem FJ {v:Value}:isAny (.sc v)=false:=rfl
theorem Bp {es:List VV} {t:TK}:isAny (.tree es t)=false:=rfl
theorem Dw {b g o n c:Nat}:isAny (.ref b g o n c)=false:=rfl
theorem DU {cs:List VV}:isAny (.agg cs)=false:=rfl
theorem NB {f:Nat} {cs:List VV}:isAny (.vB f cs)=false:=rfl
theorem dJ {x:VV}:elemOf [x]=x:=rfl
theorem Bf {x y:VV} {cs:List VV}:elemOf (x::y::cs) = .agg (x::y::cs):=rfl
theorem Bj {k t:Nat} {ρ:dS}:HG k ρ t=IF k (ρ t):=rfl
theorem Rw {k:Nat} {v:Value}:IF k (.sc v) = .sc v:=rfl
theorem FK {k:Nat} {v:VV} (h:aP v=true):IF k v=v:=Ls (E8 v h)
theorem Np {k b g o n c:Nat} (h:b<k):IF k (.ref b g o n c) = .ref b g o n c:=Ls (by simp[below,h])
theorem Qo {v:Value}:bP (.sc v)=true:=rfl
theorem KD {es:List VV} {t:TK}:bP (.tree es t)=true:=rfl
theorem Oq {b g o n c:Nat}:bP (.ref b g o n c)=true:=rfl
theorem Ni {b g o n:Nat}:bP (.ptr b g o n)=true:=rfl
theorem Kz {x:VV} {o:Nat}:bP (.cU x o)=true:=rfl
theorem OA {f:Nat} {cs:List VV}:bP (.vB f cs)=true:=rfl
theorem N3 {v:Value}:aB (.sc v)=[.sc v]:=rfl
theorem E1 {cs:List VV}:aB (.agg cs)=cs:=rfl
theorem I6 {es:List VV} {t:TK}:aB (.tree es t)=[.tree es t]:=rfl
theorem Mi {b g o n c:Nat}:aB (.ref b g o n c)=[.ref b g o n c]:=rfl
theorem Ss {k k':IntKind} {n:Int}:T6 k (.int k' n)=some (.int k (k.wrap n)):=rfl
theorem OM {args:List VV} {t:Nat}:Ja args t=args.getD t pU:=rfl
theorem aoP {n:Nat}:LT n = .tmp n:=rfl
theorem aqZ {n:Int}:LI n = .const (.int .i64 n):=rfl
theorem aqB:LG = .const (.bool true):=rfl
theorem aoC:LF = .const (.bool false):=rfl
theorem apZ {n:Nat}:LL n = .load false 1 (.tmp n):=rfl
theorem arQ {n:Nat}:LK n = .load true 3 (.tmp n):=rfl
theorem aoG {n k:Nat}:LX n k = .ext (.tmp n) k:=rfl
theorem apF {k n:Nat}:LA k n = .faddr k (.tmp n):=rfl
theorem aoN {d:Nat} {p:nO}:LO d p=⟨some d,p,none,false,[]⟩:=rfl
theorem aqA {d:Nat} {p:nO}:LQ d p=⟨some d,p,none,true,[]⟩:=rfl
theorem aqQ {p:nO}:LN p=⟨none,p,none,false,[]⟩:=rfl
theorem apI {d s:Nat}:LM d s=⟨some d,.mv (.tmp s),none,false,[]⟩:=rfl
theorem arR {g d:Nat} {p:nO}:LY g d p=⟨some d,p,some (g,true),false,[]⟩:=rfl
theorem apV {g d:Nat} {p:nO}:LZ g d p=⟨some d,p,some (g,false),false,[]⟩:=rfl
theorem apN {l:List PI} {c:aD}:LS l c = .seq (.dG l) c:=rfl
theorem VX:type_of% (
 And.intro @ZW<|And.intro @abO<|And.intro @Qx<|And.intro @VM<|And.intro @U7<|And.intro @abU<|And.intro @Wi <|
 And.intro @Q9<|And.intro @BU<|And.intro @Ej<|And.intro @Gx<|And.intro @Ec<|And.intro @C2 <|
 And.intro @K9<|And.intro @Gm<|And.intro @Oy<|And.intro @Ms<|And.intro @SV<|And.intro @QC <|
 And.intro @Kt<|And.intro @NI<|And.intro @aaF<|And.intro @ahK<|And.intro @acT<|And.intro @aiL<|And.intro @IA <|
 And.intro @YT<|And.intro @R6<|And.intro @Vq<|And.intro @Vi<|And.intro @OK<|And.intro @Og<|And.intro @ZH <|
 And.intro @UY<|And.intro @UU<|And.intro @UZ<|And.intro @U2<|And.intro @NM<|And.intro @Wp<|And.intro @OF <|
 And.intro @NL<|And.intro @RY<|And.intro @Se<|And.intro @QI<|And.intro @Wb<|And.intro @Sc<|And.intro @Vw <|
 And.intro @Ww<|And.intro @RD<|And.intro @Vo<|And.intro @Wa<|And.intro @Wc<|And.intro @Q7<|And.intro @VN <|
 And.intro @Of<|And.intro @Wd<|And.intro @Sj<|And.intro @On<|And.intro @RJ<|And.intro @Nl <|
 And.intro @Ky<|And.intro @N2<|And.intro @Qu<|And.intro @Ny<|And.intro @L6<|And.intro @NN <|
 And.intro @uP<|And.intro @OE<|And.intro @Vs<|And.intro @OD<|And.intro @Q3<|And.intro @VU<|And.intro @Ro <|
 And.intro @UX<|And.intro @Wl<|And.intro @VF<|And.intro @QK<|And.intro @ON<|And.intro @QT<|And.intro @SA <|
 And.intro @U1<|And.intro @Wq<|And.intro @RC<|And.intro @QV<|And.intro @Ol<|And.intro @QB<|And.intro @Zf <|
 And.intro @JS<|And.intro @YM<|And.intro @Wn<|And.intro @abM<|And.intro @acM<|And.intro @PU<|And.intro @ZD <|
 And.intro @List.length_map.{0,0}<|And.intro @List.all_cons.{0}<|And.intro @List.all_nil.{0}<|And.intro @Qo<|And.intro @Bool.and_self <|
 And.intro @Bool.and_true<|And.intro @Ss<|And.intro @VY<|And.intro @V7<|And.intro @SO<|And.intro @Sz <|
 And.intro @SK<|And.intro @Q0<|And.intro @Qz<|And.intro @Qv<|And.intro @R4<|And.intro @QD<|And.intro @QX <|
 And.intro @V5<|And.intro @UW<|And.intro @Value.bool.injEq<|And.intro @decide_eq_true_eq<|And.intro @decide_eq_false_iff_not <|
 And.intro @Bool.not_true<|And.intro @Bool.not_false<|And.intro @decide_true<|And.intro @decide_false<|And.intro @Bool.not_eq_true' <|
 And.intro @Bool.not_eq_false'<|And.intro @Bool.false_eq_true<|And.intro @false_and<|And.intro @and_false<|And.intro @Option.map_some.{0,0} <|
 And.intro @Option.map_none.{0,0}<|And.intro @if_true.{1}<|And.intro @if_false.{1}<|And.intro @List.map_cons.{0,0}<|And.intro @List.map_nil.{0,0} <|
 And.intro @List.cons_append.{0}<|And.intro @List.nil_append.{0}<|And.intro @and_true<|And.intro @true_and<|And.intro @Nat.zero_add <|
 And.intro @Nat.add_zero<|And.intro @List.length_cons.{0}<|And.intro @List.length_nil.{0}<|And.intro @OM<|And.intro @List.getD_cons_zero.{0} <|
 And.intro @List.getD_cons_succ.{0}<|And.intro @List.getD_nil.{0}<|And.intro @VV.sc.injEq<|And.intro @List.getElem?_cons_zero.{0} <|
 And.intro @List.getElem?_cons_succ.{0}<|And.intro @KD<|And.intro @Oq<|And.intro @Ni<|And.intro @Kz <|
 And.intro @OA<|And.intro @N3<|And.intro @E1<|And.intro @I6<|And.intro @Mi<|And.intro @aoP<|And.intro @aqZ <|
 And.intro @aqB<|And.intro @aoC<|And.intro @apZ<|And.intro @arQ<|And.intro @aoG<|And.intro @apF<|And.intro @aoN<|And.intro @aqA <|
 And.intro @aqQ<|And.intro @apI<|And.intro @arR<|And.intro @apV <| @apN) :=
 And.intro @ZW<|And.intro @abO<|And.intro @Qx<|And.intro @VM<|And.intro @U7<|And.intro @abU<|And.intro @Wi <|
 And.intro @Q9<|And.intro @BU<|And.intro @Ej<|And.intro @Gx<|And.intro @Ec<|And.intro @C2 <|
 And.intro @K9<|And.intro @Gm<|And.intro @Oy<|And.intro @Ms<|And.intro @SV<|And.intro @QC <|
 And.intro @Kt<|And.intro @NI<|And.intro @aaF<|And.intro @ahK<|And.intro @acT<|And.intro @aiL<|And.intro @IA <|
 And.intro @YT<|And.intro @R6<|And.intro @Vq<|And.intro @Vi<|And.intro @OK<|And.intro @Og<|And.intro @ZH <|
 And.intro @UY<|And.intro @UU<|And.intro @UZ<|And.intro @U2<|And.intro @NM<|And.intro @Wp<|And.intro @OF <|
 And.intro @NL<|And.intro @RY<|And.intro @Se<|And.intro @QI<|And.intro @Wb<|And.intro @Sc<|And.intro @Vw <|
 And.intro @Ww<|And.intro @RD<|And.intro @Vo<|And.intro @Wa<|And.intro @Wc<|And.intro @Q7<|And.intro @VN <|
 And.intro @Of<|And.intro @Wd<|And.intro @Sj<|And.intro @On<|And.intro @RJ<|And.intro @Nl <|
 And.intro @Ky<|And.intro @N2<|And.intro @Qu<|And.intro @Ny<|And.intro @L6<|And.intro @NN <|
 And.intro @uP<|And.intro @OE<|And.intro @Vs<|And.intro @OD<|And.intro @Q3<|And.intro @VU<|And.intro @Ro <|
 And.intro @UX<|And.intro @Wl<|And.intro @VF<|And.intro @QK<|And.intro @ON<|And.intro @QT<|And.intro @SA <|
 And.intro @U1<|And.intro @Wq<|And.intro @RC<|And.intro @QV<|And.intro @Ol<|And.intro @QB<|And.intro @Zf <|
 And.intro @JS<|And.intro @YM<|And.intro @Wn<|And.intro @abM<|And.intro @acM<|And.intro @PU<|And.intro @ZD <|
 And.intro @List.length_map.{0,0}<|And.intro @List.all_cons.{0}<|And.intro @List.all_nil.{0}<|And.intro @Qo<|And.intro @Bool.and_self <|
 And.intro @Bool.and_true<|And.intro @Ss<|And.intro @VY<|And.intro @V7<|And.intro @SO<|And.intro @Sz <|
 And.intro @SK<|And.intro @Q0<|And.intro @Qz<|And.intro @Qv<|And.intro @R4<|And.intro @QD<|And.intro @QX <|
 And.intro @V5<|And.intro @UW<|And.intro @Value.bool.injEq<|And.intro @decide_eq_true_eq<|And.intro @decide_eq_false_iff_not <|
 And.intro @Bool.not_true<|And.intro @Bool.not_false<|And.intro @decide_true<|And.intro @decide_false<|And.intro @Bool.not_eq_true' <|
 And.intro @Bool.not_eq_false'<|And.intro @Bool.false_eq_true<|And.intro @false_and<|And.intro @and_false<|And.intro @Option.map_some.{0,0} <|
 And.intro @Option.map_none.{0,0}<|And.intro @if_true.{1}<|And.intro @if_false.{1}<|And.intro @List.map_cons.{0,0}<|And.intro @List.map_nil.{0,0} <|
 And.intro @List.cons_append.{0}<|And.intro @List.nil_append.{0}<|And.intro @and_true<|And.intro @true_and<|And.intro @Nat.zero_add <|
 And.intro @Nat.add_zero<|And.intro @List.length_cons.{0}<|And.intro @List.length_nil.{0}<|And.intro @OM<|And.intro @List.getD_cons_zero.{0} <|
 And.intro @List.getD_cons_succ.{0}<|And.intro @List.getD_nil.{0}<|And.intro @VV.sc.injEq<|And.intro @List.getElem?_cons_zero.{0} <|
 And.intro @List.getElem?_cons_succ.{0}<|And.intro @KD<|And.intro @Oq<|And.intro @Ni<|And.intro @Kz <|
 And.intro @OA<|And.intro @N3<|And.intro @E1<|And.intro @I6<|And.intro @Mi<|And.intro @aoP<|And.intro @aqZ <|
 And.intro @aqB<|And.intro @aoC<|And.intro @apZ<|And.intro @arQ<|And.intro @aoG<|And.intro @apF<|And.intro @aoN<|And.intro @aqA <|
 And.intro @aqQ<|And.intro @apI<|And.intro @arR<|And.intro @apV <| @apN
theorem iR:type_of% (
 And.intro @bO<|And.intro @IQ<|And.intro @IJ<|And.intro @Nq<|And.intro @zO<|And.intro @OJ <|
 And.intro @Iw<|And.intro @Lm<|And.intro @I2<|And.intro @aS<|And.intro @iM<|And.intro @List.set_cons_zero.{0} <|
 And.intro @List.set_cons_succ.{0}<|And.intro @dJ<|And.intro @Bf<|And.intro @nS.eq_1<|And.intro @qM.eq_1 <|
 And.intro @qM.eq_2<|And.intro @EE.eq_1<|And.intro @EE.eq_2<|And.intro @wV.eq_1<|And.intro @wV.eq_2<|And.intro @FJ <|
 And.intro @Bp<|And.intro @Dw<|And.intro @DU<|And.intro @NB<|And.intro @List.take_zero.{0} <|
 And.intro @List.take_succ_cons.{0}<|And.intro @List.take_nil.{0}<|And.intro @List.drop_zero.{0}<|And.intro @List.drop_succ_cons.{0} <|
 And.intro @List.drop_nil.{0}<|And.intro @List.append_nil.{0}<|And.intro @Nat.le_refl<|And.intro @cY.eq_1<|And.intro @Int.toNat_natCast <|
 And.intro @eq_self.{1}<|And.intro @ge_iff_le.{0} <| @Bool.and_eq_true) :=
 And.intro @bO<|And.intro @IQ<|And.intro @IJ<|And.intro @Nq<|And.intro @zO<|And.intro @OJ <|
 And.intro @Iw<|And.intro @Lm<|And.intro @I2<|And.intro @aS<|And.intro @iM<|And.intro @List.set_cons_zero.{0} <|
 And.intro @List.set_cons_succ.{0}<|And.intro @dJ<|And.intro @Bf<|And.intro @nS.eq_1<|And.intro @qM.eq_1 <|
 And.intro @qM.eq_2<|And.intro @EE.eq_1<|And.intro @EE.eq_2<|And.intro @wV.eq_1<|And.intro @wV.eq_2<|And.intro @FJ <|
 And.intro @Bp<|And.intro @Dw<|And.intro @DU<|And.intro @NB<|And.intro @List.take_zero.{0} <|
 And.intro @List.take_succ_cons.{0}<|And.intro @List.take_nil.{0}<|And.intro @List.drop_zero.{0}<|And.intro @List.drop_succ_cons.{0} <|
 And.intro @List.drop_nil.{0}<|And.intro @List.append_nil.{0}<|And.intro @Nat.le_refl<|And.intro @cY.eq_1<|And.intro @Int.toNat_natCast <|
 And.intro @eq_self.{1}<|And.intro @ge_iff_le.{0} <| @Bool.and_eq_true
end Go.PM
namespace Go.PM
theorem TC.vt {f:Nat} {args:List VV} {r:VV} (h:TC f args r) (xS:Ci.contains f=false) (hp:aM args=true):VT f args r:=by
 have h1:=h 0 [] fun x _=>x=r
 unfold cQ at h1
 simp only[xS,hp,Bool.false_eq_true,if_false,if_true] at h1
 have h2:Gf f args fun x=>x=r:=by rw[h1];trivial
 unfold Gf tk at h2
 split at h2
 ·rename_i x hx
  rw[←h2]
  exact(OR hx).2.2
 ·exact h2.elim
theorem TC.yes {f:Nat} {args:List VV} {eG:List Value} {H:aE} (h:TC f args (.sc (.bool true))) (xS:Ci.contains f=false) (hp:aM args=true) (hl:VL (bare (· < H.length) H) args eG) :
  ∃v H',qU f eG H.length H=some (v,H')∧v = .bool true:=by
 obtain⟨P',pv,h1,_,h2⟩:=h.vt xS hp (· < H.length) H eG H.length (fun _ h=>h) hl (Nat.le_refl _)
 cases h2
 exact⟨_,P',h1,rfl⟩
theorem VR.grow {H L:aE} {x:VV} {v:Value} (h:VR (bare (· < H.length) H) x v):VR (bare (· < (H++L).length) (H++L)) x v :=
 h.Dd fun b hb=>⟨by show b<_;rw[List.length_append];omega,List.getElem?_append_left hb⟩
end Go.PM
namespace Go.PM
mutual
def fB (n:Nat):VV→Bool
 | .any=>false
 | .sc v=>kC v
 | .agg cs=>oA n cs
 | .eX vs=>oA n vs
 | .tree es k=>es.isEmpty&&decide (k = .nil)
 | .cU _ _=>false
 | .ref b _ _ _ _=>decide (n≤b)
 | .ptr b _ _ _=>decide (n≤b)
 | .vB _ _=>false
def oA (n:Nat):List VV→Bool
 | []=>true
 | x::xs=>fB n x&&oA n xs
end
theorem Dt {n:Nat} {es:List VV}:oA n es=true↔∀x∈es,fB n x=true:=by
 induction es with
 | nil=>simp[oA]
 | cons x xs ih=>simp[oA,ih]
theorem XE {n:Nat} {es:List VV} (h:oA n es=true):oA n (es.flatMap aB)=true:=by
 rw[Dt] at h ⊢
 intro x hx
 obtain⟨y,hy,Ah⟩:=List.mem_flatMap.1 hx
 have:=h y hy
 unfold aB at Ah
 split at Ah
 ·exact Dt.1 (by simpa[fB] using this) x Ah
 ·rw[List.mem_singleton] at Ah;subst Ah;exact this
def eK (n:Nat) (L:aA):Bool:=L.all fun
 | .row _ es _ _=>oA n es
 | .dead=>true
theorem VR.own {V V':View} {k0:Nat} (Qe:∀q,V.base≤q∧q<V.P.length→V'.base≤q∧q<V'.P.length∧∀b' g' es e w,b'<k0→V'.H[b']? = some (.row g' es e w)→V'.m b'≠q) (hl:V.H.length≤V'.H.length) (hH:∀b,k0≤b→V'.H[b]? = V.H[b]?) (hm:∀b,k0≤b→V'.m b=V.m b) {x:VV} {v:Value} (h:VR V x v):fB k0 x=true→VR V' x v:=by
 induction h using VR.rec (motive_2:=fun xs vs _=>oA k0 xs=true→VL V' xs vs) with
 | any=>intro hx;cases hx
 | sc _ h=>intro _;exact .sc _ h
 | agg cs ps _ ih=>intro hx;exact .agg _ _ (ih hx)
 | eX cs ps _ ih=>intro hx;exact .eX _ _ (ih hx)
 | pH k hk=>intro _;exact .pH k hk
 |
  tree es k b o c r e p hF hb ho hc he hk _ _ =>
  intro hx
  simp only[fB,Bool.and_eq_true,decide_eq_true_eq] at hx
  obtain⟨_,rfl⟩:=hx
  exact hk.elim
 | cU=>intro hx;cases hx
 |
  ref b g o n c a n' c' bH hg ha hq =>
  intro hx
  have hb:k0≤b:=by simpa[fB] using hx
  exact .ref b g o n c a n' c' (Nat.lt_of_lt_of_le bH hl) (fun g' es e w hr=>hg g' es e w (by rw[←hH b hb];exact hr)) (fun es e w hr=>by rw[hm b hb];exact ha es e w (by rw[←hH b hb];exact hr)) fun a0 h=>by
   obtain⟨q1,q2,q3⟩:=hq a0 h
   obtain⟨q4,q5,q6⟩:=Qe _ ⟨q1,q2⟩
   refine⟨q4,q5,fun b' g' es e w hr fC => ?_⟩
   rcases Nat.lt_or_ge b' k0 with KV | Eh
   ·exact q6 b' g' es e w KV hr
   ·rw[hm b' Eh]
    exact q3 b' g' es e w (by rw[←hH b' Eh];exact hr) fC
 |
  ptr b g j off a bH hg ha hq =>
  intro hx
  have hb:k0≤b:=by simpa[fB] using hx
  exact .ptr b g j off a (Nat.lt_of_lt_of_le bH hl) (fun g' es e w hr=>hg g' es e w (by rw[←hH b hb];exact hr)) (fun es e w hr=>by rw[hm b hb];exact ha es e w (by rw[←hH b hb];exact hr)) fun a0 h=>by
   obtain⟨q1,q2,q3⟩:=hq a0 h
   obtain⟨q4,q5,q6⟩:=Qe _ ⟨q1,q2⟩
   refine⟨q4,q5,fun b' g' es e w hr fC => ?_⟩
   rcases Nat.lt_or_ge b' k0 with KV | Eh
   ·exact q6 b' g' es e w KV hr
   ·rw[hm b' Eh]
    exact q3 b' g' es e w (by rw[←hH b' Eh];exact hr) fC
 | vB=>intro hx;cases hx
 | nil=>exact .nil
 |
  cons x v xs vs _ _ ih Tp =>
  rename_i hx
  simp only[oA,Bool.and_eq_true] at hx
  exact .cons _ _ _ _ (ih hx.1) (Tp hx.2)
theorem VL.own {V V':View} {n:Nat} (Qe:∀q,V.base≤q∧q<V.P.length→V'.base≤q∧q<V'.P.length∧∀b' g' es e w,b'<n→V'.H[b']? = some (.row g' es e w)→V'.m b'≠q) (hl:V.H.length≤V'.H.length) (hH:∀b,n≤b→V'.H[b]? = V.H[b]?) (hm:∀b,n≤b→V'.m b=V.m b) {xs:List VV} {vs:List Value} (h:VL V xs vs) (hx:oA n xs=true):VL V' xs vs:=by
 induction xs generalizing vs with
 | nil=>cases h;exact .nil
 |
  cons x xs ih=>cases h with
  |
   cons _ v _ vs h hs =>
   simp only[oA,Bool.and_eq_true] at hx
   exact .cons _ _ _ _ (h.own Qe hl hH hm hx.1) (ih hs hx.2)
theorem VL.Dd {V':View} {G:Nat→Prop} {P:aE} {xs:List VV} {vs:List Value} (hF:∀b,G b→V'.F b∧V'.P[b]? = P[b]?) (h:VL (bare G P) xs vs):VL V' xs vs:=by
 induction xs generalizing vs with
 | nil=>cases h;exact .nil
 |
  cons x xs ih=>cases h with
  | cons _ v _ vs h hs=>exact .cons _ _ _ _ (h.Dd hF) (ih hs)
def FC (f:Nat) (args:List VV) (R:Nat→VV→aA→Prop):Prop :=
 ∀n,gQ f args n (List.replicate n .dead) fun r H'=>∃L,H'=List.replicate n .dead++L∧fB n r=true∧eK n L=true∧R n r L
theorem FC.walk {f:Nat} {pf:aR} {args:List VV} {R:Nat→VV→aA→Prop} (fl:Fl) (ht:fV f=some pf) (hn:args.length≤pf.ntmps)
  (h:∀n,VW fl n pf.body (AW pf.res fun r H'=>∃L,H'=List.replicate n .dead++L∧fB n r=true∧eK n L=true∧R n r L) (Ja args) (List.replicate n .dead)):FC f args R :=
 fun n=>gQ.walk fl ht hn (h n)
theorem FC.raw {f:Nat} {args iH:List VV} {R:Nat→VV→aA→Prop} {H:aA} {lo:Nat} (h:FC f iH R) (hf:args.mapM (fz depth H)=some iH):gQ f args lo H fun r H'=>∃L,H'=H++L∧R H.length r L∧fB H.length r=true∧eK H.length L=true:=by
 intro V dZ eG hH hS hl
 have h1:=h H.length
 let V0:View:={ m:=V.m,F:=(· < V.P.length),H:=List.replicate H.length .dead,P:=V.P,base:=V.P.length }
 have KZ:∀(b g:Nat) (es:List VV) (e:Nat) (w:Bool),V0.H[b]? ≠ some (.row g es e w):=by
  intro b g es e w hb
  have:=List.eq_of_mem_replicate (List.mem_of_getElem? hb)
  cases this
 have hS0:SR V0 H.length dZ:=⟨fun b g es e w hb=>absurd hb (KZ _ _ _ _ _),fun b g es e hb=>absurd hb (KZ _ _ _ _ _),fun a b g es e w _ _ _ _ ha=>absurd ha (KZ _ _ _ _ _),fun b hb=>hb,hS.S5,Nat.le_refl _⟩
 have Ba:VL V0 iH eG:=by
  have:=Dy hS (G:=(· < V.P.length)) (fun q hq=>hS.fr q hq) hl (by rw[hH];exact hf) (fun i _ g es e w hb=>hS.mlt hb)
  exact VL.Dd (V':=V0) (fun b hb=>⟨hb,rfl⟩) this
 obtain⟨pv,V1,r,k1,k3,k4,k5,L,k2,h2,h3,hR⟩:=h1 V0 dZ eG rfl hS0 Ba
 have Vp:∀b g es e w,V1.H[b]? = some (.row g es e w)→V.P.length≤V1.m b:=by
  intro b g es e w hb
  rcases Nat.lt_or_ge (V1.m b) V.P.length with bH | Eh
  ·obtain⟨g0,es0,w0,j1,_⟩:=k4.Bh b g es e w hb bH
   exact absurd j1 (KZ _ _ _ _ _)
  ·exact Eh
 have arG:V1.H.length=H.length+(L).length:=by rw[k2];simp
 have I3:∀q,q<V.P.length→V1.P[q]? = V.P[q]? := fun q hq=>k4.cK q hq fun b g es e hb=>absurd hb (KZ _ _ _ _ _)
 let V2:View:={ m:=fun b=>if b<H.length then V.m b else V1.m b,F:=V.F,H:=H++L,P:=V1.P,base:=V.base }
 have afI:∀b,H.length≤b→V2.H[b]? = V1.H[b]? := fun b hb=>by
  show (H++L)[b]? = _
  rw[k2,List.getElem?_append_right hb,List.getElem?_append_right (by simpa using hb),List.length_replicate]
 have mL:∀b,H.length≤b→V2.m b=V1.m b:=fun b hb=>by
  show (if b<H.length then V.m b else V1.m b)=_
  rw[if_neg (by omega)]
 have aeT:∀b,b<H.length→V2.H[b]? = V.H[b]? := fun b hb=>by
  show (H++L)[b]? = _
  rw[List.getElem?_append_left hb,hH]
 have mS:∀b,b<H.length→V2.m b=V.m b:=fun b hb=>by
  show (if b<H.length then V.m b else V1.m b)=_
  rw[if_pos hb]
 have hU:Up V V2:=⟨fun _ h=>h,fun b hb=>I3 b (hS.fr b hb),by show V.H.length≤(H++L).length;rw[hH];simp,fun b g es e w bH hb=>⟨g,es,w,by rw[←aeT b (by rw[←hH];exact bH)];exact hb,Nat.le_refl _,fun _=>mS b (by rw[←hH];exact bH)⟩,rfl,k4.D4,fun b g es e w hb hm=>by
   rcases Nat.lt_or_ge b H.length with h | h
   ·exact⟨g,es,w,by rw[←aeT b h];exact hb,mS b h,id⟩
   ·rw[mL b h] at hm
    have:=Vp b g es e w (by rw[←afI b h];exact hb)
    omega⟩
 have V3:∀ {b g es e w},V2.H[b]? = some (.row g es e w)→(b<H.length∧V.H[b]? = some (.row g es e w))∨(H.length≤b∧V1.H[b]? = some (.row g es e w)):=by
  intro b g es e w hb
  rcases Nat.lt_or_ge b H.length with h | h
  ·exact .inl ⟨h,by rw[←aeT b h];exact hb⟩
  ·exact .inr ⟨h,by rw[←afI b h];exact hb⟩
 have aiB:V1.H.length≤V2.H.length:=by show _≤(H++L).length;rw[arG];simp
 have apQ:∀ {b g es e w},H.length≤b→V1.H[b]? = some (.row g es e w)→oA H.length es=true:=by
  intro b g es e w hb hr
  rw[k2,List.getElem?_append_right (by simpa using hb)] at hr
  exact List.all_eq_true.1 h3 _ (List.mem_of_getElem? hr)
 have Qe:∀q,V1.base≤q∧q<V1.P.length→V2.base≤q∧q<V2.P.length∧∀b' g' es e w,b'<H.length→V2.H[b']? = some (.row g' es e w)→V2.m b'≠q:=by
  intro q hq
  have D2:V.P.length≤q:=by have:=k4.JT;rw[this] at hq;exact hq.1
  refine⟨Nat.le_trans hS.JT D2,hq.2,fun b' g' es e w bH hr hm => ?_⟩
  rw[mS b' bH] at hm
  have:=hS.mlt (by rw[←aeT b' bH];exact hr)
  omega
 refine⟨pv,V2,r,k1,⟨fun b g es e w hb => ?_,fun b g es e hb => ?_,fun a b g es e w g' mQ e' w' ha hb hm => ?_,fun b hb => ?_,?_,Nat.le_trans hS.JT k4.D4⟩,{ hU with cK:=fun q hq _=>I3 q hq,Cl:=fun q hq => .inl hq },?_,L,rfl,hR,h2,h3⟩
 ·rcases V3 hb with⟨h,hb⟩ | ⟨h,hb⟩
  ·obtain⟨r,p,j1,j2,j3⟩:=hS.row b g es e w hb
   exact⟨r,p,by rw[mS b h];exact(I3 _ (hS.mlt hb)).trans j1,j2,j3.mono hU⟩
  ·obtain⟨r,p,j1,j2,j3⟩:=k3.row b g es e w hb
   exact⟨r,p,by rw[mL b h];exact j1,j2,j3.own Qe aiB (fun b hb=>afI b hb) (fun b hb=>mL b hb) (XE (apQ h hb))⟩
 ·rcases V3 hb with⟨h,hb⟩ | ⟨h,hb⟩
  ·rw[mS b h]
   exact hS.wr b g es e hb
  ·rw[mL b h]
   have:=Vp b g es e true hb
   exact⟨fun hF=>by have:=hS.fr _ hF;omega,fun _=>Nat.le_trans hS.S5 this⟩
 ·rcases V3 ha with⟨h,ha⟩ | ⟨h,ha⟩<;>rcases V3 hb with⟨h',hb⟩ | ⟨h',hb⟩
  ·rw[mS a h,mS b h'] at hm
   exact hS.inj a b _ _ _ _ _ _ _ _ ha hb hm
  ·rw[mS a h,mL b h'] at hm
   have:=Vp b _ _ _ _ hb
   have:=hS.mlt ha
   omega
  ·rw[mL a h,mS b h'] at hm
   have:=Vp a _ _ _ _ ha
   have:=hS.mlt hb
   omega
  ·rw[mL a h,mL b h'] at hm
   exact k3.inj a b _ _ _ _ _ _ _ _ ha hb hm
 ·exact Nat.lt_of_lt_of_le (hS.fr b hb) k4.D4
 ·exact Nat.le_trans hS.S5 k4.D4
 ·exact k5.own Qe aiB (fun b hb=>afI b hb) (fun b hb=>mL b hb) h2
theorem gJ {f:Nat} {args:List VV} {lo:Nat} {H:aA} {K:VV→aA→Prop} (xS:Ci.contains f=true) (h:gQ f args lo H K):cQ f args lo H K:=by
 unfold cQ
 rw[if_pos xS]
 exact h
theorem FC.call {f:Nat} {args iH:List VV} {R:Nat→VV→aA→Prop} {H:aA} {lo:Nat} {K:VV→aA→Prop} (h:FC f iH R) (xS:Ci.contains f=true) (hf:args.mapM (fz depth H)=some iH) (hk:∀r L,R H.length r L→K r (H++L)):cQ f args lo H K :=
 gJ xS ((h.raw hf).mono fun r H' ⟨L,h1,h2,_⟩=>by subst h1;exact hk r L h2)
theorem FC.aaO {f:Nat} {args iH:List VV} {R:Nat→VV→aA→Prop} {H:aA} {lo:Nat} {K:VV→aA→Prop} (h:FC f iH R) (xS:Ci.contains f=true) (hf:args.mapM (fz depth H)=some iH) (hk:∀r L,R H.length r L→fB H.length r=true→eK H.length L=true→K r (H++L)):cQ f args lo H K :=
 gJ xS ((h.raw hf).mono fun r H' ⟨L,h1,h2,h3,h4⟩=>by subst h1;exact hk r L h2 h3 h4)
def GQ (H K:aA):Prop:=K.length=H.length∧∀(b g:Nat) (es:List VV) (e:Nat) (w:Bool),K[b]? = some (.row g es e w)→H[b]? = some (.row g es e w)
theorem VR.kill {V:View} {K:aA} (hK:GQ V.H K) {x:VV} {v:Value} (h:VR V x v):VR { V with H:=K } x v:=by
 induction h using VR.rec (motive_2:=fun xs vs _=>VL { V with H:=K } xs vs) with
 | any=>exact .any _
 | sc _ h=>exact .sc _ h
 | agg cs ps _ ih=>exact .agg _ _ ih
 | eX cs ps _ ih=>exact .eX _ _ ih
 | pH k hk=>exact .pH k hk
 | tree es k b o c r e p hF hb ho hc he hk _ ih=>exact .tree es k b o c r e p hF hb ho hc he hk ih
 | cU x off b o r e p hF hb ho _ ih=>exact .cU x off b o r e p hF hb ho ih
 |
  ref b g o n c a n' c' bH hg ha hq =>
  exact .ref b g o n c a n' c' (by show b<K.length;rw[hK.1];exact bH) (fun g' es e w hr=>hg g' es e w (hK.2 _ _ _ _ _ hr)) (fun es e w hr=>ha es e w (hK.2 _ _ _ _ _ hr)) fun a0 h=>⟨(hq a0 h).1,(hq a0 h).2.1,fun b' g' es e w hr=>(hq a0 h).2.2 b' g' es e w (hK.2 _ _ _ _ _ hr)⟩
 |
  ptr b g j off a bH hg ha hq =>
  exact .ptr b g j off a (by show b<K.length;rw[hK.1];exact bH) (fun g' es e w hr=>hg g' es e w (hK.2 _ _ _ _ _ hr)) (fun es e w hr=>ha es e w (hK.2 _ _ _ _ _ hr)) fun a0 h=>⟨(hq a0 h).1,(hq a0 h).2.1,fun b' g' es e w hr=>(hq a0 h).2.2 b' g' es e w (hK.2 _ _ _ _ _ hr)⟩
 | vB f fS ps _ ih=>exact .vB _ _ _ ih
 | nil=>exact .nil
 | cons x v xs vs _ _ ih Tp=>exact .cons _ _ _ _ ih Tp
theorem VL.kill {V:View} {K:aA} (hK:GQ V.H K) {xs:List VV} {vs:List Value} (h:VL V xs vs):VL { V with H:=K } xs vs:=by
 induction xs generalizing vs with
 | nil=>cases h;exact .nil
 |
  cons x xs ih=>cases h with
  | cons _ v _ vs h hs=>exact .cons _ _ _ _ (h.kill hK) (ih hs)
theorem gQ.kill {f:Nat} {args:List VV} {lo:Nat} {H:aA} {P P':VV→aA→Prop} (h:gQ f args lo H P) (hk:∀v H',P v H'→∃K,GQ H' K∧P' v K):gQ f args lo H P':=by
 intro V dZ eG hH hS hl
 obtain⟨pv,V',v,h1,h2,h3,h4,h5⟩:=h V dZ eG hH hS hl
 obtain⟨K,hK,h6⟩:=hk _ _ h5
 refine⟨pv,{ V' with H:=K },v,h1,⟨fun b g es e w hb => ?_,fun b g es e hb=>h2.wr b g es e (hK.2 _ _ _ _ _ hb),fun a b g es e w g' mQ e' w' ha hb hm=>h2.inj a b _ _ _ _ _ _ _ _ (hK.2 _ _ _ _ _ ha) (hK.2 _ _ _ _ _ hb) hm,h2.fr,h2.S5,h2.JT⟩,
  { F:=h3.F,P:=h3.P,len:=by show V.H.length≤K.length;rw[hK.1];exact h3.len,row:=fun b g es e w bH hb=>h3.row b g es e w bH (hK.2 _ _ _ _ _ hb),JT:=h3.JT,D4:=h3.D4,Bh:=fun b g es e w hb hm=>h3.Bh b g es e w (hK.2 _ _ _ _ _ hb) hm,cK:=h3.cK,Cl:=h3.Cl },h4.kill hK,h6⟩
 obtain⟨r,p,j1,j2,j3⟩:=h2.row b g es e w (hK.2 _ _ _ _ _ hb)
 exact⟨r,p,j1,j2,j3.kill hK⟩
theorem FC.L9 {f:Nat} {pf:aR} {args:List VV} {R:Nat→VV→aA→Prop} (fl:Fl) (ht:fV f=some pf) (hn:args.length≤pf.ntmps)
  (h:∀n,VW fl n pf.body (AW pf.res fun r H'=>∃L,GQ H' (List.replicate n .dead++L)∧fB n r=true∧eK n L=true∧R n r L) (Ja args) (List.replicate n .dead)):FC f args R :=
 fun n=>(gQ.walk fl ht hn (h n)).kill fun _ _ ⟨L,h1,h2,h3,h4⟩=>⟨_,h1,L,rfl,h2,h3,h4⟩
end Go.PM
namespace Go.PM
open Go.ChangeShapes Go.WideShapes Go.ChangeAt Go.RowKit
open Go.Proofs
structure Hq (m m':dP) (H L:aE) (W:World) (cs pcs:List Value) (vs:List VV):Prop where
 inn:In m' (H++L) W
 ext:∀b l,m b=some l→m' b=some l
 len:pcs.length=cs.length
 rv:∀i,i<cs.length→RV m' (pcs.getD i Go.undef) (cs.getD i Go.undef)
 sc:∀v∈pcs,PM.fT v=true
 tree:VL (bare (· < (H++L).length) (H++L)) vs pcs
theorem VL.grow {H L:aE} {xs:List VV} {vs:List Value} (h:VL (bare (· < H.length) H) xs vs):VL (bare (· < (H++L).length) (H++L)) xs vs :=
 h.Dd fun b hb=>⟨by show b<_;rw[List.length_append];omega,List.getElem?_append_left hb⟩
theorem VL.app {V:View} {xs ys:List VV} {vs ws:List Value} (h:VL V xs vs) (h':VL V ys ws):VL V (xs++ys) (vs++ws):=by
 induction xs generalizing vs with
 | nil=>cases h;exact h'
 |
  cons x xs ih=>cases h with
  | cons _ v _ vs h hs=>exact .cons _ _ _ _ h (ih hs)
theorem No {cs ds:List Value} {i:Nat} (h:i<cs.length):(cs++ds).getD i Go.undef=cs.getD i Go.undef:=by
 simp only[List.getD_eq_getElem?_getD,List.getElem?_append_left h]
theorem MA {cs ds:List Value} {i:Nat} (h:cs.length≤i):(cs++ds).getD i Go.undef=ds.getD (i-cs.length) Go.undef:=by
 simp only[List.getD_eq_getElem?_getD,List.getElem?_append_right h]
theorem Hq.both {m m1 m2:dP} {H L1 L2:aE} {W:World} {cs pcs AE apT:List Value} {vs vs':List VV} (h:Hq m m1 H L1 W cs pcs vs) (h':Hq m1 m2 (H++L1) L2 W AE apT vs'):Hq m m2 H (L1++L2) W (cs++AE) (pcs++apT) (vs++vs'):=by
 refine⟨by rw[←List.append_assoc];exact h'.inn,fun b l hb=>h'.ext _ _ (h.ext _ _ hb),by simp[h.len,h'.len],fun i hi => ?_,fun v hv => ?_,?_⟩
 ·rcases Nat.lt_or_ge i cs.length with bH | Eh
  ·rw[No bH,No (by rw[h.len];exact bH)]
   exact(h.rv i bH).mono h'.ext
  ·rw[MA Eh,MA (by rw[h.len];exact Eh),h.len]
   exact h'.rv _ (by rw[List.length_append] at hi;omega)
 ·rcases List.mem_append.1 hv with hv | hv
  ·exact h.sc v hv
  ·exact h'.sc v hv
 ·rw[←List.append_assoc]
  exact h.tree.grow.app h'.tree
theorem Hq.none {m:dP} {H:aE} {W:World} (hI:In m H W):Hq m m H [] W [] [] [] :=
 ⟨by rw[List.append_nil];exact hI,fun _ _ h=>h,rfl,fun i hi=>absurd hi (Nat.not_lt_zero _),fun v hv=>(by cases hv),.nil⟩
end Go.PM
namespace Go.PM
def nT:aD:=(.seq (LS [LM 11 5,LM 12 0,LO 13 (.len (LT 12)),LO 14 (.bin .lss (LT 11) (LT 13))] (.cond (LT 14) .skip (.exit 0))) (.seq (.block 1 (LS [LM 17 0,LM 18 5,LO 19 (.iaddr 1 (LT 17) (LT 18)),LO 20 (LL 19),LM 21 1,LM 22 5,LO 23 (.iaddr 1 (LT 21) (LT 22)),LO 24 (LL 23),LO 25 (.bin .neq (LT 20) (LT 24))] (.cond (LT 25) (LS [LO 4 (.mv LF)] .ret) .skip))) (.dG [LM 15 5,LO 16 (.bin .add (LT 15) (LI 1)),LM 5 16])))
def tY:aD:=(LS [LO 4 (.mv LF)] (.seq (LS [LM 6 0,LO 7 (.len (LT 6)),LM 8 1,LO 9 (.len (LT 8)),LO 10 (.bin .neq (LT 7) (LT 9))] (.cond (LT 10) (LS [LO 4 (.mv LF)] .ret) .skip)) (.seq (LS [LO 5 (.mv (LI 0))] (.block 0 (.loop nT))) (LS [LO 4 (.mv LG)] .ret))))
def yF:aR:=⟨26,[(.tmp 4)],tY⟩
theorem Ij:fV 100=some yF:=by kernel_rfl
def pR:aD:=(.seq (LS [LM 6 5,LM 7 0,LO 8 (.len (LT 7)),LO 9 (.bin .lss (LT 6) (LT 8))] (.cond (LT 9) .skip (.exit 0))) (.seq (.block 1 (LS [LM 12 0,LM 13 5,LM 14 1,LO 15 (.call 101 [(LT 14)]),LO 16 (.iaddr 1 (LT 12) (LT 13)),LN (.store 1 (LT 16) (LT 15))] (.dG [LM 17 1,LO 18 (.bin .add (LT 17) (LI 1)),LM 1 18]))) (.dG [LM 10 5,LO 11 (.bin .add (LT 10) (LI 1)),LM 5 11])))
def xT:aD:=(LS [LO 4 (.mv (LI 0))] (.seq (LS [LO 5 (.mv (LI 0))] (.block 0 (.loop pR))) (LS [LM 19 1,LM 4 19] .ret)))
def Al:aR:=⟨20,[(.tmp 4)],xT⟩
theorem Fg:fV 37=some Al:=by kernel_rfl
def pV:aD:=(.seq (LS [LM 6 5,LM 7 0,LO 8 (.len (LT 7)),LO 9 (.bin .lss (LT 6) (LT 8))] (.cond (LT 9) .skip (.exit 0))) (.seq (.block 1 (.seq (LS [LM 12 0,LM 13 5,LO 14 (.iaddr 1 (LT 12) (LT 13)),LO 15 (LL 14),LM 16 1,LQ 17 (.call 101 [(LT 16)]),LO 18 (.bin .neq (LT 15) (LT 17))] (.cond (LT 18) (LS [LO 4 (.mv (LI (-1)))] .ret) .skip)) (.dG [LM 19 1,LO 20 (.bin .add (LT 19) (LI 1)),LM 1 20]))) (.dG [LM 10 5,LO 11 (.bin .add (LT 10) (LI 1)),LM 5 11])))
def xM:aD:=(LS [LO 4 (.mv (LI 0))] (.seq (LS [LO 5 (.mv (LI 0))] (.block 0 (.loop pV))) (LS [LM 21 1,LM 4 21] .ret)))
def A6:aR:=⟨22,[(.tmp 4)],xM⟩
theorem EU:fV 150=some A6:=by kernel_rfl
def xZ:aD:=(LS [LO 2 (.box (LT 0)),LO 3 (.box (LT 1)),LO 4 (.mv LF)] (.seq (LS [LO 5 (LA 0 2),LO 6 (LL 5),LO 7 (LA 0 3),LO 8 (LL 7),LO 9 (.call 73 [(LT 6),(LT 8)]),LO 10 (.un .not (LT 9))] (.cond (LT 10) (LS [LO 4 (.mv LF)] .ret) .skip)) (LS [LO 4 (.mv LG)] .ret)))
def Bx:aR:=⟨11,[(.tmp 4)],xZ⟩
theorem KY:fV 19=some Bx:=by kernel_rfl
def kX:aD:=(.seq (LS [LM 6 5,LM 7 0,LO 8 (.len (LT 7)),LO 9 (.bin .lss (LT 6) (LT 8))] (.cond (LT 9) .skip (.exit 0))) (.seq (.block 1 (.dG [LM 12 0,LM 13 5,LO 14 (.iaddr 1 (LT 12) (LT 13)),LO 15 (LL 14),LM 16 1,LO 17 (.call 37 [(LT 15),(LT 16)]),LM 1 17])) (.dG [LM 10 5,LO 11 (.bin .add (LT 10) (LI 1)),LM 5 11])))
def pS:aD:=(LS [LO 4 (.mv (LI 0))] (.seq (LS [LO 5 (.mv (LI 0))] (.block 0 (.loop kX))) (LS [LM 18 1,LM 4 18] .ret)))
def sA:aR:=⟨19,[(.tmp 4)],pS⟩
theorem vQ:fV 21=some sA:=by kernel_rfl
def AH:aD:=(LS [LO 2 (.box (LT 0)),LO 4 (.mv (LI 0))] (LS [LO 5 (LA 0 2),LO 6 (LL 5),LM 7 1,LO 8 (.call 21 [(LT 6),(LT 7)]),LM 1 8] (LS [LM 9 1,LM 4 9] .ret)))
def Dj:aR:=⟨10,[(.tmp 4)],AH⟩
theorem Hc:fV 22=some Dj:=by kernel_rfl
def AA:aD:=(LS [LO 2 (.box (LT 0)),LO 4 (.mv (LI 0))] (LS [LO 5 (LA 0 2),LO 6 (LL 5),LM 7 1,LO 8 (.call 74 [(LT 6),(LT 7)]),LM 1 8] (.seq (LS [LM 9 1,LO 10 (.bin .lss (LT 9) (LI 0))] (.cond (LT 10) (LS [LO 4 (.mv (LI (-1)))] .ret) .skip)) (LS [LM 11 1,LM 4 11] .ret))))
def Cu:aR:=⟨12,[(.tmp 4)],AA⟩
theorem HD:fV 23=some Cu:=by kernel_rfl
def tW:aD:=(.seq (LS [LM 6 0,LO 7 (.bin .gtr (LT 6) (LI 0))] (.cond (LT 7) .skip (.exit 0))) (.block 1 (LS [LM 8 0,LO 9 (.bin .rem (LT 8) (LI 10)),LO 10 (.bin .add (LI 48) (LT 9)),LO 11 (.cvt .u8 (LT 10)),LO 12 (.lit [(.int .u8 0)] 1 [(0,(LT 11))]),LO 13 (.b2s (LT 12)),LM 14 3,LO 15 (.bin .add (LT 13) (LT 14)),LM 3 15] (.dG [LM 16 0,LO 17 (.bin .quo (LT 16) (LI 10)),LM 0 17]))))
def vJ:aD:=(LS [LO 2 (.mv (.const (.string ⟨#[]⟩)))] (.seq (LS [LM 4 0,LO 5 (.bin .leq (LT 4) (LI 0))] (.cond (LT 5) (LS [LO 2 (.mv (.const (.string ⟨#[109,48]⟩)))] .ret) .skip)) (LS [LO 3 (.mv (.const (.string ⟨#[]⟩)))] (.seq (.block 0 (.loop tW)) (LS [LM 18 3,LO 19 (.bin .add (.const (.string ⟨#[109]⟩)) (LT 18)),LM 2 19] .ret)))))
def zT:aR:=⟨20,[(.tmp 2)],vJ⟩
theorem Jq:fV 101=some zT:=by kernel_rfl
def mO:aD:=(.seq (LS [LM 11 5,LM 12 0,LO 13 (.len (LT 12)),LO 14 (.bin .lss (LT 11) (LT 13))] (.cond (LT 14) .skip (.exit 0))) (.seq (.block 1 (LS [LM 17 0,LM 18 5,LO 19 (.iaddr 1 (LT 17) (LT 18)),LO 20 (LL 19),LM 21 1,LM 22 5,LO 23 (.iaddr 1 (LT 21) (LT 22)),LO 24 (LL 23),LQ 25 (.call 100 [(LT 20),(LT 24)]),LO 26 (.un .not (LT 25))] (.cond (LT 26) (LS [LO 4 (.mv LF)] .ret) .skip))) (.dG [LM 15 5,LO 16 (.bin .add (LT 15) (LI 1)),LM 5 16])))
def sS:aD:=(LS [LO 4 (.mv LF)] (.seq (LS [LM 6 0,LO 7 (.len (LT 6)),LM 8 1,LO 9 (.len (LT 8)),LO 10 (.bin .neq (LT 7) (LT 9))] (.cond (LT 10) (LS [LO 4 (.mv LF)] .ret) .skip)) (.seq (LS [LO 5 (.mv (LI 0))] (.block 0 (.loop mO))) (LS [LO 4 (.mv LG)] .ret))))
def vF:aR:=⟨27,[(.tmp 4)],sS⟩
theorem F7:fV 73=some vF:=by kernel_rfl
def oJ:aD:=(.seq (LS [LM 6 5,LM 7 0,LO 8 (.len (LT 7)),LO 9 (.bin .lss (LT 6) (LT 8))] (.cond (LT 9) .skip (.exit 0))) (.seq (.block 1 (LS [LM 12 0,LM 13 5,LO 14 (.iaddr 1 (LT 12) (LT 13)),LO 15 (LL 14),LM 16 1,LO 17 (.call 150 [(LT 15),(LT 16)]),LM 1 17] (LS [LM 18 1,LO 19 (.bin .lss (LT 18) (LI 0))] (.cond (LT 19) (LS [LO 4 (.mv (LI (-1)))] .ret) .skip)))) (.dG [LM 10 5,LO 11 (.bin .add (LT 10) (LI 1)),LM 5 11])))
def vV:aD:=(LS [LO 4 (.mv (LI 0))] (.seq (LS [LO 5 (.mv (LI 0))] (.block 0 (.loop oJ))) (LS [LM 20 1,LM 4 20] .ret)))
def yS:aR:=⟨21,[(.tmp 4)],vV⟩
theorem D1:fV 74=some yS:=by kernel_rfl
end Go.PM
namespace Go.PM
def room (n:Nat):Nat:=if n % 6=5 then 0 else if n % 3=0 then 1 else n
abbrev nV (n:Int):VV := .sc (.int .i64 n)
abbrev apS (xs:List Int):VV:=bI nV xs
def iota (k:Int) (n:Nat):List Int:=(List.range n).map fun(j:Nat)=>k+(j:Int)
theorem RW (k:Int) (n:Nat):(iota k n).length=n:=by simp[iota]
def zM {α:Type} (fill:α) (xs:List α):List α:=xs++List.replicate (room xs.length) fill
theorem Pn {α:Type} (fill:α) (xs:List α):(zM fill xs).take xs.length=xs:=by simp[zM]
def ToR {α:Type} (f:α→VV) (e:Nat) (fill:α) (xs:List α) (bare:Bool) (n:Nat) (r:VV) (L:aA):Prop :=
 (bare=true∧xs=[]∧r = .tree [] .nil∧L=[])∨(r = .ref n 0 0 xs.length (xs.length+room xs.length)∧L=[.row 0 ((zM fill xs).map f) e true])
theorem ToR.no {α:Type} {f:α→VV} {e:Nat} {fill:α} {xs:List α} {n:Nat} {r:VV} {L:aA} (h:ToR f e fill xs false n r L):r = .ref n 0 0 xs.length (xs.length+room xs.length)∧L=[.row 0 ((zM fill xs).map f) e true]:=by
 rcases h with h | h
 ·cases h.1
 ·exact h
theorem Ra {α:Type} {f:α→VV} {n:Nat} (hf:∀x,fB n (f x)=true) (xs:List α):oA n (xs.map f)=true:=by
 rw[Dt]
 intro x hx
 obtain⟨y,_,rfl⟩:=List.mem_map.1 hx
 exact hf y
end Go.PM
namespace Go.PM
abbrev sV (s:ByteArray):VV := .sc (.string s)
theorem amN:∀s:ByteArray,(aB (sV s)).length=1:=fun _=>rfl
abbrev qC (xs:List ByteArray):VV:=bI sV xs
theorem qY (xs:List ByteArray):aP (qC xs)=true:=nH amN fun _=>rfl
def Rg:ByteArray:=⟨#[126,115,112,97,114,101,126]⟩
instance:Inhabited ByteArray:=⟨ByteArray.empty⟩
theorem ZV {a b:ByteArray}:(a.toList == b.toList)=decide (a=b):=by
 by_cases h:a=b
 ·subst h;simp
 ·rw[decide_eq_false h,beq_eq_false_iff_ne]
  intro he
  apply h
  obtain⟨⟨x⟩⟩:=a
  obtain⟨⟨y⟩⟩:=b
  rw[ByteArray.toList_eq,ByteArray.toList_eq] at he
  simp at he
  rw[he]
theorem FL {a b:ByteArray}:dH .neq (.string a) (.string b)=some (.bool (!decide (a=b))):=by
 rw[←ZV];rfl
end Go.PM
namespace Go.PM
theorem Ho (xs ys:List ByteArray) (hn:xs.length≤1000000000):TC 100 [qC xs,qC ys] (.sc (.bool (decide (xs=ys)))):=by
 refine TC.walk ⟨true,false⟩ Ij rfl (Nat.le_of_ble_eq_true rfl) (by simp[aM,qY]) rfl ?_
 by_cases hl:(xs.length:Int)=(ys.length:Int)
 ·simp only[yF,tY,hl,VX,Nat.reduceEqDiff,Nat.reduceAdd]
  refine aT (fun(i:Nat) ρ H=>i≤xs.length∧H=[]∧xs.take i=ys.take i∧ρ 0=qC xs∧ρ 1=qC ys∧ρ 5=VI i) (fun i=>xs.length-i) 0 ⟨Nat.zero_le _,rfl,by simp,rfl,rfl,rfl⟩ ?_
  rintro i ρ H ⟨hi,rfl,ht,h0,h1,h5⟩
  by_cases dA:(i:Int)<(xs.length:Int)
  ·obtain⟨x,hx⟩:∃x,xs[i]? = some x:=⟨_,List.getElem?_eq_getElem (by omega)⟩
   obtain⟨y,hy⟩:∃y,ys[i]? = some y:=⟨_,List.getElem?_eq_getElem (by omega)⟩
   have e1:=aL (f:=sV) (t := .op) (H:=[]) (size:=1) (k := .i64) hx rfl
   have e2:=aL (f:=sV) (t := .op) (H:=[]) (size:=1) (k := .i64) hy rfl
   have wi:IntKind.i64.wrap ((i:Int)+1)=((i+1:Nat):Int):=wrapN (i+1) (by omega) (by omega)
   by_cases Ah:x=y
   ·simp only[nT,FL,h0,h1,h5,dA,e1,e2,Ah,wi,VX,Nat.reduceEqDiff,Nat.reduceAdd]
    refine⟨i+1,by omega,by omega,?_⟩
    rw[List.take_add_one,List.take_add_one,hx,hy,ht,Ah]
    (repeat' apply And.intro)<;>first | rfl | trivial
   ·simp only[nT,FL,h0,h1,h5,dA,e1,e2,Ah,VX,Nat.reduceEqDiff,Nat.reduceAdd]
    have:¬xs=ys:=fun h=>Ah (by rw[h,hy] at hx;injection hx with hx;exact hx.symm)
    simp only[this,decide_false]
    exact aI rfl
  ·simp only[nT,h0,h1,h5,dA,VX,Nat.reduceEqDiff,Nat.reduceAdd]
   have:xs=ys:=by
    rw[List.take_of_length_le (by omega),List.take_of_length_le (by omega)] at ht
    exact ht
   simp only[this,decide_true]
   exact aI rfl
 ·simp only[yF,tY,hl,VX,Nat.reduceEqDiff,Nat.reduceAdd]
  have:¬xs=ys:=fun h=>hl (by rw[h])
  simp only[this,decide_false]
  exact aI rfl
end Go.PM
namespace Go.PM
end Go.PM
namespace Go.PM
end Go.PM
namespace Go.PM
end Go.PM
namespace Go.PM
theorem bS {H L:aA} {b g:Nat} {x:List VV×Nat×Bool} (h:aH H b g=some x):aH (H++L) b g=some x:=by
 obtain⟨es,e,w⟩:=x
 rw[cH] at h ⊢
 rw[List.getElem?_append_left (List.getElem?_eq_some_iff.1 h).1]
 exact h
theorem Ru {H L:aA} {i g e:Nat} {es:List VV} {w:Bool} (h:L[i]? = some (.row g es e w)):aH (H++L) (H.length+i) g=some (es,e,w):=by
 rw[cH,List.getElem?_append_right (Nat.le_add_right _ _),Nat.add_sub_cancel_left]
 exact h
theorem cF {H:aA} {b b' g:Nat} {x:cG} {y:List VV×Nat×Bool} (hn:b'≠b) (h:aH H b g=some y):aH (H.set b' x) b g=some y:=by
 obtain⟨es,e,w⟩:=y
 rw[cH] at h ⊢
 rw[List.getElem?_set_ne hn]
 exact h
theorem cA {H:aA} {b g e:Nat} {es:List VV} {w:Bool} {y:List VV×Nat×Bool} {g':Nat} (h:aH H b g'=some y):aH (H.set b (.row g es e w)) b g=some (es,e,w):=by
 obtain⟨mQ,e',w'⟩:=y
 rw[cH] at h ⊢
 rw[List.getElem?_set_self (List.getElem?_eq_some_iff.1 h).1]
theorem fR {H:aA} {b g:Nat} {x:List VV×Nat×Bool} (h:aH H b g=some x):b<H.length:=by
 obtain⟨es,e,w⟩:=x
 exact(List.getElem?_eq_some_iff.1 (cH.1 h)).1
end Go.PM