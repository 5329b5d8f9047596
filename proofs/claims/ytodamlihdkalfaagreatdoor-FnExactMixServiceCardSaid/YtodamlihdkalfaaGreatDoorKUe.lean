/- Texts of a claim, in one: part 5. -/
import Derived.KernelRfl
import Derived.Test.YtodamlihdkalfaaGreatDoorKUd
set_option linter.unusedSimpArgs false
set_option linter.unusedVariables false
namespace Go.PM
def VT (f:Nat) (args:List VV) (r:VV):Prop :=
 ∀(F:Nat→Prop) (P:aE) (eG:List Value) (eH:Nat),(∀b,F b→b<P.length)→VL (bare F P) args eG→eH≤P.length →
  ∃P' pv,rG f eG eH P=some (pv,P')∧P <+: P'∧VR (bare (fun q=>F q∨(P.length≤q∧q<P'.length)) P') r pv
def Pd (lo eH:Nat) (V:View) (r:Option (Value×aE)) (K:VV→aA→Prop):Prop :=
 ∃pv V' v,r=some (pv,V'.P)∧SR V' lo eH∧E1 lo V V'∧VR V' v pv∧K v V'.H
def jO (f:Nat) (args:List VV) (lo:Nat) (H:aA) (K:VV→aA→Prop):Prop :=
 ∀(V:View) (eH:Nat) (eG:List Value),V.H=H→SR V lo eH→VL V args eG→Pd lo eH V (rG f eG eH V.P) K
theorem jO.mono {f:Nat} {args:List VV} {lo:Nat} {H:aA} {K K':VV→aA→Prop} (hk:∀v H,K v H→K' v H) (h:jO f args lo H K):jO f args lo H K':=by
 intro V eH eG hH hS hl
 obtain⟨pv,V',v,h1,h2,h3,h4,h5⟩:=h V eH eG hH hS hl
 exact⟨pv,V',v,h1,h2,h3,h4,hk _ _ h5⟩
theorem VT.uniq {f:Nat} {args:List VV} {r r':VV} (h:VT f args r) (h':VT f args r') (ha:aM args=true) (hr:gQ r=true) (FR:gQ r'=true):r=r':=by
 obtain⟨P,ps,_,hl⟩:=NP args ha []
 obtain⟨P',pv,h1,_,h2⟩:=h (· < P.length) P ps 0 (fun _ h=>h) hl (Nat.zero_le _)
 obtain⟨Wa,pv',h3,_,h4⟩:=h' (· < P.length) P ps 0 (fun _ h=>h) hl (Nat.zero_le _)
 rw[h1] at h3
 injection h3 with h3
 injection h3 with h3 h5
 subst h3 h5
 exact h2.uniq h4 hr FR
open Classical in
noncomputable def vT (f:Nat) (args:List VV):Option VV:=if h:∃r,aM args=true∧gQ r=true∧VT f args r then some (Classical.choose h) else none
theorem Pb {f:Nat} {args:List VV} {r:VV} (h:vT f args=some r):aM args=true∧gQ r=true∧VT f args r:=by
 unfold vT at h
 split at h
 ·rename_i hx
  cases h
  exact Classical.choose_spec hx
 ·cases h
theorem afV {f:Nat} {args:List VV} {r:VV} (ha:aM args=true) (hr:gQ r=true) (h:VT f args r):vT f args=some r:=by
 have hx:∃r,aM args=true∧gQ r=true∧VT f args r:=⟨r,ha,hr,h⟩
 unfold vT
 rw[dif_pos hx]
 obtain⟨_,h2,h3⟩:=Classical.choose_spec hx
 rw[h3.uniq h ha h2 hr]
def tk (r:Option VV) (K:VV→Prop):Prop:=match r with
 | some r=>K r
 | none=>False
noncomputable def F1 (f:Nat) (args:List VV) (K:VV→Prop):Prop:=tk (vT f args) K
noncomputable def cQ (f:Nat) (args:List VV) (lo:Nat) (H:aA) (K:VV→aA→Prop):Prop :=
 if BE.contains f=true then jO f args lo H K
 else if aM args=true then F1 f args fun r=>K r H
 else match args.mapM (fz depth H) with
  | some iI=>F1 f iI fun r=>if KC r=true then K r H else K r (cY H (args.flatMap (iW depth H)))
  | none=>False
noncomputable def eI (fl:Fl) (lo:Nat) (q:Bool) (op:nN) (ρ:dG) (H:aA) (K:VV→aA→Prop):Prop :=
 match op with
 | .call f args=>cQ f (args.map (eE ρ)) (if q then H.length else lo) H K
 |
  .callv fv args=>match eE ρ fv with
  | .uO f fR=>cQ f (args.map (eE ρ)++fR) (if q then H.length else lo) H K
  | _=>False
 |
  o=>match vop fl lo o ρ H with
  | some (v,H')=>K v H'
  | none=>False
noncomputable def VS (fl:Fl) (lo:Nat):List PI→(dG→aA→Prop)→dG→aA→Prop
 | [],K,ρ,H=>K ρ H
 |
  i::is,K,ρ,H=>match BU i.g ρ with
  | none=>False
  | some false=>VS fl lo is K (JS ρ i.dst pR) H
  | some true=>i.cf.all (lP ρ H)=true∧eI fl lo i.quiet i.op ρ H fun v H'=>VS fl lo is K (JS ρ i.dst v) H'
def aeG:List Nat→dG→aA→Option (dG×aA)
 | [],ρ,H=>some (ρ,H)
 |
  t::ts,ρ,H=>match fz depth H (ρ t) with
  | some v=>aeG ts (JS ρ (some t) v) (cY H (iW depth H (ρ t)))
  | none=>none
def Kd (r:Option VV) (H:aA) (K:VV→aA→Prop):Prop:=match r with
 | some v=>K v H
 | none=>False
def gh (K:dG→aA→Prop) (ρ:dG) (H:aA):Prop:=∃ts bC H',aeG ts ρ H=some (bC,H')∧K bC H'
def iF (k:Nat) (H:aA):Bool:=H.all fun
 | .row _ es _ _=>lY k es
 | .dead=>true
def Ig (k:Nat) (ρ:dG):dG:=fun t=>Ji k (ρ t)
abbrev VQ:=Ex→dG→aA→Prop
def nA (K:dG→aA→Prop) (Q:VQ):VQ
 | .normal=>K
 | x=>Q x
def AA (id:Nat) (Q:VQ):VQ
 | .exit RE=>fun ρ H=>if RE=id then Q .normal ρ H else Q (.exit RE) ρ H
 | x=>Q x
def RH (body:VQ→dG→aA→Prop) (Q:VQ):Nat→dG→aA→Prop
 | 0,_,_=>False
 | n+1,ρ,H=>body (nA (fun bC H'=>RH body Q n bC H'∨(iF H.length (H'.take H.length)=true∧RH body Q n (Ig H.length bC) (H'.take H.length))) Q) ρ H
noncomputable def VW (fl:Fl) (lo:Nat):aD→VQ→dG→aA→Prop
 | .skip,Q,ρ,H=>Q .normal ρ H
 | .dI ops,Q,ρ,H=>VS fl lo ops (Q .normal) ρ H
 | .seq a b,Q,ρ,H=>VW fl lo a (nA (VW fl lo b Q) Q) ρ H
 |
  .cond c a b,Q,ρ,H=>match eE ρ c with
  | .sc (.bool t)=>if t=true then VW fl lo a Q ρ H else VW fl lo b Q ρ H
  | _=>False
 | .block id a,Q,ρ,H=>VW fl lo a (AA id Q) ρ H
 | .loop a,Q,ρ,H=>∃n,RH (VW fl lo a) (fun x=>gh (Q x)) n ρ H
 | .exit id,Q,ρ,H=>Q (.exit id) ρ H
 | .ret,Q,ρ,H=>Q .ret ρ H
def EL (ρ:dG) (H:aA):AM→Option VV
 | .tmp t=>some (ρ t)
 | .cell t agg size=>cR agg size (ρ t) H
def qN (ρ:dG) (H:aA):List AM→Option (List VV)
 | []=>some []
 |
  r::rs=>match EL ρ H r,qN ρ H rs with
  | some v,some vs=>some (v::vs)
  | _,_=>none
def oC (res:List AM) (ρ:dG) (H:aA):Option VV :=
 match qN ρ H res with
 | some [v]=>some v
 | some vs=>some (.dS vs)
 | none=>none
def G0 (R:VV→aA→Prop):Option VV→aA→Prop
 | some v,H=>R v H
 | none,_=>False
def AN (res:List AM) (R:VV→aA→Prop):VQ
 | .exit _,_,_=>False
 | .normal,ρ,H=>G0 R (oC res ρ H) H
 | .ret,ρ,H=>G0 R (oC res ρ H) H
def ID (args:List VV):dG:=fun k=>args.getD k pR
section
variable {lo eH:Nat}
theorem FI {V:View} (hS:SR V lo eH) {P':aE} (hp:V.P <+: P'):SR { V with P:=P',F:=fun q=>V.F q∨(V.P.length≤q∧q<P'.length) } lo eH∧E1 lo V { V with P:=P',F:=fun q=>V.F q∨(V.P.length≤q∧q<P'.length) }:=by
 obtain⟨L,rfl⟩:=hp
 have hU:Up V { V with P:=V.P++L,F:=fun q=>V.F q∨(V.P.length≤q∧q<(V.P++L).length) }:=⟨fun _ h => .inl h,fun b hb=>List.getElem?_append_left (hS.fr b hb),Nat.le_refl _,fun b g es e w _ h=>⟨g,es,w,h,Nat.le_refl _,fun _=>rfl⟩,rfl,by simp,fun b g es e w hb _=>⟨g,es,w,hb,rfl,id⟩⟩
 refine⟨⟨fun b g es e w hb => ?_,fun b g es e hb=>⟨fun hF => ?_,(hS.wr b g es e hb).2⟩,hS.inj,fun b hb => ?_,by have:=hS.Sx;simp;omega,by have:=hS.J8;simp;omega⟩,{ hU with bU:=fun q hq _=>List.getElem?_append_left hq,CM:=fun q hq => ?_ }⟩
 ·obtain⟨r,p,h1,h2,h3⟩:=hS.row b g es e w hb
  exact⟨r,p,by rw[←h1];exact List.getElem?_append_left (hS.mlt hb),h2,h3.mono hU⟩
 ·rcases hF with hF | hF
  ·exact(hS.wr b g es e hb).1 hF
  ·have h1:=hS.mlt hb
   have h2:V.P.length≤V.m b:=hF.1
   omega
 ·rcases hb with hb | hb
  ·have:=hS.fr b hb
   simp;omega
  ·exact hb.2
 ·rcases hq with hq | hq
  ·exact .inl hq
  ·exact .inr (.inl hq.1)
theorem aaS {V V':View} {x:VV} {v:Value} (h:VR V x v):KC x=true→VR V' x v:=by
 induction h using VR.rec (motive_2:=fun xs vs _=>Qf xs=true→VL V' xs vs) with
 | sc _ h=>intro _;exact .sc _ h
 | agg cs ps _ ih=>intro hx;exact .agg _ _ (ih hx)
 | dS cs ps _ ih=>intro hx;exact .dS _ _ (ih hx)
 | any=>intro hx;cases hx
 | oI=>intro hx;cases hx
 | tree=>intro hx;cases hx
 | cZ=>intro hx;cases hx
 | ref=>intro hx;cases hx
 | ptr=>intro hx;cases hx
 | uO=>intro hx;cases hx
 | nil=>exact .nil
 |
  cons x v xs vs _ _ ih SO =>
  rename_i hx
  simp only[Qf,Bool.and_eq_true] at hx
  exact .cons _ _ _ _ (ih hx.1) (SO hx.2)
theorem VR.DS {V':View} {G:Nat→Prop} {P:aE} {x:VV} {v:Value} (hF:∀b,G b→V'.F b∧V'.P[b]? = P[b]?) (h:VR (bare G P) x v):VR V' x v:=by
 induction h using VR.rec (motive_2:=fun xs vs _=>VL V' xs vs) with
 | any=>exact .any _
 | sc _ h=>exact .sc _ h
 | agg cs ps _ ih=>exact .agg _ _ ih
 | dS cs ps _ ih=>exact .dS _ _ ih
 | oI k hk=>exact .oI k hk
 | tree es k b o c r e p TW hb ho hc he hk _ ih=>exact .tree es k b o c r e p (hF _ TW).1 (by rw[(hF _ TW).2];exact hb) ho hc he hk ih
 | cZ x off b o r e p TW hb ho _ ih=>exact .cZ x off b o r e p (hF _ TW).1 (by rw[(hF _ TW).2];exact hb) ho ih
 | ref b g o n c a n' c' bB hg ha hq=>exact absurd bB (Nat.not_lt_zero _)
 | ptr b g j off a bB hg ha hq=>exact absurd bB (Nat.not_lt_zero _)
 | uO f fR ps _ ih=>exact .uO _ _ _ ih
 | nil=>exact .nil
 | cons x v xs vs _ _ ih SO=>exact .cons _ _ _ _ ih SO
theorem P4 {V:View} (hS:SR V lo eH) {f aeD:Nat} (aeE:aeD≤V.P.length) {args:List VV} {eG:List Value} {G:Nat→Prop} (hG:∀b,G b→b<V.P.length) (hl:VL (bare G V.P) args eG) {K:VV→Prop} (h:F1 f args K) :
  ∃P' pv r,rG f eG aeD V.P=some (pv,P')∧V.P <+: P'∧VR (bare (fun q=>G q∨(V.P.length≤q∧q<P'.length)) P') r pv∧aR r=true∧K r:=by
 unfold F1 tk at h
 split at h
 ·rename_i r hr
  obtain⟨h1,h2,h3⟩:=Pb hr
  obtain⟨P',pv,h4,h5,h6⟩:=h3 G V.P eG aeD hG hl aeE
  exact⟨P',pv,r,h4,h5,h6,Rk r h2,h⟩
 ·cases h
theorem Gt {V:View} (hS:SR V lo eH) {f:Nat} {args:List VV} {eG:List Value} (hl:VL V args eG) {q:Bool} {K:VV→aA→Prop} (h:cQ f args (if q then V.H.length else lo) V.H K):Pd lo eH V (rG f eG (if q then V.P.length else eH) V.P) K:=by
 have hlq:(if q=true then V.P.length else eH)≤V.P.length:=by split;exact Nat.le_refl _;exact hS.Sx
 unfold cQ at h
 split at h
 ·cases q with
  | false=>exact h V eH eG rfl hS hl
  |
   true =>
   have hS':SR V V.H.length V.P.length:=⟨hS.row,fun b g es e hb=>⟨(hS.wr b g es e hb).1,fun hl=>by have:=(List.getElem?_eq_some_iff.1 hb).1;omega⟩,hS.inj,hS.fr,Nat.le_refl _,hS.J8⟩
   obtain⟨pv,V',r,g1,g3,g4,g5,g6⟩:=h V V.P.length eG rfl hS' hl
   refine⟨pv,V',r,g1,⟨g3.row,fun b g es e hb=>⟨(g3.wr b g es e hb).1,fun EF => ?_⟩,g3.inj,g3.fr,Nat.le_trans hS.Sx g4.Eo,g3.J8⟩,{ g4.toUp with bU:=fun p hp _=>g4.bU p hp fun b g es e hb EF => ?_,CM:=g4.CM },g5,g6⟩
   ·rcases Nat.lt_or_ge (V'.m b) V.P.length with bB | CE
    ·obtain⟨g0,es0,w0,k1,k2,k3⟩:=g4.B1 b g es e true hb bB
     have:=k3 rfl
     subst this
     rw[k2]
     exact(hS.wr _ _ _ _ k1).2 EF
    ·exact Nat.le_trans hS.Sx CE
   ·have:=(List.getElem?_eq_some_iff.1 hb).1
    have EF:V.H.length≤b:=EF
    omega
 ·split at h
  ·rename_i hp
   obtain⟨P',pv,r,g1,g2,g3,g4,g5⟩:=P4 hS (aeD:=if q=true then V.P.length else eH) hlq (G:=V.F) hS.fr (VL.pure (V:=V) (V':=bare V.F V.P) (fun b hb=>⟨hb,rfl⟩) hl hp) h
   obtain⟨k1,k2⟩:=FI hS g2
   exact⟨pv,_,r,g1,k1,k2,g3.DS (fun b hb=>⟨hb,rfl⟩),g5⟩
  ·split at h
   case h_2=>cases h
   rename_i iI W4
   unfold F1 tk at h
   split at h
   case h_2=>cases h
   rename_i r hr
   obtain⟨h1,h2,h3⟩:=Pb hr
   split at h
   ·rename_i hfl
    have BJ:=Ea hS (G:=(· < V.P.length)) (fun q hq=>hS.fr q hq) hl W4 (fun i _ g es e w hb=>hS.mlt hb)
    obtain⟨P',pv,g1,g2,g3⟩:=h3 _ V.P eG _ (fun _ h=>h) BJ hlq
    obtain⟨k1,k2⟩:=FI hS g2
    exact⟨pv,_,r,g1,k1,k2,aaS g3 hfl,h⟩
   ·obtain⟨k1,k2,k3,k4,k5,k6⟩:=vM (args.flatMap (iW depth V.H)) hS
    have BJ:=Ea hS (G:=(V.cY (args.flatMap (iW depth V.H))).F) (fun q hq=>k2.F q hq) hl W4 k6
    rw[←k4] at BJ
    obtain⟨P',pv,g1,g2,g3⟩:=h3 _ _ eG _ k1.fr BJ (by rw[k4];exact hlq)
    obtain⟨j1,j2⟩:=FI k1 g2
    rw[k4] at g1
    refine⟨pv,_,r,g1,j1,k2.trans j2,g3.DS (fun b hb=>⟨hb,rfl⟩),?_⟩
    show K r (V.cY (args.flatMap (iW depth V.H))).H
    rw[k3]
    exact h
def AG (lo eH:Nat) (V:View) (c:aD) (Q:VQ) (kH:Env):Prop :=
 W eH c (fun x MA P'=>∃V' bC,V'.P=P'∧SR V' lo eH∧E1 lo V V'∧ER V' bC MA∧Q x bC V'.H) kH V.P
theorem FW {V:View} {ρ:dG} {kH:Env} (hE:ER V ρ kH) {g:Option (Nat×Bool)} {t:Bool} (h:BU g ρ=some t):An g kH=some t:=by
 unfold BU at h
 unfold An
 split at h
 ·exact h
 ·rename_i t' want
  have ht:=hE t'
  split at h
  ·rename_i b hb
   obtain⟨e,_⟩:=qS ht hb
   simp only[e]
   exact h
  ·rename_i vs hb
   rw[hb] at ht
   generalize hu:kH t'=u at ht
   cases ht with
   | dS cs ps hl=>simp only[hu];exact h
  ·cases h
theorem SJ {V:View} (hS:SR V lo eH) {x y:VV} {u w:Value} (hx:VR V x u) (hy:VR V y w) (h:rI V.H x y=true):anK u w=true:=by
 have key:∀ {z:VV} {v:Value},VR V z v→(match tX V.H z with
   | .bad=>True
   | .no=>iX v=none
   | .row i wr=>iX v=some (V.m i)∧∃g es e,V.H[i]? = some (.row g es e wr)
   | .B1 i=>∀q,iX v=some q→∀b' g' es e w,V.H[b']? = some (.row g' es e w)→b'≠i→V.m b'≠q
   | .tree=>∀b,iX v=some b→V.F b):=by
  intro z v hz
  cases hz with
  | any=>simp only[tX]
  | sc v h =>
      cases v<;>first | rfl | cases h | skip
      rename_i a;cases a<;>first | rfl | cases h
  | agg=>rfl
  | dS=>rfl
  | oI k hk =>
       rcases hk with rfl | rfl
       ·intro b hb;cases hb
       ·rfl
  |
   tree es k b o c r e p hF hb ho hc he hk hl =>
   cases es with
   |
    nil=>cases k with
    | nil=>exact hk.elim
    | op=>intro b' pZ;cases pZ;exact hF
    | cl=>intro b' pZ;cases pZ;exact hF
   | cons=>intro b' pZ;cases pZ;exact hF
  | cZ x off b o r e p hF hb ho hl=>intro b' pZ;cases pZ;exact hF
  |
   ref b g o n c a n' c' bB hg ha hq =>
   simp only[tX]
   cases hr:aI V.H b g with
   | none=>exact fun q h=>(by
     cases a with
     | none=>cases h
     | some a0=>cases h;exact(hq a0 rfl).2.2)
   |
    some q =>
    obtain⟨es,e,wr⟩:=q
    rw[cG] at hr
    obtain⟨rfl,rfl,rfl⟩:=ha _ _ _ hr
    exact⟨rfl,g,es,e,hr⟩
  |
   ptr b g j off a bB hg ha hq =>
   simp only[tX]
   cases hr:aI V.H b g with
   | none=>exact fun q h=>(by
     cases a with
     | none=>cases h
     | some a0=>cases h;exact(hq a0 rfl).2.2)
   |
    some q =>
    obtain⟨es,e,wr⟩:=q
    rw[cG] at hr
    have:=ha _ _ _ hr
    subst this
    exact⟨rfl,g,es,e,hr⟩
  | uO=>rfl
 have kx:=key hx
 have ky:=key hy
 unfold rI at h
 unfold anK
 cases hbx:tX V.H x with
 | bad=>rw[hbx] at h;have h:false=true:=h;cases h
 |
  no =>
  rw[hbx] at kx
  have kx:iX u=none:=kx
  rw[kx]
 |
  B1 i =>
  rw[hbx] at kx h
  have kx:∀q,iX u=some q→∀b' g' es e w,V.H[b']? = some (.row g' es e w)→b'≠i→V.m b'≠q:=kx
  cases Ro:tX V.H y with
  | bad=>rw[Ro] at h;have h:false=true:=h;cases h
  |
   no =>
   rw[Ro] at ky
   have ky:iX w=none:=ky
   rw[ky]
   cases iX u<;>rfl
  | B1 j=>rw[Ro] at h;have h:false=true:=h;cases h
  | tree=>rw[Ro] at h;have h:false=true:=h;cases h
  |
   row j wj =>
   rw[Ro] at ky h
   obtain⟨k3,g2,es2,e2,k4⟩:iX w=some (V.m j)∧∃g es e,V.H[j]? = some (.row g es e wj):=ky
   have h:(i != j)=true:=h
   simp only[bne_iff_ne,ne_eq] at h
   rw[k3]
   cases hu:iX u with
   | none=>rfl
   |
    some q =>
    simp only[bne_iff_ne,ne_eq]
    exact fun hm=>kx q hu j _ _ _ _ k4 (Ne.symm h) hm.symm
 |
  row i wi =>
  rw[hbx] at kx h
  obtain⟨k1,g1,Co,e1,k2⟩:iX u=some (V.m i)∧∃g es e,V.H[i]? = some (.row g es e wi):=kx
  cases Ro:tX V.H y with
  | bad=>rw[Ro] at h;have h:false=true:=h;cases h
  |
   no =>
   rw[Ro] at ky
   have ky:iX w=none:=ky
   rw[ky]
   cases iX u<;>rfl
  |
   B1 j =>
   rw[Ro] at ky h
   have ky:∀q,iX w=some q→∀b' g' es e w,V.H[b']? = some (.row g' es e w)→b'≠j→V.m b'≠q:=ky
   have h:(i != j)=true:=h
   simp only[bne_iff_ne,ne_eq] at h
   rw[k1]
   cases hw:iX w with
   | none=>rfl
   |
    some q =>
    simp only[bne_iff_ne,ne_eq]
    exact fun hm=>ky q hw i _ _ _ _ k2 h hm
  |
   row j wj =>
   rw[Ro] at ky h
   obtain⟨k3,g2,es2,e2,k4⟩:iX w=some (V.m j)∧∃g es e,V.H[j]? = some (.row g es e wj):=ky
   rw[k1,k3]
   have h:(i != j)=true:=h
   simp only[bne_iff_ne,ne_eq] at h ⊢
   exact fun hm=>h (hS.inj _ _ _ _ _ _ _ _ _ _ k2 k4 hm)
  |
   tree =>
   rw[Ro] at ky h
   have ky:∀b,iX w=some b→V.F b:=ky
   have h:wi=true:=h
   subst h
   cases hw:iX w with
   | none=>rw[k1]
   |
    some b =>
    rw[k1]
    simp only[bne_iff_ne,ne_eq]
    exact fun hm=>(hS.wr _ _ _ _ k2).1 (by rw[hm];exact ky b hw)
 |
  tree =>
  rw[hbx] at kx h
  have kx:∀b,iX u=some b→V.F b:=kx
  cases Ro:tX V.H y with
  | bad=>rw[Ro] at h;have h:false=true:=h;cases h
  |
   no =>
   rw[Ro] at ky
   have ky:iX w=none:=ky
   rw[ky]
   cases iX u<;>rfl
  | tree=>rw[Ro] at h;have h:false=true:=h;cases h
  | B1 j=>rw[Ro] at h;have h:false=true:=h;cases h
  |
   row j wj =>
   rw[Ro] at ky h
   obtain⟨k1,g1,Co,e1,k2⟩:iX w=some (V.m j)∧∃g es e,V.H[j]? = some (.row g es e wj):=ky
   have h:wj=true:=h
   subst h
   cases hw:iX u with
   | none=>rfl
   |
    some b =>
    rw[k1]
    simp only[bne_iff_ne,ne_eq]
    exact fun hm=>(hS.wr _ _ _ _ k2).1 (by rw[←hm];exact kx b hw)
theorem Qo {V:View} (hS:SR V lo eH) {ρ:dG} {kH:Env} (hE:ER V ρ kH) {fl:Fl} {q:Bool} {op:nN} {K:VV→aA→Prop} (h:eI fl lo q op ρ V.H K):Pd lo eH V (jN eH q op kH V.P) K:=by
 have other:∀ {v H'},vop fl lo op ρ V.H=some (v,H')→K v H'→Pd lo eH V (jN eH q op kH V.P) K:=by
  intro v H' h1 h2
  obtain⟨pv,V',g1,g2,g3,g4,g5⟩:=WN hS hE (q:=q) h1
  exact⟨pv,V',v,g1,g3,g4,g5,by rw[g2];exact h2⟩
 unfold eI at h
 split at h
 ·rw[Xe]
  exact Gt hS (hE.evs _) h
 ·rename_i fv args
  rw[S5]
  have hf:=hE.ev fv
  split at h
  ·rename_i f fR hfv
   rw[hfv] at hf
   generalize ev kH fv=u at hf ⊢
   cases hf with
   |
    uO f fR ps hl =>
    unfold Zu
    simp only[List.nil_append]
    exact Gt hS ((hE.evs args).append hl) h
  ·cases h
 ·split at h
  ·rename_i v H' h1
   exact other h1 h
  ·cases h
theorem Kw {fl:Fl} {K:dG→aA→Prop}:∀(is:List PI) {V:View} {ρ:dG} {kH:Env},SR V lo eH→ER V ρ kH→VS fl lo is K ρ V.H →
  WS eH is (fun MA P'=>∃V' bC,V'.P=P'∧SR V' lo eH∧E1 lo V V'∧ER V' bC MA∧K bC V'.H) kH V.P
 |
  [],V,ρ,kH,hS,hE,h=>by
  rw[alC]
  exact⟨V,ρ,rfl,hS,E1.refl _ _,hE,h⟩
 |
  i::is,V,ρ,kH,hS,hE,h=>by
  unfold VS at h
  rw[amS]
  unfold zM
  split at h
  ·cases h
  ·rename_i hw
   rw[FW hE hw]
   exact⟨_,_,rfl,Kw is hS (hE.put (.dS [] [] .nil)) h⟩
  ·rename_i hw
   rw[FW hE hw]
   obtain⟨PT,h⟩:=h
   have awX:i.cf.all (AW kH)=true:=by
    rw[List.all_eq_true] at PT ⊢
    intro c hc
    exact SJ hS (hE.ev c.1) (hE.ev c.2) (PT c hc)
   simp only[awX,if_true]
   obtain⟨pv,V',v,g1,g2,g3,g4,g5⟩:=Qo hS hE h
   refine⟨pv,V'.P,?_,?_⟩
   ·unfold jN at g1
    exact g1
   ·obtain⟨U0,Wa,k1,Rf,Bp,k2,k3,k4,k5,k6⟩:=Kw is g2 ((hE.mono g3.toUp).put g4) g5
    exact⟨U0,Wa,k1,Rf,Bp,k2,k3,g3.trans k4,k5,k6⟩
theorem Ko:∀(ts:List Nat) {V:View} {ρ bC:dG} {kH:Env} {H':aA},SR V lo eH→ER V ρ kH→aeG ts ρ V.H=some (bC,H')→∃V',V'.P=V.P∧V'.H=H'∧SR V' lo eH∧E1 lo V V'∧ER V' bC kH
 |
  [],V,ρ,bC,kH,H',hS,hE,h=>by
  cases h
  exact⟨V,rfl,rfl,hS,E1.refl _ _,hE⟩
 |
  t::ts,V,ρ,bC,kH,H',hS,hE,h=>by
  unfold aeG at h
  split at h
  case h_2=>cases h
  rename_i v hv
  obtain⟨k1,k2,k3,k4,k5,k6⟩:=vM (iW depth V.H (ρ t)) hS
  have hx:=Ls hS (G:=(V.cY (iW depth V.H (ρ t))).F) (fun q hq=>k2.F q hq) depth (ρ t) v (kH t) (hE t) hv k6
  have Rr:VR (V.cY (iW depth V.H (ρ t))) v (kH t):=hx.DS (fun b hb=>⟨hb,by rw[k4]⟩)
  rw[←k3] at h
  obtain⟨V',g1,g2,g3,g4,g5⟩:=Ko ts (kH:=kH) k1 (by
   have e:=(hE.mono k2.toUp).put (d:=some t) Rr
   have ee:put kH (some t) (kH t)=kH:=by
    funext k
    simp only[put]
    split
    ·rename_i hk;rw[hk]
    ·rfl
   rw[ee] at e
   exact e) h
  exact⟨V',g1.trans k4,g2,g3,k2.trans g4,g5⟩
theorem Sk {V:View} (hS:SR V lo eH) {ρ:dG} {kH:Env} (hE:ER V ρ kH) {K:dG→aA→Prop} (h:gh K ρ V.H):∃V' bC,V'.P=V.P∧SR V' lo eH∧E1 lo V V'∧ER V' bC kH∧K bC V'.H:=by
 obtain⟨ts,bC,H',h1,h2⟩:=h
 obtain⟨V',g1,g2,g3,g4,g5⟩:=Ko ts hS hE h1
 exact⟨V',bC,g1,g3,g4,g5,by rw[g2];exact h2⟩
theorem KO {k:Nat} {es:List VV}:lY k es=true↔∀x∈es,below k x=true:=by
 induction es with
 | nil=>simp[lY]
 | cons x xs ih=>simp[lY,ih]
theorem Dx {k:Nat} {es:List VV} (h:lY k es=true):lY k (es.flatMap aB)=true:=by
 rw[KO] at h ⊢
 intro x hx
 obtain⟨y,hy,AL⟩:=List.mem_flatMap.1 hx
 have:=h y hy
 unfold aB at AL
 split at AL
 ·exact KO.1 (by simpa[below] using this) x AL
 ·rw[List.mem_singleton] at AL;subst AL;exact this
theorem Sn {k:Nat} {x:VV} (h:below k x=true):lY k (aB x)=true:=by
 have:=Dx (k:=k) (es:=[x]) (by simp[lY,h])
 simpa using this
def View.Ar (V:View) (k:Nat):View:={ V with H:=V.H.take k }
theorem VR.Ar {V:View} {k:Nat} (hk:k≤V.H.length) {x:VV} {v:Value} (h:VR V x v):PM.below k x=true→VR (V.Ar k) x v:=by
 have he:∀ {b:Nat},b<k→∀y,(V.Ar k).H[b]? = some y→V.H[b]? = some y:=fun VF y hy=>by
  have:(V.H.take k)[_]? = some y:=hy
  rw[List.getElem?_take,if_pos VF] at this
  exact this
 have hT:∀ {b:Nat} {y:cA},(V.Ar k).H[b]? = some y→V.H[b]? = some y:=fun {b y} hy=>by
  have h:(V.H.take k)[b]? = some y:=hy
  rw[List.getElem?_take] at h
  split at h
  ·exact h
  ·cases h
 induction h using VR.rec (motive_2:=fun xs vs _=>lY k xs=true→VL (V.Ar k) xs vs) with
 | any=>intro _;exact .any _
 | sc _ h=>intro _;exact .sc _ h
 | agg cs ps _ ih=>intro hb;exact .agg _ _ (ih hb)
 | dS cs ps _ ih=>intro hb;exact .dS _ _ (ih hb)
 | oI k hk=>intro _;exact .oI k hk
 | tree es k b o c r e p TW uJ ho hc he XS _ ih=>intro hb;exact .tree es k b o c r e p TW uJ ho hc he XS (ih (Dx hb))
 | cZ x off b o r e p TW uJ ho _ ih=>intro hb;exact .cZ x off b o r e p TW uJ ho (ih (Sn hb))
 |
  ref b g o n c a n' c' bB hg ha hq =>
  intro hb
  have VF:b<k:=by simpa[PM.below] using hb
  exact .ref b g o n c a n' c' (by show b<(V.H.take k).length;simp;omega) (fun g' es e w hr=>hg _ _ _ _ (he VF _ hr)) (fun es e w hr=>ha _ _ _ (he VF _ hr)) fun a0 h=>⟨(hq a0 h).1,(hq a0 h).2.1,fun b' g' es e w hr=>(hq a0 h).2.2 b' g' es e w (hT hr)⟩
 |
  ptr b g j off a bB hg ha hq =>
  intro hb
  have VF:b<k:=by simpa[PM.below] using hb
  exact .ptr b g j off a (by show b<(V.H.take k).length;simp;omega) (fun g' es e w hr=>hg _ _ _ _ (he VF _ hr)) (fun es e w hr=>ha _ _ _ (he VF _ hr)) fun a0 h=>⟨(hq a0 h).1,(hq a0 h).2.1,fun b' g' es e w hr=>(hq a0 h).2.2 b' g' es e w (hT hr)⟩
 | uO f fR ps _ ih=>intro hb;exact .uO _ _ _ (ih hb)
 | nil=>exact .nil
 |
  cons x v xs vs _ _ ih SO =>
  rename_i hb
  simp only[lY,Bool.and_eq_true] at hb
  exact .cons _ _ _ _ (ih hb.1) (SO hb.2)
theorem VL.Ar {V:View} {k:Nat} (hk:k≤V.H.length) {xs:List VV} {vs:List Value} (h:VL V xs vs) (hb:lY k xs=true):VL (V.Ar k) xs vs:=by
 induction xs generalizing vs with
 | nil=>cases h;exact .nil
 |
  cons x xs ih=>cases h with
  |
   cons _ v _ vs h hs =>
   simp only[lY,Bool.and_eq_true] at hb
   exact .cons _ _ _ _ (h.Ar hk hb.1) (ih hs hb.2)
theorem Sh {V V':View} (hS:SR V' lo eH) {ρ:dG} {kH:Env} (hE:ER V' ρ kH) (hx:E1 lo V V') (hr:iF V.H.length (V'.H.take V.H.length)=true) :
  SR (V'.Ar V.H.length) lo eH∧E1 lo V (V'.Ar V.H.length)∧ER (V'.Ar V.H.length) (Ig V.H.length ρ) kH:=by
 have hk:=hx.len
 have get:∀ {b:Nat} {y:cA},(V'.Ar V.H.length).H[b]? = some y→V'.H[b]? = some y:=by
  intro b y h
  have h:(V'.H.take V.H.length)[b]? = some y:=h
  rw[List.getElem?_take] at h
  split at h
  ·exact h
  ·cases h
 refine⟨⟨fun b g es e w hb => ?_,fun b g es e hb=>hS.wr b g es e (get hb),fun a b g es e w g' mU e' w' ha hb hm=>hS.inj a b _ _ _ _ _ _ _ _ (get ha) (get hb) hm,hS.fr,hS.Sx,hS.J8⟩,
  { F:=hx.F,P:=hx.P,len:=by show V.H.length≤(V'.H.take V.H.length).length;simp;omega,row:=fun b g es e w bB hb=>hx.row b g es e w bB (get hb),J8:=hx.J8,Eo:=hx.Eo,B1:=fun b g es e w hb hm=>hx.B1 b g es e w (get hb) hm,bU:=hx.bU,CM:=hx.CM },fun t => ?_⟩
 ·obtain⟨r,p,h1,h2,h3⟩:=hS.row b g es e w (get hb)
  refine⟨r,p,h1,h2,h3.Ar hk (Dx ?_)⟩
  have:=List.all_eq_true.1 hr _ (List.mem_of_getElem? (show (V'.H.take V.H.length)[b]? = some _ from hb))
  exact this
 ·unfold Ig Ji
  split
  ·rename_i hb
   exact(hE t).Ar hk hb
  ·exact .any _
theorem QU {c:aD} {Q:Ex→Env→aE→Prop} {ρ:Env} {H:aE} (h:W eH c (apQ (fun bC H'=>W eH (.loop c) Q bC H') Q) ρ H):W eH (.loop c) Q ρ H:=by
 obtain⟨x,bC,H',h1,h2⟩:=h
 unfold W
 rw[Wl,h1]
 cases x with
 |
  normal =>
  obtain⟨y,Bp,H'',h3,h4⟩:=h2
  exact⟨y,Bp,H'',h3,h4⟩
 | exit i=>exact⟨_,_,_,rfl,h2⟩
 | ret=>exact⟨_,_,_,rfl,h2⟩
theorem uU {fl:Fl}:∀(c:aD) {V:View} {ρ:dG} {kH:Env} {Q:VQ},SR V lo eH→ER V ρ kH→VW fl lo c Q ρ V.H→AG lo eH V c Q kH
 |
  .skip,V,ρ,kH,Q,hS,hE,h=>by
  unfold AG
  rw[akU]
  exact⟨V,ρ,rfl,hS,E1.refl _ _,hE,h⟩
 |
  .exit id,V,ρ,kH,Q,hS,hE,h=>by
  unfold AG
  rw[aiS]
  exact⟨V,ρ,rfl,hS,E1.refl _ _,hE,h⟩
 |
  .ret,V,ρ,kH,Q,hS,hE,h=>by
  unfold AG
  rw[amE]
  exact⟨V,ρ,rfl,hS,E1.refl _ _,hE,h⟩
 |
  .dI ops,V,ρ,kH,Q,hS,hE,h=>by
  unfold AG
  rw[amJ]
  exact Kw ops hS hE h
 |
  .seq a b,V,ρ,kH,Q,hS,hE,h=>by
  unfold AG
  rw[apL]
  refine(uU a hS hE h).mono ?_
  rintro x MA P' ⟨V',bC,rfl,g2,g3,g4,g5⟩
  cases x with
  |
   normal =>
   refine(uU b g2 g4 g5).mono ?_
   rintro y U0 Wa ⟨Rf,Bp,k1,k2,k3,k4,k5⟩
   exact⟨Rf,Bp,k1,k2,g3.trans k3,k4,k5⟩
  | exit i=>exact⟨V',bC,rfl,g2,g3,g4,g5⟩
  | ret=>exact⟨V',bC,rfl,g2,g3,g4,g5⟩
 |
  .cond c a b,V,ρ,kH,Q,hS,hE,h=>by
  unfold AG
  rw[ahU]
  unfold VW at h
  split at h
  ·rename_i t hc
   obtain⟨e,_⟩:=qS (hE.ev c) hc
   refine⟨t,e,fun ht => ?_,fun ht => ?_⟩
   ·rw[if_pos ht] at h
    exact uU a hS hE h
   ·rw[if_neg (by simp[ht])] at h
    exact uU b hS hE h
  ·cases h
 |
  .block id a,V,ρ,kH,Q,hS,hE,h=>by
  unfold AG
  rw[adD]
  refine(uU a hS hE h).mono ?_
  rintro x MA P' ⟨V',bC,rfl,g2,g3,g4,g5⟩
  cases x with
  | normal=>exact⟨V',bC,rfl,g2,g3,g4,g5⟩
  |
   exit i =>
   rw[Ir]
   have g5:if i=id then Q .normal bC V'.H else Q (.exit i) bC V'.H:=g5
   split at g5
   ·rename_i hi
    rw[if_pos hi]
    exact⟨V',bC,rfl,g2,g3,g4,g5⟩
   ·rename_i hi
    rw[if_neg hi]
    exact⟨V',bC,rfl,g2,g3,g4,g5⟩
  | ret=>exact⟨V',bC,rfl,g2,g3,g4,g5⟩
 |
  .loop a,V,ρ,kH,Q,hS,hE,h=>by
  obtain⟨n,h⟩:=h
  have key:∀n {V:View} {ρ:dG} {kH:Env},SR V lo eH→ER V ρ kH→RH (VW fl lo a) (fun x=>gh (Q x)) n ρ V.H→AG lo eH V (.loop a) Q kH:=by
   intro n
   induction n with
   | zero=>intro V ρ kH _ _ h;cases h
   |
    succ n ih =>
    intro V ρ kH hS hE h
    unfold AG
    refine QU ?_
    refine(uU a hS hE h).mono ?_
    rintro x MA P' ⟨V',bC,rfl,g2,g3,g4,g5⟩
    cases x with
    |
     normal =>
     rcases g5 with g5 | ⟨g5,g6⟩
     ·refine(ih g2 g4 g5).mono ?_
      rintro y U0 Wa ⟨Rf,Bp,k1,k2,k3,k4,k5⟩
      exact⟨Rf,Bp,k1,k2,g3.trans k3,k4,k5⟩
     ·obtain⟨t1,t2,t3⟩:=Sh g2 g4 g3 g5
      refine(ih t1 t3 g6).mono ?_
      rintro y U0 Wa ⟨Rf,Bp,k1,k2,k3,k4,k5⟩
      exact⟨Rf,Bp,k1,k2,t2.trans k3,k4,k5⟩
    |
     exit i =>
     obtain⟨Rf,Bp,k1,k2,k3,k4,k5⟩:=Sk g2 g4 g5
     exact⟨Rf,Bp,k1,k2,g3.trans k3,k4,k5⟩
    |
     ret =>
     obtain⟨Rf,Bp,k1,k2,k3,k4,k5⟩:=Sk g2 g4 g5
     exact⟨Rf,Bp,k1,k2,g3.trans k3,k4,k5⟩
  exact key n hS hE h
theorem wU {V:View} (hS:SR V lo eH) {ρ:dG} {kH:Env} (hE:ER V ρ kH) {res:List AM} {v:VV} (h:oC res ρ V.H=some v):∃pv,qM res kH V.P=some pv∧VR V v pv:=by
 have one:∀ {r:AM} {v:VV},EL ρ V.H r=some v→∃pv,VG kH V.P r=some pv∧VR V v pv:=by
  intro r v h
  cases r with
  | tmp t=>cases h;exact⟨_,rfl,hE t⟩
  | cell t agg size=>exact Kp hS (hE t) h
 have all:∀ {rs:List AM} {vs:List VV},qN ρ V.H rs=some vs→∃ps,B2 kH V.P rs=some ps∧VL V vs ps:=by
  intro rs
  induction rs with
  | nil=>intro vs h;cases h;exact⟨[],rfl,.nil⟩
  |
   cons r rs ih =>
   intro vs h
   unfold qN at h
   split at h
   ·rename_i v vs' h1 h2
    cases h
    obtain⟨pv,k1,k2⟩:=one h1
    obtain⟨ps,k3,k4⟩:=ih h2
    exact⟨pv::ps,by unfold B2;rw[k1,k3],.cons _ _ _ _ k2 k4⟩
   ·cases h
 unfold oC at h
 split at h
 ·rename_i v' hv
  cases h
  obtain⟨ps,k1,k2⟩:=all hv
  cases k2 with
  |
   cons _ pv _ _ hx PQ =>
   cases PQ
   exact⟨pv,by unfold qM;rw[k1],hx⟩
 ·rename_i vs fH hv
  cases h
  obtain⟨ps,k1,k2⟩:=all hv
  refine⟨.tuple ps.toArray,?_,.dS _ _ k2⟩
  unfold qM
  rw[k1]
  split
  ·rename_i pv he
   injection he with he
   subst he
   cases k2 with
   | cons x _ _ _ hx PQ=>cases PQ;exact absurd rfl (fH x)
  ·rename_i he
   injection he with he
   rw[he]
  ·rename_i he;cases he
 ·cases h
theorem RQ {V:View} {args:List VV} {eG:List Value} (h:VL V args eG):ER V (ID args) (Ws eG):=by
 intro t
 unfold ID Ws
 rw[List.getD_eq_getElem?_getD,List.getD_eq_getElem?_getD]
 cases hx:args[t]? with
 |
  none =>
  have:eG[t]? = none:=by
   rw[List.getElem?_eq_none_iff] at hx ⊢
   rw[h.length]
   exact hx
  rw[this]
  exact .dS [] [] .nil
 |
  some x =>
  obtain⟨v,h1,h2⟩:=h.get hx
  rw[h1]
  exact h2
theorem jO.walk {f:Nat} {pf:aP} {args:List VV} {H:aA} {K:VV→aA→Prop} (fl:Fl) (ht:gB f=some pf) (ha:args.length≤pf.ntmps) (h:VW fl lo pf.body (AN pf.res K) (ID args) H):jO f args lo H K:=by
 intro V eH eG hH hS hl
 subst hH
 obtain⟨x,MA,P',h1,V',bC,rfl,g2,g3,g4,g5⟩:=uU pf.body hS (RQ hl) h
 have key:∃pv Wa,rG f eG eH V.P=some (pv,Wa)∧Wa=V'.P∧∃r,VR V' r pv∧K r V'.H:=by
  refine X8 ht (by rw[hl.length];exact ha) ?_
  refine⟨x,MA,V'.P,h1,?_⟩
  cases x with
  | exit i=>exact g5.elim
  |
   normal =>
   simp only[AN,G0] at g5
   split at g5
   ·rename_i v hv
    obtain⟨pv,k2,k3⟩:=wU g2 g4 hv
    exact⟨pv,k2,rfl,v,k3,g5⟩
   ·cases g5
  |
   ret =>
   simp only[AN,G0] at g5
   split at g5
   ·rename_i v hv
    obtain⟨pv,k2,k3⟩:=wU g2 g4 hv
    exact⟨pv,k2,rfl,v,k3,g5⟩
   ·cases g5
 obtain⟨pv,Wa,k1,rfl,r,k2,k3⟩:=key
 exact⟨pv,V',r,k1,g2,g3,k2,k3⟩
theorem VT.walk {f:Nat} {pf:aP} {args:List VV} {r:VV} (fl:Fl) (ht:gB f=some pf) (ha:args.length≤pf.ntmps) (h:VW fl 0 pf.body (AN pf.res fun v H=>fz depth H v=some r) (ID args) []):VT f args r:=by
 intro F P eG eH hF hl aeE
 have hS:SR (bare F P) 0 eH:=⟨fun b g es e w hb=>by simp[bare] at hb,fun b g es e hb=>by simp[bare] at hb,fun a b g es e w g' mU e' w' ha=>by simp[bare] at ha,hF,aeE,Nat.zero_le _⟩
 obtain⟨x,MA,P',h1,V',bC,rfl,g2,g3,g4,g5⟩:=uU pf.body hS (RQ hl) h
 have fin:∀ {v:VV} {pv:Value},VR V' v pv→fz depth V'.H v=some r→VR (bare (fun q=>F q∨(P.length≤q∧q<V'.P.length)) V'.P) r pv:=by
  intro v pv hv hf
  refine Ls g2 (fun q hq => ?_) depth v r pv hv hf fun i _ g es e w hr => ?_
  ·rcases g3.CM q hq with h | h | ⟨b,g,es,e,w,h,_⟩
   ·exact .inl h
   ·exact .inr ⟨h,g2.fr q hq⟩
   ·simp[bare] at h
  ·rcases Nat.lt_or_ge (V'.m i) P.length with bB | CE
   ·obtain⟨g0,es0,w0,k1,_⟩:=g3.B1 i g es e w hr bB
    simp[bare] at k1
   ·exact .inr ⟨CE,g2.mlt hr⟩
 have key:∃pv Wa,rG f eG eH P=some (pv,Wa)∧Wa=V'.P∧VR (bare (fun q=>F q∨(P.length≤q∧q<V'.P.length)) V'.P) r pv:=by
  refine X8 ht (by rw[hl.length];exact ha) ?_
  refine⟨x,MA,V'.P,h1,?_⟩
  cases x with
  | exit i=>exact g5.elim
  |
   normal =>
   simp only[AN,G0] at g5
   split at g5
   ·rename_i v hv
    obtain⟨pv,k2,k3⟩:=wU g2 g4 hv
    exact⟨pv,k2,rfl,fin k3 g5⟩
   ·cases g5
  |
   ret =>
   simp only[AN,G0] at g5
   split at g5
   ·rename_i v hv
    obtain⟨pv,k2,k3⟩:=wU g2 g4 hv
    exact⟨pv,k2,rfl,fin k3 g5⟩
   ·cases g5
 obtain⟨pv,Wa,k1,rfl,k3⟩:=key
 refine⟨V'.P,pv,k1,?_,k3⟩
 refine⟨V'.P.drop P.length,List.ext_getElem? fun i => ?_⟩
 rcases Nat.lt_or_ge i P.length with hi | hi
 ·rw[List.getElem?_append_left hi]
  exact(g3.bU i hi fun b g es e hb=>by simp[bare] at hb).symm
 ·rw[List.getElem?_append_right hi,List.getElem?_drop,show P.length+(i-P.length)=i by omega]
end
end Go.PM
namespace Go.PM
section
variable {fl:Fl} {lo:Nat} {ρ:dG} {H:aA} {Q:VQ} {K:dG→aA→Prop} {k:VV→aA→Prop} {a b:aD} {d:Option Nat} {is:List PI} {q:Bool} {op:nN}
def QK (fl:Fl) (lo:Nat) (d:Option Nat) (is:List PI) (K:dG→aA→Prop) (ρ:dG):VV→aA→Prop:=fun v H'=>VS fl lo is K (JS ρ d v) H'
def OJ (r:Option (VV×aA)) (k:VV→aA→Prop):Prop:=match r with
 | some (v,H')=>k v H'
 | none=>False
theorem NY {v:VV} {H':aA}:QK fl lo d is K ρ v H'=VS fl lo is K (JS ρ d v) H':=rfl
theorem Rh {v:VV}:Kd (some v) H k=k v H:=rfl
theorem No {v:VV} {H':aA}:OJ (some (v,H')) k=k v H':=rfl
theorem aeP {r:VV} {K:VV→Prop}:tk (some r) K=K r:=rfl
theorem UK:VW fl lo .skip Q ρ H=Q .normal ρ H:=rfl
theorem Va {i:Nat}:VW fl lo (.exit i) Q ρ H=Q (.exit i) ρ H:=rfl
theorem Yd:VW fl lo .ret Q ρ H=Q .ret ρ H:=rfl
theorem YV {ops:List PI}:VW fl lo (.dI ops) Q ρ H=VS fl lo ops (Q .normal) ρ H:=rfl
theorem Z7:VW fl lo (.seq a b) Q ρ H=VW fl lo a (nA (VW fl lo b Q) Q) ρ H:=rfl
theorem Sd {i:Nat}:VW fl lo (.block i a) Q ρ H=VW fl lo a (AA i Q) ρ H:=rfl
theorem Vx {c:Operand} {t:Bool} (h:eE ρ c = .sc (.bool t)):VW fl lo (.cond c a b) Q ρ H=if t=true then VW fl lo a Q ρ H else VW fl lo b Q ρ H:=by
 simp only[VW,h]
theorem Cr:nA K Q .normal=K:=rfl
theorem E7 {i:Nat}:nA K Q (.exit i)=Q (.exit i):=rfl
theorem GC:nA K Q .ret=Q .ret:=rfl
theorem ED {i:Nat}:AA i Q .normal=Q .normal:=rfl
theorem CZ {i j:Nat}:AA i Q (.exit j) ρ H=if j=i then Q .normal ρ H else Q (.exit j) ρ H:=rfl
theorem Ma {i:Nat}:AA i Q .ret=Q .ret:=rfl
theorem F4 {res:List AM} {R:VV→aA→Prop}:AN res R .normal ρ H=G0 R (oC res ρ H) H:=rfl
theorem NT {res:List AM} {R:VV→aA→Prop}:AN res R .ret ρ H=G0 R (oC res ρ H) H:=rfl
theorem Lb {R:VV→aA→Prop} {v:VV}:G0 R (some v) H=R v H:=rfl
theorem Rb {t:Nat}:oC [.tmp t] ρ H=some (ρ t):=rfl
theorem PZ {t u:Nat}:oC [.tmp t,.tmp u] ρ H=some (.dS [ρ t,ρ u]):=rfl
theorem L3 {t u v:Nat}:oC [.tmp t,.tmp u,.tmp v] ρ H=some (.dS [ρ t,ρ u,ρ v]):=rfl
theorem NN:oC [] ρ H=some (.dS []):=rfl
theorem ZX:VS fl lo [] K ρ H=K ρ H:=rfl
theorem agC:VS fl lo (⟨d,op,none,q,[]⟩::is) K ρ H=eI fl lo q op ρ H (QK fl lo d is K ρ):=by
 simp only[VS,BU,List.all_nil,true_and]
 rfl
theorem uX {c:Operand×Operand} {cs:List (Operand×Operand)}:VS fl lo (⟨d,op,none,q,c::cs⟩::is) K ρ H=((c::cs).all (lP ρ H)=true∧eI fl lo q op ρ H (QK fl lo d is K ρ)):=by
 simp only[VS,BU]
 rfl
theorem Ra {t:Nat} {want x:Bool} {cf:List (Operand×Operand)} (h:ρ t = .sc (.bool x)):VS fl lo (⟨d,op,some (t,want),q,cf⟩::is) K ρ H =
  if (x == want)=true then (cf.all (lP ρ H)=true∧eI fl lo q op ρ H (QK fl lo d is K ρ)) else VS fl lo is K (JS ρ d pR) H:=by
 simp only[VS,BU,h]
 cases (x == want)<;>rfl
theorem YA {t:Nat} {want:Bool} (h:ρ t = .sc (.bool want)):VS fl lo (⟨d,op,some (t,want),q,[]⟩::is) K ρ H=eI fl lo q op ρ H (QK fl lo d is K ρ):=by
 rw[Ra h]
 simp
theorem afP {t:Nat} {want:Bool} {cf:List (Operand×Operand)} (h:ρ t = .sc (.bool (!want))):VS fl lo (⟨d,op,some (t,want),q,cf⟩::is) K ρ H=VS fl lo is K (JS ρ d pR) H:=by
 rw[Ra h]
 cases want<;>rfl
theorem Vt {c:Operand} (h:eE ρ c = .sc (.bool true)):VW fl lo (.cond c a b) Q ρ H=VW fl lo a Q ρ H:=by
 rw[Vx h,if_pos rfl]
theorem Su {c:Operand} (h:eE ρ c = .sc (.bool false)):VW fl lo (.cond c a b) Q ρ H=VW fl lo b Q ρ H:=by
 rw[Vx h,if_neg (by decide)]
theorem Jd {t:Nat} {want:Bool} {cf:List (Operand×Operand)} (h:ρ t=pR):VS fl lo (⟨d,op,some (t,want),q,cf⟩::is) K ρ H=VS fl lo is K (JS ρ d pR) H:=by
 simp only[VS,BU,h,pR]
theorem uZ {d t:Nat} {v:VV}:JS ρ (some d) v t=if t=d then v else ρ t:=rfl
theorem N9 {v:VV}:JS ρ none v=ρ:=rfl
theorem Vd {t:Nat}:eE ρ (.tmp t)=ρ t:=rfl
theorem Nq {v:Value}:eE ρ (.const v)=inj v:=rfl
theorem QT {f:Nat}:eE ρ (.func f) = .uO f []:=rfl
theorem UF {k:IntKind} {n:Int}:inj (.int k n) = .sc (.int k n):=rfl
theorem R7 {t:Bool}:inj (.bool t) = .sc (.bool t):=rfl
theorem Vj {s:ByteArray}:inj (.string s) = .sc (.string s):=rfl
theorem U5:inj (.slice none 0 0) = .tree [] .nil:=rfl
theorem UG {cs:Array Value}:inj (.agg cs) = .agg (cs.toList.map jI):=rfl
theorem Rc {k:IntKind} {n:Int}:jI (.int k n) = .sc (.int k n):=rfl
theorem Oh {t:Bool}:jI (.bool t) = .sc (.bool t):=rfl
theorem Rv {s:ByteArray}:jI (.string s) = .sc (.string s):=rfl
theorem R5:jI (.slice none 0 0) = .tree [] .nil:=rfl
theorem Y2 {x:Operand}:eI fl lo q (.mv x) ρ H k=k (eE ρ x) H:=rfl
theorem gX {r:Option VV}:(match r.map (fun v=>(v,H)) with | some (v,H')=>k v H' | none=>False)=Kd r H k:=by cases r<;>rfl
theorem RP {c x y:Operand}:eI fl lo q (.pick c x y) ρ H k=Kd (Qv (eE ρ c) (eE ρ x) (eE ρ y)) H k:=gX
theorem UW {o:BinOp} {x y:Operand}:eI fl lo q (.bin o x y) ρ H k=Kd (HN (dB o) (eE ρ x) (eE ρ y)) H k:=gX
theorem UM {n:Bool} {x y:Operand}:eI fl lo q (.eqb n x y) ρ H k=Kd (HN (MF n) (eE ρ x) (eE ρ y)) H k:=gX
theorem Nz {n:Bool} {x:Operand}:eI fl lo q (.isnil n x) ρ H k=Kd (FJ n (eE ρ x) H) H k:=gX
theorem Om {n:Bool} {ks:List CK} {x y:Operand}:eI fl lo q (.eqagg n ks x y) ρ H k=Kd (TH n ks (eE ρ x) (eE ρ y)) H k:=gX
theorem aaU {o:UnOp} {x:Operand}:eI fl lo q (.un o x) ρ H k=Kd (Kr (ZV o) (eE ρ x)) H k:=gX
theorem U9 {o:IntKind} {x:Operand}:eI fl lo q (.cvt o x) ρ H k=Kd (Kr (Tp o) (eE ρ x)) H k:=gX
theorem Vk {x:Operand}:eI fl lo q (.cvs x) ρ H k=Kd (Kr XC (eE ρ x)) H k:=gX
theorem V3 {x:Operand} {i:Nat}:eI fl lo q (.ext x i) ρ H k=Kd (YR i (eE ρ x)) H k:=gX
theorem Vf {g:Bool} {off size:Nat} {x:Operand}:eI fl lo q (.fld g off size x) ρ H k=Kd (adA g off size (eE ρ x)) H k:=gX
theorem Ob {z:List Value} {places:List (Nat×Nat)} {parts:List (Nat×Operand)}:eI fl lo q (.build z places parts) ρ H k=Kd ((zJ places (z.map jI) (parts.map fun(i,x)=>(i,eE ρ x))).map .agg) H k:=by
 show (match (zJ places (z.map jI) (parts.map fun(i,x)=>(i,eE ρ x))).map fun cs=>(VV.agg cs,H) with | some (v,H')=>k v H' | none=>False)=_
 cases zJ places (z.map jI) (parts.map fun(i,x)=>(i,eE ρ x))<;>rfl
theorem VZ {x:Operand}:eI fl lo q (.chk x) ρ H k=Kd (Wx (eE ρ x) H) H k:=gX
theorem Nd {off:Nat} {x:Operand}:eI fl lo q (.faddr off x) ρ H k=Kd (Hn off (eE ρ x) H) H k:=gX
theorem Ns {size:Nat} {x i:Operand}:eI fl lo q (.iaddr size x i) ρ H k=Kd (bM size (eE ρ x) (eE ρ i) H) H k:=gX
theorem Ru {x i:Operand}:eI fl lo q (.sidx x i) ρ H k=Kd (HN GZ (eE ρ x) (eE ρ i)) H k:=gX
theorem P3 {x:Operand} {l h:Option Operand}:eI fl lo q (.ssub x l h) ρ H k=Kd (vF (eE ρ x) (l.map (eE ρ)) (h.map (eE ρ))) H k:=gX
theorem QI {f:Nat} {fR:List Operand}:eI fl lo q (.mkfn f fR) ρ H k=k (.uO f (fR.map (eE ρ))) H:=rfl
theorem UB {x:Operand}:eI fl lo q (.len x) ρ H k=Kd (pT (eE ρ x) H) H k:=gX
theorem Rl {x:Operand}:eI fl lo q (.slen x) ρ H k=Kd (Kr A2 (eE ρ x)) H k:=gX
theorem VJ {x y:Operand}:eI fl lo q (.min x y) ρ H k=Kd (HN P6 (eE ρ x) (eE ρ y)) H k:=gX
theorem VN {x y:Operand}:eI fl lo q (.max x y) ρ H k=Kd (HN QL (eE ρ x) (eE ρ y)) H k:=gX
theorem RD {g:Bool} {size:Nat} {p:Operand}:eI fl lo q (.load g size p) ρ H k=Kd (cR g size (eE ρ p) H) H k:=gX
theorem Vo {size:Nat} {x:Operand} {l h m:Option Operand}:eI fl lo q (.sub size x l h m) ρ H k=Kd (Ew size (eE ρ x) (l.map (eE ρ)) (h.map (eE ρ)) (m.map (eE ρ)) H) H k:=gX
theorem Vg {z:List Value}:eI fl lo q (.new z) ρ H k=OJ (if (z.map jI).all bI then some (.ptr H.length 0 0 0,H++[.row 0 [elemOf (z.map jI)] z.length true]) else none) k:=rfl
theorem Vb {x:Operand}:eI fl lo q (.box x) ρ H k=OJ (if (aB (eE ρ x)).all bI then (if fl.bf then some (.cZ (eE ρ x) 0,H) else some (.ptr H.length 0 0 0,H++[.row 0 [eE ρ x] (aB (eE ρ x)).length true])) else none) k:=rfl
theorem QH {z:List Value} {bytes:Nat} {l c:Operand}:eI fl lo q (.make z bytes l c) ρ H k=OJ (if (z.map jI).all bI then AY z bytes (eE ρ l) (eE ρ c) H else none) k:=rfl
theorem Vw {z:List Value} {n:Nat} {parts:List (Nat×Operand)}:eI fl lo q (.lit z n parts) ρ H k=OJ (mB fl.lr z n (parts.map fun(i,x)=>(i,eE ρ x)) H) k:=rfl
def Uy (r:Option aA) (k:VV→aA→Prop):Prop:=match r with
 | some H'=>k pR H'
 | none=>False
theorem Kl {H':aA}:Uy (some H') k=k pR H':=rfl
theorem NB {r:Option aA}:(match r.map (fun H'=>(pR,H')) with | some (v,H')=>k v H' | none=>False)=Uy r k:=by cases r<;>rfl
theorem Oq {size:Nat} {p v:Operand}:eI fl lo q (.store size p v) ρ H k=Uy (bY lo size (eE ρ p) (eE ρ v) H) k:=NB
def anW (lo size bytes:Nat) (x:VV) (new:Option (List VV)) (H:aA) (k:VV→aA→Prop):Prop:=match new with
 | some new=>OJ (eR lo size bytes x new H) k
 | none=>False
theorem Ni {size bytes:Nat} {x:VV} {new:List VV}:anW lo size bytes x (some new) H k=OJ (eR lo size bytes x new H) k:=rfl
theorem U2 {size bytes:Nat} {x y:Operand}:eI fl lo q (.app size bytes x y) ρ H k=anW lo size bytes (eE ρ x) (cU size (eE ρ y) H) H k:=by
 show (match (match cU size (eE ρ y) H with | some new=>eR lo size bytes (eE ρ x) new H | none=>none) with | some (v,H')=>k v H' | none=>False)=_
 cases cU size (eE ρ y) H<;>rfl
theorem RC {size:Nat} {x y:Operand}:eI fl lo q (.copy size x y) ρ H k=OJ (I0 lo size (eE ρ x) (eE ρ y) H) k:=rfl
theorem NU {z:List Value} {x:Operand}:eI fl lo q (.clear z x) ρ H k=Uy (O0 lo z (eE ρ x) H) k:=NB
theorem RT {f:Nat} {args:List Operand}:eI fl lo q (.call f args) ρ H k=cQ f (args.map (eE ρ)) (if q then H.length else lo) H k:=rfl
noncomputable def Ua (x:VV) (args:List VV) (lo:Nat) (H:aA) (k:VV→aA→Prop):Prop:=match x with
 | .uO f fR=>cQ f (args++fR) lo H k
 | _=>False
theorem BP {f:Nat} {fR args:List VV}:Ua (.uO f fR) args lo H k=cQ f (args++fR) lo H k:=rfl
theorem N3 {fv:Operand} {args:List Operand}:eI fl lo q (.callv fv args) ρ H k=Ua (eE ρ fv) (args.map (eE ρ)) (if q then H.length else lo) H k:=by
 simp only[eI,Ua]
 all_goals (cases eE ρ fv<;>rfl)
theorem Pc {x:Operand}:eI fl lo q (.b2s x) ρ H k=OJ (vop fl lo (.b2s x) ρ H) k:=rfl
theorem Vp {f:Value→Option Value} {x:Value}:Kr f (.sc x)=(f x).map .sc:=rfl
theorem UC {f:Value→Value→Option Value} {x y:Value}:HN f (.sc x) (.sc y)=(f x y).map .sc:=rfl
theorem Rt {t:Bool} {x y:VV}:Qv (.sc (.bool t)) x y=some (if t=true then x else y):=rfl
theorem QE {vs:List VV} {i:Nat}:YR i (.dS vs)=vs[i]? := rfl
theorem NS {es:List VV} {t:TK}:pT (.tree es t) H=some (.sc (.int .i64 es.length)):=rfl
theorem dU {b g o n c:Nat} {r:List VV×Nat×Bool} (h:aI H b g=some r):pT (.ref b g o n c) H=some (.sc (.int .i64 n)):=by
 simp only[pT,h,Option.map_some]
theorem QO {x:VV} {o off:Nat}:Hn off (.cZ x o) H=some (.cZ x (o+off)):=rfl
theorem Z4 {x:VV} {o:Nat}:Wx (.cZ x o) H=some (.cZ x o):=rfl
theorem OY {g:Bool} {size o:Nat} {x:VV}:cR g size (.cZ x o) H=dQ g size x o:=rfl
theorem Pz {g:Bool} {size b gn j o:Nat} {es:List VV} {e:Nat} {w:Bool} {x:VV} (h:aI H b gn=some (es,e,w)) (hx:es[j]? = some x):cR g size (.ptr b gn j o) H=dQ g size x o:=by
 simp only[cR,h,hx]
theorem ZP {size:Nat} {v:Value}:dQ false size (.sc v) 0=some (.sc v):=rfl
theorem UN {size:Nat} {es:List VV} {t:TK}:dQ false size (.tree es t) 0=some (.tree es t):=rfl
theorem ZS {size b g o n c:Nat}:dQ false size (.ref b g o n c) 0=some (.ref b g o n c):=rfl
theorem Yw {size f:Nat} {fR:List VV}:dQ false size (.uO f fR) 0=some (.uO f fR):=rfl
theorem iE {size o:Nat} {cs:List VV}:dQ false size (.agg cs) o=cs[o]? := rfl
theorem Y0 {size:Nat} {cs:List VV} (h:cs.length=size):dQ true size (.agg cs) 0=some (.agg cs):=by
 subst h
 simp[dQ,aB]
theorem Z9 {size:Nat} {es:List VV} {t:TK} {kk:IntKind} {i:Int} {x:VV} (h0:0≤i) (hx:es[i.toNat]? = some x) (hs:(aB x).length=size):bM size (.tree es t) (.sc (.int kk i)) H=some (.cZ x 0):=by
 simp only[bM,h0,hx,hs,if_true]
theorem Wc {size:Nat} {es:List VV} {t:TK} {kk:IntKind} {i:Nat} {x:VV} (hx:es[i]? = some x) (hs:(aB x).length=size):bM size (.tree es t) (.sc (.int kk (i:Int))) H=some (.cZ x 0) :=
 Z9 (by omega) (by simpa using hx) hs
theorem Zv {size b g o n c:Nat} {kk:IntKind} {i:Int} {es:List VV} {w:Bool} (h:aI H b g=some (es,size,w)) (h0:0≤i) (h1:i<n):bM size (.ref b g o n c) (.sc (.int kk i)) H=some (.ptr b g (o+i.toNat) 0):=by
 simp only[bM,h]
 rw[if_pos ⟨trivial,h0,h1⟩]
theorem Wv {size b g o n c:Nat} {kk:IntKind} {i:Nat} {es:List VV} {w:Bool} (h:aI H b g=some (es,size,w)) (h1:i<n):bM size (.ref b g o n c) (.sc (.int kk (i:Int))) H=some (.ptr b g (o+i) 0):=by
 rw[Zv h (by omega) (by omega),Int.toNat_natCast]
abbrev TC (f:Nat) (args:List VV) (r:VV):Prop:=∀(lo:Nat) (H:aA) (k:VV→aA→Prop),cQ f args lo H k=k r H
theorem TC.of {f:Nat} {args:List VV} {r:VV} (hr:BE.contains f=false) (ha:aM args=true) (h:vT f args=some r):TC f args r:=by
 intro lo H k
 unfold cQ F1
 simp only[hr,ha,if_true,h,Bool.false_eq_true,if_false,aeP]
theorem TC.walk {f:Nat} {pf:aP} {args:List VV} {r:VV} (fl:Fl) (ht:gB f=some pf) (hr:BE.contains f=false) (hn:args.length≤pf.ntmps) (ha:aM args=true) (S3:gQ r=true) (h:VW fl 0 pf.body (AN pf.res fun v H=>fz depth H v=some r) (ID args) []):TC f args r :=
 TC.of hr ha (afV ha S3 (VT.walk fl ht hn h))
theorem TC.G7 {f:Nat} {args iI:List VV} {r:VV} (h:TC f iI r) (hr:BE.contains f=false) (ha':aM iI=true) (hf:args.mapM (fz depth H)=some iI) (ha:aM args=false):cQ f args lo H k=if KC r=true then k r H else k r (cY H (args.flatMap (iW depth H))):=by
 have e:∀K,F1 f iI K=K r:=fun K=>by
  have:=h 0 [] fun r _=>K r
  unfold cQ at this
  simpa only[hr,ha',if_true,Bool.false_eq_true,if_false] using this
 unfold cQ
 simp only[hr,ha,hf,Bool.false_eq_true,if_false]
 rw[e]
theorem aJ {n:Nat} {v:VV} (h:aR v=true):fz (n+1) H v=some v:=by
 unfold PM.fz
 rw[if_pos h]
theorem aF {v:VV} (h:aR v=true):fz depth H v=some v:=aJ h
theorem mapM_pure {n:Nat}:∀ {es:List VV},aM es=true→es.mapM (PM.fz (n+1) H)=some es
 | [],_=>rfl
 |
  x::xs,h=>by
  simp only[aM,Bool.and_eq_true] at h
  rw[List.mapM_cons,aJ h.1,mapM_pure h.2]
  rfl
theorem FP {b g n c e:Nat} {es:List VV} {w:Bool} (h:aI H b g=some (es,e,w)) (hn:n=es.length) (hc:n≤c) (hp:aM es=true):fz depth H (.ref b g 0 n c)=some (.tree es .op):=by
 have:aR (.ref b g 0 n c)=false:=rfl
 show fz (7+1) H _=_
 unfold PM.fz
 simp only[this,h,Bool.false_eq_true,if_false]
 subst hn
 rw[if_pos ⟨by omega,hc⟩,List.drop_zero,List.take_length,mapM_pure hp]
 rfl
theorem Fz {n:Nat} {v:VV} (h:aR v=true):iW n H v=[]:=by
 cases n with
 | zero=>rfl
 | succ n=>unfold iW;rw[if_pos h]
theorem B7 {n:Nat}:∀ {es:List VV},aM es=true→es.flatMap (iW n H)=[]
 | [],_=>rfl
 |
  x::xs,h=>by
  simp only[aM,Bool.and_eq_true] at h
  rw[List.flatMap_cons,Fz h.1,B7 h.2]
  rfl
theorem Nh {b g n c e:Nat} {es:List VV} {w:Bool} (h:aI H b g=some (es,e,w)) (hn:n=es.length) (hp:aM es=true):iW depth H (.ref b g 0 n c)=[b]:=by
 have:aR (.ref b g 0 n c)=false:=rfl
 show iW (7+1) H _=_
 unfold iW
 simp only[this,h,Bool.false_eq_true,if_false]
 subst hn
 rw[List.drop_zero,List.take_length,B7 hp]
theorem Vz {r:Option VV} {K K':VV→Prop} (hk:∀v,K v→K' v) (h:tk r K):tk r K':=by
 cases r with
 | none=>exact h
 | some v=>exact hk _ h
theorem IE {f:Nat} {args:List VV} {k k':VV→aA→Prop} (hk:∀v H,k v H→k' v H) (h:cQ f args lo H k):cQ f args lo H k':=by
 unfold cQ at h ⊢
 split at h
 ·rename_i h1
  rw[if_pos h1]
  exact h.mono hk
 ·rename_i h1
  rw[if_neg h1]
  split at h
  ·rename_i h2
   rw[if_pos h2]
   exact Vz (fun v=>hk v H) h
  ·rename_i h2
   rw[if_neg h2]
   split at h
   ·refine Vz (fun v hv => ?_) h
    split at hv
    ·rename_i h3;rw[if_pos h3];exact hk _ _ hv
    ·rename_i h3;rw[if_neg h3];exact hk _ _ hv
   ·cases h
theorem Ub {k k':VV→aA→Prop} (hk:∀v H,k v H→k' v H) (h:eI fl lo q op ρ H k):eI fl lo q op ρ H k':=by
 unfold eI at h ⊢
 split at h
 ·exact IE hk h
 ·split at h
  ·exact IE hk h
  ·cases h
 ·split at h
  ·exact hk _ _ h
  ·cases h
theorem OL {K K':dG→aA→Prop} (hk:∀ρ H,K ρ H→K' ρ H):∀ {is:List PI} {ρ:dG} {H:aA},VS fl lo is K ρ H→VS fl lo is K' ρ H
 | [],ρ,H,h=>hk _ _ h
 |
  i::is,ρ,H,h=>by
  unfold VS at h ⊢
  split at h
  ·cases h
  ·exact OL hk h
  ·exact⟨h.1,Ub (fun v H' hv=>OL hk hv) h.2⟩
theorem qC {K K':dG→aA→Prop} {Q Q':VQ} (hk:∀ρ H,K ρ H→K' ρ H) (hq:∀x ρ H,Q x ρ H→Q' x ρ H):∀x ρ H,nA K Q x ρ H→nA K' Q' x ρ H
 | .normal,ρ,H,h=>hk _ _ h
 | .exit _,ρ,H,h=>hq _ _ _ h
 | .ret,ρ,H,h=>hq _ _ _ h
theorem aeV {K K':dG→aA→Prop} (hk:∀ρ H,K ρ H→K' ρ H) (h:gh K ρ H):gh K' ρ H:=by
 obtain⟨ts,bC,H',h1,h2⟩:=h
 exact⟨ts,bC,H',h1,hk _ _ h2⟩
theorem wO:∀ {c:aD} {Q Q':VQ} {ρ:dG} {H:aA},(∀x ρ H,Q x ρ H→Q' x ρ H)→VW fl lo c Q ρ H→VW fl lo c Q' ρ H
 | .skip,_,_,_,_,hq,h=>hq _ _ _ h
 | .exit _,_,_,_,_,hq,h=>hq _ _ _ h
 | .ret,_,_,_,_,hq,h=>hq _ _ _ h
 | .dI _,_,_,_,_,hq,h=>OL (fun ρ H=>hq .normal ρ H) h
 | .seq a b,Q,Q',_,_,hq,h=>wO (c:=a) (qC (fun ρ H h=>wO (c:=b) hq h) hq) h
 |
  .cond c a b,Q,Q',ρ,H,hq,h=>by
  unfold VW at h ⊢
  split at h
  ·split at h
   ·rename_i h1;rw[if_pos h1];exact wO (c:=a) hq h
   ·rename_i h1;rw[if_neg h1];exact wO (c:=b) hq h
  ·cases h
 |
  .block i a,Q,Q',_,_,hq,h=>by
  refine wO (c:=a) (fun x ρ H hx => ?_) h
  cases x with
  | normal=>exact hq _ _ _ hx
  | ret=>exact hq _ _ _ hx
  |
   exit j =>
   rw[CZ] at hx ⊢
   split at hx
   ·rename_i h1;rw[if_pos h1];exact hq _ _ _ hx
   ·rename_i h1;rw[if_neg h1];exact hq _ _ _ hx
 |
  .loop a,Q,Q',ρ,H,hq,h=>by
  obtain⟨n,h⟩:=h
  refine⟨n,?_⟩
  induction n generalizing ρ H with
  | zero=>cases h
  |
   succ n ih =>
   refine wO (c:=a) (qC (fun ρ H h => ?_) fun x ρ H h=>aeV (hq x) h) h
   rcases h with h | ⟨h1,h2⟩
   ·exact .inl (ih _ _ h)
   ·exact .inr ⟨h1,ih _ _ h2⟩
theorem agH {K:dG→aA→Prop} (h:K ρ H):gh K ρ H:=⟨[],ρ,H,rfl,h⟩
theorem Sv {α:Type} {c:aD} (I:α→dG→aA→Prop) (μ:α→Nat) (s:α) (h0:I s ρ H)
  (round:∀s ρ H,I s ρ H→VW fl lo c (nA (fun bC H'=>∃s',μ s'<μ s∧(I s' bC H'∨(iF H.length (H'.take H.length)=true∧I s' (Ig H.length bC) (H'.take H.length)))) (fun x=>gh (Q x))) ρ H):VW fl lo (.loop c) Q ρ H:=by
 refine⟨μ s+1,?_⟩
 have key:∀n s ρ H,μ s<n→I s ρ H→RH (VW fl lo c) (fun x=>gh (Q x)) n ρ H:=by
  intro n
  induction n with
  | zero=>intro s ρ H h;omega
  |
   succ n ih =>
   intro s ρ H hn hI
   refine wO (qC (fun bC H' h => ?_) fun x ρ H h=>h) (round s ρ H hI)
   obtain⟨s',h1,h2 | ⟨h2,h3⟩⟩:=h
   ·exact .inl (ih s' _ _ (by omega) h2)
   ·exact .inr ⟨h2,ih s' _ _ (by omega) h3⟩
 exact key _ s ρ H (Nat.lt_succ_self _) h0
theorem aQ {α:Type} {c:aD} (I:α→dG→aA→Prop) (μ:α→Nat) (s:α) (h0:I s ρ H)
  (round:∀s ρ H,I s ρ H→VW fl lo c (nA (fun bC H'=>∃s',μ s'<μ s∧I s' bC H') Q) ρ H):VW fl lo (.loop c) Q ρ H :=
 Sv I μ s h0 fun s ρ H h=>wO (qC (fun _ _ ⟨s',h1,h2⟩=>⟨s',h1,.inl h2⟩) fun _ _ _ h=>agH h) (round s ρ H h)
theorem F5 {α:Type} {c:aD} (I:α→dG→aA→Prop) (μ:α→Nat) (s:α) (h0:I s ρ H)
  (round:∀s ρ H,I s ρ H→VW fl lo c (nA (fun bC H'=>∃s',μ s'<μ s∧iF H.length (H'.take H.length)=true∧I s' (Ig H.length bC) (H'.take H.length)) Q) ρ H):VW fl lo (.loop c) Q ρ H :=
 Sv I μ s h0 fun s ρ H h=>wO (qC (fun _ _ ⟨s',h1,h2⟩=>⟨s',h1,.inr h2⟩) fun _ _ _ h=>agH h) (round s ρ H h)
theorem LW {n:Nat} {v:VV} (h:below n v=true):Ji n v=v:=by
 unfold Ji
 rw[if_pos h]
mutual
theorem Fu {n:Nat} (v:VV) (h:aR v=true):below n v=true:=by
 cases v with
 | any=>rfl
 | sc=>rfl
 | agg cs=>exact kV cs h
 | dS cs=>exact kV cs h
 | tree es t=>exact kV es (Hu h).2.1
 | cZ x o=>exact Fu x h
 | ref=>cases h
 | ptr=>cases h
 | uO f fR=>exact kV fR h
theorem kV {n:Nat} (vs:List VV) (h:aM vs=true):lY n vs=true:=by
 cases vs with
 | nil=>rfl
 |
  cons x xs =>
  simp only[aM,Bool.and_eq_true] at h
  simp only[lY,Fu x h.1,kV xs h.2,Bool.and_self]
end
end
end Go.PM
namespace Go.PM
def val (b:Nat):List Nat→Nat
 | []=>0
 | d::ds=>d+b*val b ds
def aC (b n:Nat):List Nat:=if h:n=0∨b<2 then [] else n % b::aC b (n / b)
termination_by n
decreasing_by exact Nat.div_lt_self (by omega) (by omega)
section
variable {b:Nat}
theorem bS:aC b 0=[]:=by rw[aC];simp
theorem iY (hb:2≤b) {n:Nat} (hn:n≠0):aC b n=n % b::aC b (n / b):=by rw[aC,dif_neg (by omega)]
theorem rS {d:Nat} {ds:List Nat}:val b (d::ds)=d+b*val b ds:=rfl
theorem xQ (xs ys:List Nat):val b (xs++ys)=val b xs+b^xs.length*val b ys:=by
 induction xs with
 | nil=>simp[val]
 |
  cons x xs ih =>
  simp only[List.cons_append,rS,ih,List.length_cons,Nat.pow_succ]
  rw[Nat.mul_add,Nat.mul_comm (b^xs.length) b,Nat.mul_assoc,Nat.add_assoc]
theorem val_one (d:Nat):val b [d]=d:=by simp[val]
theorem tA (xs:List Nat) (d:Nat):val b (xs++[d])=val b xs+b^xs.length*d:=by rw[xQ,val_one]
theorem qY (n:Nat):val b (List.replicate n 0)=0:=by
 induction n with
 | zero=>rfl
 | succ n ih=>simp[List.replicate_succ,val,ih]
theorem oU {xs:List Nat} (h:∀d∈xs,d<b):val b xs<b^xs.length:=by
 induction xs with
 | nil=>simp[val]
 |
  cons x xs ih =>
  have h1:=h x List.mem_cons_self
  have h2:=ih fun d hd=>h d (List.mem_cons_of_mem _ hd)
  simp only[rS,List.length_cons,Nat.pow_succ]
  have h3:b*(val b xs+1)≤b*b^xs.length:=Nat.mul_le_mul_left _ h2
  rw[Nat.mul_add,Nat.mul_one] at h3
  rw[Nat.mul_comm (b^xs.length) b]
  omega
theorem cC (hb:2≤b) (n:Nat):val b (aC b n)=n:=by
 induction n using Nat.strongRecOn with
 |
  _ n ih =>
  by_cases h:n=0
  ·subst h;rw[bS];rfl
  ·rw[iY hb h,rS,ih _ (Nat.div_lt_self (by omega) (by omega))]
   exact Nat.mod_add_div n b
theorem fG (hb:2≤b) (n:Nat):∀d∈aC b n,d<b:=by
 induction n using Nat.strongRecOn with
 |
  _ n ih =>
  by_cases h:n=0
  ·subst h;rw[bS];intro d hd;cases hd
  ·rw[iY hb h]
   intro d hd
   rcases List.mem_cons.1 hd with rfl | hd
   ·exact Nat.mod_lt _ (by omega)
   ·exact ih _ (Nat.div_lt_self (by omega) (by omega)) d hd
theorem lR (hb:2≤b) {n:Nat}:aC b n=[]↔n=0:=by
 constructor
 ·intro h
  have:=cC hb n
  rw[h] at this
  exact this.symm
 ·rintro rfl;exact bS
theorem N7 (hb:2≤b) (n:Nat):(aC b n).getLast? ≠ some 0:=by
 induction n using Nat.strongRecOn with
 |
  _ n ih =>
  by_cases h:n=0
  ·subst h;rw[bS];simp
  ·rw[iY hb h]
   have h1:=ih _ (Nat.div_lt_self (n:=n) (k:=b) (by omega) (by omega))
   by_cases h2:n / b=0
   ·rw[h2,bS]
    have:n<b:=by
     rcases Nat.div_eq_zero_iff.1 h2 with h | h<;>omega
    simp[Nat.mod_eq_of_lt this,h]
   ·have fH:aC b (n / b)≠[]:=fun h=>h2 ((lR hb).1 h)
    obtain⟨x,xs,hx⟩:=List.exists_cons_of_ne_nil fH
    rw[hx] at h1 ⊢
    rw[List.getLast?_cons_cons]
    exact h1
theorem KX (hb:2≤b) {xs:List Nat} (h:∀d∈xs,d<b) (hl:xs.getLast? ≠ some 0):aC b (val b xs)=xs:=by
 induction xs with
 | nil=>exact bS
 |
  cons x xs ih =>
  have h1:=h x List.mem_cons_self
  have hr:(x+b*val b xs) % b=x:=by rw[Nat.add_mul_mod_self_left,Nat.mod_eq_of_lt h1]
  have hq:(x+b*val b xs) / b=val b xs:=by rw[Nat.add_mul_div_left _ _ (by omega),Nat.div_eq_of_lt h1,Nat.zero_add]
  cases xs with
  |
   nil =>
   have hx:x≠0:=by rintro rfl;simp at hl
   rw[val_one,iY hb hx,Nat.mod_eq_of_lt h1,Nat.div_eq_of_lt h1,bS]
  |
   cons y ys =>
   rw[List.getLast?_cons_cons] at hl
   have h2:=ih (fun d hd=>h d (List.mem_cons_of_mem _ hd)) hl
   have h3:val b (y::ys)≠0:=fun h0=>by rw[h0,bS] at h2;cases h2
   have h4:b*val b (y::ys)≠0:=Nat.mul_ne_zero (by omega) h3
   rw[rS,iY hb (by omega),hr,hq,h2]
theorem J4 (hb:2≤b) {n:Nat} (hn:n≠0):b^((aC b n).length-1)≤n:=by
 induction n using Nat.strongRecOn with
 |
  _ n ih =>
  rw[iY hb hn]
  by_cases h2:n / b=0
  ·rw[h2,bS];simp;omega
  ·have h3:=ih _ (Nat.div_lt_self (by omega) (by omega)) h2
   have fH:aC b (n / b)≠[]:=fun h=>h2 ((lR hb).1 h)
   obtain⟨x,xs,hx⟩:=List.exists_cons_of_ne_nil fH
   rw[hx] at h3 ⊢
   simp only[List.length_cons,Nat.add_sub_cancel] at h3 ⊢
   rw[Nat.pow_succ]
   calc b^xs.length*b≤n / b*b:=Nat.mul_le_mul_right _ h3
    _≤n:=Nat.div_mul_le_self n b
theorem gJ (hb:2≤b) (n:Nat):n<b^(aC b n).length:=by
 have:=oU (fG hb n)
 rwa [cC hb] at this
theorem mF (hb:2≤b) {n k:Nat} (h:n<b^k):(aC b n).length≤k:=by
 by_cases hn:n=0
 ·subst hn;rw[bS];simp
 ·have h1:=J4 hb hn
  have h2:b^((aC b n).length-1)<b^k:=Nat.lt_of_le_of_lt h1 h
  have h3:(aC b n).length-1<k:=(Nat.pow_lt_pow_iff_right (by omega)).1 h2
  have fH:aC b n≠[]:=fun h=>hn ((lR hb).1 h)
  have:=List.length_pos_iff.2 fH
  omega
theorem dZ (hb:2≤b) {m n:Nat} (h:m≤n):(aC b m).length≤(aC b n).length :=
 mF hb (Nat.lt_of_le_of_lt h (gJ hb n))
theorem oY (xs:List Nat) (i:Nat):val b xs=val b (xs.take i)+b^(xs.take i).length*val b (xs.drop i):=by
 rw[←xQ,List.take_append_drop]
theorem aV {xs:List Nat} {i d:Nat} (h:xs[i]? = some d):val b (xs.take (i+1))=val b (xs.take i)+b^i*d:=by
 have bB:=(List.getElem?_eq_some_iff.1 h).1
 rw[List.take_add_one,h]
 simp only[Option.toList_some]
 rw[tA,List.length_take,Nat.min_eq_left (by omega)]
theorem sM {xs:List Nat} {i d:Nat} (h:xs[i]? = some d):val b (xs.drop i)=d+b*val b (xs.drop (i+1)):=by
 obtain⟨bB,he⟩:=List.getElem?_eq_some_iff.1 h
 rw[List.drop_eq_getElem_cons bB,he,rS]
theorem FK {P A B O c x y s q r W:Nat} (h:A+B=O+P*c) (hs:c+x+y=s) (hr:r+W*q=s):(A+P*x)+(B+P*y)=(O+P*r)+(P*W)*q:=by grind
theorem Jk {P A B O l x y r W l':Nat} (h:A+P*l=O+B) (hd:r+y+l=x+W*l'):(A+P*x)+(P*W)*l'=(O+P*r)+(B+P*y):=by grind
theorem aaA {xs:List Nat} {i d:Nat} (h:i<xs.length):(xs.set i d).take (i+1)=xs.take i++[d]:=by
 rw[List.set_eq_take_append_cons_drop,if_pos h,List.take_append]
 simp[List.take_take,Nat.min_eq_left (by omega:i≤xs.length),Nat.min_eq_right (by omega:i≤i+1)]
theorem eU {xs:List Nat} {i d:Nat} (h:i<xs.length):val b ((xs.set i d).take (i+1))=val b (xs.take i)+b^i*d:=by
 rw[aaA h,tA,List.length_take,Nat.min_eq_left (by omega)]
theorem lZ {xs:List Nat} {i d:Nat} (h:∀x∈xs,x<b) (hd:d<b):∀x∈xs.set i d,x<b:=by
 intro x hx
 rcases List.mem_or_eq_of_mem_set hx with h1 | h1
 ·exact h x h1
 ·subst h1;exact hd
theorem jE {xs:List Nat} {i:Nat} (h:xs.length≤i):val b (xs.take i)=val b xs:=by rw[List.take_of_length_le h]
theorem Av (hb:0<b) (n:Nat):∀x∈List.replicate n 0,x<b:=by
 intro x hx
 rw[List.eq_of_mem_replicate hx]
 exact hb
theorem WH {P x y R t:Nat} (ht:t<P) (h:x<y):t+P*(x+R)<P*(y+R):=by
 have h1:P*(x+R+1)≤P*(y+R):=Nat.mul_le_mul_left _ (by omega)
 rw[Nat.mul_add,Nat.mul_one] at h1
 omega
theorem El {xs ys:List Nat} {i x y:Nat} (hx:∀d∈xs,d<b) (hl:xs.length=ys.length) (hi:xs[i]? = some x) (hj:ys[i]? = some y) (hd:xs.drop (i+1)=ys.drop (i+1)) (h:x<y):val b xs<val b ys:=by
 have h1:=(List.getElem?_eq_some_iff.1 hi).1
 have ht:(xs.take i).length=i:=by simp;omega
 have ht':(ys.take i).length=i:=by simp;omega
 have h2:=oU (b:=b) (xs:=xs.take i) fun d hd=>hx d (List.mem_of_mem_take hd)
 rw[ht] at h2
 rw[oY xs i,oY ys i,ht,ht',sM hi,sM hj,hd]
 have:=WH (R:=b*val b (ys.drop (i+1))) h2 h
 omega
theorem PY (hb:2≤b) {m n:Nat} (h:aC b m=aC b n):m=n:=by
 have:=congrArg (val b) h
 rwa [cC hb,cC hb] at this
def fF (a b:Nat):Int:=if a<b then -1 else if a=b then 0 else 1
theorem D4 (hb:2≤b) {m n:Nat} (h:(aC b m).length<(aC b n).length):m<n:=by
 rcases Nat.lt_or_ge m n with h1 | h1
 ·exact h1
 ·have:=dZ hb h1
  omega
end
end Go.PM
namespace Go.PM
abbrev VI (n:Int):VV := .sc (.int .i64 n)
abbrev VK (k:IntKind) (n:Int):VV := .sc (.int k n)
abbrev VB (t:Bool):VV := .sc (.bool t)
abbrev aY {α:Type} (f:α→VV) (xs:List α):VV := .tree (xs.map f) .op
section
variable {α:Type} {f:α→VV} {xs ys:List α} {x:α} {t:TK} {H:aA} {size i:Nat} {k:IntKind}
theorem eX:pT (.tree (xs.map f) t) H=some (VI xs.length):=by simp[pT]
theorem aK (hx:xs[i]? = some x) (hs:(aB (f x)).length=size):bM size (.tree (xs.map f) t) (VK k (i:Int)) H=some (.cZ (f x) 0) :=
 Wc (by simp[hx]) hs
theorem QP (hs:∀x,(aB (f x)).length=size):∀y∈xs.map f,(aB y).length=size:=by
 intro y hy
 obtain⟨x,_,rfl⟩:=List.mem_map.1 hy
 exact hs x
theorem dV (hp:∀x,aR (f x)=true):aM (xs.map f)=true:=by
 rw[A5]
 intro y hy
 obtain⟨x,_,rfl⟩:=List.mem_map.1 hy
 exact hp x
theorem aeS (hp:∀x,gQ (f x)=true):rA (xs.map f)=true:=by
 rw[LR]
 intro y hy
 obtain⟨x,_,rfl⟩:=List.mem_map.1 hy
 exact hp x
theorem Vy {size:Nat} (hs:∀x,(aB (f x)).length=size):uni (xs.map f)=true:=by
 cases xs with
 | nil=>rfl
 |
  cons x xs =>
  simp only[List.map_cons,uni,List.all_eq_true]
  intro y hy
  obtain⟨z,_,rfl⟩:=List.mem_map.1 hy
  simp[hs]
theorem kI {size:Nat} (hs:∀x,(aB (f x)).length=size) (hp:∀x,aR (f x)=true):aR (aY f xs)=true:=by
 simp only[aY,aR,dV hp,Vy hs,decide_true,Bool.and_self]
theorem DP {size:Nat} (hs:∀x,(aB (f x)).length=size) (hp:∀x,gQ (f x)=true) (he:∀x,AE (f x)=true):gQ (aY f xs)=true:=by
 have h4:(xs.map f).all AE=true:=by
  rw[List.all_eq_true]
  intro y hy
  obtain⟨z,_,rfl⟩:=List.mem_map.1 hy
  exact he z
 simp only[aY,gQ,aeS hp,Vy hs,h4,decide_true,Bool.and_self]
theorem acN {es:List VV} {h:Nat} (fH:0<es.length) (hs:∀x∈es,(aB x).length=size) (hh:h≤es.length) {k2:IntKind} :
  Ew size (.tree es t) none (some (VK k2 h)) none H=some (.tree (es.take h) .op):=by
 cases es with
 | nil=>simp at fH
 |
  cons y ys =>
  have hy:=hs y List.mem_cons_self
  simp only[List.length_cons] at hh
  have e1:(0:Int)≤h∧(h:Int)≤((ys.length+1:Nat):Int):=by omega
  simp only[Ew,FH,hy,if_true,eO,e1,Int.toNat_natCast,Option.isSome_none,Bool.false_eq_true,false_and,if_false]
  simp
theorem QQ (h:0<xs.length):0<(xs.map f).length:=by simpa using h
theorem Zc {b g o n c:Nat} {es:List VV} {w:Bool} {l h:Nat} (hr:aI H b g=some (es,size,w)) (hl:l≤h) (hh:h≤c) {k1 k2:IntKind} :
  Ew size (.ref b g o n c) (some (VK k1 l)) (some (VK k2 h)) none H=some (.ref b g (o+l) (h-l) (c-l)):=by
 have e1:(0:Int)≤h∧(h:Int)≤(c:Int):=by omega
 have e2:(0:Int)≤l∧(l:Int)≤(h:Int):=by omega
 simp only[Ew,FH,hr,if_true,eO,e1,e2,Int.toNat_natCast,Option.isSome_none,Bool.false_eq_true,false_and,if_false]
 simp[hl]
theorem vC {b g o n c:Nat} {es:List VV} {w:Bool} {h:Nat} (hr:aI H b g=some (es,size,w)) (hh:h≤c) {k2:IntKind} :
  Ew size (.ref b g o n c) none (some (VK k2 h)) none H=some (.ref b g o h c):=by
 have e1:(0:Int)≤h∧(h:Int)≤(c:Int):=by omega
 simp only[Ew,FH,hr,if_true,eO,e1,Int.toNat_natCast,Option.isSome_none,Bool.false_eq_true,false_and,if_false]
 simp
theorem MV {b g o n c:Nat} {es:List VV} {w:Bool} {l:Nat} (hr:aI H b g=some (es,size,w)) (hl:l≤n) (hn:n≤c) {k1:IntKind} :
  Ew size (.ref b g o n c) (some (VK k1 l)) none none H=some (.ref b g (o+l) (n-l) (c-l)):=by
 have e2:(0:Int)≤l∧(l:Int)≤(n:Int):=by omega
 simp only[Ew,FH,hr,if_true,eO,e2,Int.toNat_natCast,Option.isSome_none,Bool.false_eq_true,false_and,if_false]
 simp
theorem IM {h:Nat} (hs:∀x,(aB (f x)).length=size) (fH:0<xs.length) (hh:h≤xs.length) {k2:IntKind} :
  Ew size (.tree (xs.map f) t) none (some (VK k2 h)) none H=some (aY f (xs.take h)):=by
 rw[acN (QQ fH) (QP hs) (by simpa using hh)]
 simp[aY]
theorem P5 {b g e:Nat} {es:List VV} {w:Bool} {L K:aA} (h:b=L.length):aI (L ++ .row g es e w::K) b g=some (es,e,w):=by
 subst h
 simp[aI]
theorem bA {g e:Nat} {es:List VV} {w:Bool} {K:aA}:aI (.row g es e w::K) 0 g=some (es,e,w):=by simp[aI]
theorem fP {n:Nat}:(n=n+1)=False:=eq_false fun h=>by omega
theorem Zk {g g' e:Nat} {es:List VV} {w:Bool} {K:aA} (h:g'≠g):aI (.row g' es e w::K) 0 g=none:=by simp[aI,h]
theorem dX {g e:Nat} {es:List VV} {w:Bool} {K:aA}:aI (.row (g+1) es e w::K) 0 g=none:=Zk (Nat.succ_ne_self g)
theorem tQ {b g:Nat} {x:cA} {K:aA}:aI (x::K) (b+1) g=aI K b g:=by simp[aI]
theorem bD {b g o n c e:Nat} {es:List VV} {w:Bool} (h:aI H b g=some (es,e,w)) (hi:i<n):bM e (.ref b g o n c) (VK k (i:Int)) H=some (.ptr b g (o+i) 0):=Wv h hi
theorem cJ {b g j e lo:Nat} {es:List VV} {v:VV} (h:aI H b g=some (es,e,true)) (hj:j<es.length) (eW:lo≤b) (hv:(aB v).length=e) (hs:(aB v).all bI=true):bY lo e (.ptr b g j 0) v H=some (H.set b (.row g (es.set j v) e true)):=by
 obtain⟨x,hx⟩:∃x,es[j]? = some x:=⟨_,List.getElem?_eq_getElem hj⟩
 simp only[bY,h,hx]
 rw[if_pos ⟨hv,eW,hs⟩,if_pos ⟨trivial,trivial⟩]
theorem rM {z:List Value} {bytes n:Nat} (hz:elemOf (z.map jI)=f x) (hn:n*bytes≤281474976710656) (hm:n≤9223372036854775807):AY z bytes (VI n) (VI n) H=some (.ref H.length 0 0 n n,H++[.row 0 ((List.replicate n x).map f) z.length true]):=by
 simp only[AY]
 rw[if_pos ⟨by omega,by omega,by omega,by omega⟩,hz]
 simp
theorem rL {ag w:Bool} {b gn e j o:Nat} (h:aI H b gn=some (xs.map f,e,w)) (hx:xs[j]? = some x):cR ag size (.ptr b gn j o) H=dQ ag size (f x) o :=
 Pz h (by simp[hx])
theorem fK {b g j e lo:Nat} (h:aI H b g=some (xs.map f,e,true)) (hj:j<xs.length) (eW:lo≤b) (hv:(aB (f x)).length=e) (hs:(aB (f x)).all bI=true):bY lo e (.ptr b g j 0) (f x) H=some (H.set b (.row g ((xs.set j x).map f) e true)):=by
 rw[cJ h (by simpa using hj) eW hv hs,List.map_set]
theorem PF {b gn n c e:Nat} {es:List VV} {w:Bool} (h:aI H b gn=some (es,e,w)) (hn:n≤es.length) (hc:n≤c) (hp:aM es=true):fz depth H (.ref b gn 0 n c)=some (.tree (es.take n) .op):=by
 have:aR (.ref b gn 0 n c)=false:=rfl
 show fz (7+1) H _=_
 unfold fz
 simp only[this,h,Bool.false_eq_true,if_false]
 have DN:aM (es.take n)=true:=A5.2 fun x hx=>A5.1 hp x (List.mem_of_mem_take hx)
 rw[if_pos ⟨by omega,hc⟩,List.drop_zero,mapM_pure DN]
 rfl
theorem TC.flat {fn:Nat} {args iI:List VV} {r:VV} (h:TC fn iI r) (tM:BE.contains fn=false) (ha':aM iI=true) (hf:args.mapM (fz depth H)=some iI) (hr:KC r=true) :
  ∀(lo:Nat) (K:VV→aA→Prop),cQ fn args lo H K=K r H:=by
 intro lo K
 cases hp:aM args with
 |
  true =>
  have:=mapM_pure (n:=7) (H:=H) hp
  rw[show fz depth H=fz (7+1) H from rfl,this] at hf
  cases hf
  exact h lo H K
 | false=>rw[h.G7 tM ha' hf hp,hr,if_pos rfl]
theorem VY {v v':VV} (h:fz depth H v=some v'):[v].mapM (fz depth H)=some [v']:=by rw[List.mapM_cons,h];rfl
theorem YM {v v' u u':VV} (h:fz depth H v=some v') (hu:fz depth H u=some u'):[v,u].mapM (fz depth H)=some [v',u']:=by rw[List.mapM_cons,h,VY hu];rfl
theorem TC.aeN {fn b gn n c e size:Nat} {w:Bool} {r:VV} (h:TC fn [aY f xs] r) (hr:aI H b gn=some (xs.map f,e,w)) (hn:n=xs.length) (hc:n≤c) (hs:∀x,(aB (f x)).length=size) (hp:∀x,aR (f x)=true) (tM:BE.contains fn=false) (hf:KC r=false) :
  ∀(lo:Nat) (K:VV→aA→Prop),cQ fn [.ref b gn 0 n c] lo H K=K r (cY H [b]):=by
 intro lo K
 have e1:fz depth H (.ref b gn 0 n c)=some (aY f xs):=FP hr (by simpa using hn) hc (dV hp)
 have e2:iW depth H (.ref b gn 0 n c)=[b]:=Nh hr (by simpa using hn) (dV hp)
 have e3:[VV.ref b gn 0 n c].mapM (fz depth H)=some [aY f xs]:=by rw[List.mapM_cons,e1];rfl
 rw[h.G7 tM (by simp only[aM,kI hs hp,Bool.and_self]) e3 rfl,hf]
 simp only[Bool.false_eq_true,if_false,List.flatMap_cons,List.flatMap_nil,e2,List.append_nil]
theorem agE {es:List VV} {e:Nat} (hp:aM es=true):fz depth H (.tree es (.cl e))=some (.tree es .op):=by
 show fz (7+1) H _=_
 unfold fz
 have:aR (.tree es (.cl e))=false:=by simp[aR]
 simp only[this,Bool.false_eq_true,if_false,mapM_pure hp]
 rfl
theorem Z8 {es:List VV} {e:Nat} (hp:aM es=true):iW depth H (.tree es (.cl e))=[]:=by
 show iW (7+1) H _=_
 unfold iW
 have:aR (.tree es (.cl e))=false:=by simp[aR]
 simp only[this,Bool.false_eq_true,if_false,B7 hp]
theorem Kx:fz depth H (.tree [] .nil)=some (.tree [] .op):=by
 show fz (7+1) H _=_
 unfold fz
 have:aR (.tree [] .nil)=false:=by simp[aR]
 simp only[this,Bool.false_eq_true,if_false]
 rfl
theorem TC.args {fn:Nat} {args iI:List VV} {r:VV} (h:TC fn iI r) (tM:BE.contains fn=false) (ha':aM iI=true) (hf:args.mapM (fz depth H)=some iI) (hi:args.flatMap (iW depth H)=[]) :
  ∀(lo:Nat) (K:VV→aA→Prop),cQ fn args lo H K=K r H:=by
 intro lo K
 cases hp:aM args with
 |
  true =>
  have:=mapM_pure (n:=7) (H:=H) hp
  rw[show fz depth H=fz (7+1) H from rfl,this] at hf
  cases hf
  exact h lo H K
 |
  false =>
  rw[h.G7 tM ha' hf hp,hi]
  split<;>rfl
theorem jR {lr:Bool} {z:List Value} (hz:(z.map jI).all bI=true):mB lr z 0 [] H=some (.ref H.length 0 0 0 0,H++[.row 0 [] z.length true]):=by
 simp[mB,wR,hz]
theorem iD {z:List Value} {v:VV} (hz:(z.map jI).all bI=true) (hv:(aB v).length=z.length) (hs:(aB v).all bI=true):mB false z 1 [(0,v)] H=some (.tree [v] (.cl z.length),H):=by
 simp only[mB,wR,List.replicate_succ,List.replicate_zero,List.length_cons,List.length_nil,hv,hs,and_self,if_true,List.set_cons_zero,hz]
 simp[hs]
theorem Yv {z:List Value} {u v:VV} (hz:(z.map jI).all bI=true) (hu:(aB u).length=z.length) (hus:(aB u).all bI=true) (hv:(aB v).length=z.length) (hs:(aB v).all bI=true):mB false z 2 [(0,u),(1,v)] H=some (.tree [u,v] (.cl z.length),H):=by
 simp[mB,wR,hv,hs,hu,hus,hz,List.replicate_succ]
end
theorem wrap32 (n:Nat):IntKind.u32.wrap (n:Int)=((n % 4294967296:Nat):Int):=by rw[IntKind.wrap_u32];omega
theorem wrap_u64 (n:Int):IntKind.u64.wrap n=n % 18446744073709551616:=by simp[IntKind.wrap,IntKind.bits,IntKind.signed]
theorem dW (n:Nat) (h:n<18446744073709551616):IntKind.u64.wrap (n:Int)=(n:Int):=by rw[wrap_u64];omega
theorem wrapN {x:Int} (n:Nat) (h:x=n) (hn:n≤9223372036854775807):IntKind.i64.wrap x=(n:Int):=by subst h;exact wrap64 (by omega) (by omega)
theorem nP (n:Nat) (k:IntKind):dB .shr (.int .u64 (n:Int)) (.int k 32)=some (.int .u64 ((n / 4294967296:Nat):Int)):=by
 simp only[dB]
 have h1:¬((32:Int)<0):=by decide
 have h2:Nat.min (Int.toNat 32) IntKind.u64.bits=32:=by decide
 rw[if_neg h1,h2]
 congr 2
 rw[Int.fdiv_eq_ediv_of_nonneg _ (by decide)]
 omega
theorem Ek (n:Nat) (k:IntKind) (h:n<4294967296):dB .shl (.int .u64 (n:Int)) (.int k 32)=some (.int .u64 ((n*4294967296:Nat):Int)):=by
 simp only[dB]
 have h1:¬((32:Int)<0):=by decide
 have h2:Nat.min (Int.toNat 32) IntKind.u64.bits=32:=by decide
 rw[if_neg h1,h2]
 congr 2
 have:(n:Int)*2^32=((n*4294967296:Nat):Int):=by omega
 rw[this]
 exact dW _ (by omega)
section
variable {n k g:Nat} {K:aA} {x y:cA}
theorem BF:aI (List.replicate n cA.dead++K) n g=aI K 0 g:=by
 unfold aI
 rw[List.getElem?_append_right (by simp)]
 simp
theorem VA:aI (List.replicate n cA.dead++K) (n+k) g=aI K k g:=by
 unfold aI
 rw[List.getElem?_append_right (by simp)]
 simp
theorem DD:(List.replicate n cA.dead++K).set n y=List.replicate n cA.dead++K.set 0 y:=by
 rw[List.set_append_right _ _ (by simp)]
 simp
theorem ahB:(List.replicate n cA.dead++K).set (n+k) y=List.replicate n cA.dead++K.set k y:=by
 rw[List.set_append_right _ _ (by simp)]
 simp
theorem wF:(List.replicate n cA.dead++K).length=n+K.length:=by simp
theorem afH:iF k (List.replicate n cA.dead++K)=iF k K:=by
 induction n with
 | zero=>rfl
 | succ n ih=>rw[List.replicate_succ,List.cons_append,←ih];rfl
end
theorem xE {k g e:Nat} {es:List VV} {w:Bool} {K:aA} (h:lY k es=true):iF k (.row g es e w::K)=iF k K:=by
 unfold iF
 rw[List.all_cons]
 simp only[h,Bool.true_and]
theorem DW {k:Nat}:iF k []=true:=rfl
theorem fA {size:Nat} {v:VV} {t:TK} {H:aA} (h:(aB v).length=size) (hs:(aB v).all bI=true):cU size (.tree [v] t) H=some [v]:=by
 simp[cU,h,hs]
theorem iB {α:Type} {f:α→VV} {xs:List α} {x:α} {lo b g n e bytes:Nat} {H:aA} (h:aI H b g=some (xs.map f,e,true)) (hn:n=xs.length) (eW:lo≤b) (he:1≤e) (hb:1≤bytes) (CP:(n+1)*bytes≤140737488355328) :
  eR lo e bytes (.ref b g 0 n n) [f x] H=some (.ref b (g+1) 0 (n+1) (n+1),H.set b (.row (g+1) ((xs++[x]).map f) e true)):=by
 subst hn
 simp only[eR,h,List.length_cons,List.length_nil,Nat.zero_add]
 rw[if_pos ⟨hb,he⟩,if_pos ⟨trivial,eW,by simp⟩,if_neg (by omega),if_pos CP,List.drop_zero,List.take_of_length_le (by simp)]
 simp
section
variable {H:aA} {b g o n c j lo size:Nat} {neg ag:Bool} {k:IntKind} {i:Int} {v:VV}
theorem cO:cR ag size (.ptr b g j o) H=(match aI H b g with
 |
  some (es,_,_)=>match es[j]? with
  | some x=>dQ ag size x o
  | none=>none
 | none=>none):=rfl
theorem Ds:bY lo size (.ptr b g j o) v H=(match aI H b g with
 |
  some (es,e,true)=>match es[j]? with
  |
   some x =>
   if (aB v).length=size∧lo≤b∧(aB v).all bI then
    if o=0∧size=e then some (H.set b (.row g (es.set j v) e true))
    else if 2≤e∧o+size≤e then some (H.set b (.row g (es.set j (.agg (cT (aB x) o (aB v)))) e true))
    else none
   else none
  | none=>none
 | _=>none):=rfl
theorem Ng:pT (.ref b g o n c) H=(aI H b g).map fun _ => .sc (.int .i64 n):=rfl
theorem vD:Hn size (.ptr b g j o) H=(aI H b g).map fun _ => .ptr b g j (o+size):=rfl
theorem Nn:Wx (.ptr b g j o) H=(aI H b g).map fun _ => .ptr b g j o:=rfl
theorem IK:FJ neg (.ref b g o n c) H=(aI H b g).map fun _ => .sc (.bool (false != neg)):=rfl
theorem Md:FJ neg (.tree [] .nil) H=some (.sc (.bool (true != neg))):=rfl
theorem Jr {x:VV} {xs:List VV} {t:TK}:FJ neg (.tree (x::xs) t) H=some (.sc (.bool (false != neg))):=rfl
theorem I3:bM size (.ref b g o n c) (.sc (.int k i)) H=(match aI H b g with
 | some (_,e,_)=>if e=size∧0≤i∧i<n then some (.ptr b g (o+i.toNat) 0) else none
 | none=>none):=rfl
end
theorem Gx {v:Value}:isAny (.sc v)=false:=rfl
theorem BD {es:List VV} {t:TK}:isAny (.tree es t)=false:=rfl
theorem D5 {b g o n c:Nat}:isAny (.ref b g o n c)=false:=rfl
theorem Ei {cs:List VV}:isAny (.agg cs)=false:=rfl
theorem N1 {f:Nat} {cs:List VV}:isAny (.uO f cs)=false:=rfl
theorem tS {x:VV}:elemOf [x]=x:=rfl
theorem xJ {x y:VV} {cs:List VV}:elemOf (x::y::cs) = .agg (x::y::cs):=rfl
theorem oK {k t:Nat} {ρ:dG}:Ig k ρ t=Ji k (ρ t):=rfl
theorem Gy {k:Nat} {v:Value}:Ji k (.sc v) = .sc v:=rfl
theorem vH {k:Nat} {v:VV} (h:aR v=true):Ji k v=v:=LW (Fu v h)
theorem Ec {k b g o n c:Nat} (h:b<k):Ji k (.ref b g o n c) = .ref b g o n c:=LW (by simp[below,h])
theorem QG {v:Value}:bI (.sc v)=true:=rfl
theorem L6 {es:List VV} {t:TK}:bI (.tree es t)=true:=rfl
theorem Nl {b g o n c:Nat}:bI (.ref b g o n c)=true:=rfl
theorem Od {b g o n:Nat}:bI (.ptr b g o n)=true:=rfl
theorem Lc {x:VV} {o:Nat}:bI (.cZ x o)=true:=rfl
theorem Oa {f:Nat} {cs:List VV}:bI (.uO f cs)=true:=rfl
theorem Ow {v:Value}:aB (.sc v)=[.sc v]:=rfl
theorem Fg {cs:List VV}:aB (.agg cs)=cs:=rfl
theorem IW {es:List VV} {t:TK}:aB (.tree es t)=[.tree es t]:=rfl
theorem KK {b g o n c:Nat}:aB (.ref b g o n c)=[.ref b g o n c]:=rfl
theorem Qs {k k':IntKind} {n:Int}:Tp k (.int k' n)=some (.int k (k.wrap n)):=rfl
theorem Ol {args:List VV} {t:Nat}:ID args t=args.getD t pR:=rfl
theorem amF {n:Nat}:LT n = .tmp n:=rfl
theorem aoP {n:Int}:LI n = .const (.int .i64 n):=rfl
theorem aoG:LG = .const (.bool true):=rfl
theorem amU:LF = .const (.bool false):=rfl
theorem anJ {n:Nat}:LL n = .load false 1 (.tmp n):=rfl
theorem aoE {n:Nat}:LK n = .load true 3 (.tmp n):=rfl
theorem aoO {n k:Nat}:LX n k = .ext (.tmp n) k:=rfl
theorem aqA {k n:Nat}:LA k n = .faddr k (.tmp n):=rfl
theorem anZ {d:Nat} {p:nN}:LO d p=⟨some d,p,none,false,[]⟩:=rfl
theorem amP {d:Nat} {p:nN}:LQ d p=⟨some d,p,none,true,[]⟩:=rfl
theorem aoY {p:nN}:LN p=⟨none,p,none,false,[]⟩:=rfl
theorem apP {d s:Nat}:LM d s=⟨some d,.mv (.tmp s),none,false,[]⟩:=rfl
theorem amN {g d:Nat} {p:nN}:LY g d p=⟨some d,p,some (g,true),false,[]⟩:=rfl
theorem apE {g d:Nat} {p:nN}:LZ g d p=⟨some d,p,some (g,false),false,[]⟩:=rfl
theorem aqB {l:List PI} {c:aD}:LS l c = .seq (.dI l) c:=rfl
theorem VX:type_of% (
 And.intro @Z7<|And.intro @YV<|And.intro @Sd<|And.intro @UK<|And.intro @Va<|And.intro @Yd<|And.intro @Vt <|
 And.intro @Su<|And.intro @Cr<|And.intro @E7<|And.intro @GC<|And.intro @ED<|And.intro @CZ <|
 And.intro @Ma<|And.intro @F4<|And.intro @NT<|And.intro @Lb<|And.intro @Rb<|And.intro @PZ <|
 And.intro @L3<|And.intro @NN<|And.intro @ZX<|And.intro @agC<|And.intro @YA<|And.intro @afP<|And.intro @Jd <|
 And.intro @Y2<|And.intro @RP<|And.intro @UW<|And.intro @UM<|And.intro @Nz<|And.intro @Om<|And.intro @aaU <|
 And.intro @U9<|And.intro @Vk<|And.intro @V3<|And.intro @Vf<|And.intro @Ob<|And.intro @VZ<|And.intro @Nd <|
 And.intro @Ns<|And.intro @Ru<|And.intro @P3<|And.intro @QI<|And.intro @UB<|And.intro @Rl<|And.intro @VJ <|
 And.intro @VN<|And.intro @RD<|And.intro @Vo<|And.intro @Vg<|And.intro @Vb<|And.intro @QH<|And.intro @Vw <|
 And.intro @Oq<|And.intro @U2<|And.intro @RC<|And.intro @NU<|And.intro @RT<|And.intro @N3 <|
 And.intro @BP<|And.intro @NY<|And.intro @Rh<|And.intro @No<|And.intro @Kl<|And.intro @Ni <|
 And.intro @uZ<|And.intro @N9<|And.intro @Vd<|And.intro @Nq<|And.intro @QT<|And.intro @UF<|And.intro @R7 <|
 And.intro @Vj<|And.intro @U5<|And.intro @UG<|And.intro @Rc<|And.intro @Oh<|And.intro @Rv<|And.intro @R5 <|
 And.intro @Vp<|And.intro @UC<|And.intro @Rt<|And.intro @QE<|And.intro @NS<|And.intro @QO<|And.intro @Z4 <|
 And.intro @OY<|And.intro @ZP<|And.intro @UN<|And.intro @ZS<|And.intro @Yw<|And.intro @iE<|And.intro @Y0 <|
 And.intro @List.length_map.{0,0}<|And.intro @List.all_cons.{0}<|And.intro @List.all_nil.{0}<|And.intro @QG<|And.intro @Bool.and_self <|
 And.intro @Bool.and_true<|And.intro @Qs<|And.intro @US<|And.intro @Uw<|And.intro @Q6<|And.intro @Qd <|
 And.intro @QW<|And.intro @RZ<|And.intro @QM<|And.intro @QB<|And.intro @RF<|And.intro @PX<|And.intro @P9 <|
 And.intro @Vc<|And.intro @VH<|And.intro @Value.bool.injEq<|And.intro @decide_eq_true_eq<|And.intro @decide_eq_false_iff_not <|
 And.intro @Bool.not_true<|And.intro @Bool.not_false<|And.intro @decide_true<|And.intro @decide_false<|And.intro @Bool.not_eq_true' <|
 And.intro @Bool.not_eq_false'<|And.intro @Bool.false_eq_true<|And.intro @false_and<|And.intro @and_false<|And.intro @Option.map_some.{0,0} <|
 And.intro @Option.map_none.{0,0}<|And.intro @if_true.{1}<|And.intro @if_false.{1}<|And.intro @List.map_cons.{0,0}<|And.intro @List.map_nil.{0,0} <|
 And.intro @List.cons_append.{0}<|And.intro @List.nil_append.{0}<|And.intro @and_true<|And.intro @true_and<|And.intro @Nat.zero_add <|
 And.intro @Nat.add_zero<|And.intro @List.length_cons.{0}<|And.intro @List.length_nil.{0}<|And.intro @Ol<|And.intro @List.getD_cons_zero.{0} <|
 And.intro @List.getD_cons_succ.{0}<|And.intro @List.getD_nil.{0}<|And.intro @VV.sc.injEq<|And.intro @List.getElem?_cons_zero.{0} <|
 And.intro @List.getElem?_cons_succ.{0}<|And.intro @L6<|And.intro @Nl<|And.intro @Od<|And.intro @Lc <|
 And.intro @Oa<|And.intro @Ow<|And.intro @Fg<|And.intro @IW<|And.intro @KK<|And.intro @amF<|And.intro @aoP <|
 And.intro @aoG<|And.intro @amU<|And.intro @anJ<|And.intro @aoE<|And.intro @aoO<|And.intro @aqA<|And.intro @anZ<|And.intro @amP <|
 And.intro @aoY<|And.intro @apP<|And.intro @amN<|And.intro @apE <| @aqB) :=
 And.intro @Z7<|And.intro @YV<|And.intro @Sd<|And.intro @UK<|And.intro @Va<|And.intro @Yd<|And.intro @Vt <|
 And.intro @Su<|And.intro @Cr<|And.intro @E7<|And.intro @GC<|And.intro @ED<|And.intro @CZ <|
 And.intro @Ma<|And.intro @F4<|And.intro @NT<|And.intro @Lb<|And.intro @Rb<|And.intro @PZ <|
 And.intro @L3<|And.intro @NN<|And.intro @ZX<|And.intro @agC<|And.intro @YA<|And.intro @afP<|And.intro @Jd <|
 And.intro @Y2<|And.intro @RP<|And.intro @UW<|And.intro @UM<|And.intro @Nz<|And.intro @Om<|And.intro @aaU <|
 And.intro @U9<|And.intro @Vk<|And.intro @V3<|And.intro @Vf<|And.intro @Ob<|And.intro @VZ<|And.intro @Nd <|
 And.intro @Ns<|And.intro @Ru<|And.intro @P3<|And.intro @QI<|And.intro @UB<|And.intro @Rl<|And.intro @VJ <|
 And.intro @VN<|And.intro @RD<|And.intro @Vo<|And.intro @Vg<|And.intro @Vb<|And.intro @QH<|And.intro @Vw <|
 And.intro @Oq<|And.intro @U2<|And.intro @RC<|And.intro @NU<|And.intro @RT<|And.intro @N3 <|
 And.intro @BP<|And.intro @NY<|And.intro @Rh<|And.intro @No<|And.intro @Kl<|And.intro @Ni <|
 And.intro @uZ<|And.intro @N9<|And.intro @Vd<|And.intro @Nq<|And.intro @QT<|And.intro @UF<|And.intro @R7 <|
 And.intro @Vj<|And.intro @U5<|And.intro @UG<|And.intro @Rc<|And.intro @Oh<|And.intro @Rv<|And.intro @R5 <|
 And.intro @Vp<|And.intro @UC<|And.intro @Rt<|And.intro @QE<|And.intro @NS<|And.intro @QO<|And.intro @Z4 <|
 And.intro @OY<|And.intro @ZP<|And.intro @UN<|And.intro @ZS<|And.intro @Yw<|And.intro @iE<|And.intro @Y0 <|
 And.intro @List.length_map.{0,0}<|And.intro @List.all_cons.{0}<|And.intro @List.all_nil.{0}<|And.intro @QG<|And.intro @Bool.and_self <|
 And.intro @Bool.and_true<|And.intro @Qs<|And.intro @US<|And.intro @Uw<|And.intro @Q6<|And.intro @Qd <|
 And.intro @QW<|And.intro @RZ<|And.intro @QM<|And.intro @QB<|And.intro @RF<|And.intro @PX<|And.intro @P9 <|
 And.intro @Vc<|And.intro @VH<|And.intro @Value.bool.injEq<|And.intro @decide_eq_true_eq<|And.intro @decide_eq_false_iff_not <|
 And.intro @Bool.not_true<|And.intro @Bool.not_false<|And.intro @decide_true<|And.intro @decide_false<|And.intro @Bool.not_eq_true' <|
 And.intro @Bool.not_eq_false'<|And.intro @Bool.false_eq_true<|And.intro @false_and<|And.intro @and_false<|And.intro @Option.map_some.{0,0} <|
 And.intro @Option.map_none.{0,0}<|And.intro @if_true.{1}<|And.intro @if_false.{1}<|And.intro @List.map_cons.{0,0}<|And.intro @List.map_nil.{0,0} <|
 And.intro @List.cons_append.{0}<|And.intro @List.nil_append.{0}<|And.intro @and_true<|And.intro @true_and<|And.intro @Nat.zero_add <|
 And.intro @Nat.add_zero<|And.intro @List.length_cons.{0}<|And.intro @List.length_nil.{0}<|And.intro @Ol<|And.intro @List.getD_cons_zero.{0} <|
 And.intro @List.getD_cons_succ.{0}<|And.intro @List.getD_nil.{0}<|And.intro @VV.sc.injEq<|And.intro @List.getElem?_cons_zero.{0} <|
 And.intro @List.getElem?_cons_succ.{0}<|And.intro @L6<|And.intro @Nl<|And.intro @Od<|And.intro @Lc <|
 And.intro @Oa<|And.intro @Ow<|And.intro @Fg<|And.intro @IW<|And.intro @KK<|And.intro @amF<|And.intro @aoP <|
 And.intro @aoG<|And.intro @amU<|And.intro @anJ<|And.intro @aoE<|And.intro @aoO<|And.intro @aqA<|And.intro @anZ<|And.intro @amP <|
 And.intro @aoY<|And.intro @apP<|And.intro @amN<|And.intro @apE <| @aqB
theorem kC:type_of% (
 And.intro @cO<|And.intro @Ds<|And.intro @I3<|And.intro @Ng<|And.intro @vD<|And.intro @Nn <|
 And.intro @IK<|And.intro @Md<|And.intro @Jr<|And.intro @bA<|And.intro @tQ<|And.intro @List.set_cons_zero.{0} <|
 And.intro @List.set_cons_succ.{0}<|And.intro @tS<|And.intro @xJ<|And.intro @oC.eq_1<|And.intro @qN.eq_1 <|
 And.intro @qN.eq_2<|And.intro @EL.eq_1<|And.intro @EL.eq_2<|And.intro @zJ.eq_1<|And.intro @zJ.eq_2<|And.intro @Gx <|
 And.intro @BD<|And.intro @D5<|And.intro @Ei<|And.intro @N1<|And.intro @List.take_zero.{0} <|
 And.intro @List.take_succ_cons.{0}<|And.intro @List.take_nil.{0}<|And.intro @List.drop_zero.{0}<|And.intro @List.drop_succ_cons.{0} <|
 And.intro @List.drop_nil.{0}<|And.intro @List.append_nil.{0}<|And.intro @Nat.le_refl<|And.intro @cT.eq_1<|And.intro @Int.toNat_natCast <|
 And.intro @eq_self.{1}<|And.intro @ge_iff_le.{0} <| @Bool.and_eq_true) :=
 And.intro @cO<|And.intro @Ds<|And.intro @I3<|And.intro @Ng<|And.intro @vD<|And.intro @Nn <|
 And.intro @IK<|And.intro @Md<|And.intro @Jr<|And.intro @bA<|And.intro @tQ<|And.intro @List.set_cons_zero.{0} <|
 And.intro @List.set_cons_succ.{0}<|And.intro @tS<|And.intro @xJ<|And.intro @oC.eq_1<|And.intro @qN.eq_1 <|
 And.intro @qN.eq_2<|And.intro @EL.eq_1<|And.intro @EL.eq_2<|And.intro @zJ.eq_1<|And.intro @zJ.eq_2<|And.intro @Gx <|
 And.intro @BD<|And.intro @D5<|And.intro @Ei<|And.intro @N1<|And.intro @List.take_zero.{0} <|
 And.intro @List.take_succ_cons.{0}<|And.intro @List.take_nil.{0}<|And.intro @List.drop_zero.{0}<|And.intro @List.drop_succ_cons.{0} <|
 And.intro @List.drop_nil.{0}<|And.intro @List.append_nil.{0}<|And.intro @Nat.le_refl<|And.intro @cT.eq_1<|And.intro @Int.toNat_natCast <|
 And.intro @eq_self.{1}<|And.intro @ge_iff_le.{0} <| @Bool.and_eq_true
end Go.PM
namespace Go.PM
theorem TC.vt {f:Nat} {args:List VV} {r:VV} (h:TC f args r) (tM:BE.contains f=false) (hp:aM args=true):VT f args r:=by
 have h1:=h 0 [] fun x _=>x=r
 unfold cQ at h1
 simp only[tM,hp,Bool.false_eq_true,if_false,if_true] at h1
 have h2:F1 f args fun x=>x=r:=by rw[h1];trivial
 unfold F1 tk at h2
 split at h2
 ·rename_i x hx
  rw[←h2]
  exact(Pb hx).2.2
 ·exact h2.elim
theorem TC.yes {f:Nat} {args:List VV} {eG:List Value} {H:aE} (h:TC f args (.sc (.bool true))) (tM:BE.contains f=false) (hp:aM args=true) (hl:VL (bare (· < H.length) H) args eG) :
  ∃v H',rG f eG H.length H=some (v,H')∧v = .bool true:=by
 obtain⟨P',pv,h1,_,h2⟩:=h.vt tM hp (· < H.length) H eG H.length (fun _ h=>h) hl (Nat.le_refl _)
 cases h2
 exact⟨_,P',h1,rfl⟩
theorem VR.grow {H L:aE} {x:VV} {v:Value} (h:VR (bare (· < H.length) H) x v):VR (bare (· < (H++L).length) (H++L)) x v :=
 h.DS fun b hb=>⟨by show b<_;rw[List.length_append];omega,List.getElem?_append_left hb⟩
end Go.PM
namespace Go.PM
mutual
def dD (n:Nat):VV→Bool
 | .any=>false
 | .sc v=>kE v
 | .agg cs=>mM n cs
 | .dS vs=>mM n vs
 | .tree es k=>es.isEmpty&&decide (k = .nil)
 | .cZ _ _=>false
 | .ref b _ _ _ _=>decide (n≤b)
 | .ptr b _ _ _=>decide (n≤b)
 | .uO _ _=>false
def mM (n:Nat):List VV→Bool
 | []=>true
 | x::xs=>dD n x&&mM n xs
end
theorem C7 {n:Nat} {es:List VV}:mM n es=true↔∀x∈es,dD n x=true:=by
 induction es with
 | nil=>simp[mM]
 | cons x xs ih=>simp[mM,ih]
theorem Xq {n:Nat} {es:List VV} (h:mM n es=true):mM n (es.flatMap aB)=true:=by
 rw[C7] at h ⊢
 intro x hx
 obtain⟨y,hy,AL⟩:=List.mem_flatMap.1 hx
 have:=h y hy
 unfold aB at AL
 split at AL
 ·exact C7.1 (by simpa[dD] using this) x AL
 ·rw[List.mem_singleton] at AL;subst AL;exact this
def dE (n:Nat) (L:aA):Bool:=L.all fun
 | .row _ es _ _=>mM n es
 | .dead=>true
theorem VR.own {V V':View} {k0:Nat} (PV:∀q,V.base≤q∧q<V.P.length→V'.base≤q∧q<V'.P.length∧∀b' g' es e w,b'<k0→V'.H[b']? = some (.row g' es e w)→V'.m b'≠q) (hl:V.H.length≤V'.H.length) (hH:∀b,k0≤b→V'.H[b]? = V.H[b]?) (hm:∀b,k0≤b→V'.m b=V.m b) {x:VV} {v:Value} (h:VR V x v):dD k0 x=true→VR V' x v:=by
 induction h using VR.rec (motive_2:=fun xs vs _=>mM k0 xs=true→VL V' xs vs) with
 | any=>intro hx;cases hx
 | sc _ h=>intro _;exact .sc _ h
 | agg cs ps _ ih=>intro hx;exact .agg _ _ (ih hx)
 | dS cs ps _ ih=>intro hx;exact .dS _ _ (ih hx)
 | oI k hk=>intro _;exact .oI k hk
 |
  tree es k b o c r e p hF hb ho hc he hk _ _ =>
  intro hx
  simp only[dD,Bool.and_eq_true,decide_eq_true_eq] at hx
  obtain⟨_,rfl⟩:=hx
  exact hk.elim
 | cZ=>intro hx;cases hx
 |
  ref b g o n c a n' c' bB hg ha hq =>
  intro hx
  have hb:k0≤b:=by simpa[dD] using hx
  exact .ref b g o n c a n' c' (Nat.lt_of_lt_of_le bB hl) (fun g' es e w hr=>hg g' es e w (by rw[←hH b hb];exact hr)) (fun es e w hr=>by rw[hm b hb];exact ha es e w (by rw[←hH b hb];exact hr)) fun a0 h=>by
   obtain⟨q1,q2,q3⟩:=hq a0 h
   obtain⟨q4,q5,q6⟩:=PV _ ⟨q1,q2⟩
   refine⟨q4,q5,fun b' g' es e w hr fH => ?_⟩
   rcases Nat.lt_or_ge b' k0 with LJ | CE
   ·exact q6 b' g' es e w LJ hr
   ·rw[hm b' CE]
    exact q3 b' g' es e w (by rw[←hH b' CE];exact hr) fH
 |
  ptr b g j off a bB hg ha hq =>
  intro hx
  have hb:k0≤b:=by simpa[dD] using hx
  exact .ptr b g j off a (Nat.lt_of_lt_of_le bB hl) (fun g' es e w hr=>hg g' es e w (by rw[←hH b hb];exact hr)) (fun es e w hr=>by rw[hm b hb];exact ha es e w (by rw[←hH b hb];exact hr)) fun a0 h=>by
   obtain⟨q1,q2,q3⟩:=hq a0 h
   obtain⟨q4,q5,q6⟩:=PV _ ⟨q1,q2⟩
   refine⟨q4,q5,fun b' g' es e w hr fH => ?_⟩
   rcases Nat.lt_or_ge b' k0 with LJ | CE
   ·exact q6 b' g' es e w LJ hr
   ·rw[hm b' CE]
    exact q3 b' g' es e w (by rw[←hH b' CE];exact hr) fH
 | uO=>intro hx;cases hx
 | nil=>exact .nil
 |
  cons x v xs vs _ _ ih SO =>
  rename_i hx
  simp only[mM,Bool.and_eq_true] at hx
  exact .cons _ _ _ _ (ih hx.1) (SO hx.2)
theorem VL.own {V V':View} {n:Nat} (PV:∀q,V.base≤q∧q<V.P.length→V'.base≤q∧q<V'.P.length∧∀b' g' es e w,b'<n→V'.H[b']? = some (.row g' es e w)→V'.m b'≠q) (hl:V.H.length≤V'.H.length) (hH:∀b,n≤b→V'.H[b]? = V.H[b]?) (hm:∀b,n≤b→V'.m b=V.m b) {xs:List VV} {vs:List Value} (h:VL V xs vs) (hx:mM n xs=true):VL V' xs vs:=by
 induction xs generalizing vs with
 | nil=>cases h;exact .nil
 |
  cons x xs ih=>cases h with
  |
   cons _ v _ vs h hs =>
   simp only[mM,Bool.and_eq_true] at hx
   exact .cons _ _ _ _ (h.own PV hl hH hm hx.1) (ih hs hx.2)
theorem VL.DS {V':View} {G:Nat→Prop} {P:aE} {xs:List VV} {vs:List Value} (hF:∀b,G b→V'.F b∧V'.P[b]? = P[b]?) (h:VL (bare G P) xs vs):VL V' xs vs:=by
 induction xs generalizing vs with
 | nil=>cases h;exact .nil
 |
  cons x xs ih=>cases h with
  | cons _ v _ vs h hs=>exact .cons _ _ _ _ (h.DS hF) (ih hs)
def FC (f:Nat) (args:List VV) (R:Nat→VV→aA→Prop):Prop :=
 ∀n,jO f args n (List.replicate n .dead) fun r H'=>∃L,H'=List.replicate n .dead++L∧dD n r=true∧dE n L=true∧R n r L
theorem FC.walk {f:Nat} {pf:aP} {args:List VV} {R:Nat→VV→aA→Prop} (fl:Fl) (ht:gB f=some pf) (hn:args.length≤pf.ntmps)
  (h:∀n,VW fl n pf.body (AN pf.res fun r H'=>∃L,H'=List.replicate n .dead++L∧dD n r=true∧dE n L=true∧R n r L) (ID args) (List.replicate n .dead)):FC f args R :=
 fun n=>jO.walk fl ht hn (h n)
theorem FC.raw {f:Nat} {args iI:List VV} {R:Nat→VV→aA→Prop} {H:aA} {lo:Nat} (h:FC f iI R) (hf:args.mapM (fz depth H)=some iI):jO f args lo H fun r H'=>∃L,H'=H++L∧R H.length r L∧dD H.length r=true∧dE H.length L=true:=by
 intro V eH eG hH hS hl
 have h1:=h H.length
 let V0:View:={ m:=V.m,F:=(· < V.P.length),H:=List.replicate H.length .dead,P:=V.P,base:=V.P.length }
 have KY:∀(b g:Nat) (es:List VV) (e:Nat) (w:Bool),V0.H[b]? ≠ some (.row g es e w):=by
  intro b g es e w hb
  have:=List.eq_of_mem_replicate (List.mem_of_getElem? hb)
  cases this
 have hS0:SR V0 H.length eH:=⟨fun b g es e w hb=>absurd hb (KY _ _ _ _ _),fun b g es e hb=>absurd hb (KY _ _ _ _ _),fun a b g es e w _ _ _ _ ha=>absurd ha (KY _ _ _ _ _),fun b hb=>hb,hS.Sx,Nat.le_refl _⟩
 have Ac:VL V0 iI eG:=by
  have:=Ea hS (G:=(· < V.P.length)) (fun q hq=>hS.fr q hq) hl (by rw[hH];exact hf) (fun i _ g es e w hb=>hS.mlt hb)
  exact VL.DS (V':=V0) (fun b hb=>⟨hb,rfl⟩) this
 obtain⟨pv,V1,r,k1,k3,k4,k5,L,k2,h2,h3,hR⟩:=h1 V0 eH eG rfl hS0 Ac
 have VO:∀b g es e w,V1.H[b]? = some (.row g es e w)→V.P.length≤V1.m b:=by
  intro b g es e w hb
  rcases Nat.lt_or_ge (V1.m b) V.P.length with bB | CE
  ·obtain⟨g0,es0,w0,j1,_⟩:=k4.B1 b g es e w hb bB
   exact absurd j1 (KY _ _ _ _ _)
  ·exact CE
 have aqH:V1.H.length=H.length+(L).length:=by rw[k2];simp
 have zR:∀q,q<V.P.length→V1.P[q]? = V.P[q]? := fun q hq=>k4.bU q hq fun b g es e hb=>absurd hb (KY _ _ _ _ _)
 let V2:View:={ m:=fun b=>if b<H.length then V.m b else V1.m b,F:=V.F,H:=H++L,P:=V1.P,base:=V.base }
 have acJ:∀b,H.length≤b→V2.H[b]? = V1.H[b]? := fun b hb=>by
  show (H++L)[b]? = _
  rw[k2,List.getElem?_append_right hb,List.getElem?_append_right (by simpa using hb),List.length_replicate]
 have mL:∀b,H.length≤b→V2.m b=V1.m b:=fun b hb=>by
  show (if b<H.length then V.m b else V1.m b)=_
  rw[if_neg (by omega)]
 have aeI:∀b,b<H.length→V2.H[b]? = V.H[b]? := fun b hb=>by
  show (H++L)[b]? = _
  rw[List.getElem?_append_left hb,hH]
 have mS:∀b,b<H.length→V2.m b=V.m b:=fun b hb=>by
  show (if b<H.length then V.m b else V1.m b)=_
  rw[if_pos hb]
 have hU:Up V V2:=⟨fun _ h=>h,fun b hb=>zR b (hS.fr b hb),by show V.H.length≤(H++L).length;rw[hH];simp,fun b g es e w bB hb=>⟨g,es,w,by rw[←aeI b (by rw[←hH];exact bB)];exact hb,Nat.le_refl _,fun _=>mS b (by rw[←hH];exact bB)⟩,rfl,k4.Eo,fun b g es e w hb hm=>by
   rcases Nat.lt_or_ge b H.length with h | h
   ·exact⟨g,es,w,by rw[←aeI b h];exact hb,mS b h,id⟩
   ·rw[mL b h] at hm
    have:=VO b g es e w (by rw[←acJ b h];exact hb)
    omega⟩
 have Vh:∀ {b g es e w},V2.H[b]? = some (.row g es e w)→(b<H.length∧V.H[b]? = some (.row g es e w))∨(H.length≤b∧V1.H[b]? = some (.row g es e w)):=by
  intro b g es e w hb
  rcases Nat.lt_or_ge b H.length with h | h
  ·exact .inl ⟨h,by rw[←aeI b h];exact hb⟩
  ·exact .inr ⟨h,by rw[←acJ b h];exact hb⟩
 have afQ:V1.H.length≤V2.H.length:=by show _≤(H++L).length;rw[aqH];simp
 have anP:∀ {b g es e w},H.length≤b→V1.H[b]? = some (.row g es e w)→mM H.length es=true:=by
  intro b g es e w hb hr
  rw[k2,List.getElem?_append_right (by simpa using hb)] at hr
  exact List.all_eq_true.1 h3 _ (List.mem_of_getElem? hr)
 have PV:∀q,V1.base≤q∧q<V1.P.length→V2.base≤q∧q<V2.P.length∧∀b' g' es e w,b'<H.length→V2.H[b']? = some (.row g' es e w)→V2.m b'≠q:=by
  intro q hq
  have Aa:V.P.length≤q:=by have:=k4.J8;rw[this] at hq;exact hq.1
  refine⟨Nat.le_trans hS.J8 Aa,hq.2,fun b' g' es e w bB hr hm => ?_⟩
  rw[mS b' bB] at hm
  have:=hS.mlt (by rw[←aeI b' bB];exact hr)
  omega
 refine⟨pv,V2,r,k1,⟨fun b g es e w hb => ?_,fun b g es e hb => ?_,fun a b g es e w g' mU e' w' ha hb hm => ?_,fun b hb => ?_,?_,Nat.le_trans hS.J8 k4.Eo⟩,{ hU with bU:=fun q hq _=>zR q hq,CM:=fun q hq => .inl hq },?_,L,rfl,hR,h2,h3⟩
 ·rcases Vh hb with⟨h,hb⟩ | ⟨h,hb⟩
  ·obtain⟨r,p,j1,j2,j3⟩:=hS.row b g es e w hb
   exact⟨r,p,by rw[mS b h];exact(zR _ (hS.mlt hb)).trans j1,j2,j3.mono hU⟩
  ·obtain⟨r,p,j1,j2,j3⟩:=k3.row b g es e w hb
   exact⟨r,p,by rw[mL b h];exact j1,j2,j3.own PV afQ (fun b hb=>acJ b hb) (fun b hb=>mL b hb) (Xq (anP h hb))⟩
 ·rcases Vh hb with⟨h,hb⟩ | ⟨h,hb⟩
  ·rw[mS b h]
   exact hS.wr b g es e hb
  ·rw[mL b h]
   have:=VO b g es e true hb
   exact⟨fun hF=>by have:=hS.fr _ hF;omega,fun _=>Nat.le_trans hS.Sx this⟩
 ·rcases Vh ha with⟨h,ha⟩ | ⟨h,ha⟩<;>rcases Vh hb with⟨h',hb⟩ | ⟨h',hb⟩
  ·rw[mS a h,mS b h'] at hm
   exact hS.inj a b _ _ _ _ _ _ _ _ ha hb hm
  ·rw[mS a h,mL b h'] at hm
   have:=VO b _ _ _ _ hb
   have:=hS.mlt ha
   omega
  ·rw[mL a h,mS b h'] at hm
   have:=VO a _ _ _ _ ha
   have:=hS.mlt hb
   omega
  ·rw[mL a h,mL b h'] at hm
   exact k3.inj a b _ _ _ _ _ _ _ _ ha hb hm
 ·exact Nat.lt_of_lt_of_le (hS.fr b hb) k4.Eo
 ·exact Nat.le_trans hS.Sx k4.Eo
 ·exact k5.own PV afQ (fun b hb=>acJ b hb) (fun b hb=>mL b hb) h2
theorem fC {f:Nat} {args:List VV} {lo:Nat} {H:aA} {K:VV→aA→Prop} (tM:BE.contains f=true) (h:jO f args lo H K):cQ f args lo H K:=by
 unfold cQ
 rw[if_pos tM]
 exact h
theorem FC.call {f:Nat} {args iI:List VV} {R:Nat→VV→aA→Prop} {H:aA} {lo:Nat} {K:VV→aA→Prop} (h:FC f iI R) (tM:BE.contains f=true) (hf:args.mapM (fz depth H)=some iI) (hk:∀r L,R H.length r L→K r (H++L)):cQ f args lo H K :=
 fC tM ((h.raw hf).mono fun r H' ⟨L,h1,h2,_⟩=>by subst h1;exact hk r L h2)
theorem FC.afS {f:Nat} {args iI:List VV} {R:Nat→VV→aA→Prop} {H:aA} {lo:Nat} {K:VV→aA→Prop} (h:FC f iI R) (tM:BE.contains f=true) (hf:args.mapM (fz depth H)=some iI) (hk:∀r L,R H.length r L→dD H.length r=true→dE H.length L=true→K r (H++L)):cQ f args lo H K :=
 fC tM ((h.raw hf).mono fun r H' ⟨L,h1,h2,h3,h4⟩=>by subst h1;exact hk r L h2 h3 h4)
def A7 (H K:aA):Prop:=K.length=H.length∧∀(b g:Nat) (es:List VV) (e:Nat) (w:Bool),K[b]? = some (.row g es e w)→H[b]? = some (.row g es e w)
theorem VR.kill {V:View} {K:aA} (hK:A7 V.H K) {x:VV} {v:Value} (h:VR V x v):VR { V with H:=K } x v:=by
 induction h using VR.rec (motive_2:=fun xs vs _=>VL { V with H:=K } xs vs) with
 | any=>exact .any _
 | sc _ h=>exact .sc _ h
 | agg cs ps _ ih=>exact .agg _ _ ih
 | dS cs ps _ ih=>exact .dS _ _ ih
 | oI k hk=>exact .oI k hk
 | tree es k b o c r e p hF hb ho hc he hk _ ih=>exact .tree es k b o c r e p hF hb ho hc he hk ih
 | cZ x off b o r e p hF hb ho _ ih=>exact .cZ x off b o r e p hF hb ho ih
 |
  ref b g o n c a n' c' bB hg ha hq =>
  exact .ref b g o n c a n' c' (by show b<K.length;rw[hK.1];exact bB) (fun g' es e w hr=>hg g' es e w (hK.2 _ _ _ _ _ hr)) (fun es e w hr=>ha es e w (hK.2 _ _ _ _ _ hr)) fun a0 h=>⟨(hq a0 h).1,(hq a0 h).2.1,fun b' g' es e w hr=>(hq a0 h).2.2 b' g' es e w (hK.2 _ _ _ _ _ hr)⟩
 |
  ptr b g j off a bB hg ha hq =>
  exact .ptr b g j off a (by show b<K.length;rw[hK.1];exact bB) (fun g' es e w hr=>hg g' es e w (hK.2 _ _ _ _ _ hr)) (fun es e w hr=>ha es e w (hK.2 _ _ _ _ _ hr)) fun a0 h=>⟨(hq a0 h).1,(hq a0 h).2.1,fun b' g' es e w hr=>(hq a0 h).2.2 b' g' es e w (hK.2 _ _ _ _ _ hr)⟩
 | uO f fR ps _ ih=>exact .uO _ _ _ ih
 | nil=>exact .nil
 | cons x v xs vs _ _ ih SO=>exact .cons _ _ _ _ ih SO
theorem VL.kill {V:View} {K:aA} (hK:A7 V.H K) {xs:List VV} {vs:List Value} (h:VL V xs vs):VL { V with H:=K } xs vs:=by
 induction xs generalizing vs with
 | nil=>cases h;exact .nil
 |
  cons x xs ih=>cases h with
  | cons _ v _ vs h hs=>exact .cons _ _ _ _ (h.kill hK) (ih hs)
theorem jO.kill {f:Nat} {args:List VV} {lo:Nat} {H:aA} {P P':VV→aA→Prop} (h:jO f args lo H P) (hk:∀v H',P v H'→∃K,A7 H' K∧P' v K):jO f args lo H P':=by
 intro V eH eG hH hS hl
 obtain⟨pv,V',v,h1,h2,h3,h4,h5⟩:=h V eH eG hH hS hl
 obtain⟨K,hK,h6⟩:=hk _ _ h5
 refine⟨pv,{ V' with H:=K },v,h1,⟨fun b g es e w hb => ?_,fun b g es e hb=>h2.wr b g es e (hK.2 _ _ _ _ _ hb),fun a b g es e w g' mU e' w' ha hb hm=>h2.inj a b _ _ _ _ _ _ _ _ (hK.2 _ _ _ _ _ ha) (hK.2 _ _ _ _ _ hb) hm,h2.fr,h2.Sx,h2.J8⟩,
  { F:=h3.F,P:=h3.P,len:=by show V.H.length≤K.length;rw[hK.1];exact h3.len,row:=fun b g es e w bB hb=>h3.row b g es e w bB (hK.2 _ _ _ _ _ hb),J8:=h3.J8,Eo:=h3.Eo,B1:=fun b g es e w hb hm=>h3.B1 b g es e w (hK.2 _ _ _ _ _ hb) hm,bU:=h3.bU,CM:=h3.CM },h4.kill hK,h6⟩
 obtain⟨r,p,j1,j2,j3⟩:=h2.row b g es e w (hK.2 _ _ _ _ _ hb)
 exact⟨r,p,j1,j2,j3.kill hK⟩
theorem FC.Kt {f:Nat} {pf:aP} {args:List VV} {R:Nat→VV→aA→Prop} (fl:Fl) (ht:gB f=some pf) (hn:args.length≤pf.ntmps)
  (h:∀n,VW fl n pf.body (AN pf.res fun r H'=>∃L,A7 H' (List.replicate n .dead++L)∧dD n r=true∧dE n L=true∧R n r L) (ID args) (List.replicate n .dead)):FC f args R :=
 fun n=>(jO.walk fl ht hn (h n)).kill fun _ _ ⟨L,h1,h2,h3,h4⟩=>⟨_,h1,L,rfl,h2,h3,h4⟩
end Go.PM
namespace Go.PM
open Go.ChangeShapes Go.WideShapes Go.ChangeAt Go.RowKit
open Go.Proofs
def BM (W:World):Prop:=∃(rb:Nat) (arr:Array Value) (e:TypeId) (fz:Nat×Nat),W.heap[rb]? = some (.cells arr e fz)
structure BS (m m':dF) (H L:aE) (W:World) (cs Jx:List Value) (vs:List VV):Prop where
 inn:In m' (H++L) W
 ext:∀b l,m b=some l→m' b=some l
 len:Jx.length=cs.length
 rv:∀i,i<cs.length→RV m' (Jx.getD i Go.undef) (cs.getD i Go.undef)
 sc:∀v∈Jx,PM.fQ v=true
 tree:VL (bare (· < (H++L).length) (H++L)) vs Jx
def Nu {T:Type} (Cb:TypeId×Value→T) (P:Program) (W:World) (t:TypeId) (k:Nat) (S:List VV→Prop):Prop :=
 ∀fuel cs y,DataW.trod Cb P W 0 (fun _=>true) true fuel t cs=some y→∀(m:dF) (H:aE),In m H W→cs.length=k∧∃m' L Jx vs,BS m m' H L W cs Jx vs∧S vs
theorem VL.grow {H L:aE} {xs:List VV} {vs:List Value} (h:VL (bare (· < H.length) H) xs vs):VL (bare (· < (H++L).length) (H++L)) xs vs :=
 h.DS fun b hb=>⟨by show b<_;rw[List.length_append];omega,List.getElem?_append_left hb⟩
theorem VL.app {V:View} {xs ys:List VV} {vs ws:List Value} (h:VL V xs vs) (h':VL V ys ws):VL V (xs++ys) (vs++ws):=by
 induction xs generalizing vs with
 | nil=>cases h;exact h'
 |
  cons x xs ih=>cases h with
  | cons _ v _ vs h hs=>exact .cons _ _ _ _ h (ih hs)
theorem HZ {cs ds:List Value} {i:Nat} (h:i<cs.length):(cs++ds).getD i Go.undef=cs.getD i Go.undef:=by
 simp only[List.getD_eq_getElem?_getD,List.getElem?_append_left h]
theorem FA {cs ds:List Value} {i:Nat} (h:cs.length≤i):(cs++ds).getD i Go.undef=ds.getD (i-cs.length) Go.undef:=by
 simp only[List.getD_eq_getElem?_getD,List.getElem?_append_right h]
theorem BS.both {m m1 m2:dF} {H L1 L2:aE} {W:World} {cs Jx AK apW:List Value} {vs vs':List VV} (h:BS m m1 H L1 W cs Jx vs) (h':BS m1 m2 (H++L1) L2 W AK apW vs'):BS m m2 H (L1++L2) W (cs++AK) (Jx++apW) (vs++vs'):=by
 refine⟨by rw[←List.append_assoc];exact h'.inn,fun b l hb=>h'.ext _ _ (h.ext _ _ hb),by simp[h.len,h'.len],fun i hi => ?_,fun v hv => ?_,?_⟩
 ·rcases Nat.lt_or_ge i cs.length with bB | CE
  ·rw[HZ bB,HZ (by rw[h.len];exact bB)]
   exact(h.rv i bB).mono h'.ext
  ·rw[FA CE,FA (by rw[h.len];exact CE),h.len]
   exact h'.rv _ (by rw[List.length_append] at hi;omega)
 ·rcases List.mem_append.1 hv with hv | hv
  ·exact h.sc v hv
  ·exact h'.sc v hv
 ·rw[←List.append_assoc]
  exact h.tree.grow.app h'.tree
theorem BS.none {m:dF} {H:aE} {W:World} (hI:In m H W):BS m m H [] W [] [] [] :=
 ⟨by rw[List.append_nil];exact hI,fun _ _ h=>h,rfl,fun i hi=>absurd hi (Nat.not_lt_zero _),fun v hv=>(by cases hv),.nil⟩
theorem O1 {T:Type} {Cb:TypeId×Value→T} {P:Program} {W:World} {t:TypeId} (ht:P.underlying t=some .string):Nu Cb P W t 1 (fun vs=>∃s:ByteArray,s.size≤maxLen∧vs=[.sc (.string s)]):=by
 intro fuel cs y h m H hI
 obtain⟨s,rfl,_,hs⟩:=DataW.trod_string ht h
 refine⟨rfl,m,[],[.string s],[.sc (.string s)],⟨by rw[List.append_nil];exact hI,fun _ _ h=>h,rfl,fun i hi => ?_,fun v hv => ?_,.cons _ _ _ _ (.sc _ rfl) .nil⟩,s,hs,rfl⟩
 ·have:i=0:=by simpa using hi
  subst this
  exact .str s
 ·rw[List.mem_singleton] at hv
  subst hv
  rfl
theorem K1 {T:Type} {Cb:TypeId×Value→T} {P:Program} {W:World} {e:TypeId} {fO:Nat} {S:List VV→Prop} (ho:Nu Cb P W e fO S):∀(SD:List (List Value)),(∀cs∈SD,∃fuel y,DataW.trod Cb P W 0 (fun _=>true) true fuel e cs=some y)→∀(m:dF) (H:aE),In m H W →
  ∃(m':dF) (L:aE) (Jx:List Value) (gs:List (List VV)),BS m m' H L W SD.flatten Jx gs.flatten∧gs.length=SD.length∧(∀g∈gs,S g)∧∀cs∈SD,cs.length=fO
 | [],_,m,H,hI=>⟨m,[],[],[],BS.none hI,rfl,fun g hg=>(by cases hg),fun cs Nv=>(by cases Nv)⟩
 |
  cs::SD,h,m,H,hI=>by
  obtain⟨fuel,y,hy⟩:=h cs List.mem_cons_self
  obtain⟨hl,m1,L1,auA,g,h1,hS⟩:=ho fuel cs y hy m H hI
  obtain⟨m2,L2,atB,gs,h2,h3,h4,h5⟩:=K1 ho SD (fun cs Nv=>h cs (List.mem_cons_of_mem _ Nv)) m1 (H++L1) h1.inn
  refine⟨m2,L1++L2,auA++atB,g::gs,?_,by simp[h3],fun g' Rq => ?_,fun AK ajT => ?_⟩
  ·rw[List.flatten_cons,List.flatten_cons]
   exact h1.both h2
  ·rcases List.mem_cons.1 Rq with rfl | Rq
   ·exact hS
   ·exact h4 _ Rq
  ·rcases List.mem_cons.1 ajT with rfl | ajT
   ·exact hl
   ·exact h5 _ ajT
theorem Dz {α:Type} {k:Nat}:∀ {xss:List (List α)},(∀xs∈xss,xs.length=k)→xss.flatten.length=xss.length*k
 | [],_=>by simp
 |
  xs::xss,h=>by
  rw[List.flatten_cons,List.length_append,h xs List.mem_cons_self,Dz fun y hy=>h y (List.mem_cons_of_mem _ hy),List.length_cons,Nat.succ_mul,Nat.add_comm]
theorem F8 {α:Type} {k:Nat}:∀ {xss:List (List α)} (n:Nat),(∀xs∈xss,xs.length=k)→xss.flatten.take (n*k)=(xss.take n).flatten
 | [],n,_=>by simp
 | xs::xss,0,_=>by simp
 |
  xs::xss,n+1,h=>by
  have hl:=h xs List.mem_cons_self
  rw[List.flatten_cons,List.take_succ_cons,List.flatten_cons,←F8 n fun y hy=>h y (List.mem_cons_of_mem _ hy),show (n+1)*k=xs.length+n*k by rw[hl,Nat.succ_mul,Nat.add_comm],List.take_length_add_append]
theorem Pv {k:Nat} (hk:1≤k) {SD:List (List Value)} (h:∀cs∈SD,cs.length=k) {i:Nat} (hi:i<SD.length*k):∃cs,SD[i / k]? = some cs∧SD.flatten.getD i Go.undef=cs.getD (i % k) Go.undef:=by
 induction SD generalizing i with
 | nil=>simp at hi
 |
  cons cs SD ih =>
  have hl:=h cs List.mem_cons_self
  rw[List.flatten_cons]
  rcases Nat.lt_or_ge i k with bB | CE
  ·refine⟨cs,by rw[Nat.div_eq_of_lt bB];rfl,?_⟩
   rw[HZ (by omega),Nat.mod_eq_of_lt bB]
  ·obtain⟨c',h1,h2⟩:=ih (fun y hy=>h y (List.mem_cons_of_mem _ hy)) (i:=i-k) (by rw[List.length_cons,Nat.succ_mul] at hi;omega)
   have e1:i / k=(i-k) / k+1:=by rw[Nat.div_eq_sub_div (by omega) CE]
   have e2:i % k=(i-k) % k:=by rw[Nat.mod_eq_sub_mod CE]
   exact⟨c',by rw[e1];exact h1,by rw[FA (by omega),hl,h2,e2]⟩
theorem Qe {T:Type} {Cb:TypeId×Value→T} {α:Type} {f:α→VV} {afK:α→Prop} {P:Program} {W:World} {t e:TypeId} {fO:Nat} (ht:P.underlying t=some (.slice e)) (asR:P.cellsOf e=fO) (pos:1≤fO) (hB:BM W)
  (hf:∀x,(aB (f x)).length=fO) (ho:Nu Cb P W e fO fun g=>∃x:α,afK x∧g=aB (f x)):Nu Cb P W t 1 fun vs=>∃xs:List α,xs.length≤maxLen∧(∀x∈xs,afK x)∧vs=[aY f xs]:=by
 intro fuel cs y h m H hI
 rcases DataW.trod_slice ht h with⟨rfl,_⟩ | ⟨a,n,c,elems,rest,k,_,rfl,_,_,X4,hmx,hlen,hE,hR,_⟩
 ·refine⟨rfl,m,[],[.slice none 0 0],[.tree [] .op],⟨by rw[List.append_nil];exact hI,fun _ _ h=>h,rfl,fun i hi => ?_,fun v hv => ?_,.cons _ _ _ _ (.oI _ (.inl rfl)) .nil⟩,[],Nat.zero_le _,fun x hx=>(by cases hx),rfl⟩
  ·have:i=0:=by simpa using hi
   subst this
   exact .MN
  ·rw[List.mem_singleton] at hv
   subst hv
   rfl
 ·obtain⟨D1,hR⟩:=hR rfl
  have UJ:∀i,i<c→∃cs,W.cells? 0 (a.add (i*fO)) fO=some cs∧∃fuel y,DataW.trod Cb P W 0 (fun _=>true) true fuel e cs=some y:=by
   intro i hi
   have key:∃y,(W.cells? 0 (a.add (i*P.cellsOf e)) (P.cellsOf e)).bind (DataW.trod Cb P W 0 (fun _=>true) true k e)=some y:=by
    rcases Nat.lt_or_ge i n with cN | cN
    ·exact⟨elems[i]'(by omega),by rw[hE i cN];exact List.getElem?_eq_getElem _⟩
    ·have:=hR (i-n) (by omega)
     rw[show n+(i-n)=i by omega] at this
     exact⟨rest[i-n]'(by omega),by rw[this];exact List.getElem?_eq_getElem _⟩
   obtain⟨y,hy⟩:=key
   rw[Option.bind_eq_some_iff,asR] at hy
   obtain⟨cs,h1,h2⟩:=hy
   exact⟨cs,h1,k,y,h2⟩
  obtain⟨SD,nO,Nv⟩:=Vi (fun i cs=>W.cells? 0 (a.add (i*fO)) fO=some cs∧∃fuel y,DataW.trod Cb P W 0 (fun _=>true) true fuel e cs=some y) c UJ
  obtain⟨m1,L1,Jx,gs,hO,X7,hgS,ajK⟩:=K1 ho SD (fun cs hc=>by
   obtain⟨i,hi⟩:=List.getElem?_of_mem hc
   exact(Nv i cs hi).2) m H hI
  obtain⟨xs,hxg,PQ⟩:∃xs:List α,(∀x∈xs,afK x)∧gs=xs.map fun x=>aB (f x):=by
   clear hO X7
   induction gs with
   | nil=>exact⟨[],fun x hx=>(by cases hx),rfl⟩
   |
    cons g gs ih =>
    obtain⟨xs,h1,h2⟩:=ih fun g hg=>hgS g (List.mem_cons_of_mem _ hg)
    obtain⟨x,h3,h4⟩:=hgS g List.mem_cons_self
    exact⟨x::xs,fun y hy=>by
     rcases List.mem_cons.1 hy with rfl | hy
     ·exact h3
     ·exact h1 y hy,by rw[List.map_cons,←h2,h4]⟩
  have hxl:xs.length=c:=by rw[←nO,←X7,PQ,List.length_map]
  have Mv:Jx.length=c*fO:=by rw[hO.len,Dz ajK,nO]
  obtain⟨rb,base,arr,e',fz,amI,SF,Aa⟩:∃(rb base:Nat) (arr:Array Value) (e':TypeId) (fz:Nat×Nat),W.heap[rb]? = some (.cells arr e' fz)∧(c=0→base=0)∧(c≠0→a=⟨rb,base,none⟩):=by
   by_cases h0:c=0
   ·obtain⟨rb,arr,e',fz,hb⟩:=hB
    exact⟨rb,0,arr,e',fz,hb,fun _=>rfl,fun h=>absurd h0 h⟩
   ·obtain⟨cs,h1,_⟩:=UJ 0 (by omega)
    have h2:=(World.cells?_some h1).2
    have h3:=h2.2 0 (by omega)
    rw[List.getElem?_eq_getElem (by omega)] at h3
    have:(a.add (0*fO)).add 0=a:=by simp[Addr.add]
    rw[this] at h3
    unfold World.cell? at h3
    split at h3
    ·rename_i arr e' fz hb
     split at h3
     ·cases h3
     ·rename_i RX
      refine⟨a.block,a.off,arr,e',fz,hb,fun h=>absurd h h0,fun _ => ?_⟩
      obtain⟨b,o,sp⟩:=a
      cases sp with
      | none=>rfl
      | some x=>simp at RX
    ·cases h3
  have Mw:∀i,i<c*fO→W.cell? ⟨rb,base+i,none⟩=some (SD.flatten.getD i Go.undef):=by
   intro i hi
   obtain⟨cs,h1,h2⟩:=Pv pos ajK (i:=i) (by rw[nO];exact hi)
   have h0:c≠0:=by intro h0;rw[h0] at hi;simp at hi
   have ha:=Aa h0
   have h3:=(World.cells?_some (Nv _ _ h1).1).2
   have hr:i % fO<fO:=Nat.mod_lt _ pos
   have h4:=h3.2 (i % fO) hr
   have MJ:∀o k:Nat,(⟨rb,o,none⟩:Addr).add k=⟨rb,o+k,none⟩:=by
    intro o k
    unfold Addr.add
    split
    ·rename_i h0;subst h0;rfl
    ·rfl
   have akR:i / fO*fO+i % fO=i:=by rw[Nat.mul_comm];exact Nat.div_add_mod i fO
   rw[ha,MJ,MJ,Nat.add_assoc,akR] at h4
   rw[h2,List.getD_eq_getElem?_getD,h4]
   have bB:i % fO<cs.length:=by rw[h3.1];exact hr
   rw[List.getElem?_eq_getElem bB]
   rfl
  have qR:base+Jx.length≤arr.size:=by
   rw[Mv]
   by_cases h0:c=0
   ·rw[SF h0,h0];simp
   ·have MW:1≤c*fO:=Nat.mul_pos (by omega) pos
    have h3:=Mw (c*fO-1) (by omega)
    unfold World.cell? at h3
    simp only[amI,Option.isSome_none,Bool.false_eq_true,if_false] at h3
    have:=(Array.getElem?_eq_some_iff.1 h3).1
    omega
  have MJ:=hO.inn.add (fO:=fO) (cs:=Jx) (base:=base) amI qR (fun i hi=>by
   rw[Mv] at hi
   refine⟨_,Mw i hi,(hO.rv i (by rw[Dz ajK,nO];exact hi)).mono (tL (hO.inn.RW (Nat.le_refl _))),?_⟩
   rw[List.getD_eq_getElem?_getD,List.getElem?_eq_getElem (by rw[Mv];exact hi)]
   exact hO.sc _ (List.getElem_mem _))
  refine⟨rfl,_,L1++[.row Jx fO false],[.slice (some ⟨(H++L1).length,0,none⟩) n c],[aY f (xs.take n)],⟨by rw[←List.append_assoc];exact MJ,fun b l hb=>tL (hO.inn.RW (Nat.le_refl _)) _ _ (hO.ext b l hb),rfl,fun i hi => ?_,fun v hv => ?_,?_⟩,xs.take n,by rw[List.length_take];omega,fun x hx=>hxg x (List.mem_of_mem_take hx),rfl⟩
  ·have:i=0:=by simpa using hi
   subst this
   refine .slice (H++L1).length 0 n c _ _ c (bQ _ _ _) X4 (Nat.le_refl _) (fun _=>rfl) ?_
   by_cases h0:c=0
   ·exact .inl h0
   ·exact .inr ⟨by simpa using Aa h0,by simpa[Mv] using qR⟩
  ·rw[List.mem_singleton] at hv
   subst hv
   rfl
  ·rw[←List.append_assoc]
   refine .cons _ _ _ _ ?_ .nil
   have hl:(xs.take n).length=n:=by rw[List.length_take];omega
   have EX:∀g∈gs,g.length=fO:=fun g hg=>by
    obtain⟨x,_,rfl⟩:=hgS g hg
    exact hf x
   have key:=hO.tree.grow (L:=[MM.row Jx fO false])
   have key:=key.take (n*fO)
   rw[F8 n EX,PQ,←List.map_take] at key
   have:=VR.tree (V:=bare (· < (H++L1++[MM.row Jx fO false]).length) (H++L1++[MM.row Jx fO false])) ((xs.take n).map f) .op (H++L1).length 0 c Jx fO false (by show (H++L1).length<_;simp) (by show (H++L1++[MM.row Jx fO false])[(H++L1).length]? = _;rw[List.getElem?_append_right (Nat.le_refl _),Nat.sub_self];rfl)
    (by rw[List.length_map,hl,Mv];simp only[Nat.zero_add];exact Nat.mul_le_mul_right _ X4) (by rw[List.length_map,hl];exact X4) (fun y hy=>by
     obtain⟨x,_,rfl⟩:=List.mem_map.1 hy
     exact hf x) trivial (by rw[List.length_map,hl,List.drop_zero,List.flatMap_map,List.flatMap_def];exact key)
   rw[List.length_map,hl] at this
   exact this
end Go.PM
namespace Go.PM
def nU:aD:=(.seq (LS [LM 11 5,LM 12 0,LO 13 (.len (LT 12)),LO 14 (.bin .lss (LT 11) (LT 13))] (.cond (LT 14) .skip (.exit 0))) (.seq (.block 1 (LS [LM 17 0,LM 18 5,LO 19 (.iaddr 1 (LT 17) (LT 18)),LO 20 (LL 19),LM 21 1,LM 22 5,LO 23 (.iaddr 1 (LT 21) (LT 22)),LO 24 (LL 23),LO 25 (.bin .neq (LT 20) (LT 24))] (.cond (LT 25) (LS [LO 4 (.mv LF)] .ret) .skip))) (.dI [LM 15 5,LO 16 (.bin .add (LT 15) (LI 1)),LM 5 16])))
def uA:aD:=(LS [LO 4 (.mv LF)] (.seq (LS [LM 6 0,LO 7 (.len (LT 6)),LM 8 1,LO 9 (.len (LT 8)),LO 10 (.bin .neq (LT 7) (LT 9))] (.cond (LT 10) (LS [LO 4 (.mv LF)] .ret) .skip)) (.seq (LS [LO 5 (.mv (LI 0))] (.block 0 (.loop nU))) (LS [LO 4 (.mv LG)] .ret))))
def yS:aP:=⟨26,[(.tmp 4)],uA⟩
theorem HU:gB 54=some yS:=by kernel_rfl
def lH:aD:=(.seq (LS [LM 6 5,LM 7 0,LO 8 (.len (LT 7)),LO 9 (.bin .lss (LT 6) (LT 8))] (.cond (LT 9) .skip (.exit 0))) (.seq (.block 1 (LS [LM 12 0,LM 13 5,LM 14 1,LO 15 (.call 130 [(LT 14)]),LO 16 (.iaddr 1 (LT 12) (LT 13)),LN (.store 1 (LT 16) (LT 15))] (.dI [LM 17 1,LO 18 (.bin .add (LT 17) (LI 1)),LM 1 18]))) (.dI [LM 10 5,LO 11 (.bin .add (LT 10) (LI 1)),LM 5 11])))
def qX:aD:=(LS [LO 4 (.mv (LI 0))] (.seq (LS [LO 5 (.mv (LI 0))] (.block 0 (.loop lH))) (LS [LM 19 1,LM 4 19] .ret)))
def uH:aP:=⟨20,[(.tmp 4)],qX⟩
theorem xR:gB 50=some uH:=by kernel_rfl
def pU:aD:=(.seq (LS [LM 6 5,LM 7 0,LO 8 (.len (LT 7)),LO 9 (.bin .lss (LT 6) (LT 8))] (.cond (LT 9) .skip (.exit 0))) (.seq (.block 1 (.seq (LS [LM 12 0,LM 13 5,LO 14 (.iaddr 1 (LT 12) (LT 13)),LO 15 (LL 14),LM 16 1,LQ 17 (.call 130 [(LT 16)]),LO 18 (.bin .neq (LT 15) (LT 17))] (.cond (LT 18) (LS [LO 4 (.mv (LI (-1)))] .ret) .skip)) (.dI [LM 19 1,LO 20 (.bin .add (LT 19) (LI 1)),LM 1 20]))) (.dI [LM 10 5,LO 11 (.bin .add (LT 10) (LI 1)),LM 5 11])))
def yT:aD:=(LS [LO 4 (.mv (LI 0))] (.seq (LS [LO 5 (.mv (LI 0))] (.block 0 (.loop pU))) (LS [LM 21 1,LM 4 21] .ret)))
def Bk:aP:=⟨22,[(.tmp 4)],yT⟩
theorem Fb:gB 57=some Bk:=by kernel_rfl
def lS:aD:=(LS [LO 2 (.box (LT 0)),LO 3 (.box (LT 1)),LO 4 (.mv LF)] (.seq (LS [LO 5 (LA 0 2),LO 6 (LL 5),LO 7 (LA 0 3),LO 8 (LL 7),LO 9 (.call 54 [(LT 6),(LT 8)]),LO 10 (.un .not (LT 9))] (.cond (LT 10) (LS [LO 4 (.mv LF)] .ret) .skip)) (.seq (LS [LO 11 (LA 1 2),LO 12 (LL 11),LO 13 (LA 1 3),LO 14 (LL 13),LO 15 (.call 82 [(LT 12),(LT 14)]),LO 16 (.un .not (LT 15))] (.cond (LT 16) (LS [LO 4 (.mv LF)] .ret) .skip)) (.seq (LS [LO 17 (LA 2 2),LO 18 (LL 17),LO 19 (LA 2 3),LO 20 (LL 19),LO 21 (.call 54 [(LT 18),(LT 20)]),LO 22 (.un .not (LT 21))] (.cond (LT 22) (LS [LO 4 (.mv LF)] .ret) .skip)) (LS [LO 4 (.mv LG)] .ret)))))
def oL:aP:=⟨23,[(.tmp 4)],lS⟩
theorem Io:gB 22=some oL:=by kernel_rfl
def xP:aD:=(LS [LO 2 (.box (LT 0)),LO 4 (.mv (LI 0))] (LS [LO 5 (LA 0 2),LO 6 (LL 5),LM 7 1,LO 8 (.call 50 [(LT 6),(LT 7)]),LM 1 8] (LS [LO 9 (LA 1 2),LO 10 (LL 9),LM 11 1,LO 12 (.call 71 [(LT 10),(LT 11)]),LM 1 12] (LS [LO 13 (LA 2 2),LO 14 (LL 13),LM 15 1,LO 16 (.call 50 [(LT 14),(LT 15)]),LM 1 16] (LS [LM 17 1,LM 4 17] .ret)))))
def Bj:aP:=⟨18,[(.tmp 4)],xP⟩
theorem Fp:gB 23=some Bj:=by kernel_rfl
def zD:aD:=(LS [LO 2 (.box (LT 0)),LO 4 (.mv (LI 0))] (LS [LO 5 (LA 0 2),LO 6 (LL 5),LM 7 1,LO 8 (.call 57 [(LT 6),(LT 7)]),LM 1 8] (.seq (LS [LM 9 1,LO 10 (.bin .lss (LT 9) (LI 0))] (.cond (LT 10) (LS [LO 4 (.mv (LI (-1)))] .ret) .skip)) (LS [LO 11 (LA 1 2),LO 12 (LL 11),LM 13 1,LO 14 (.call 83 [(LT 12),(LT 13)]),LM 1 14] (.seq (LS [LM 15 1,LO 16 (.bin .lss (LT 15) (LI 0))] (.cond (LT 16) (LS [LO 4 (.mv (LI (-1)))] .ret) .skip)) (LS [LO 17 (LA 2 2),LO 18 (LL 17),LM 19 1,LO 20 (.call 57 [(LT 18),(LT 19)]),LM 1 20] (.seq (LS [LM 21 1,LO 22 (.bin .lss (LT 21) (LI 0))] (.cond (LT 22) (LS [LO 4 (.mv (LI (-1)))] .ret) .skip)) (LS [LM 23 1,LM 4 23] .ret))))))))
def AZ:aP:=⟨24,[(.tmp 4)],zD⟩
theorem Fw:gB 24=some AZ:=by kernel_rfl
def nS:aD:=(.seq (LS [LM 12 5,LM 13 0,LO 14 (.len (LT 13)),LO 15 (.bin .lss (LT 12) (LT 14))] (.cond (LT 15) .skip (.exit 0))) (.seq (.block 1 (LS [LM 18 1,LM 19 0,LM 20 5,LO 21 (.iaddr 1 (LT 19) (LT 20)),LO 22 (LL 21),LO 23 (.slen (LT 22)),LO 24 (.bin .sub (LT 18) (LT 23)),LM 1 24] (LS [LM 25 1,LO 26 (.bin .lss (LT 25) (LI 0))] (.cond (LT 26) (LS [LO 4 (.mv (LI (-1)))] .ret) .skip)))) (.dI [LM 16 5,LO 17 (.bin .add (LT 16) (LI 1)),LM 5 17])))
def tN:aD:=(LS [LO 4 (.mv (LI 0))] (LS [LM 6 1,LM 7 0,LO 8 (.len (LT 7)),LO 9 (.bin .sub (LT 6) (LT 8)),LM 1 9] (.seq (LS [LM 10 1,LO 11 (.bin .lss (LT 10) (LI 0))] (.cond (LT 11) (LS [LO 4 (.mv (LI (-1)))] .ret) .skip)) (.seq (LS [LO 5 (.mv (LI 0))] (.block 0 (.loop nS))) (LS [LM 27 1,LM 4 27] .ret)))))
def zG:aP:=⟨28,[(.tmp 4)],tN⟩
theorem Ht:gB 41=some zG:=by kernel_rfl
def nZ:aD:=(.seq (LS [LM 21 6,LM 22 0,LO 23 (.len (LT 22)),LO 24 (.bin .lss (LT 21) (LT 23))] (.cond (LT 24) .skip (.exit 0))) (.seq (.block 1 (.dI [LM 27 5,LM 28 6,LM 29 0,LM 30 6,LO 31 (.iaddr 1 (LT 29) (LT 30)),LO 32 (LL 31),LO 33 (.iaddr 1 (LT 27) (LT 28)),LN (.store 1 (LT 33) (LT 32))])) (.dI [LM 25 6,LO 26 (.bin .add (LT 25) (LI 1)),LM 6 26])))
def nY:aD:=(.seq (LS [LM 36 7,LM 37 5,LO 38 (.len (LT 37)),LO 39 (.bin .lss (LT 36) (LT 38))] (.cond (LT 39) .skip (.exit 2))) (.seq (.block 3 (.dI [LM 42 5,LM 43 7,LO 44 (.iaddr 1 (LT 42) (LT 43)),LN (.store 1 (LT 44) (.const (.string ⟨#[126,115,112,97,114,101,126]⟩)))])) (.dI [LM 40 7,LO 41 (.bin .add (LT 40) (LI 1)),LM 7 41])))
def pG:aD:=(LS [LO 4 (.mv (.const (.slice none 0 0)))] (.seq (LS [LM 8 1,LM 9 8,LY 9 10 (.mv (LT 0)),LY 9 11 (.len (LT 10)),LY 9 12 (.bin .eql (LT 11) (LI 0)),LO 13 (.pick (LT 9) (LT 12) LF)] (.cond (LT 13) (LS [LO 4 (.mv (.const (.slice none 0 0)))] .ret) .skip)) (LS [LM 14 0,LO 15 (.len (LT 14)),LM 16 0,LO 17 (.len (LT 16)),LO 18 (.call 118 [(LT 17)]),LO 19 (.bin .add (LT 15) (LT 18)),LO 20 (.make [(.string ⟨#[]⟩)] 16 (LT 19) (LT 19)),LM 5 20] (.seq (LS [LO 6 (.mv (LI 0))] (.block 0 (.loop nZ))) (.seq (LS [LM 34 0,LO 35 (.len (LT 34)),LM 7 35] (.block 2 (.loop nY))) (LS [LM 45 5,LM 46 0,LO 47 (.len (LT 46)),LO 48 (.sub 1 (LT 45) none (some (LT 47)) none),LM 4 48] .ret))))))
def rR:aP:=⟨49,[(.tmp 4)],pG⟩
theorem Im:gB 43=some rR:=by kernel_rfl
def vB:aD:=(LS [LO 4 (.mv LF)] (LS [LM 6 1,LO 7 (.len (LT 6)),LM 8 1,LO 9 (.len (LT 8)),LO 10 (.call 118 [(LT 9)]),LO 11 (.bin .add (LT 7) (LT 10)),LM 5 11] (LS [LM 12 0,LO 13 (.len (LT 12)),LM 14 1,LO 15 (.len (LT 14)),LO 16 (.bin .eql (LT 13) (LT 15)),LM 17 16,LY 17 18 (.mv (LT 0)),LY 17 19 (.mv (LT 5)),LY 17 20 (.sub 1 (LT 18) none (some (LT 19)) none),LY 17 21 (.mv (LT 1)),LY 17 22 (.mv (LT 5)),LY 17 23 (.sub 1 (LT 21) none (some (LT 22)) none),⟨(some 24),(.call 54 [(LT 20),(LT 23)]),(some (17,true)),true,[]⟩,LO 25 (.pick (LT 17) (LT 24) LF),LM 4 25] .ret)))
def yJ:aP:=⟨26,[(.tmp 4)],vB⟩
theorem DG:gB 45=some yJ:=by kernel_rfl
def kS:aD:=(.seq (LS [LM 6 5,LM 7 0,LO 8 (.len (LT 7)),LO 9 (.bin .lss (LT 6) (LT 8))] (.cond (LT 9) .skip (.exit 0))) (.seq (.block 1 (.dI [LM 12 0,LM 13 5,LO 14 (.iaddr 1 (LT 12) (LT 13)),LO 15 (LL 14),LM 16 1,LO 17 (.call 50 [(LT 15),(LT 16)]),LM 1 17])) (.dI [LM 10 5,LO 11 (.bin .add (LT 10) (LI 1)),LM 5 11])))
def pN:aD:=(LS [LO 4 (.mv (LI 0))] (.seq (LS [LO 5 (.mv (LI 0))] (.block 0 (.loop kS))) (LS [LM 18 1,LM 4 18] .ret)))
def sN:aP:=⟨19,[(.tmp 4)],pN⟩
theorem wG:gB 71=some sN:=by kernel_rfl
def oE:aD:=(LS [LO 2 (.mv (LI 0))] (.seq (LS [LM 3 0,LO 4 (.bin .rem (LT 3) (LI 6)),LO 5 (.bin .eql (LT 4) (LI 5))] (.cond (LT 5) (LS [LO 2 (.mv (LI 0))] .ret) .skip)) (.seq (LS [LM 6 0,LO 7 (.bin .rem (LT 6) (LI 3)),LO 8 (.bin .eql (LT 7) (LI 0))] (.cond (LT 8) (LS [LO 2 (.mv (LI 1))] .ret) .skip)) (LS [LM 9 0,LM 2 9] .ret))))
def qH:aP:=⟨10,[(.tmp 2)],oE⟩
theorem GN:gB 118=some qH:=by kernel_rfl
def uC:aD:=(.seq (LS [LM 6 0,LO 7 (.bin .gtr (LT 6) (LI 0))] (.cond (LT 7) .skip (.exit 0))) (.block 1 (LS [LM 8 0,LO 9 (.bin .rem (LT 8) (LI 10)),LO 10 (.bin .add (LI 48) (LT 9)),LO 11 (.cvt .u8 (LT 10)),LO 12 (.lit [(.int .u8 0)] 1 [(0,(LT 11))]),LO 13 (.b2s (LT 12)),LM 14 3,LO 15 (.bin .add (LT 13) (LT 14)),LM 3 15] (.dI [LM 16 0,LO 17 (.bin .quo (LT 16) (LI 10)),LM 0 17]))))
def vL:aD:=(LS [LO 2 (.mv (.const (.string ⟨#[]⟩)))] (.seq (LS [LM 4 0,LO 5 (.bin .leq (LT 4) (LI 0))] (.cond (LT 5) (LS [LO 2 (.mv (.const (.string ⟨#[109,48]⟩)))] .ret) .skip)) (LS [LO 3 (.mv (.const (.string ⟨#[]⟩)))] (.seq (.block 0 (.loop uC)) (LS [LM 18 3,LO 19 (.bin .add (.const (.string ⟨#[109]⟩)) (LT 18)),LM 2 19] .ret)))))
def AH:aP:=⟨20,[(.tmp 2)],vL⟩
theorem JG:gB 130=some AH:=by kernel_rfl
def mR:aD:=(.seq (LS [LM 11 5,LM 12 0,LO 13 (.len (LT 12)),LO 14 (.bin .lss (LT 11) (LT 13))] (.cond (LT 14) .skip (.exit 0))) (.seq (.block 1 (LS [LM 17 0,LM 18 5,LO 19 (.iaddr 1 (LT 17) (LT 18)),LO 20 (LL 19),LM 21 1,LM 22 5,LO 23 (.iaddr 1 (LT 21) (LT 22)),LO 24 (LL 23),LQ 25 (.call 54 [(LT 20),(LT 24)]),LO 26 (.un .not (LT 25))] (.cond (LT 26) (LS [LO 4 (.mv LF)] .ret) .skip))) (.dI [LM 15 5,LO 16 (.bin .add (LT 15) (LI 1)),LM 5 16])))
def sP:aD:=(LS [LO 4 (.mv LF)] (.seq (LS [LM 6 0,LO 7 (.len (LT 6)),LM 8 1,LO 9 (.len (LT 8)),LO 10 (.bin .neq (LT 7) (LT 9))] (.cond (LT 10) (LS [LO 4 (.mv LF)] .ret) .skip)) (.seq (LS [LO 5 (.mv (LI 0))] (.block 0 (.loop mR))) (LS [LO 4 (.mv LG)] .ret))))
def vY:aP:=⟨27,[(.tmp 4)],sP⟩
theorem Gd:gB 82=some vY:=by kernel_rfl
def oQ:aD:=(.seq (LS [LM 6 5,LM 7 0,LO 8 (.len (LT 7)),LO 9 (.bin .lss (LT 6) (LT 8))] (.cond (LT 9) .skip (.exit 0))) (.seq (.block 1 (LS [LM 12 0,LM 13 5,LO 14 (.iaddr 1 (LT 12) (LT 13)),LO 15 (LL 14),LM 16 1,LO 17 (.call 57 [(LT 15),(LT 16)]),LM 1 17] (LS [LM 18 1,LO 19 (.bin .lss (LT 18) (LI 0))] (.cond (LT 19) (LS [LO 4 (.mv (LI (-1)))] .ret) .skip)))) (.dI [LM 10 5,LO 11 (.bin .add (LT 10) (LI 1)),LM 5 11])))
def vZ:aD:=(LS [LO 4 (.mv (LI 0))] (.seq (LS [LO 5 (.mv (LI 0))] (.block 0 (.loop oQ))) (LS [LM 20 1,LM 4 20] .ret)))
def zT:aP:=⟨21,[(.tmp 4)],vZ⟩
theorem En:gB 83=some zT:=by kernel_rfl
end Go.PM