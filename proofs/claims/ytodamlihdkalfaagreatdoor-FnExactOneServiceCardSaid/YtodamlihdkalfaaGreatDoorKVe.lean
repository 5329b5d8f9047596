/- Texts of a claim, in one: part 5. -/
import Derived.KernelRfl
import Derived.Laws.Strings
import Derived.Test.YtodamlihdkalfaaGreatDoorKVd
set_option linter.unusedSimpArgs false
set_option linter.unusedVariables false
namespace Go.PM
def VT (f:Nat) (args:List VV) (r:VV):Prop :=
 ∀(F:Nat→Prop) (P:aD) (dT:List Value) (dS:Nat),(∀b,F b→b<P.length)→VL (bare F P) args dT→dS≤P.length →
  ∃P' pv,oL f dT dS P=some (pv,P')∧P <+: P'∧VR (bare (fun q=>F q∨(P.length≤q∧q<P'.length)) P') r pv
def MF (lo dS:Nat) (V:View) (r:Option (Value×aD)) (K:VV→aA→Prop):Prop :=
 ∃pv V' v,r=some (pv,V'.P)∧SR V' lo dS∧CJ lo V V'∧VR V' v pv∧K v V'.H
def iV (f:Nat) (args:List VV) (lo:Nat) (H:aA) (K:VV→aA→Prop):Prop :=
 ∀(V:View) (dS:Nat) (dT:List Value),V.H=H→SR V lo dS→VL V args dT→MF lo dS V (oL f dT dS V.P) K
theorem iV.mono {f:Nat} {args:List VV} {lo:Nat} {H:aA} {K K':VV→aA→Prop} (hk:∀v H,K v H→K' v H) (h:iV f args lo H K):iV f args lo H K':=by
 intro V dS dT hH hS hl
 obtain⟨pv,V',v,h1,h2,h3,h4,h5⟩:=h V dS dT hH hS hl
 exact⟨pv,V',v,h1,h2,h3,h4,hk _ _ h5⟩
theorem VT.uniq {f:Nat} {args:List VV} {r r':VV} (h:VT f args r) (h':VT f args r') (ha:aP args=true) (hr:fY r=true) (DN:fY r'=true):r=r':=by
 obtain⟨P,ps,_,hl⟩:=Kk args ha []
 obtain⟨P',pv,h1,_,h2⟩:=h (· < P.length) P ps 0 (fun _ h=>h) hl (Nat.zero_le _)
 obtain⟨TJ,pv',h3,_,h4⟩:=h' (· < P.length) P ps 0 (fun _ h=>h) hl (Nat.zero_le _)
 rw[h1] at h3
 injection h3 with h3
 injection h3 with h3 h5
 subst h3 h5
 exact h2.uniq h4 hr DN
open Classical in
noncomputable def vT (f:Nat) (args:List VV):Option VV:=if h:∃r,aP args=true∧fY r=true∧VT f args r then some (Classical.choose h) else none
theorem ML {f:Nat} {args:List VV} {r:VV} (h:vT f args=some r):aP args=true∧fY r=true∧VT f args r:=by
 unfold vT at h
 split at h
 ·rename_i hx
  cases h
  exact Classical.choose_spec hx
 ·cases h
theorem aaH {f:Nat} {args:List VV} {r:VV} (ha:aP args=true) (hr:fY r=true) (h:VT f args r):vT f args=some r:=by
 have hx:∃r,aP args=true∧fY r=true∧VT f args r:=⟨r,ha,hr,h⟩
 unfold vT
 rw[dif_pos hx]
 obtain⟨_,h2,h3⟩:=Classical.choose_spec hx
 rw[h3.uniq h ha h2 hr]
def tk (r:Option VV) (K:VV→Prop):Prop:=match r with
 | some r=>K r
 | none=>False
noncomputable def DQ (f:Nat) (args:List VV) (K:VV→Prop):Prop:=tk (vT f args) K
noncomputable def cZ (f:Nat) (args:List VV) (lo:Nat) (H:aA) (K:VV→aA→Prop):Prop :=
 if BJ.contains f=true then iV f args lo H K
 else if aP args=true then DQ f args fun r=>K r H
 else match args.mapM (fz depth H) with
  | some gQ=>DQ f gQ fun r=>if Ia r=true then K r H else K r (cR H (args.flatMap (gV depth H)))
  | none=>False
noncomputable def dR (fl:Fl) (lo:Nat) (q:Bool) (op:lL) (ρ:dJ) (H:aA) (K:VV→aA→Prop):Prop :=
 match op with
 | .call f args=>cZ f (args.map (dU ρ)) (if q then H.length else lo) H K
 |
  .callv fv args=>match dU ρ fv with
  | .sC f fC=>cZ f (args.map (dU ρ)++fC) (if q then H.length else lo) H K
  | _=>False
 |
  o=>match vop fl lo o ρ H with
  | some (v,H')=>K v H'
  | none=>False
noncomputable def VS (fl:Fl) (lo:Nat):List PI→(dJ→aA→Prop)→dJ→aA→Prop
 | [],K,ρ,H=>K ρ H
 |
  i::is,K,ρ,H=>match zV i.g ρ with
  | none=>False
  | some false=>VS fl lo is K (He ρ i.dst nN) H
  | some true=>i.cf.all (sF ρ H)=true∧dR fl lo i.quiet i.op ρ H fun v H'=>VS fl lo is K (He ρ i.dst v) H'
def ZL:List Nat→dJ→aA→Option (dJ×aA)
 | [],ρ,H=>some (ρ,H)
 |
  t::ts,ρ,H=>match fz depth H (ρ t) with
  | some v=>ZL ts (He ρ (some t) v) (cR H (gV depth H (ρ t)))
  | none=>none
def HB (r:Option VV) (H:aA) (K:VV→aA→Prop):Prop:=match r with
 | some v=>K v H
 | none=>False
def gh (K:dJ→aA→Prop) (ρ:dJ) (H:aA):Prop:=∃ts aU H',ZL ts ρ H=some (aU,H')∧K aU H'
def iG (k:Nat) (H:aA):Bool:=H.all fun
 | .row _ es _ _=>jY k es
 | .dead=>true
def Fi (k:Nat) (ρ:dJ):dJ:=fun t=>Gl k (ρ t)
abbrev VQ:=Ex→dJ→aA→Prop
def lA (K:dJ→aA→Prop) (Q:VQ):VQ
 | .normal=>K
 | x=>Q x
def xI (id:Nat) (Q:VQ):VQ
 | .exit PC=>fun ρ H=>if PC=id then Q .normal ρ H else Q (.exit PC) ρ H
 | x=>Q x
def On (body:VQ→dJ→aA→Prop) (Q:VQ):Nat→dJ→aA→Prop
 | 0,_,_=>False
 | n+1,ρ,H=>body (lA (fun aU H'=>On body Q n aU H'∨(iG H.length (H'.take H.length)=true∧On body Q n (Fi H.length aU) (H'.take H.length))) Q) ρ H
noncomputable def VW (fl:Fl) (lo:Nat):aE→VQ→dJ→aA→Prop
 | .skip,Q,ρ,H=>Q .normal ρ H
 | .eO ops,Q,ρ,H=>VS fl lo ops (Q .normal) ρ H
 | .seq a b,Q,ρ,H=>VW fl lo a (lA (VW fl lo b Q) Q) ρ H
 |
  .cond c a b,Q,ρ,H=>match dU ρ c with
  | .sc (.bool t)=>if t=true then VW fl lo a Q ρ H else VW fl lo b Q ρ H
  | _=>False
 | .block id a,Q,ρ,H=>VW fl lo a (xI id Q) ρ H
 | .loop a,Q,ρ,H=>∃n,On (VW fl lo a) (fun x=>gh (Q x)) n ρ H
 | .exit id,Q,ρ,H=>Q (.exit id) ρ H
 | .ret,Q,ρ,H=>Q .ret ρ H
def C0 (ρ:dJ) (H:aA):yE→Option VV
 | .tmp t=>some (ρ t)
 | .cell t agg size=>cO agg size (ρ t) H
def oF (ρ:dJ) (H:aA):List yE→Option (List VV)
 | []=>some []
 |
  r::rs=>match C0 ρ H r,oF ρ H rs with
  | some v,some vs=>some (v::vs)
  | _,_=>none
def lT (res:List yE) (ρ:dJ) (H:aA):Option VV :=
 match oF ρ H res with
 | some [v]=>some v
 | some vs=>some (.dQ vs)
 | none=>none
def EG (R:VV→aA→Prop):Option VV→aA→Prop
 | some v,H=>R v H
 | none,_=>False
def zF (res:List yE) (R:VV→aA→Prop):VQ
 | .exit _,_,_=>False
 | .normal,ρ,H=>EG R (lT res ρ H) H
 | .ret,ρ,H=>EG R (lT res ρ H) H
def GX (args:List VV):dJ:=fun k=>args.getD k nN
section
variable {lo dS:Nat}
theorem Dh {V:View} (hS:SR V lo dS) {P':aD} (hp:V.P <+: P'):SR { V with P:=P',F:=fun q=>V.F q∨(V.P.length≤q∧q<P'.length) } lo dS∧CJ lo V { V with P:=P',F:=fun q=>V.F q∨(V.P.length≤q∧q<P'.length) }:=by
 obtain⟨L,rfl⟩:=hp
 have hU:Up V { V with P:=V.P++L,F:=fun q=>V.F q∨(V.P.length≤q∧q<(V.P++L).length) }:=⟨fun _ h => .inl h,fun b hb=>List.getElem?_append_left (hS.fr b hb),Nat.le_refl _,fun b g es e w _ h=>⟨g,es,w,h,Nat.le_refl _,fun _=>rfl⟩,rfl,by simp,fun b g es e w hb _=>⟨g,es,w,hb,rfl,id⟩⟩
 refine⟨⟨fun b g es e w hb => ?_,fun b g es e hb=>⟨fun hF => ?_,(hS.wr b g es e hb).2⟩,hS.inj,fun b hb => ?_,by have:=hS.PO;simp;omega,by have:=hS.HD;simp;omega⟩,{ hU with bM:=fun q hq _=>List.getElem?_append_left hq,AT:=fun q hq => ?_ }⟩
 ·obtain⟨r,p,h1,h2,h3⟩:=hS.row b g es e w hb
  exact⟨r,p,by rw[←h1];exact List.getElem?_append_left (hS.mlt hb),h2,h3.mono hU⟩
 ·rcases hF with hF | hF
  ·exact(hS.wr b g es e hb).1 hF
  ·have h1:=hS.mlt hb
   have h2:V.P.length≤V.m b:=hF.1
   omega
 ·rcases hb with hb | hb
  ·have:=hS.fr b hb
   simp;omega
  ·exact hb.2
 ·rcases hq with hq | hq
  ·exact .inl hq
  ·exact .inr (.inl hq.1)
theorem X6 {V V':View} {x:VV} {v:Value} (h:VR V x v):Ia x=true→VR V' x v:=by
 induction h using VR.rec (motive_2:=fun xs vs _=>NI xs=true→VL V' xs vs) with
 | sc _ h=>intro _;exact .sc _ h
 | agg cs ps _ ih=>intro hx;exact .agg _ _ (ih hx)
 | dQ cs ps _ ih=>intro hx;exact .dQ _ _ (ih hx)
 | any=>intro hx;cases hx
 | mU=>intro hx;cases hx
 | tree=>intro hx;cases hx
 | cY=>intro hx;cases hx
 | ref=>intro hx;cases hx
 | ptr=>intro hx;cases hx
 | sC=>intro hx;cases hx
 | nil=>exact .nil
 |
  cons x v xs vs _ _ ih Qj =>
  rename_i hx
  simp only[NI,Bool.and_eq_true] at hx
  exact .cons _ _ _ _ (ih hx.1) (Qj hx.2)
theorem VR.Ba {V':View} {G:Nat→Prop} {P:aD} {x:VV} {v:Value} (hF:∀b,G b→V'.F b∧V'.P[b]? = P[b]?) (h:VR (bare G P) x v):VR V' x v:=by
 induction h using VR.rec (motive_2:=fun xs vs _=>VL V' xs vs) with
 | any=>exact .any _
 | sc _ h=>exact .sc _ h
 | agg cs ps _ ih=>exact .agg _ _ ih
 | dQ cs ps _ ih=>exact .dQ _ _ ih
 | mU k hk=>exact .mU k hk
 | tree es k b o c r e p QU hb ho hc he hk _ ih=>exact .tree es k b o c r e p (hF _ QU).1 (by rw[(hF _ QU).2];exact hb) ho hc he hk ih
 | cY x off b o r e p QU hb ho _ ih=>exact .cY x off b o r e p (hF _ QU).1 (by rw[(hF _ QU).2];exact hb) ho ih
 | ref b g o n c a n' c' aV hg ha hq=>exact absurd aV (Nat.not_lt_zero _)
 | ptr b g j off a aV hg ha hq=>exact absurd aV (Nat.not_lt_zero _)
 | sC f fC ps _ ih=>exact .sC _ _ _ ih
 | nil=>exact .nil
 | cons x v xs vs _ _ ih Qj=>exact .cons _ _ _ _ ih Qj
theorem N8 {V:View} (hS:SR V lo dS) {f ZV:Nat} (Y5:ZV≤V.P.length) {args:List VV} {dT:List Value} {G:Nat→Prop} (hG:∀b,G b→b<V.P.length) (hl:VL (bare G V.P) args dT) {K:VV→Prop} (h:DQ f args K) :
  ∃P' pv r,oL f dT ZV V.P=some (pv,P')∧V.P <+: P'∧VR (bare (fun q=>G q∨(V.P.length≤q∧q<P'.length)) P') r pv∧aN r=true∧K r:=by
 unfold DQ tk at h
 split at h
 ·rename_i r hr
  obtain⟨h1,h2,h3⟩:=ML hr
  obtain⟨P',pv,h4,h5,h6⟩:=h3 G V.P dT ZV hG hl Y5
  exact⟨P',pv,r,h4,h5,h6,Ph r h2,h⟩
 ·cases h
theorem EM {V:View} (hS:SR V lo dS) {f:Nat} {args:List VV} {dT:List Value} (hl:VL V args dT) {q:Bool} {K:VV→aA→Prop} (h:cZ f args (if q then V.H.length else lo) V.H K):MF lo dS V (oL f dT (if q then V.P.length else dS) V.P) K:=by
 have hlq:(if q=true then V.P.length else dS)≤V.P.length:=by split;exact Nat.le_refl _;exact hS.PO
 unfold cZ at h
 split at h
 ·cases q with
  | false=>exact h V dS dT rfl hS hl
  |
   true =>
   have hS':SR V V.H.length V.P.length:=⟨hS.row,fun b g es e hb=>⟨(hS.wr b g es e hb).1,fun hl=>by have:=(List.getElem?_eq_some_iff.1 hb).1;omega⟩,hS.inj,hS.fr,Nat.le_refl _,hS.HD⟩
   obtain⟨pv,V',r,g1,g3,g4,g5,g6⟩:=h V V.P.length dT rfl hS' hl
   refine⟨pv,V',r,g1,⟨g3.row,fun b g es e hb=>⟨(g3.wr b g es e hb).1,fun CN => ?_⟩,g3.inj,g3.fr,Nat.le_trans hS.PO g4.Cr,g3.HD⟩,{ g4.toUp with bM:=fun p hp _=>g4.bM p hp fun b g es e hb CN => ?_,AT:=g4.AT },g5,g6⟩
   ·rcases Nat.lt_or_ge (V'.m b) V.P.length with aV | CC
    ·obtain⟨g0,es0,w0,k1,k2,k3⟩:=g4.zM b g es e true hb aV
     have:=k3 rfl
     subst this
     rw[k2]
     exact(hS.wr _ _ _ _ k1).2 CN
    ·exact Nat.le_trans hS.PO CC
   ·have:=(List.getElem?_eq_some_iff.1 hb).1
    have CN:V.H.length≤b:=CN
    omega
 ·split at h
  ·rename_i hp
   obtain⟨P',pv,r,g1,g2,g3,g4,g5⟩:=N8 hS (ZV:=if q=true then V.P.length else dS) hlq (G:=V.F) hS.fr (VL.pure (V:=V) (V':=bare V.F V.P) (fun b hb=>⟨hb,rfl⟩) hl hp) h
   obtain⟨k1,k2⟩:=Dh hS g2
   exact⟨pv,_,r,g1,k1,k2,g3.Ba (fun b hb=>⟨hb,rfl⟩),g5⟩
  ·split at h
   case h_2=>cases h
   rename_i gQ ZT
   unfold DQ tk at h
   split at h
   case h_2=>cases h
   rename_i r hr
   obtain⟨h1,h2,h3⟩:=ML hr
   split at h
   ·rename_i hfl
    have AQ:=BS hS (G:=(· < V.P.length)) (fun q hq=>hS.fr q hq) hl ZT (fun i _ g es e w hb=>hS.mlt hb)
    obtain⟨P',pv,g1,g2,g3⟩:=h3 _ V.P dT _ (fun _ h=>h) AQ hlq
    obtain⟨k1,k2⟩:=Dh hS g2
    exact⟨pv,_,r,g1,k1,k2,X6 g3 hfl,h⟩
   ·obtain⟨k1,k2,k3,k4,k5,k6⟩:=sI (args.flatMap (gV depth V.H)) hS
    have AQ:=BS hS (G:=(V.cR (args.flatMap (gV depth V.H))).F) (fun q hq=>k2.F q hq) hl ZT k6
    rw[←k4] at AQ
    obtain⟨P',pv,g1,g2,g3⟩:=h3 _ _ dT _ k1.fr AQ (by rw[k4];exact hlq)
    obtain⟨j1,j2⟩:=Dh k1 g2
    rw[k4] at g1
    refine⟨pv,_,r,g1,j1,k2.trans j2,g3.Ba (fun b hb=>⟨hb,rfl⟩),?_⟩
    show K r (V.cR (args.flatMap (gV depth V.H))).H
    rw[k3]
    exact h
def xL (lo dS:Nat) (V:View) (c:aE) (Q:VQ) (jB:Env):Prop :=
 W dS c (fun x Kf P'=>∃V' aU,V'.P=P'∧SR V' lo dS∧CJ lo V V'∧ER V' aU Kf∧Q x aU V'.H) jB V.P
theorem EI {V:View} {ρ:dJ} {jB:Env} (hE:ER V ρ jB) {g:Option (Nat×Bool)} {t:Bool} (h:zV g ρ=some t):wS g jB=some t:=by
 unfold zV at h
 unfold wS
 split at h
 ·exact h
 ·rename_i t' want
  have ht:=hE t'
  split at h
  ·rename_i b hb
   obtain⟨e,_⟩:=oT ht hb
   simp only[e]
   exact h
  ·rename_i vs hb
   rw[hb] at ht
   generalize hu:jB t'=u at ht
   cases ht with
   | dQ cs ps hl=>simp only[hu];exact h
  ·cases h
theorem Rq {V:View} (hS:SR V lo dS) {x y:VV} {u w:Value} (hx:VR V x u) (hy:VR V y w) (h:yJ V.H x y=true):akA u w=true:=by
 have key:∀ {z:VV} {v:Value},VR V z v→(match Al V.H z with
   | .bad=>True
   | .no=>gW v=none
   | .row i wr=>gW v=some (V.m i)∧∃g es e,V.H[i]? = some (.row g es e wr)
   | .zM i=>∀q,gW v=some q→∀b' g' es e w,V.H[b']? = some (.row g' es e w)→b'≠i→V.m b'≠q
   | .tree=>∀b,gW v=some b→V.F b):=by
  intro z v hz
  cases hz with
  | any=>simp only[Al]
  | sc v h =>
      cases v<;>first | rfl | cases h | skip
      rename_i a;cases a<;>first | rfl | cases h
  | agg=>rfl
  | dQ=>rfl
  | mU k hk =>
       rcases hk with rfl | rfl
       ·intro b hb;cases hb
       ·rfl
  |
   tree es k b o c r e p hF hb ho hc he hk hl =>
   cases es with
   |
    nil=>cases k with
    | nil=>exact hk.elim
    | op=>intro b' oQ;cases oQ;exact hF
    | cl=>intro b' oQ;cases oQ;exact hF
   | cons=>intro b' oQ;cases oQ;exact hF
  | cY x off b o r e p hF hb ho hl=>intro b' oQ;cases oQ;exact hF
  |
   ref b g o n c a n' c' aV hg ha hq =>
   simp only[Al]
   cases hr:aF V.H b g with
   | none=>exact fun q h=>(by
     cases a with
     | none=>cases h
     | some a0=>cases h;exact(hq a0 rfl).2.2)
   |
    some q =>
    obtain⟨es,e,wr⟩:=q
    rw[cC] at hr
    obtain⟨rfl,rfl,rfl⟩:=ha _ _ _ hr
    exact⟨rfl,g,es,e,hr⟩
  |
   ptr b g j off a aV hg ha hq =>
   simp only[Al]
   cases hr:aF V.H b g with
   | none=>exact fun q h=>(by
     cases a with
     | none=>cases h
     | some a0=>cases h;exact(hq a0 rfl).2.2)
   |
    some q =>
    obtain⟨es,e,wr⟩:=q
    rw[cC] at hr
    have:=ha _ _ _ hr
    subst this
    exact⟨rfl,g,es,e,hr⟩
  | sC=>rfl
 have kx:=key hx
 have ky:=key hy
 unfold yJ at h
 unfold akA
 cases hbx:Al V.H x with
 | bad=>rw[hbx] at h;have h:false=true:=h;cases h
 |
  no =>
  rw[hbx] at kx
  have kx:gW u=none:=kx
  rw[kx]
 |
  zM i =>
  rw[hbx] at kx h
  have kx:∀q,gW u=some q→∀b' g' es e w,V.H[b']? = some (.row g' es e w)→b'≠i→V.m b'≠q:=kx
  cases OW:Al V.H y with
  | bad=>rw[OW] at h;have h:false=true:=h;cases h
  |
   no =>
   rw[OW] at ky
   have ky:gW w=none:=ky
   rw[ky]
   cases gW u<;>rfl
  | zM j=>rw[OW] at h;have h:false=true:=h;cases h
  | tree=>rw[OW] at h;have h:false=true:=h;cases h
  |
   row j wj =>
   rw[OW] at ky h
   obtain⟨k3,g2,XX,e2,k4⟩:gW w=some (V.m j)∧∃g es e,V.H[j]? = some (.row g es e wj):=ky
   have h:(i != j)=true:=h
   simp only[bne_iff_ne,ne_eq] at h
   rw[k3]
   cases hu:gW u with
   | none=>rfl
   |
    some q =>
    simp only[bne_iff_ne,ne_eq]
    exact fun hm=>kx q hu j _ _ _ _ k4 (Ne.symm h) hm.symm
 |
  row i wi =>
  rw[hbx] at kx h
  obtain⟨k1,g1,AO,e1,k2⟩:gW u=some (V.m i)∧∃g es e,V.H[i]? = some (.row g es e wi):=kx
  cases OW:Al V.H y with
  | bad=>rw[OW] at h;have h:false=true:=h;cases h
  |
   no =>
   rw[OW] at ky
   have ky:gW w=none:=ky
   rw[ky]
   cases gW u<;>rfl
  |
   zM j =>
   rw[OW] at ky h
   have ky:∀q,gW w=some q→∀b' g' es e w,V.H[b']? = some (.row g' es e w)→b'≠j→V.m b'≠q:=ky
   have h:(i != j)=true:=h
   simp only[bne_iff_ne,ne_eq] at h
   rw[k1]
   cases hw:gW w with
   | none=>rfl
   |
    some q =>
    simp only[bne_iff_ne,ne_eq]
    exact fun hm=>ky q hw i _ _ _ _ k2 h hm
  |
   row j wj =>
   rw[OW] at ky h
   obtain⟨k3,g2,XX,e2,k4⟩:gW w=some (V.m j)∧∃g es e,V.H[j]? = some (.row g es e wj):=ky
   rw[k1,k3]
   have h:(i != j)=true:=h
   simp only[bne_iff_ne,ne_eq] at h ⊢
   exact fun hm=>h (hS.inj _ _ _ _ _ _ _ _ _ _ k2 k4 hm)
  |
   tree =>
   rw[OW] at ky h
   have ky:∀b,gW w=some b→V.F b:=ky
   have h:wi=true:=h
   subst h
   cases hw:gW w with
   | none=>rw[k1]
   |
    some b =>
    rw[k1]
    simp only[bne_iff_ne,ne_eq]
    exact fun hm=>(hS.wr _ _ _ _ k2).1 (by rw[hm];exact ky b hw)
 |
  tree =>
  rw[hbx] at kx h
  have kx:∀b,gW u=some b→V.F b:=kx
  cases OW:Al V.H y with
  | bad=>rw[OW] at h;have h:false=true:=h;cases h
  |
   no =>
   rw[OW] at ky
   have ky:gW w=none:=ky
   rw[ky]
   cases gW u<;>rfl
  | tree=>rw[OW] at h;have h:false=true:=h;cases h
  | zM j=>rw[OW] at h;have h:false=true:=h;cases h
  |
   row j wj =>
   rw[OW] at ky h
   obtain⟨k1,g1,AO,e1,k2⟩:gW w=some (V.m j)∧∃g es e,V.H[j]? = some (.row g es e wj):=ky
   have h:wj=true:=h
   subst h
   cases hw:gW u with
   | none=>rfl
   |
    some b =>
    rw[k1]
    simp only[bne_iff_ne,ne_eq]
    exact fun hm=>(hS.wr _ _ _ _ k2).1 (by rw[←hm];exact kx b hw)
theorem Pe {V:View} (hS:SR V lo dS) {ρ:dJ} {jB:Env} (hE:ER V ρ jB) {fl:Fl} {q:Bool} {op:lL} {K:VV→aA→Prop} (h:dR fl lo q op ρ V.H K):MF lo dS V (iT dS q op jB V.P) K:=by
 have other:∀ {v H'},vop fl lo op ρ V.H=some (v,H')→K v H'→MF lo dS V (iT dS q op jB V.P) K:=by
  intro v H' h1 h2
  obtain⟨pv,V',g1,g2,g3,g4,g5⟩:=Uz hS hE (q:=q) h1
  exact⟨pv,V',v,g1,g3,g4,g5,by rw[g2];exact h2⟩
 unfold dR at h
 split at h
 ·rw[T5]
  exact EM hS (hE.evs _) h
 ·rename_i fv args
  rw[QX]
  have hf:=hE.ev fv
  split at h
  ·rename_i f fC hfv
   rw[hfv] at hf
   generalize ev jB fv=u at hf ⊢
   cases hf with
   |
    sC f fC ps hl =>
    unfold Vl
    simp only[List.nil_append]
    exact EM hS ((hE.evs args).append hl) h
  ·cases h
 ·split at h
  ·rename_i v H' h1
   exact other h1 h
  ·cases h
theorem Ju {fl:Fl} {K:dJ→aA→Prop}:∀(is:List PI) {V:View} {ρ:dJ} {jB:Env},SR V lo dS→ER V ρ jB→VS fl lo is K ρ V.H →
  WS dS is (fun Kf P'=>∃V' aU,V'.P=P'∧SR V' lo dS∧CJ lo V V'∧ER V' aU Kf∧K aU V'.H) jB V.P
 |
  [],V,ρ,jB,hS,hE,h=>by
  rw[abU]
  exact⟨V,ρ,rfl,hS,CJ.refl _ _,hE,h⟩
 |
  i::is,V,ρ,jB,hS,hE,h=>by
  unfold VS at h
  rw[akE]
  unfold wC
  split at h
  ·cases h
  ·rename_i hw
   rw[EI hE hw]
   exact⟨_,_,rfl,Ju is hS (hE.put (.dQ [] [] .nil)) h⟩
  ·rename_i hw
   rw[EI hE hw]
   obtain⟨M0,h⟩:=h
   have aoS:i.cf.all (yN jB)=true:=by
    rw[List.all_eq_true] at M0 ⊢
    intro c hc
    exact Rq hS (hE.ev c.1) (hE.ev c.2) (M0 c hc)
   simp only[aoS,if_true]
   obtain⟨pv,V',v,g1,g2,g3,g4,g5⟩:=Pe hS hE h
   refine⟨pv,V'.P,?_,?_⟩
   ·unfold iT at g1
    exact g1
   ·obtain⟨SE,TJ,k1,OT,Cv,k2,k3,k4,k5,k6⟩:=Ju is g2 ((hE.mono g3.toUp).put g4) g5
    exact⟨SE,TJ,k1,OT,Cv,k2,k3,g3.trans k4,k5,k6⟩
theorem Ja:∀(ts:List Nat) {V:View} {ρ aU:dJ} {jB:Env} {H':aA},SR V lo dS→ER V ρ jB→ZL ts ρ V.H=some (aU,H')→∃V',V'.P=V.P∧V'.H=H'∧SR V' lo dS∧CJ lo V V'∧ER V' aU jB
 |
  [],V,ρ,aU,jB,H',hS,hE,h=>by
  cases h
  exact⟨V,rfl,rfl,hS,CJ.refl _ _,hE⟩
 |
  t::ts,V,ρ,aU,jB,H',hS,hE,h=>by
  unfold ZL at h
  split at h
  case h_2=>cases h
  rename_i v hv
  obtain⟨k1,k2,k3,k4,k5,k6⟩:=sI (gV depth V.H (ρ t)) hS
  have hx:=Is hS (G:=(V.cR (gV depth V.H (ρ t))).F) (fun q hq=>k2.F q hq) depth (ρ t) v (jB t) (hE t) hv k6
  have Tt:VR (V.cR (gV depth V.H (ρ t))) v (jB t):=hx.Ba (fun b hb=>⟨hb,by rw[k4]⟩)
  rw[←k3] at h
  obtain⟨V',g1,g2,g3,g4,g5⟩:=Ja ts (jB:=jB) k1 (by
   have e:=(hE.mono k2.toUp).put (d:=some t) Tt
   have ee:put jB (some t) (jB t)=jB:=by
    funext k
    simp only[put]
    split
    ·rename_i hk;rw[hk]
    ·rfl
   rw[ee] at e
   exact e) h
  exact⟨V',g1.trans k4,g2,g3,k2.trans g4,g5⟩
theorem PH {V:View} (hS:SR V lo dS) {ρ:dJ} {jB:Env} (hE:ER V ρ jB) {K:dJ→aA→Prop} (h:gh K ρ V.H):∃V' aU,V'.P=V.P∧SR V' lo dS∧CJ lo V V'∧ER V' aU jB∧K aU V'.H:=by
 obtain⟨ts,aU,H',h1,h2⟩:=h
 obtain⟨V',g1,g2,g3,g4,g5⟩:=Ja ts hS hE h1
 exact⟨V',aU,g1,g3,g4,g5,by rw[g2];exact h2⟩
theorem JC {k:Nat} {es:List VV}:jY k es=true↔∀x∈es,below k x=true:=by
 induction es with
 | nil=>simp[jY]
 | cons x xs ih=>simp[jY,ih]
theorem Be {k:Nat} {es:List VV} (h:jY k es=true):jY k (es.flatMap aB)=true:=by
 rw[JC] at h ⊢
 intro x hx
 obtain⟨y,hy,yM⟩:=List.mem_flatMap.1 hx
 have:=h y hy
 unfold aB at yM
 split at yM
 ·exact JC.1 (by simpa[below] using this) x yM
 ·rw[List.mem_singleton] at yM;subst yM;exact this
theorem Pz {k:Nat} {x:VV} (h:below k x=true):jY k (aB x)=true:=by
 have:=Be (k:=k) (es:=[x]) (by simp[jY,h])
 simpa using this
def View.wT (V:View) (k:Nat):View:={ V with H:=V.H.take k }
theorem VR.wT {V:View} {k:Nat} (hk:k≤V.H.length) {x:VV} {v:Value} (h:VR V x v):PM.below k x=true→VR (V.wT k) x v:=by
 have he:∀ {b:Nat},b<k→∀y,(V.wT k).H[b]? = some y→V.H[b]? = some y:=fun SM y hy=>by
  have:(V.H.take k)[_]? = some y:=hy
  rw[List.getElem?_take,if_pos SM] at this
  exact this
 have hT:∀ {b:Nat} {y:bU},(V.wT k).H[b]? = some y→V.H[b]? = some y:=fun {b y} hy=>by
  have h:(V.H.take k)[b]? = some y:=hy
  rw[List.getElem?_take] at h
  split at h
  ·exact h
  ·cases h
 induction h using VR.rec (motive_2:=fun xs vs _=>jY k xs=true→VL (V.wT k) xs vs) with
 | any=>intro _;exact .any _
 | sc _ h=>intro _;exact .sc _ h
 | agg cs ps _ ih=>intro hb;exact .agg _ _ (ih hb)
 | dQ cs ps _ ih=>intro hb;exact .dQ _ _ (ih hb)
 | mU k hk=>intro _;exact .mU k hk
 | tree es k b o c r e p QU vZ ho hc he Ve _ ih=>intro hb;exact .tree es k b o c r e p QU vZ ho hc he Ve (ih (Be hb))
 | cY x off b o r e p QU vZ ho _ ih=>intro hb;exact .cY x off b o r e p QU vZ ho (ih (Pz hb))
 |
  ref b g o n c a n' c' aV hg ha hq =>
  intro hb
  have SM:b<k:=by simpa[PM.below] using hb
  exact .ref b g o n c a n' c' (by show b<(V.H.take k).length;simp;omega) (fun g' es e w hr=>hg _ _ _ _ (he SM _ hr)) (fun es e w hr=>ha _ _ _ (he SM _ hr)) fun a0 h=>⟨(hq a0 h).1,(hq a0 h).2.1,fun b' g' es e w hr=>(hq a0 h).2.2 b' g' es e w (hT hr)⟩
 |
  ptr b g j off a aV hg ha hq =>
  intro hb
  have SM:b<k:=by simpa[PM.below] using hb
  exact .ptr b g j off a (by show b<(V.H.take k).length;simp;omega) (fun g' es e w hr=>hg _ _ _ _ (he SM _ hr)) (fun es e w hr=>ha _ _ _ (he SM _ hr)) fun a0 h=>⟨(hq a0 h).1,(hq a0 h).2.1,fun b' g' es e w hr=>(hq a0 h).2.2 b' g' es e w (hT hr)⟩
 | sC f fC ps _ ih=>intro hb;exact .sC _ _ _ (ih hb)
 | nil=>exact .nil
 |
  cons x v xs vs _ _ ih Qj =>
  rename_i hb
  simp only[jY,Bool.and_eq_true] at hb
  exact .cons _ _ _ _ (ih hb.1) (Qj hb.2)
theorem VL.wT {V:View} {k:Nat} (hk:k≤V.H.length) {xs:List VV} {vs:List Value} (h:VL V xs vs) (hb:jY k xs=true):VL (V.wT k) xs vs:=by
 induction xs generalizing vs with
 | nil=>cases h;exact .nil
 |
  cons x xs ih=>cases h with
  |
   cons _ v _ vs h hs =>
   simp only[jY,Bool.and_eq_true] at hb
   exact .cons _ _ _ _ (h.wT hk hb.1) (ih hs hb.2)
theorem Oj {V V':View} (hS:SR V' lo dS) {ρ:dJ} {jB:Env} (hE:ER V' ρ jB) (hx:CJ lo V V') (hr:iG V.H.length (V'.H.take V.H.length)=true) :
  SR (V'.wT V.H.length) lo dS∧CJ lo V (V'.wT V.H.length)∧ER (V'.wT V.H.length) (Fi V.H.length ρ) jB:=by
 have hk:=hx.len
 have get:∀ {b:Nat} {y:bU},(V'.wT V.H.length).H[b]? = some y→V'.H[b]? = some y:=by
  intro b y h
  have h:(V'.H.take V.H.length)[b]? = some y:=h
  rw[List.getElem?_take] at h
  split at h
  ·exact h
  ·cases h
 refine⟨⟨fun b g es e w hb => ?_,fun b g es e hb=>hS.wr b g es e (get hb),fun a b g es e w g' kU e' w' ha hb hm=>hS.inj a b _ _ _ _ _ _ _ _ (get ha) (get hb) hm,hS.fr,hS.PO,hS.HD⟩,
  { F:=hx.F,P:=hx.P,len:=by show V.H.length≤(V'.H.take V.H.length).length;simp;omega,row:=fun b g es e w aV hb=>hx.row b g es e w aV (get hb),HD:=hx.HD,Cr:=hx.Cr,zM:=fun b g es e w hb hm=>hx.zM b g es e w (get hb) hm,bM:=hx.bM,AT:=hx.AT },fun t => ?_⟩
 ·obtain⟨r,p,h1,h2,h3⟩:=hS.row b g es e w (get hb)
  refine⟨r,p,h1,h2,h3.wT hk (Be ?_)⟩
  have:=List.all_eq_true.1 hr _ (List.mem_of_getElem? (show (V'.H.take V.H.length)[b]? = some _ from hb))
  exact this
 ·unfold Fi Gl
  split
  ·rename_i hb
   exact(hE t).wT hk hb
  ·exact .any _
theorem OH {c:aE} {Q:Ex→Env→aD→Prop} {ρ:Env} {H:aD} (h:W dS c (ahU (fun aU H'=>W dS (.loop c) Q aU H') Q) ρ H):W dS (.loop c) Q ρ H:=by
 obtain⟨x,aU,H',h1,h2⟩:=h
 unfold W
 rw[UP,h1]
 cases x with
 |
  normal =>
  obtain⟨y,Cv,YT,h3,h4⟩:=h2
  exact⟨y,Cv,YT,h3,h4⟩
 | exit i=>exact⟨_,_,_,rfl,h2⟩
 | ret=>exact⟨_,_,_,rfl,h2⟩
theorem rM {fl:Fl}:∀(c:aE) {V:View} {ρ:dJ} {jB:Env} {Q:VQ},SR V lo dS→ER V ρ jB→VW fl lo c Q ρ V.H→xL lo dS V c Q jB
 |
  .skip,V,ρ,jB,Q,hS,hE,h=>by
  unfold xL
  rw[adO]
  exact⟨V,ρ,rfl,hS,CJ.refl _ _,hE,h⟩
 |
  .exit id,V,ρ,jB,Q,hS,hE,h=>by
  unfold xL
  rw[aeQ]
  exact⟨V,ρ,rfl,hS,CJ.refl _ _,hE,h⟩
 |
  .ret,V,ρ,jB,Q,hS,hE,h=>by
  unfold xL
  rw[akQ]
  exact⟨V,ρ,rfl,hS,CJ.refl _ _,hE,h⟩
 |
  .eO ops,V,ρ,jB,Q,hS,hE,h=>by
  unfold xL
  rw[aiY]
  exact Ju ops hS hE h
 |
  .seq a b,V,ρ,jB,Q,hS,hE,h=>by
  unfold xL
  rw[ajB]
  refine(rM a hS hE h).mono ?_
  rintro x Kf P' ⟨V',aU,rfl,g2,g3,g4,g5⟩
  cases x with
  |
   normal =>
   refine(rM b g2 g4 g5).mono ?_
   rintro y SE TJ ⟨OT,Cv,k1,k2,k3,k4,k5⟩
   exact⟨OT,Cv,k1,k2,g3.trans k3,k4,k5⟩
  | exit i=>exact⟨V',aU,rfl,g2,g3,g4,g5⟩
  | ret=>exact⟨V',aU,rfl,g2,g3,g4,g5⟩
 |
  .cond c a b,V,ρ,jB,Q,hS,hE,h=>by
  unfold xL
  rw[acW]
  unfold VW at h
  split at h
  ·rename_i t hc
   obtain⟨e,_⟩:=oT (hE.ev c) hc
   refine⟨t,e,fun ht => ?_,fun ht => ?_⟩
   ·rw[if_pos ht] at h
    exact rM a hS hE h
   ·rw[if_neg (by simp[ht])] at h
    exact rM b hS hE h
  ·cases h
 |
  .block id a,V,ρ,jB,Q,hS,hE,h=>by
  unfold xL
  rw[ZD]
  refine(rM a hS hE h).mono ?_
  rintro x Kf P' ⟨V',aU,rfl,g2,g3,g4,g5⟩
  cases x with
  | normal=>exact⟨V',aU,rfl,g2,g3,g4,g5⟩
  |
   exit i =>
   rw[F5]
   have g5:if i=id then Q .normal aU V'.H else Q (.exit i) aU V'.H:=g5
   split at g5
   ·rename_i hi
    rw[if_pos hi]
    exact⟨V',aU,rfl,g2,g3,g4,g5⟩
   ·rename_i hi
    rw[if_neg hi]
    exact⟨V',aU,rfl,g2,g3,g4,g5⟩
  | ret=>exact⟨V',aU,rfl,g2,g3,g4,g5⟩
 |
  .loop a,V,ρ,jB,Q,hS,hE,h=>by
  obtain⟨n,h⟩:=h
  have key:∀n {V:View} {ρ:dJ} {jB:Env},SR V lo dS→ER V ρ jB→On (VW fl lo a) (fun x=>gh (Q x)) n ρ V.H→xL lo dS V (.loop a) Q jB:=by
   intro n
   induction n with
   | zero=>intro V ρ jB _ _ h;cases h
   |
    succ n ih =>
    intro V ρ jB hS hE h
    unfold xL
    refine OH ?_
    refine(rM a hS hE h).mono ?_
    rintro x Kf P' ⟨V',aU,rfl,g2,g3,g4,g5⟩
    cases x with
    |
     normal =>
     rcases g5 with g5 | ⟨g5,g6⟩
     ·refine(ih g2 g4 g5).mono ?_
      rintro y SE TJ ⟨OT,Cv,k1,k2,k3,k4,k5⟩
      exact⟨OT,Cv,k1,k2,g3.trans k3,k4,k5⟩
     ·obtain⟨t1,t2,t3⟩:=Oj g2 g4 g3 g5
      refine(ih t1 t3 g6).mono ?_
      rintro y SE TJ ⟨OT,Cv,k1,k2,k3,k4,k5⟩
      exact⟨OT,Cv,k1,k2,t2.trans k3,k4,k5⟩
    |
     exit i =>
     obtain⟨OT,Cv,k1,k2,k3,k4,k5⟩:=PH g2 g4 g5
     exact⟨OT,Cv,k1,k2,g3.trans k3,k4,k5⟩
    |
     ret =>
     obtain⟨OT,Cv,k1,k2,k3,k4,k5⟩:=PH g2 g4 g5
     exact⟨OT,Cv,k1,k2,g3.trans k3,k4,k5⟩
  exact key n hS hE h
theorem sY {V:View} (hS:SR V lo dS) {ρ:dJ} {jB:Env} (hE:ER V ρ jB) {res:List yE} {v:VV} (h:lT res ρ V.H=some v):∃pv,oC res jB V.P=some pv∧VR V v pv:=by
 have one:∀ {r:yE} {v:VV},C0 ρ V.H r=some v→∃pv,SO jB V.P r=some pv∧VR V v pv:=by
  intro r v h
  cases r with
  | tmp t=>cases h;exact⟨_,rfl,hE t⟩
  | cell t agg size=>exact IB hS (hE t) h
 have all:∀ {rs:List yE} {vs:List VV},oF ρ V.H rs=some vs→∃ps,zX jB V.P rs=some ps∧VL V vs ps:=by
  intro rs
  induction rs with
  | nil=>intro vs h;cases h;exact⟨[],rfl,.nil⟩
  |
   cons r rs ih =>
   intro vs h
   unfold oF at h
   split at h
   ·rename_i v vs' h1 h2
    cases h
    obtain⟨pv,k1,k2⟩:=one h1
    obtain⟨ps,k3,k4⟩:=ih h2
    exact⟨pv::ps,by unfold zX;rw[k1,k3],.cons _ _ _ _ k2 k4⟩
   ·cases h
 unfold lT at h
 split at h
 ·rename_i v' hv
  cases h
  obtain⟨ps,k1,k2⟩:=all hv
  cases k2 with
  |
   cons _ pv _ _ hx P7 =>
   cases P7
   exact⟨pv,by unfold oC;rw[k1],hx⟩
 ·rename_i vs eT hv
  cases h
  obtain⟨ps,k1,k2⟩:=all hv
  refine⟨.tuple ps.toArray,?_,.dQ _ _ k2⟩
  unfold oC
  rw[k1]
  split
  ·rename_i pv he
   injection he with he
   subst he
   cases k2 with
   | cons x _ _ _ hx P7=>cases P7;exact absurd rfl (eT x)
  ·rename_i he
   injection he with he
   rw[he]
  ·rename_i he;cases he
 ·cases h
theorem Nc {V:View} {args:List VV} {dT:List Value} (h:VL V args dT):ER V (GX args) (TF dT):=by
 intro t
 unfold GX TF
 rw[List.getD_eq_getElem?_getD,List.getD_eq_getElem?_getD]
 cases hx:args[t]? with
 |
  none =>
  have:dT[t]? = none:=by
   rw[List.getElem?_eq_none_iff] at hx ⊢
   rw[h.length]
   exact hx
  rw[this]
  exact .dQ [] [] .nil
 |
  some x =>
  obtain⟨v,h1,h2⟩:=h.get hx
  rw[h1]
  exact h2
theorem iV.walk {f:Nat} {pf:aS} {args:List VV} {H:aA} {K:VV→aA→Prop} (fl:Fl) (ht:iB f=some pf) (ha:args.length≤pf.ntmps) (h:VW fl lo pf.body (zF pf.res K) (GX args) H):iV f args lo H K:=by
 intro V dS dT hH hS hl
 subst hH
 obtain⟨x,Kf,P',h1,V',aU,rfl,g2,g3,g4,g5⟩:=rM pf.body hS (Nc hl) h
 have key:∃pv TJ,oL f dT dS V.P=some (pv,TJ)∧TJ=V'.P∧∃r,VR V' r pv∧K r V'.H:=by
  refine We ht (by rw[hl.length];exact ha) ?_
  refine⟨x,Kf,V'.P,h1,?_⟩
  cases x with
  | exit i=>exact g5.elim
  |
   normal =>
   simp only[zF,EG] at g5
   split at g5
   ·rename_i v hv
    obtain⟨pv,k2,k3⟩:=sY g2 g4 hv
    exact⟨pv,k2,rfl,v,k3,g5⟩
   ·cases g5
  |
   ret =>
   simp only[zF,EG] at g5
   split at g5
   ·rename_i v hv
    obtain⟨pv,k2,k3⟩:=sY g2 g4 hv
    exact⟨pv,k2,rfl,v,k3,g5⟩
   ·cases g5
 obtain⟨pv,TJ,k1,rfl,r,k2,k3⟩:=key
 exact⟨pv,V',r,k1,g2,g3,k2,k3⟩
theorem VT.walk {f:Nat} {pf:aS} {args:List VV} {r:VV} (fl:Fl) (ht:iB f=some pf) (ha:args.length≤pf.ntmps) (h:VW fl 0 pf.body (zF pf.res fun v H=>fz depth H v=some r) (GX args) []):VT f args r:=by
 intro F P dT dS hF hl Y5
 have hS:SR (bare F P) 0 dS:=⟨fun b g es e w hb=>by simp[bare] at hb,fun b g es e hb=>by simp[bare] at hb,fun a b g es e w g' kU e' w' ha=>by simp[bare] at ha,hF,Y5,Nat.zero_le _⟩
 obtain⟨x,Kf,P',h1,V',aU,rfl,g2,g3,g4,g5⟩:=rM pf.body hS (Nc hl) h
 have fin:∀ {v:VV} {pv:Value},VR V' v pv→fz depth V'.H v=some r→VR (bare (fun q=>F q∨(P.length≤q∧q<V'.P.length)) V'.P) r pv:=by
  intro v pv hv hf
  refine Is g2 (fun q hq => ?_) depth v r pv hv hf fun i _ g es e w hr => ?_
  ·rcases g3.AT q hq with h | h | ⟨b,g,es,e,w,h,_⟩
   ·exact .inl h
   ·exact .inr ⟨h,g2.fr q hq⟩
   ·simp[bare] at h
  ·rcases Nat.lt_or_ge (V'.m i) P.length with aV | CC
   ·obtain⟨g0,es0,w0,k1,_⟩:=g3.zM i g es e w hr aV
    simp[bare] at k1
   ·exact .inr ⟨CC,g2.mlt hr⟩
 have key:∃pv TJ,oL f dT dS P=some (pv,TJ)∧TJ=V'.P∧VR (bare (fun q=>F q∨(P.length≤q∧q<V'.P.length)) V'.P) r pv:=by
  refine We ht (by rw[hl.length];exact ha) ?_
  refine⟨x,Kf,V'.P,h1,?_⟩
  cases x with
  | exit i=>exact g5.elim
  |
   normal =>
   simp only[zF,EG] at g5
   split at g5
   ·rename_i v hv
    obtain⟨pv,k2,k3⟩:=sY g2 g4 hv
    exact⟨pv,k2,rfl,fin k3 g5⟩
   ·cases g5
  |
   ret =>
   simp only[zF,EG] at g5
   split at g5
   ·rename_i v hv
    obtain⟨pv,k2,k3⟩:=sY g2 g4 hv
    exact⟨pv,k2,rfl,fin k3 g5⟩
   ·cases g5
 obtain⟨pv,TJ,k1,rfl,k3⟩:=key
 refine⟨V'.P,pv,k1,?_,k3⟩
 refine⟨V'.P.drop P.length,List.ext_getElem? fun i => ?_⟩
 rcases Nat.lt_or_ge i P.length with hi | hi
 ·rw[List.getElem?_append_left hi]
  exact(g3.bM i hi fun b g es e hb=>by simp[bare] at hb).symm
 ·rw[List.getElem?_append_right hi,List.getElem?_drop,show P.length+(i-P.length)=i by omega]
end
end Go.PM
namespace Go.PM
section
variable {fl:Fl} {lo:Nat} {ρ:dJ} {H:aA} {Q:VQ} {K:dJ→aA→Prop} {k:VV→aA→Prop} {a b:aE} {d:Option Nat} {is:List PI} {q:Bool} {op:lL}
def Oe (fl:Fl) (lo:Nat) (d:Option Nat) (is:List PI) (K:dJ→aA→Prop) (ρ:dJ):VV→aA→Prop:=fun v H'=>VS fl lo is K (He ρ d v) H'
def Mh (r:Option (VV×aA)) (k:VV→aA→Prop):Prop:=match r with
 | some (v,H')=>k v H'
 | none=>False
theorem Lk {v:VV} {H':aA}:Oe fl lo d is K ρ v H'=VS fl lo is K (He ρ d v) H':=rfl
theorem Oh {v:VV}:HB (some v) H k=k v H:=rfl
theorem Lq {v:VV} {H':aA}:Mh (some (v,H')) k=k v H':=rfl
theorem YR {r:VV} {K:VV→Prop}:tk (some r) K=K r:=rfl
theorem Td:VW fl lo .skip Q ρ H=Q .normal ρ H:=rfl
theorem SH {i:Nat}:VW fl lo (.exit i) Q ρ H=Q (.exit i) ρ H:=rfl
theorem Ym:VW fl lo .ret Q ρ H=Q .ret ρ H:=rfl
theorem V8 {ops:List PI}:VW fl lo (.eO ops) Q ρ H=VS fl lo ops (Q .normal) ρ H:=rfl
theorem VG:VW fl lo (.seq a b) Q ρ H=VW fl lo a (lA (VW fl lo b Q) Q) ρ H:=rfl
theorem Og {i:Nat}:VW fl lo (.block i a) Q ρ H=VW fl lo a (xI i Q) ρ H:=rfl
theorem SL {c:Operand} {t:Bool} (h:dU ρ c = .sc (.bool t)):VW fl lo (.cond c a b) Q ρ H=if t=true then VW fl lo a Q ρ H else VW fl lo b Q ρ H:=by
 simp only[VW,h]
theorem AA:lA K Q .normal=K:=rfl
theorem C6 {i:Nat}:lA K Q (.exit i)=Q (.exit i):=rfl
theorem EU:lA K Q .ret=Q .ret:=rfl
theorem CW {i:Nat}:xI i Q .normal=Q .normal:=rfl
theorem By {i j:Nat}:xI i Q (.exit j) ρ H=if j=i then Q .normal ρ H else Q (.exit j) ρ H:=rfl
theorem JK {i:Nat}:xI i Q .ret=Q .ret:=rfl
theorem EJ {res:List yE} {R:VV→aA→Prop}:zF res R .normal ρ H=EG R (lT res ρ H) H:=rfl
theorem KY {res:List yE} {R:VV→aA→Prop}:zF res R .ret ρ H=EG R (lT res ρ H) H:=rfl
theorem Ih {R:VV→aA→Prop} {v:VV}:EG R (some v) H=R v H:=rfl
theorem Pv {t:Nat}:lT [.tmp t] ρ H=some (ρ t):=rfl
theorem N0 {t u:Nat}:lT [.tmp t,.tmp u] ρ H=some (.dQ [ρ t,ρ u]):=rfl
theorem Jg {t u v:Nat}:lT [.tmp t,.tmp u,.tmp v] ρ H=some (.dQ [ρ t,ρ u,ρ v]):=rfl
theorem KF:lT [] ρ H=some (.dQ []):=rfl
theorem XS:VS fl lo [] K ρ H=K ρ H:=rfl
theorem aaL:VS fl lo (⟨d,op,none,q,[]⟩::is) K ρ H=dR fl lo q op ρ H (Oe fl lo d is K ρ):=by
 simp only[VS,zV,List.all_nil,true_and]
 rfl
theorem Ec {c:Operand×Operand} {cs:List (Operand×Operand)}:VS fl lo (⟨d,op,none,q,c::cs⟩::is) K ρ H=((c::cs).all (sF ρ H)=true∧dR fl lo q op ρ H (Oe fl lo d is K ρ)):=by
 simp only[VS,zV]
 rfl
theorem OP {t:Nat} {want x:Bool} {cf:List (Operand×Operand)} (h:ρ t = .sc (.bool x)):VS fl lo (⟨d,op,some (t,want),q,cf⟩::is) K ρ H =
  if (x == want)=true then (cf.all (sF ρ H)=true∧dR fl lo q op ρ H (Oe fl lo d is K ρ)) else VS fl lo is K (He ρ d nN) H:=by
 simp only[VS,zV,h]
 cases (x == want)<;>rfl
theorem V7 {t:Nat} {want:Bool} (h:ρ t = .sc (.bool want)):VS fl lo (⟨d,op,some (t,want),q,[]⟩::is) K ρ H=dR fl lo q op ρ H (Oe fl lo d is K ρ):=by
 rw[OP h]
 simp
theorem aaF {t:Nat} {want:Bool} {cf:List (Operand×Operand)} (h:ρ t = .sc (.bool (!want))):VS fl lo (⟨d,op,some (t,want),q,cf⟩::is) K ρ H=VS fl lo is K (He ρ d nN) H:=by
 rw[OP h]
 cases want<;>rfl
theorem SP {c:Operand} (h:dU ρ c = .sc (.bool true)):VW fl lo (.cond c a b) Q ρ H=VW fl lo a Q ρ H:=by
 rw[SL h,if_pos rfl]
theorem Om {c:Operand} (h:dU ρ c = .sc (.bool false)):VW fl lo (.cond c a b) Q ρ H=VW fl lo b Q ρ H:=by
 rw[SL h,if_neg (by decide)]
theorem GZ {t:Nat} {want:Bool} {cf:List (Operand×Operand)} (h:ρ t=nN):VS fl lo (⟨d,op,some (t,want),q,cf⟩::is) K ρ H=VS fl lo is K (He ρ d nN) H:=by
 simp only[VS,zV,h,nN]
theorem rP {d t:Nat} {v:VV}:He ρ (some d) v t=if t=d then v else ρ t:=rfl
theorem Lo {v:VV}:He ρ none v=ρ:=rfl
theorem S4 {t:Nat}:dU ρ (.tmp t)=ρ t:=rfl
theorem Kt {v:Value}:dU ρ (.const v)=inj v:=rfl
theorem NJ {f:Nat}:dU ρ (.func f) = .sC f []:=rfl
theorem R0 {k:IntKind} {n:Int}:inj (.int k n) = .sc (.int k n):=rfl
theorem Pd {t:Bool}:inj (.bool t) = .sc (.bool t):=rfl
theorem R2 {s:ByteArray}:inj (.string s) = .sc (.string s):=rfl
theorem Se:inj (.slice none 0 0) = .tree [] .nil:=rfl
theorem SA {cs:Array Value}:inj (.agg cs) = .agg (cs.toList.map iJ):=rfl
theorem Ot {k:IntKind} {n:Int}:iJ (.int k n) = .sc (.int k n):=rfl
theorem KR {t:Bool}:iJ (.bool t) = .sc (.bool t):=rfl
theorem Pm {s:ByteArray}:iJ (.string s) = .sc (.string s):=rfl
theorem Pk:iJ (.slice none 0 0) = .tree [] .nil:=rfl
theorem Xr {x:Operand}:dR fl lo q (.mv x) ρ H k=k (dU ρ x) H:=rfl
theorem gG {r:Option VV}:(match r.map (fun v=>(v,H)) with | some (v,H')=>k v H' | none=>False)=HB r H k:=by cases r<;>rfl
theorem NZ {c x y:Operand}:dR fl lo q (.pick c x y) ρ H k=HB (Oz (dU ρ c) (dU ρ x) (dU ρ y)) H k:=gG
theorem S3 {o:BinOp} {x y:Operand}:dR fl lo q (.bin o x y) ρ H k=HB (FH (dB o) (dU ρ x) (dU ρ y)) H k:=gG
theorem Sc {n:Bool} {x y:Operand}:dR fl lo q (.eqb n x y) ρ H k=HB (FH (PB n) (dU ρ x) (dU ρ y)) H k:=gG
theorem KU {n:Bool} {x:Operand}:dR fl lo q (.isnil n x) ρ H k=HB (Dj n (dU ρ x) H) H k:=gG
theorem K1 {n:Bool} {ks:List CK} {x y:Operand}:dR fl lo q (.eqagg n ks x y) ρ H k=HB (QL n ks (dU ρ x) (dU ρ y)) H k:=gG
theorem Wt {o:UnOp} {x:Operand}:dR fl lo q (.un o x) ρ H k=HB (Iv (VD o) (dU ρ x)) H k:=gG
theorem Sn {o:IntKind} {x:Operand}:dR fl lo q (.cvt o x) ρ H k=HB (Iv (Qi o) (dU ρ x)) H k:=gG
theorem Sm {x:Operand}:dR fl lo q (.cvs x) ρ H k=HB (Iv TN (dU ρ x)) H k:=gG
theorem SQ {x:Operand} {i:Nat}:dR fl lo q (.ext x i) ρ H k=HB (Xo i (dU ρ x)) H k:=gG
theorem Tb {g:Bool} {off size:Nat} {x:Operand}:dR fl lo q (.fld g off size x) ρ H k=HB (Za g off size (dU ρ x)) H k:=gG
theorem KJ {z:List Value} {places:List (Nat×Nat)} {parts:List (Nat×Operand)}:dR fl lo q (.build z places parts) ρ H k=HB ((tZ places (z.map iJ) (parts.map fun(i,x)=>(i,dU ρ x))).map .agg) H k:=by
 show (match (tZ places (z.map iJ) (parts.map fun(i,x)=>(i,dU ρ x))).map fun cs=>(VV.agg cs,H) with | some (v,H')=>k v H' | none=>False)=_
 cases tZ places (z.map iJ) (parts.map fun(i,x)=>(i,dU ρ x))<;>rfl
theorem Ti {x:Operand}:dR fl lo q (.chk x) ρ H k=HB (T6 (dU ρ x) H) H k:=gG
theorem K2 {off:Nat} {x:Operand}:dR fl lo q (.faddr off x) ρ H k=HB (Fq off (dU ρ x) H) H k:=gG
theorem Ln {size:Nat} {x i:Operand}:dR fl lo q (.iaddr size x i) ρ H k=HB (bI size (dU ρ x) (dU ρ i) H) H k:=gG
theorem NH {x i:Operand}:dR fl lo q (.sidx x i) ρ H k=HB (FH E6 (dU ρ x) (dU ρ i)) H k:=gG
theorem OU {x:Operand} {l h:Option Operand}:dR fl lo q (.ssub x l h) ρ H k=HB (rO (dU ρ x) (l.map (dU ρ)) (h.map (dU ρ))) H k:=gG
theorem Pf {f:Nat} {fC:List Operand}:dR fl lo q (.mkfn f fC) ρ H k=k (.sC f (fC.map (dU ρ))) H:=rfl
theorem R5 {x:Operand}:dR fl lo q (.len x) ρ H k=HB (nP (dU ρ x) H) H k:=gG
theorem PE {x:Operand}:dR fl lo q (.slen x) ρ H k=HB (Iv wK (dU ρ x)) H k:=gG
theorem RM {x y:Operand}:dR fl lo q (.min x y) ρ H k=HB (FH O7 (dU ρ x) (dU ρ y)) H k:=gG
theorem R9 {x y:Operand}:dR fl lo q (.max x y) ρ H k=HB (FH Nh (dU ρ x) (dU ρ y)) H k:=gG
theorem Ob {g:Bool} {size:Nat} {p:Operand}:dR fl lo q (.load g size p) ρ H k=HB (cO g size (dU ρ p) H) H k:=gG
theorem Tc {size:Nat} {x:Operand} {l h m:Option Operand}:dR fl lo q (.sub size x l h m) ρ H k=HB (Dg size (dU ρ x) (l.map (dU ρ)) (h.map (dU ρ)) (m.map (dU ρ)) H) H k:=gG
theorem Sv {z:List Value}:dR fl lo q (.new z) ρ H k=Mh (if (z.map iJ).all bA then some (.ptr H.length 0 0 0,H++[.row 0 [elemOf (z.map iJ)] z.length true]) else none) k:=rfl
theorem RZ {x:Operand}:dR fl lo q (.box x) ρ H k=Mh (if (aB (dU ρ x)).all bA then (if fl.bf then some (.cY (dU ρ x) 0,H) else some (.ptr H.length 0 0 0,H++[.row 0 [dU ρ x] (aB (dU ρ x)).length true])) else none) k:=rfl
theorem Nv {z:List Value} {bytes:Nat} {l c:Operand}:dR fl lo q (.make z bytes l c) ρ H k=Mh (if (z.map iJ).all bA then yG z bytes (dU ρ l) (dU ρ c) H else none) k:=rfl
theorem S8 {z:List Value} {n:Nat} {parts:List (Nat×Operand)}:dR fl lo q (.lit z n parts) ρ H k=Mh (jM fl.lr z n (parts.map fun(i,x)=>(i,dU ρ x)) H) k:=rfl
def Ss (r:Option aA) (k:VV→aA→Prop):Prop:=match r with
 | some H'=>k nN H'
 | none=>False
theorem Im {H':aA}:Ss (some H') k=k nN H':=rfl
theorem K6 {r:Option aA}:(match r.map (fun H'=>(nN,H')) with | some (v,H')=>k v H' | none=>False)=Ss r k:=by cases r<;>rfl
theorem KE {size:Nat} {p v:Operand}:dR fl lo q (.store size p v) ρ H k=Ss (bY lo size (dU ρ p) (dU ρ v) H) k:=K6
def ahK (lo size bytes:Nat) (x:VV) (new:Option (List VV)) (H:aA) (k:VV→aA→Prop):Prop:=match new with
 | some new=>Mh (eH lo size bytes x new H) k
 | none=>False
theorem KL {size bytes:Nat} {x:VV} {new:List VV}:ahK lo size bytes x (some new) H k=Mh (eH lo size bytes x new H) k:=rfl
theorem SV {size bytes:Nat} {x y:Operand}:dR fl lo q (.app size bytes x y) ρ H k=ahK lo size bytes (dU ρ x) (cM size (dU ρ y) H) H k:=by
 show (match (match cM size (dU ρ y) H with | some new=>eH lo size bytes (dU ρ x) new H | none=>none) with | some (v,H')=>k v H' | none=>False)=_
 cases cM size (dU ρ y) H<;>rfl
theorem Pg {size:Nat} {x y:Operand}:dR fl lo q (.copy size x y) ρ H k=Mh (Ge lo size (dU ρ x) (dU ρ y) H) k:=rfl
theorem Ls {z:List Value} {x:Operand}:dR fl lo q (.clear z x) ρ H k=Ss (My lo z (dU ρ x) H) k:=K6
theorem OB {f:Nat} {args:List Operand}:dR fl lo q (.call f args) ρ H k=cZ f (args.map (dU ρ)) (if q then H.length else lo) H k:=rfl
noncomputable def Qp (x:VV) (args:List VV) (lo:Nat) (H:aA) (k:VV→aA→Prop):Prop:=match x with
 | .sC f fC=>cZ f (args++fC) lo H k
 | _=>False
theorem IA {f:Nat} {fC args:List VV}:Qp (.sC f fC) args lo H k=cZ f (args++fC) lo H k:=rfl
theorem KC {fv:Operand} {args:List Operand}:dR fl lo q (.callv fv args) ρ H k=Qp (dU ρ fv) (args.map (dU ρ)) (if q then H.length else lo) H k:=by
 simp only[dR,Qp]
 all_goals (cases dU ρ fv<;>rfl)
theorem MY {x:Operand}:dR fl lo q (.b2s x) ρ H k=Mh (vop fl lo (.b2s x) ρ H) k:=rfl
theorem SI {f:Value→Option Value} {x:Value}:Iv f (.sc x)=(f x).map .sc:=rfl
theorem So {f:Value→Value→Option Value} {x y:Value}:FH f (.sc x) (.sc y)=(f x y).map .sc:=rfl
theorem O6 {t:Bool} {x y:VV}:Oz (.sc (.bool t)) x y=some (if t=true then x else y):=rfl
theorem Nr {vs:List VV} {i:Nat}:Xo i (.dQ vs)=vs[i]? := rfl
theorem Kl {es:List VV} {t:TK}:nP (.tree es t) H=some (.sc (.int .i64 es.length)):=rfl
theorem eZ {b g o n c:Nat} {r:List VV×Nat×Bool} (h:aF H b g=some r):nP (.ref b g o n c) H=some (.sc (.int .i64 n)):=by
 simp only[nP,h,Option.map_some]
theorem Oa {x:VV} {o off:Nat}:Fq off (.cY x o) H=some (.cY x (o+off)):=rfl
theorem Xp {x:VV} {o:Nat}:T6 (.cY x o) H=some (.cY x o):=rfl
theorem MC {g:Bool} {size o:Nat} {x:VV}:cO g size (.cY x o) H=dN g size x o:=rfl
theorem Mv {g:Bool} {size b gn j o:Nat} {es:List VV} {e:Nat} {w:Bool} {x:VV} (h:aF H b gn=some (es,e,w)) (hx:es[j]? = some x):cO g size (.ptr b gn j o) H=dN g size x o:=by
 simp only[cO,h,hx]
theorem VJ {size:Nat} {v:Value}:dN false size (.sc v) 0=some (.sc v):=rfl
theorem RT {size:Nat} {es:List VV} {t:TK}:dN false size (.tree es t) 0=some (.tree es t):=rfl
theorem VY {size b g o n c:Nat}:dN false size (.ref b g o n c) 0=some (.ref b g o n c):=rfl
theorem Vt {size f:Nat} {fC:List VV}:dN false size (.sC f fC) 0=some (.sC f fC):=rfl
theorem gL {size o:Nat} {cs:List VV}:dN false size (.agg cs) o=cs[o]? := rfl
theorem Xj {size:Nat} {cs:List VV} (h:cs.length=size):dN true size (.agg cs) 0=some (.agg cs):=by
 subst h
 simp[dN,aB]
theorem Vn {size:Nat} {es:List VV} {t:TK} {kk:IntKind} {i:Int} {x:VV} (h0:0≤i) (hx:es[i.toNat]? = some x) (hs:(aB x).length=size):bI size (.tree es t) (.sc (.int kk i)) H=some (.cY x 0):=by
 simp only[bI,h0,hx,hs,if_true]
theorem Uc {size:Nat} {es:List VV} {t:TK} {kk:IntKind} {i:Nat} {x:VV} (hx:es[i]? = some x) (hs:(aB x).length=size):bI size (.tree es t) (.sc (.int kk (i:Int))) H=some (.cY x 0) :=
 Vn (by omega) (by simpa using hx) hs
theorem XL {size b g o n c:Nat} {kk:IntKind} {i:Int} {es:List VV} {w:Bool} (h:aF H b g=some (es,size,w)) (h0:0≤i) (h1:i<n):bI size (.ref b g o n c) (.sc (.int kk i)) H=some (.ptr b g (o+i.toNat) 0):=by
 simp only[bI,h]
 rw[if_pos ⟨trivial,h0,h1⟩]
theorem Uv {size b g o n c:Nat} {kk:IntKind} {i:Nat} {es:List VV} {w:Bool} (h:aF H b g=some (es,size,w)) (h1:i<n):bI size (.ref b g o n c) (.sc (.int kk (i:Int))) H=some (.ptr b g (o+i) 0):=by
 rw[XL h (by omega) (by omega),Int.toNat_natCast]
abbrev TC (f:Nat) (args:List VV) (r:VV):Prop:=∀(lo:Nat) (H:aA) (k:VV→aA→Prop),cZ f args lo H k=k r H
theorem TC.of {f:Nat} {args:List VV} {r:VV} (hr:BJ.contains f=false) (ha:aP args=true) (h:vT f args=some r):TC f args r:=by
 intro lo H k
 unfold cZ DQ
 simp only[hr,ha,if_true,h,Bool.false_eq_true,if_false,YR]
theorem TC.walk {f:Nat} {pf:aS} {args:List VV} {r:VV} (fl:Fl) (ht:iB f=some pf) (hr:BJ.contains f=false) (hn:args.length≤pf.ntmps) (ha:aP args=true) (XY:fY r=true) (h:VW fl 0 pf.body (zF pf.res fun v H=>fz depth H v=some r) (GX args) []):TC f args r :=
 TC.of hr ha (aaH ha XY (VT.walk fl ht hn h))
theorem TC.EA {f:Nat} {args gQ:List VV} {r:VV} (h:TC f gQ r) (hr:BJ.contains f=false) (ha':aP gQ=true) (hf:args.mapM (fz depth H)=some gQ) (ha:aP args=false):cZ f args lo H k=if Ia r=true then k r H else k r (cR H (args.flatMap (gV depth H))):=by
 have e:∀K,DQ f gQ K=K r:=fun K=>by
  have:=h 0 [] fun r _=>K r
  unfold cZ at this
  simpa only[hr,ha',if_true,Bool.false_eq_true,if_false] using this
 unfold cZ
 simp only[hr,ha,hf,Bool.false_eq_true,if_false]
 rw[e]
theorem aH {n:Nat} {v:VV} (h:aN v=true):fz (n+1) H v=some v:=by
 unfold PM.fz
 rw[if_pos h]
theorem aI {v:VV} (h:aN v=true):fz depth H v=some v:=aH h
theorem mapM_pure {n:Nat}:∀ {es:List VV},aP es=true→es.mapM (PM.fz (n+1) H)=some es
 | [],_=>rfl
 |
  x::xs,h=>by
  simp only[aP,Bool.and_eq_true] at h
  rw[List.mapM_cons,aH h.1,mapM_pure h.2]
  rfl
theorem Jo {b g n c e:Nat} {es:List VV} {w:Bool} (h:aF H b g=some (es,e,w)) (hn:n=es.length) (hc:n≤c) (hp:aP es=true):fz depth H (.ref b g 0 n c)=some (.tree es .op):=by
 have:aN (.ref b g 0 n c)=false:=rfl
 show fz (7+1) H _=_
 unfold PM.fz
 simp only[this,h,Bool.false_eq_true,if_false]
 subst hn
 rw[if_pos ⟨by omega,hc⟩,List.drop_zero,List.take_length,mapM_pure hp]
 rfl
theorem Dr {n:Nat} {v:VV} (h:aN v=true):gV n H v=[]:=by
 cases n with
 | zero=>rfl
 | succ n=>unfold gV;rw[if_pos h]
theorem zS {n:Nat}:∀ {es:List VV},aP es=true→es.flatMap (gV n H)=[]
 | [],_=>rfl
 |
  x::xs,h=>by
  simp only[aP,Bool.and_eq_true] at h
  rw[List.flatMap_cons,Dr h.1,zS h.2]
  rfl
theorem Lh {b g n c e:Nat} {es:List VV} {w:Bool} (h:aF H b g=some (es,e,w)) (hn:n=es.length) (hp:aP es=true):gV depth H (.ref b g 0 n c)=[b]:=by
 have:aN (.ref b g 0 n c)=false:=rfl
 show gV (7+1) H _=_
 unfold gV
 simp only[this,h,Bool.false_eq_true,if_false]
 subst hn
 rw[List.drop_zero,List.take_length,zS hp]
theorem RH {r:Option VV} {K K':VV→Prop} (hk:∀v,K v→K' v) (h:tk r K):tk r K':=by
 cases r with
 | none=>exact h
 | some v=>exact hk _ h
theorem Gg {f:Nat} {args:List VV} {k k':VV→aA→Prop} (hk:∀v H,k v H→k' v H) (h:cZ f args lo H k):cZ f args lo H k':=by
 unfold cZ at h ⊢
 split at h
 ·rename_i h1
  rw[if_pos h1]
  exact h.mono hk
 ·rename_i h1
  rw[if_neg h1]
  split at h
  ·rename_i h2
   rw[if_pos h2]
   exact RH (fun v=>hk v H) h
  ·rename_i h2
   rw[if_neg h2]
   split at h
   ·refine RH (fun v hv => ?_) h
    split at hv
    ·rename_i h3;rw[if_pos h3];exact hk _ _ hv
    ·rename_i h3;rw[if_neg h3];exact hk _ _ hv
   ·cases h
theorem P4 {k k':VV→aA→Prop} (hk:∀v H,k v H→k' v H) (h:dR fl lo q op ρ H k):dR fl lo q op ρ H k':=by
 unfold dR at h ⊢
 split at h
 ·exact Gg hk h
 ·split at h
  ·exact Gg hk h
  ·cases h
 ·split at h
  ·exact hk _ _ h
  ·cases h
theorem Mx {K K':dJ→aA→Prop} (hk:∀ρ H,K ρ H→K' ρ H):∀ {is:List PI} {ρ:dJ} {H:aA},VS fl lo is K ρ H→VS fl lo is K' ρ H
 | [],ρ,H,h=>hk _ _ h
 |
  i::is,ρ,H,h=>by
  unfold VS at h ⊢
  split at h
  ·cases h
  ·exact Mx hk h
  ·exact⟨h.1,P4 (fun v H' hv=>Mx hk hv) h.2⟩
theorem nS {K K':dJ→aA→Prop} {Q Q':VQ} (hk:∀ρ H,K ρ H→K' ρ H) (hq:∀x ρ H,Q x ρ H→Q' x ρ H):∀x ρ H,lA K Q x ρ H→lA K' Q' x ρ H
 | .normal,ρ,H,h=>hk _ _ h
 | .exit _,ρ,H,h=>hq _ _ _ h
 | .ret,ρ,H,h=>hq _ _ _ h
theorem YM {K K':dJ→aA→Prop} (hk:∀ρ H,K ρ H→K' ρ H) (h:gh K ρ H):gh K' ρ H:=by
 obtain⟨ts,aU,H',h1,h2⟩:=h
 exact⟨ts,aU,H',h1,hk _ _ h2⟩
theorem tB:∀ {c:aE} {Q Q':VQ} {ρ:dJ} {H:aA},(∀x ρ H,Q x ρ H→Q' x ρ H)→VW fl lo c Q ρ H→VW fl lo c Q' ρ H
 | .skip,_,_,_,_,hq,h=>hq _ _ _ h
 | .exit _,_,_,_,_,hq,h=>hq _ _ _ h
 | .ret,_,_,_,_,hq,h=>hq _ _ _ h
 | .eO _,_,_,_,_,hq,h=>Mx (fun ρ H=>hq .normal ρ H) h
 | .seq a b,Q,Q',_,_,hq,h=>tB (c:=a) (nS (fun ρ H h=>tB (c:=b) hq h) hq) h
 |
  .cond c a b,Q,Q',ρ,H,hq,h=>by
  unfold VW at h ⊢
  split at h
  ·split at h
   ·rename_i h1;rw[if_pos h1];exact tB (c:=a) hq h
   ·rename_i h1;rw[if_neg h1];exact tB (c:=b) hq h
  ·cases h
 |
  .block i a,Q,Q',_,_,hq,h=>by
  refine tB (c:=a) (fun x ρ H hx => ?_) h
  cases x with
  | normal=>exact hq _ _ _ hx
  | ret=>exact hq _ _ _ hx
  |
   exit j =>
   rw[By] at hx ⊢
   split at hx
   ·rename_i h1;rw[if_pos h1];exact hq _ _ _ hx
   ·rename_i h1;rw[if_neg h1];exact hq _ _ _ hx
 |
  .loop a,Q,Q',ρ,H,hq,h=>by
  obtain⟨n,h⟩:=h
  refine⟨n,?_⟩
  induction n generalizing ρ H with
  | zero=>cases h
  |
   succ n ih =>
   refine tB (c:=a) (nS (fun ρ H h => ?_) fun x ρ H h=>YM (hq x) h) h
   rcases h with h | ⟨h1,h2⟩
   ·exact .inl (ih _ _ h)
   ·exact .inr ⟨h1,ih _ _ h2⟩
theorem Z6 {K:dJ→aA→Prop} (h:K ρ H):gh K ρ H:=⟨[],ρ,H,rfl,h⟩
theorem OY {α:Type} {c:aE} (I:α→dJ→aA→Prop) (μ:α→Nat) (s:α) (h0:I s ρ H)
  (round:∀s ρ H,I s ρ H→VW fl lo c (lA (fun aU H'=>∃s',μ s'<μ s∧(I s' aU H'∨(iG H.length (H'.take H.length)=true∧I s' (Fi H.length aU) (H'.take H.length)))) (fun x=>gh (Q x))) ρ H):VW fl lo (.loop c) Q ρ H:=by
 refine⟨μ s+1,?_⟩
 have key:∀n s ρ H,μ s<n→I s ρ H→On (VW fl lo c) (fun x=>gh (Q x)) n ρ H:=by
  intro n
  induction n with
  | zero=>intro s ρ H h;omega
  |
   succ n ih =>
   intro s ρ H hn hI
   refine tB (nS (fun aU H' h => ?_) fun x ρ H h=>h) (round s ρ H hI)
   obtain⟨s',h1,h2 | ⟨h2,h3⟩⟩:=h
   ·exact .inl (ih s' _ _ (by omega) h2)
   ·exact .inr ⟨h2,ih s' _ _ (by omega) h3⟩
 exact key _ s ρ H (Nat.lt_succ_self _) h0
theorem aR {α:Type} {c:aE} (I:α→dJ→aA→Prop) (μ:α→Nat) (s:α) (h0:I s ρ H)
  (round:∀s ρ H,I s ρ H→VW fl lo c (lA (fun aU H'=>∃s',μ s'<μ s∧I s' aU H') Q) ρ H):VW fl lo (.loop c) Q ρ H :=
 OY I μ s h0 fun s ρ H h=>tB (nS (fun _ _ ⟨s',h1,h2⟩=>⟨s',h1,.inl h2⟩) fun _ _ _ h=>Z6 h) (round s ρ H h)
theorem I8 {α:Type} {c:aE} (I:α→dJ→aA→Prop) (μ:α→Nat) (s:α) (h0:I s ρ H)
  (round:∀s ρ H,I s ρ H→VW fl lo c (lA (fun aU H'=>∃s',μ s'<μ s∧iG H.length (H'.take H.length)=true∧I s' (Fi H.length aU) (H'.take H.length)) Q) ρ H):VW fl lo (.loop c) Q ρ H :=
 OY I μ s h0 fun s ρ H h=>tB (nS (fun _ _ ⟨s',h1,h2⟩=>⟨s',h1,.inr h2⟩) fun _ _ _ h=>Z6 h) (round s ρ H h)
theorem ID {n:Nat} {v:VV} (h:below n v=true):Gl n v=v:=by
 unfold Gl
 rw[if_pos h]
mutual
theorem Dc {n:Nat} (v:VV) (h:aN v=true):below n v=true:=by
 cases v with
 | any=>rfl
 | sc=>rfl
 | agg cs=>exact kL cs h
 | dQ cs=>exact kL cs h
 | tree es t=>exact kL es (Fs h).2.1
 | cY x o=>exact Dc x h
 | ref=>cases h
 | ptr=>cases h
 | sC f fC=>exact kL fC h
theorem kL {n:Nat} (vs:List VV) (h:aP vs=true):jY n vs=true:=by
 cases vs with
 | nil=>rfl
 |
  cons x xs =>
  simp only[aP,Bool.and_eq_true] at h
  simp only[jY,Dc x h.1,kL xs h.2,Bool.and_self]
end
end
end Go.PM
namespace Go.PM
def val (b:Nat):List Nat→Nat
 | []=>0
 | d::ds=>d+b*val b ds
def aC (b n:Nat):List Nat:=if h:n=0∨b<2 then [] else n % b::aC b (n / b)
termination_by n
decreasing_by exact Nat.div_lt_self (by omega) (by omega)
section
variable {b:Nat}
theorem bQ:aC b 0=[]:=by rw[aC];simp
theorem hC (hb:2≤b) {n:Nat} (hn:n≠0):aC b n=n % b::aC b (n / b):=by rw[aC,dif_neg (by omega)]
theorem pC {d:Nat} {ds:List Nat}:val b (d::ds)=d+b*val b ds:=rfl
theorem uZ (xs ys:List Nat):val b (xs++ys)=val b xs+b^xs.length*val b ys:=by
 induction xs with
 | nil=>simp[val]
 |
  cons x xs ih =>
  simp only[List.cons_append,pC,ih,List.length_cons,Nat.pow_succ]
  rw[Nat.mul_add,Nat.mul_comm (b^xs.length) b,Nat.mul_assoc,Nat.add_assoc]
theorem val_one (d:Nat):val b [d]=d:=by simp[val]
theorem rS (xs:List Nat) (d:Nat):val b (xs++[d])=val b xs+b^xs.length*d:=by rw[uZ,val_one]
theorem vE (n:Nat):val b (List.replicate n 0)=0:=by
 induction n with
 | zero=>rfl
 | succ n ih=>simp[List.replicate_succ,val,ih]
theorem oG {xs:List Nat} (h:∀d∈xs,d<b):val b xs<b^xs.length:=by
 induction xs with
 | nil=>simp[val]
 |
  cons x xs ih =>
  have h1:=h x List.mem_cons_self
  have h2:=ih fun d hd=>h d (List.mem_cons_of_mem _ hd)
  simp only[pC,List.length_cons,Nat.pow_succ]
  have h3:b*(val b xs+1)≤b*b^xs.length:=Nat.mul_le_mul_left _ h2
  rw[Nat.mul_add,Nat.mul_one] at h3
  rw[Nat.mul_comm (b^xs.length) b]
  omega
theorem cL (hb:2≤b) (n:Nat):val b (aC b n)=n:=by
 induction n using Nat.strongRecOn with
 |
  _ n ih =>
  by_cases h:n=0
  ·subst h;rw[bQ];rfl
  ·rw[hC hb h,pC,ih _ (Nat.div_lt_self (by omega) (by omega))]
   exact Nat.mod_add_div n b
theorem gF (hb:2≤b) (n:Nat):∀d∈aC b n,d<b:=by
 induction n using Nat.strongRecOn with
 |
  _ n ih =>
  by_cases h:n=0
  ·subst h;rw[bQ];intro d hd;cases hd
  ·rw[hC hb h]
   intro d hd
   rcases List.mem_cons.1 hd with rfl | hd
   ·exact Nat.mod_lt _ (by omega)
   ·exact ih _ (Nat.div_lt_self (by omega) (by omega)) d hd
theorem kD (hb:2≤b) {n:Nat}:aC b n=[]↔n=0:=by
 constructor
 ·intro h
  have:=cL hb n
  rw[h] at this
  exact this.symm
 ·rintro rfl;exact bQ
theorem KD (hb:2≤b) (n:Nat):(aC b n).getLast? ≠ some 0:=by
 induction n using Nat.strongRecOn with
 |
  _ n ih =>
  by_cases h:n=0
  ·subst h;rw[bQ];simp
  ·rw[hC hb h]
   have h1:=ih _ (Nat.div_lt_self (n:=n) (k:=b) (by omega) (by omega))
   by_cases h2:n / b=0
   ·rw[h2,bQ]
    have:n<b:=by
     rcases Nat.div_eq_zero_iff.1 h2 with h | h<;>omega
    simp[Nat.mod_eq_of_lt this,h]
   ·have eT:aC b (n / b)≠[]:=fun h=>h2 ((kD hb).1 h)
    obtain⟨x,xs,hx⟩:=List.exists_cons_of_ne_nil eT
    rw[hx] at h1 ⊢
    rw[List.getLast?_cons_cons]
    exact h1
theorem Ic (hb:2≤b) {xs:List Nat} (h:∀d∈xs,d<b) (hl:xs.getLast? ≠ some 0):aC b (val b xs)=xs:=by
 induction xs with
 | nil=>exact bQ
 |
  cons x xs ih =>
  have h1:=h x List.mem_cons_self
  have hr:(x+b*val b xs) % b=x:=by rw[Nat.add_mul_mod_self_left,Nat.mod_eq_of_lt h1]
  have hq:(x+b*val b xs) / b=val b xs:=by rw[Nat.add_mul_div_left _ _ (by omega),Nat.div_eq_of_lt h1,Nat.zero_add]
  cases xs with
  |
   nil =>
   have hx:x≠0:=by rintro rfl;simp at hl
   rw[val_one,hC hb hx,Nat.mod_eq_of_lt h1,Nat.div_eq_of_lt h1,bQ]
  |
   cons y ys =>
   rw[List.getLast?_cons_cons] at hl
   have h2:=ih (fun d hd=>h d (List.mem_cons_of_mem _ hd)) hl
   have h3:val b (y::ys)≠0:=fun h0=>by rw[h0,bQ] at h2;cases h2
   have h4:b*val b (y::ys)≠0:=Nat.mul_ne_zero (by omega) h3
   rw[pC,hC hb (by omega),hr,hq,h2]
theorem Hy (hb:2≤b) {n:Nat} (hn:n≠0):b^((aC b n).length-1)≤n:=by
 induction n using Nat.strongRecOn with
 |
  _ n ih =>
  rw[hC hb hn]
  by_cases h2:n / b=0
  ·rw[h2,bQ];simp;omega
  ·have h3:=ih _ (Nat.div_lt_self (by omega) (by omega)) h2
   have eT:aC b (n / b)≠[]:=fun h=>h2 ((kD hb).1 h)
   obtain⟨x,xs,hx⟩:=List.exists_cons_of_ne_nil eT
   rw[hx] at h3 ⊢
   simp only[List.length_cons,Nat.add_sub_cancel] at h3 ⊢
   rw[Nat.pow_succ]
   calc b^xs.length*b≤n / b*b:=Nat.mul_le_mul_right _ h3
    _≤n:=Nat.div_mul_le_self n b
theorem iE (hb:2≤b) (n:Nat):n<b^(aC b n).length:=by
 have:=oG (gF hb n)
 rwa [cL hb] at this
theorem mM (hb:2≤b) {n k:Nat} (h:n<b^k):(aC b n).length≤k:=by
 by_cases hn:n=0
 ·subst hn;rw[bQ];simp
 ·have h1:=Hy hb hn
  have h2:b^((aC b n).length-1)<b^k:=Nat.lt_of_le_of_lt h1 h
  have h3:(aC b n).length-1<k:=(Nat.pow_lt_pow_iff_right (by omega)).1 h2
  have eT:aC b n≠[]:=fun h=>hn ((kD hb).1 h)
  have:=List.length_pos_iff.2 eT
  omega
theorem fG (hb:2≤b) {m n:Nat} (h:m≤n):(aC b m).length≤(aC b n).length :=
 mM hb (Nat.lt_of_le_of_lt h (iE hb n))
theorem nB (xs:List Nat) (i:Nat):val b xs=val b (xs.take i)+b^(xs.take i).length*val b (xs.drop i):=by
 rw[←uZ,List.take_append_drop]
theorem bH {xs:List Nat} {i d:Nat} (h:xs[i]? = some d):val b (xs.take (i+1))=val b (xs.take i)+b^i*d:=by
 have aV:=(List.getElem?_eq_some_iff.1 h).1
 rw[List.take_add_one,h]
 simp only[Option.toList_some]
 rw[rS,List.length_take,Nat.min_eq_left (by omega)]
theorem pE {xs:List Nat} {i d:Nat} (h:xs[i]? = some d):val b (xs.drop i)=d+b*val b (xs.drop (i+1)):=by
 obtain⟨aV,he⟩:=List.getElem?_eq_some_iff.1 h
 rw[List.drop_eq_getElem_cons aV,he,pC]
theorem Dw {P A B O c x y s q r W:Nat} (h:A+B=O+P*c) (hs:c+x+y=s) (hr:r+W*q=s):(A+P*x)+(B+P*y)=(O+P*r)+(P*W)*q:=by grind
theorem Xz {xs:List Nat} {i d:Nat} (h:i<xs.length):(xs.set i d).take (i+1)=xs.take i++[d]:=by
 rw[List.set_eq_take_append_cons_drop,if_pos h,List.take_append]
 simp[List.take_take,Nat.min_eq_left (by omega:i≤xs.length),Nat.min_eq_right (by omega:i≤i+1)]
theorem gH {xs:List Nat} {i d:Nat} (h:i<xs.length):val b ((xs.set i d).take (i+1))=val b (xs.take i)+b^i*d:=by
 rw[Xz h,rS,List.length_take,Nat.min_eq_left (by omega)]
theorem mA {xs:List Nat} {i d:Nat} (h:∀x∈xs,x<b) (hd:d<b):∀x∈xs.set i d,x<b:=by
 intro x hx
 rcases List.mem_or_eq_of_mem_set hx with h1 | h1
 ·exact h x h1
 ·subst h1;exact hd
theorem oZ {xs:List Nat} {i:Nat} (h:xs.length≤i):val b (xs.take i)=val b xs:=by rw[List.take_of_length_le h]
theorem Bq (hb:0<b) (n:Nat):∀x∈List.replicate n 0,x<b:=by
 intro x hx
 rw[List.eq_of_mem_replicate hx]
 exact hb
theorem TM {P x y R t:Nat} (ht:t<P) (h:x<y):t+P*(x+R)<P*(y+R):=by
 have h1:P*(x+R+1)≤P*(y+R):=Nat.mul_le_mul_left _ (by omega)
 rw[Nat.mul_add,Nat.mul_one] at h1
 omega
theorem BZ {xs ys:List Nat} {i x y:Nat} (hx:∀d∈xs,d<b) (hl:xs.length=ys.length) (hi:xs[i]? = some x) (hj:ys[i]? = some y) (hd:xs.drop (i+1)=ys.drop (i+1)) (h:x<y):val b xs<val b ys:=by
 have h1:=(List.getElem?_eq_some_iff.1 hi).1
 have ht:(xs.take i).length=i:=by simp;omega
 have Zx:(ys.take i).length=i:=by simp;omega
 have h2:=oG (b:=b) (xs:=xs.take i) fun d hd=>hx d (List.mem_of_mem_take hd)
 rw[ht] at h2
 rw[nB xs i,nB ys i,ht,Zx,pE hi,pE hj,hd]
 have:=TM (R:=b*val b (ys.drop (i+1))) h2 h
 omega
theorem N1 (hb:2≤b) {m n:Nat} (h:aC b m=aC b n):m=n:=by
 have:=congrArg (val b) h
 rwa [cL hb,cL hb] at this
def kZ (a b:Nat):Int:=if a<b then -1 else if a=b then 0 else 1
theorem BR (hb:2≤b) {m n:Nat} (h:(aC b m).length<(aC b n).length):m<n:=by
 rcases Nat.lt_or_ge m n with h1 | h1
 ·exact h1
 ·have:=fG hb h1
  omega
end
end Go.PM
namespace Go.PM
abbrev VI (n:Int):VV := .sc (.int .i64 n)
abbrev VK (k:IntKind) (n:Int):VV := .sc (.int k n)
abbrev VB (t:Bool):VV := .sc (.bool t)
abbrev bK {α:Type} (f:α→VV) (xs:List α):VV := .tree (xs.map f) .op
section
variable {α:Type} {f:α→VV} {xs ys:List α} {x:α} {t:TK} {H:aA} {size i:Nat} {k:IntKind}
theorem fI:nP (.tree (xs.map f) t) H=some (VI xs.length):=by simp[nP]
theorem aK (hx:xs[i]? = some x) (hs:(aB (f x)).length=size):bI size (.tree (xs.map f) t) (VK k (i:Int)) H=some (.cY (f x) 0) :=
 Uc (by simp[hx]) hs
theorem N3 (hs:∀x,(aB (f x)).length=size):∀y∈xs.map f,(aB y).length=size:=by
 intro y hy
 obtain⟨x,_,rfl⟩:=List.mem_map.1 hy
 exact hs x
theorem eX (hp:∀x,aN (f x)=true):aP (xs.map f)=true:=by
 rw[yF]
 intro y hy
 obtain⟨x,_,rfl⟩:=List.mem_map.1 hy
 exact hp x
theorem Zh (hp:∀x,fY (f x)=true):oJ (xs.map f)=true:=by
 rw[Jz]
 intro y hy
 obtain⟨x,_,rfl⟩:=List.mem_map.1 hy
 exact hp x
theorem SX {size:Nat} (hs:∀x,(aB (f x)).length=size):uni (xs.map f)=true:=by
 cases xs with
 | nil=>rfl
 |
  cons x xs =>
  simp only[List.map_cons,uni,List.all_eq_true]
  intro y hy
  obtain⟨z,_,rfl⟩:=List.mem_map.1 hy
  simp[hs]
theorem lG {size:Nat} (hs:∀x,(aB (f x)).length=size) (hp:∀x,aN (f x)=true):aN (bK f xs)=true:=by
 simp only[bK,aN,eX hp,SX hs,decide_true,Bool.and_self]
theorem BP {size:Nat} (hs:∀x,(aB (f x)).length=size) (hp:∀x,fY (f x)=true) (he:∀x,xG (f x)=true):fY (bK f xs)=true:=by
 have h4:(xs.map f).all xG=true:=by
  rw[List.all_eq_true]
  intro y hy
  obtain⟨z,_,rfl⟩:=List.mem_map.1 hy
  exact he z
 simp only[bK,fY,Zh hp,SX hs,h4,decide_true,Bool.and_self]
theorem YI {es:List VV} {h:Nat} (eT:0<es.length) (hs:∀x∈es,(aB x).length=size) (hh:h≤es.length) {k2:IntKind} :
  Dg size (.tree es t) none (some (VK k2 h)) none H=some (.tree (es.take h) .op):=by
 cases es with
 | nil=>simp at eT
 |
  cons y ys =>
  have hy:=hs y List.mem_cons_self
  simp only[List.length_cons] at hh
  have e1:(0:Int)≤h∧(h:Int)≤((ys.length+1:Nat):Int):=by omega
  simp only[Dg,DH,hy,if_true,eA,e1,Int.toNat_natCast,Option.isSome_none,Bool.false_eq_true,false_and,if_false]
  simp
theorem O2 (h:0<xs.length):0<(xs.map f).length:=by simpa using h
theorem Xy {b g o n c:Nat} {es:List VV} {w:Bool} {l h:Nat} (hr:aF H b g=some (es,size,w)) (hl:l≤h) (hh:h≤c) {k1 k2:IntKind} :
  Dg size (.ref b g o n c) (some (VK k1 l)) (some (VK k2 h)) none H=some (.ref b g (o+l) (h-l) (c-l)):=by
 have e1:(0:Int)≤h∧(h:Int)≤(c:Int):=by omega
 have e2:(0:Int)≤l∧(l:Int)≤(h:Int):=by omega
 simp only[Dg,DH,hr,if_true,eA,e1,e2,Int.toNat_natCast,Option.isSome_none,Bool.false_eq_true,false_and,if_false]
 simp[hl]
theorem GI {b g o n c:Nat} {es:List VV} {w:Bool} {h:Nat} (hr:aF H b g=some (es,size,w)) (hh:h≤c) {k2:IntKind} :
  Dg size (.ref b g o n c) none (some (VK k2 h)) none H=some (.ref b g o h c):=by
 have e1:(0:Int)≤h∧(h:Int)≤(c:Int):=by omega
 simp only[Dg,DH,hr,if_true,eA,e1,Int.toNat_natCast,Option.isSome_none,Bool.false_eq_true,false_and,if_false]
 simp
theorem J6 {b g o n c:Nat} {es:List VV} {w:Bool} {l:Nat} (hr:aF H b g=some (es,size,w)) (hl:l≤n) (hn:n≤c) {k1:IntKind} :
  Dg size (.ref b g o n c) (some (VK k1 l)) none none H=some (.ref b g (o+l) (n-l) (c-l)):=by
 have e2:(0:Int)≤l∧(l:Int)≤(n:Int):=by omega
 simp only[Dg,DH,hr,if_true,eA,e2,Int.toNat_natCast,Option.isSome_none,Bool.false_eq_true,false_and,if_false]
 simp
theorem GD {h:Nat} (hs:∀x,(aB (f x)).length=size) (eT:0<xs.length) (hh:h≤xs.length) {k2:IntKind} :
  Dg size (.tree (xs.map f) t) none (some (VK k2 h)) none H=some (bK f (xs.take h)):=by
 rw[YI (O2 eT) (N3 hs) (by simpa using hh)]
 simp[bK]
theorem W9 {b g e:Nat} {es:List VV} {w:Bool} {L K:aA} (h:b=L.length):aF (L ++ .row g es e w::K) b g=some (es,e,w):=by
 subst h
 simp[aF]
theorem aT {g e:Nat} {es:List VV} {w:Bool} {K:aA}:aF (.row g es e w::K) 0 g=some (es,e,w):=by simp[aF]
theorem oW {n:Nat}:(n=n+1)=False:=eq_false fun h=>by omega
theorem XM {g g' e:Nat} {es:List VV} {w:Bool} {K:aA} (h:g'≠g):aF (.row g' es e w::K) 0 g=none:=by simp[aF,h]
theorem mF {g e:Nat} {es:List VV} {w:Bool} {K:aA}:aF (.row (g+1) es e w::K) 0 g=none:=XM (Nat.succ_ne_self g)
theorem yT {b g:Nat} {x:bU} {K:aA}:aF (x::K) (b+1) g=aF K b g:=by simp[aF]
theorem aQ {b g o n c e:Nat} {es:List VV} {w:Bool} (h:aF H b g=some (es,e,w)) (hi:i<n):bI e (.ref b g o n c) (VK k (i:Int)) H=some (.ptr b g (o+i) 0):=Uv h hi
theorem dC {b g j e lo:Nat} {es:List VV} {v:VV} (h:aF H b g=some (es,e,true)) (hj:j<es.length) (eJ:lo≤b) (hv:(aB v).length=e) (hs:(aB v).all bA=true):bY lo e (.ptr b g j 0) v H=some (H.set b (.row g (es.set j v) e true)):=by
 obtain⟨x,hx⟩:∃x,es[j]? = some x:=⟨_,List.getElem?_eq_getElem hj⟩
 simp only[bY,h,hx]
 rw[if_pos ⟨hv,eJ,hs⟩,if_pos ⟨trivial,trivial⟩]
theorem qY {z:List Value} {bytes n:Nat} (hz:elemOf (z.map iJ)=f x) (hn:n*bytes≤281474976710656) (hm:n≤9223372036854775807):yG z bytes (VI n) (VI n) H=some (.ref H.length 0 0 n n,H++[.row 0 ((List.replicate n x).map f) z.length true]):=by
 simp only[yG]
 rw[if_pos ⟨by omega,by omega,by omega,by omega⟩,hz]
 simp
theorem oX {ag w:Bool} {b gn e j o:Nat} (h:aF H b gn=some (xs.map f,e,w)) (hx:xs[j]? = some x):cO ag size (.ptr b gn j o) H=dN ag size (f x) o :=
 Mv h (by simp[hx])
theorem dO {b g j e lo:Nat} (h:aF H b g=some (xs.map f,e,true)) (hj:j<xs.length) (eJ:lo≤b) (hv:(aB (f x)).length=e) (hs:(aB (f x)).all bA=true):bY lo e (.ptr b g j 0) (f x) H=some (H.set b (.row g ((xs.set j x).map f) e true)):=by
 rw[dC h (by simpa using hj) eJ hv hs,List.map_set]
theorem R6 {b gn n c e:Nat} {es:List VV} {w:Bool} (h:aF H b gn=some (es,e,w)) (hn:n≤es.length) (hc:n≤c) (hp:aP es=true):fz depth H (.ref b gn 0 n c)=some (.tree (es.take n) .op):=by
 have:aN (.ref b gn 0 n c)=false:=rfl
 show fz (7+1) H _=_
 unfold fz
 simp only[this,h,Bool.false_eq_true,if_false]
 have BF:aP (es.take n)=true:=yF.2 fun x hx=>yF.1 hp x (List.mem_of_mem_take hx)
 rw[if_pos ⟨by omega,hc⟩,List.drop_zero,mapM_pure BF]
 rfl
theorem TC.flat {fn:Nat} {args gQ:List VV} {r:VV} (h:TC fn gQ r) (vB:BJ.contains fn=false) (ha':aP gQ=true) (hf:args.mapM (fz depth H)=some gQ) (hr:Ia r=true) :
  ∀(lo:Nat) (K:VV→aA→Prop),cZ fn args lo H K=K r H:=by
 intro lo K
 cases hp:aP args with
 |
  true =>
  have:=mapM_pure (n:=7) (H:=H) hp
  rw[show fz depth H=fz (7+1) H from rfl,this] at hf
  cases hf
  exact h lo H K
 | false=>rw[h.EA vB ha' hf hp,hr,if_pos rfl]
theorem Mm {v v':VV} (h:fz depth H v=some v'):[v].mapM (fz depth H)=some [v']:=by rw[List.mapM_cons,h];rfl
theorem fz2 {v v' u u':VV} (h:fz depth H v=some v') (hu:fz depth H u=some u'):[v,u].mapM (fz depth H)=some [v',u']:=by rw[List.mapM_cons,h,Mm hu];rfl
theorem TC.ZZ {fn b gn n c e size:Nat} {w:Bool} {r:VV} (h:TC fn [bK f xs] r) (hr:aF H b gn=some (xs.map f,e,w)) (hn:n=xs.length) (hc:n≤c) (hs:∀x,(aB (f x)).length=size) (hp:∀x,aN (f x)=true) (vB:BJ.contains fn=false) (hf:Ia r=false) :
  ∀(lo:Nat) (K:VV→aA→Prop),cZ fn [.ref b gn 0 n c] lo H K=K r (cR H [b]):=by
 intro lo K
 have e1:fz depth H (.ref b gn 0 n c)=some (bK f xs):=Jo hr (by simpa using hn) hc (eX hp)
 have e2:gV depth H (.ref b gn 0 n c)=[b]:=Lh hr (by simpa using hn) (eX hp)
 have e3:[VV.ref b gn 0 n c].mapM (fz depth H)=some [bK f xs]:=by rw[List.mapM_cons,e1];rfl
 rw[h.EA vB (by simp only[aP,lG hs hp,Bool.and_self]) e3 rfl,hf]
 simp only[Bool.false_eq_true,if_false,List.flatMap_cons,List.flatMap_nil,e2,List.append_nil]
theorem Wm {es:List VV} {e:Nat} (hp:aP es=true):fz depth H (.tree es (.cl e))=some (.tree es .op):=by
 show fz (7+1) H _=_
 unfold fz
 have:aN (.tree es (.cl e))=false:=by simp[aN]
 simp only[this,Bool.false_eq_true,if_false,mapM_pure hp]
 rfl
theorem Vp {es:List VV} {e:Nat} (hp:aP es=true):gV depth H (.tree es (.cl e))=[]:=by
 show gV (7+1) H _=_
 unfold gV
 have:aN (.tree es (.cl e))=false:=by simp[aN]
 simp only[this,Bool.false_eq_true,if_false,zS hp]
theorem Q9:fz depth H (.tree [] .nil)=some (.tree [] .op):=by
 show fz (7+1) H _=_
 unfold fz
 have:aN (.tree [] .nil)=false:=by simp[aN]
 simp only[this,Bool.false_eq_true,if_false]
 rfl
theorem TC.args {fn:Nat} {args gQ:List VV} {r:VV} (h:TC fn gQ r) (vB:BJ.contains fn=false) (ha':aP gQ=true) (hf:args.mapM (fz depth H)=some gQ) (hi:args.flatMap (gV depth H)=[]) :
  ∀(lo:Nat) (K:VV→aA→Prop),cZ fn args lo H K=K r H:=by
 intro lo K
 cases hp:aP args with
 |
  true =>
  have:=mapM_pure (n:=7) (H:=H) hp
  rw[show fz depth H=fz (7+1) H from rfl,this] at hf
  cases hf
  exact h lo H K
 |
  false =>
  rw[h.EA vB ha' hf hp,hi]
  split<;>rfl
theorem iN {lr:Bool} {z:List Value} (hz:(z.map iJ).all bA=true):jM lr z 0 [] H=some (.ref H.length 0 0 0 0,H++[.row 0 [] z.length true]):=by
 simp[jM,sZ,hz]
theorem eW {z:List Value} {v:VV} (hz:(z.map iJ).all bA=true) (hv:(aB v).length=z.length) (hs:(aB v).all bA=true):jM false z 1 [(0,v)] H=some (.tree [v] (.cl z.length),H):=by
 simp only[jM,sZ,List.replicate_succ,List.replicate_zero,List.length_cons,List.length_nil,hv,hs,and_self,if_true,List.set_cons_zero,hz]
 simp[hs]
theorem Vm {z:List Value} {u v:VV} (hz:(z.map iJ).all bA=true) (hu:(aB u).length=z.length) (hus:(aB u).all bA=true) (hv:(aB v).length=z.length) (hs:(aB v).all bA=true):jM false z 2 [(0,u),(1,v)] H=some (.tree [u,v] (.cl z.length),H):=by
 simp[jM,sZ,hv,hs,hu,hus,hz,List.replicate_succ]
end
theorem wrap32 (n:Nat):IntKind.u32.wrap (n:Int)=((n % 4294967296:Nat):Int):=by rw[IntKind.wrap_u32];omega
theorem wrap_u64 (n:Int):IntKind.u64.wrap n=n % 18446744073709551616:=by simp[IntKind.wrap,IntKind.bits,IntKind.signed]
theorem dP (n:Nat) (h:n<18446744073709551616):IntKind.u64.wrap (n:Int)=(n:Int):=by rw[wrap_u64];omega
theorem wrapN {x:Int} (n:Nat) (h:x=n) (hn:n≤9223372036854775807):IntKind.i64.wrap x=(n:Int):=by subst h;exact wrap64 (by omega) (by omega)
theorem lP (n:Nat) (k:IntKind):dB .shr (.int .u64 (n:Int)) (.int k 32)=some (.int .u64 ((n / 4294967296:Nat):Int)):=by
 simp only[dB]
 have h1:¬((32:Int)<0):=by decide
 have h2:Nat.min (Int.toNat 32) IntKind.u64.bits=32:=by decide
 rw[if_neg h1,h2]
 congr 2
 rw[Int.fdiv_eq_ediv_of_nonneg _ (by decide)]
 omega
theorem Cl (n:Nat) (k:IntKind) (h:n<4294967296):dB .shl (.int .u64 (n:Int)) (.int k 32)=some (.int .u64 ((n*4294967296:Nat):Int)):=by
 simp only[dB]
 have h1:¬((32:Int)<0):=by decide
 have h2:Nat.min (Int.toNat 32) IntKind.u64.bits=32:=by decide
 rw[if_neg h1,h2]
 congr 2
 have:(n:Int)*2^32=((n*4294967296:Nat):Int):=by omega
 rw[this]
 exact dP _ (by omega)
section
variable {n k g:Nat} {K:aA} {x y:bU}
theorem tC:aF (List.replicate n bU.dead++K) n g=aF K 0 g:=by
 unfold aF
 rw[List.getElem?_append_right (by simp)]
 simp
theorem Ta:aF (List.replicate n bU.dead++K) (n+k) g=aF K k g:=by
 unfold aF
 rw[List.getElem?_append_right (by simp)]
 simp
theorem A7:(List.replicate n bU.dead++K).set n y=List.replicate n bU.dead++K.set 0 y:=by
 rw[List.set_append_right _ _ (by simp)]
 simp
theorem aeW:(List.replicate n bU.dead++K).set (n+k) y=List.replicate n bU.dead++K.set k y:=by
 rw[List.set_append_right _ _ (by simp)]
 simp
theorem AP:(List.replicate n bU.dead++K).length=n+K.length:=by simp
theorem ZF:iG k (List.replicate n bU.dead++K)=iG k K:=by
 induction n with
 | zero=>rfl
 | succ n ih=>rw[List.replicate_succ,List.cons_append,←ih];rfl
end
theorem zB {k g e:Nat} {es:List VV} {w:Bool} {K:aA} (h:jY k es=true):iG k (.row g es e w::K)=iG k K:=by
 unfold iG
 rw[List.all_cons]
 simp only[h,Bool.true_and]
theorem Fx {k:Nat}:iG k []=true:=rfl
theorem eG {size:Nat} {v:VV} {t:TK} {H:aA} (h:(aB v).length=size) (hs:(aB v).all bA=true):cM size (.tree [v] t) H=some [v]:=by
 simp[cM,h,hs]
theorem iF {α:Type} {f:α→VV} {xs:List α} {x:α} {lo b g n e bytes:Nat} {H:aA} (h:aF H b g=some (xs.map f,e,true)) (hn:n=xs.length) (eJ:lo≤b) (he:1≤e) (hb:1≤bytes) (A0:(n+1)*bytes≤140737488355328) :
  eH lo e bytes (.ref b g 0 n n) [f x] H=some (.ref b (g+1) 0 (n+1) (n+1),H.set b (.row (g+1) ((xs++[x]).map f) e true)):=by
 subst hn
 simp only[eH,h,List.length_cons,List.length_nil,Nat.zero_add]
 rw[if_pos ⟨hb,he⟩,if_pos ⟨trivial,eJ,by simp⟩,if_neg (by omega),if_pos A0,List.drop_zero,List.take_of_length_le (by simp)]
 simp
section
variable {H:aA} {b g o n c j lo size:Nat} {neg ag:Bool} {k:IntKind} {i:Int} {v:VV}
theorem cH:cO ag size (.ptr b g j o) H=(match aF H b g with
 |
  some (es,_,_)=>match es[j]? with
  | some x=>dN ag size x o
  | none=>none
 | none=>none):=rfl
theorem Bs:bY lo size (.ptr b g j o) v H=(match aF H b g with
 |
  some (es,e,true)=>match es[j]? with
  |
   some x =>
   if (aB v).length=size∧lo≤b∧(aB v).all bA then
    if o=0∧size=e then some (H.set b (.row g (es.set j v) e true))
    else if 2≤e∧o+size≤e then some (H.set b (.row g (es.set j (.agg (cN (aB x) o (aB v)))) e true))
    else none
   else none
  | none=>none
 | _=>none):=rfl
theorem KB:nP (.ref b g o n c) H=(aF H b g).map fun _ => .sc (.int .i64 n):=rfl
theorem jI:Fq size (.ptr b g j o) H=(aF H b g).map fun _ => .ptr b g j (o+size):=rfl
theorem KS:T6 (.ptr b g j o) H=(aF H b g).map fun _ => .ptr b g j o:=rfl
theorem G1:Dj neg (.ref b g o n c) H=(aF H b g).map fun _ => .sc (.bool (false != neg)):=rfl
theorem It:Dj neg (.tree [] .nil) H=some (.sc (.bool (true != neg))):=rfl
theorem GO {x:VV} {xs:List VV} {t:TK}:Dj neg (.tree (x::xs) t) H=some (.sc (.bool (false != neg))):=rfl
theorem GG:bI size (.ref b g o n c) (.sc (.int k i)) H=(match aF H b g with
 | some (_,e,_)=>if e=size∧0≤i∧i<n then some (.ptr b g (o+i.toNat) 0) else none
 | none=>none):=rfl
end
theorem EO {v:Value}:isAny (.sc v)=false:=rfl
theorem Ad {es:List VV} {t:TK}:isAny (.tree es t)=false:=rfl
theorem Cn {b g o n c:Nat}:isAny (.ref b g o n c)=false:=rfl
theorem Cf {cs:List VV}:isAny (.agg cs)=false:=rfl
theorem Ko {f:Nat} {cs:List VV}:isAny (.sC f cs)=false:=rfl
theorem rI {x:VV}:elemOf [x]=x:=rfl
theorem uO {x y:VV} {cs:List VV}:elemOf (x::y::cs) = .agg (x::y::cs):=rfl
theorem qX {k t:Nat} {ρ:dJ}:Fi k ρ t=Gl k (ρ t):=rfl
theorem Jb {k:Nat} {v:Value}:Gl k (.sc v) = .sc v:=rfl
theorem yP {k:Nat} {v:VV} (h:aN v=true):Gl k v=v:=ID (Dc v h)
theorem FT {k b g o n c:Nat} (h:b<k):Gl k (.ref b g o n c) = .ref b g o n c:=ID (by simp[below,h])
theorem Pj {v:Value}:bA (.sc v)=true:=rfl
theorem IJ {es:List VV} {t:TK}:bA (.tree es t)=true:=rfl
theorem Kx {b g o n c:Nat}:bA (.ref b g o n c)=true:=rfl
theorem Lv {b g o n:Nat}:bA (.ptr b g o n)=true:=rfl
theorem HX {x:VV} {o:Nat}:bA (.cY x o)=true:=rfl
theorem K5 {f:Nat} {cs:List VV}:bA (.sC f cs)=true:=rfl
theorem KK {v:Value}:aB (.sc v)=[.sc v]:=rfl
theorem DG {cs:List VV}:aB (.agg cs)=cs:=rfl
theorem Gt {es:List VV} {t:TK}:aB (.tree es t)=[.tree es t]:=rfl
theorem Jk {b g o n c:Nat}:aB (.ref b g o n c)=[.ref b g o n c]:=rfl
theorem NN {k k':IntKind} {n:Int}:Qi k (.int k' n)=some (.int k (k.wrap n)):=rfl
theorem Lu {args:List VV} {t:Nat}:GX args t=args.getD t nN:=rfl
theorem ahI {n:Nat}:LT n = .tmp n:=rfl
theorem agM {n:Int}:LI n = .const (.int .i64 n):=rfl
theorem agR:LG = .const (.bool true):=rfl
theorem ajO:LF = .const (.bool false):=rfl
theorem aiS {n:Nat}:LL n = .load false 1 (.tmp n):=rfl
theorem ajR {n:Nat}:LK n = .load true 3 (.tmp n):=rfl
theorem aiU {n k:Nat}:LX n k = .ext (.tmp n) k:=rfl
theorem ajG {k n:Nat}:LA k n = .faddr k (.tmp n):=rfl
theorem aiW {d:Nat} {p:lL}:LO d p=⟨some d,p,none,false,[]⟩:=rfl
theorem ahH {d:Nat} {p:lL}:LQ d p=⟨some d,p,none,true,[]⟩:=rfl
theorem ajM {p:lL}:LN p=⟨none,p,none,false,[]⟩:=rfl
theorem ajA {d s:Nat}:LM d s=⟨some d,.mv (.tmp s),none,false,[]⟩:=rfl
theorem ahT {g d:Nat} {p:lL}:LY g d p=⟨some d,p,some (g,true),false,[]⟩:=rfl
theorem agW {g d:Nat} {p:lL}:LZ g d p=⟨some d,p,some (g,false),false,[]⟩:=rfl
theorem ahJ {l:List PI} {c:aE}:LS l c = .seq (.eO l) c:=rfl
theorem VX:type_of% (
 And.intro @VG<|And.intro @V8<|And.intro @Og<|And.intro @Td<|And.intro @SH<|And.intro @Ym<|And.intro @SP <|
 And.intro @Om<|And.intro @AA<|And.intro @C6<|And.intro @EU<|And.intro @CW<|And.intro @By <|
 And.intro @JK<|And.intro @EJ<|And.intro @KY<|And.intro @Ih<|And.intro @Pv<|And.intro @N0 <|
 And.intro @Jg<|And.intro @KF<|And.intro @XS<|And.intro @aaL<|And.intro @V7<|And.intro @aaF<|And.intro @GZ <|
 And.intro @Xr<|And.intro @NZ<|And.intro @S3<|And.intro @Sc<|And.intro @KU<|And.intro @K1<|And.intro @Wt <|
 And.intro @Sn<|And.intro @Sm<|And.intro @SQ<|And.intro @Tb<|And.intro @KJ<|And.intro @Ti<|And.intro @K2 <|
 And.intro @Ln<|And.intro @NH<|And.intro @OU<|And.intro @Pf<|And.intro @R5<|And.intro @PE<|And.intro @RM <|
 And.intro @R9<|And.intro @Ob<|And.intro @Tc<|And.intro @Sv<|And.intro @RZ<|And.intro @Nv<|And.intro @S8 <|
 And.intro @KE<|And.intro @SV<|And.intro @Pg<|And.intro @Ls<|And.intro @OB<|And.intro @KC <|
 And.intro @IA<|And.intro @Lk<|And.intro @Oh<|And.intro @Lq<|And.intro @Im<|And.intro @KL <|
 And.intro @rP<|And.intro @Lo<|And.intro @S4<|And.intro @Kt<|And.intro @NJ<|And.intro @R0<|And.intro @Pd <|
 And.intro @R2<|And.intro @Se<|And.intro @SA<|And.intro @Ot<|And.intro @KR<|And.intro @Pm<|And.intro @Pk <|
 And.intro @SI<|And.intro @So<|And.intro @O6<|And.intro @Nr<|And.intro @Kl<|And.intro @Oa<|And.intro @Xp <|
 And.intro @MC<|And.intro @VJ<|And.intro @RT<|And.intro @VY<|And.intro @Vt<|And.intro @gL<|And.intro @Xj <|
 And.intro @List.length_map.{0,0}<|And.intro @List.all_cons.{0}<|And.intro @List.all_nil.{0}<|And.intro @Pj<|And.intro @Bool.and_self <|
 And.intro @Bool.and_true<|And.intro @NN<|And.intro @Sk<|And.intro @Th<|And.intro @OF<|And.intro @Nu <|
 And.intro @Pr<|And.intro @Oc<|And.intro @Oq<|And.intro @Of<|And.intro @PJ<|And.intro @NY<|And.intro @Nk <|
 And.intro @SB<|And.intro @Tl<|And.intro @Value.bool.injEq<|And.intro @decide_eq_true_eq<|And.intro @decide_eq_false_iff_not <|
 And.intro @Bool.not_true<|And.intro @Bool.not_false<|And.intro @decide_true<|And.intro @decide_false<|And.intro @Bool.not_eq_true' <|
 And.intro @Bool.not_eq_false'<|And.intro @Bool.false_eq_true<|And.intro @false_and<|And.intro @and_false<|And.intro @Option.map_some.{0,0} <|
 And.intro @Option.map_none.{0,0}<|And.intro @if_true.{1}<|And.intro @if_false.{1}<|And.intro @List.map_cons.{0,0}<|And.intro @List.map_nil.{0,0} <|
 And.intro @List.cons_append.{0}<|And.intro @List.nil_append.{0}<|And.intro @and_true<|And.intro @true_and<|And.intro @Nat.zero_add <|
 And.intro @Nat.add_zero<|And.intro @List.length_cons.{0}<|And.intro @List.length_nil.{0}<|And.intro @Lu<|And.intro @List.getD_cons_zero.{0} <|
 And.intro @List.getD_cons_succ.{0}<|And.intro @List.getD_nil.{0}<|And.intro @VV.sc.injEq<|And.intro @List.getElem?_cons_zero.{0} <|
 And.intro @List.getElem?_cons_succ.{0}<|And.intro @IJ<|And.intro @Kx<|And.intro @Lv<|And.intro @HX <|
 And.intro @K5<|And.intro @KK<|And.intro @DG<|And.intro @Gt<|And.intro @Jk<|And.intro @ahI<|And.intro @agM <|
 And.intro @agR<|And.intro @ajO<|And.intro @aiS<|And.intro @ajR<|And.intro @aiU<|And.intro @ajG<|And.intro @aiW<|And.intro @ahH <|
 And.intro @ajM<|And.intro @ajA<|And.intro @ahT<|And.intro @agW <| @ahJ) :=
 And.intro @VG<|And.intro @V8<|And.intro @Og<|And.intro @Td<|And.intro @SH<|And.intro @Ym<|And.intro @SP <|
 And.intro @Om<|And.intro @AA<|And.intro @C6<|And.intro @EU<|And.intro @CW<|And.intro @By <|
 And.intro @JK<|And.intro @EJ<|And.intro @KY<|And.intro @Ih<|And.intro @Pv<|And.intro @N0 <|
 And.intro @Jg<|And.intro @KF<|And.intro @XS<|And.intro @aaL<|And.intro @V7<|And.intro @aaF<|And.intro @GZ <|
 And.intro @Xr<|And.intro @NZ<|And.intro @S3<|And.intro @Sc<|And.intro @KU<|And.intro @K1<|And.intro @Wt <|
 And.intro @Sn<|And.intro @Sm<|And.intro @SQ<|And.intro @Tb<|And.intro @KJ<|And.intro @Ti<|And.intro @K2 <|
 And.intro @Ln<|And.intro @NH<|And.intro @OU<|And.intro @Pf<|And.intro @R5<|And.intro @PE<|And.intro @RM <|
 And.intro @R9<|And.intro @Ob<|And.intro @Tc<|And.intro @Sv<|And.intro @RZ<|And.intro @Nv<|And.intro @S8 <|
 And.intro @KE<|And.intro @SV<|And.intro @Pg<|And.intro @Ls<|And.intro @OB<|And.intro @KC <|
 And.intro @IA<|And.intro @Lk<|And.intro @Oh<|And.intro @Lq<|And.intro @Im<|And.intro @KL <|
 And.intro @rP<|And.intro @Lo<|And.intro @S4<|And.intro @Kt<|And.intro @NJ<|And.intro @R0<|And.intro @Pd <|
 And.intro @R2<|And.intro @Se<|And.intro @SA<|And.intro @Ot<|And.intro @KR<|And.intro @Pm<|And.intro @Pk <|
 And.intro @SI<|And.intro @So<|And.intro @O6<|And.intro @Nr<|And.intro @Kl<|And.intro @Oa<|And.intro @Xp <|
 And.intro @MC<|And.intro @VJ<|And.intro @RT<|And.intro @VY<|And.intro @Vt<|And.intro @gL<|And.intro @Xj <|
 And.intro @List.length_map.{0,0}<|And.intro @List.all_cons.{0}<|And.intro @List.all_nil.{0}<|And.intro @Pj<|And.intro @Bool.and_self <|
 And.intro @Bool.and_true<|And.intro @NN<|And.intro @Sk<|And.intro @Th<|And.intro @OF<|And.intro @Nu <|
 And.intro @Pr<|And.intro @Oc<|And.intro @Oq<|And.intro @Of<|And.intro @PJ<|And.intro @NY<|And.intro @Nk <|
 And.intro @SB<|And.intro @Tl<|And.intro @Value.bool.injEq<|And.intro @decide_eq_true_eq<|And.intro @decide_eq_false_iff_not <|
 And.intro @Bool.not_true<|And.intro @Bool.not_false<|And.intro @decide_true<|And.intro @decide_false<|And.intro @Bool.not_eq_true' <|
 And.intro @Bool.not_eq_false'<|And.intro @Bool.false_eq_true<|And.intro @false_and<|And.intro @and_false<|And.intro @Option.map_some.{0,0} <|
 And.intro @Option.map_none.{0,0}<|And.intro @if_true.{1}<|And.intro @if_false.{1}<|And.intro @List.map_cons.{0,0}<|And.intro @List.map_nil.{0,0} <|
 And.intro @List.cons_append.{0}<|And.intro @List.nil_append.{0}<|And.intro @and_true<|And.intro @true_and<|And.intro @Nat.zero_add <|
 And.intro @Nat.add_zero<|And.intro @List.length_cons.{0}<|And.intro @List.length_nil.{0}<|And.intro @Lu<|And.intro @List.getD_cons_zero.{0} <|
 And.intro @List.getD_cons_succ.{0}<|And.intro @List.getD_nil.{0}<|And.intro @VV.sc.injEq<|And.intro @List.getElem?_cons_zero.{0} <|
 And.intro @List.getElem?_cons_succ.{0}<|And.intro @IJ<|And.intro @Kx<|And.intro @Lv<|And.intro @HX <|
 And.intro @K5<|And.intro @KK<|And.intro @DG<|And.intro @Gt<|And.intro @Jk<|And.intro @ahI<|And.intro @agM <|
 And.intro @agR<|And.intro @ajO<|And.intro @aiS<|And.intro @ajR<|And.intro @aiU<|And.intro @ajG<|And.intro @aiW<|And.intro @ahH <|
 And.intro @ajM<|And.intro @ajA<|And.intro @ahT<|And.intro @agW <| @ahJ
theorem qF:type_of% (
 And.intro @cH<|And.intro @Bs<|And.intro @GG<|And.intro @KB<|And.intro @jI<|And.intro @KS <|
 And.intro @G1<|And.intro @It<|And.intro @GO<|And.intro @aT<|And.intro @yT<|And.intro @List.set_cons_zero.{0} <|
 And.intro @List.set_cons_succ.{0}<|And.intro @rI<|And.intro @uO<|And.intro @lT.eq_1<|And.intro @oF.eq_1 <|
 And.intro @oF.eq_2<|And.intro @C0.eq_1<|And.intro @C0.eq_2<|And.intro @tZ.eq_1<|And.intro @tZ.eq_2<|And.intro @EO <|
 And.intro @Ad<|And.intro @Cn<|And.intro @Cf<|And.intro @Ko<|And.intro @List.take_zero.{0} <|
 And.intro @List.take_succ_cons.{0}<|And.intro @List.take_nil.{0}<|And.intro @List.drop_zero.{0}<|And.intro @List.drop_succ_cons.{0} <|
 And.intro @List.drop_nil.{0}<|And.intro @List.append_nil.{0}<|And.intro @Nat.le_refl<|And.intro @cN.eq_1<|And.intro @Int.toNat_natCast <|
 And.intro @eq_self.{1}<|And.intro @ge_iff_le.{0} <| @Bool.and_eq_true) :=
 And.intro @cH<|And.intro @Bs<|And.intro @GG<|And.intro @KB<|And.intro @jI<|And.intro @KS <|
 And.intro @G1<|And.intro @It<|And.intro @GO<|And.intro @aT<|And.intro @yT<|And.intro @List.set_cons_zero.{0} <|
 And.intro @List.set_cons_succ.{0}<|And.intro @rI<|And.intro @uO<|And.intro @lT.eq_1<|And.intro @oF.eq_1 <|
 And.intro @oF.eq_2<|And.intro @C0.eq_1<|And.intro @C0.eq_2<|And.intro @tZ.eq_1<|And.intro @tZ.eq_2<|And.intro @EO <|
 And.intro @Ad<|And.intro @Cn<|And.intro @Cf<|And.intro @Ko<|And.intro @List.take_zero.{0} <|
 And.intro @List.take_succ_cons.{0}<|And.intro @List.take_nil.{0}<|And.intro @List.drop_zero.{0}<|And.intro @List.drop_succ_cons.{0} <|
 And.intro @List.drop_nil.{0}<|And.intro @List.append_nil.{0}<|And.intro @Nat.le_refl<|And.intro @cN.eq_1<|And.intro @Int.toNat_natCast <|
 And.intro @eq_self.{1}<|And.intro @ge_iff_le.{0} <| @Bool.and_eq_true
end Go.PM
namespace Go.PM
theorem TC.vt {f:Nat} {args:List VV} {r:VV} (h:TC f args r) (vB:BJ.contains f=false) (hp:aP args=true):VT f args r:=by
 have h1:=h 0 [] fun x _=>x=r
 unfold cZ at h1
 simp only[vB,hp,Bool.false_eq_true,if_false,if_true] at h1
 have h2:DQ f args fun x=>x=r:=by rw[h1];trivial
 unfold DQ tk at h2
 split at h2
 ·rename_i x hx
  rw[←h2]
  exact(ML hx).2.2
 ·exact h2.elim
theorem TC.yes {f:Nat} {args:List VV} {dT:List Value} {H:aD} (h:TC f args (.sc (.bool true))) (vB:BJ.contains f=false) (hp:aP args=true) (hl:VL (bare (· < H.length) H) args dT) :
  ∃v H',oL f dT H.length H=some (v,H')∧v = .bool true:=by
 obtain⟨P',pv,h1,_,h2⟩:=h.vt vB hp (· < H.length) H dT H.length (fun _ h=>h) hl (Nat.le_refl _)
 cases h2
 exact⟨_,P',h1,rfl⟩
theorem VR.grow {H L:aD} {x:VV} {v:Value} (h:VR (bare (· < H.length) H) x v):VR (bare (· < (H++L).length) (H++L)) x v :=
 h.Ba fun b hb=>⟨by show b<_;rw[List.length_append];omega,List.getElem?_append_left hb⟩
end Go.PM
namespace Go.PM
mutual
def dD (n:Nat):VV→Bool
 | .any=>false
 | .sc v=>jR v
 | .agg cs=>kY n cs
 | .dQ vs=>kY n vs
 | .tree es k=>es.isEmpty&&decide (k = .nil)
 | .cY _ _=>false
 | .ref b _ _ _ _=>decide (n≤b)
 | .ptr b _ _ _=>decide (n≤b)
 | .sC _ _=>false
def kY (n:Nat):List VV→Bool
 | []=>true
 | x::xs=>dD n x&&kY n xs
end
theorem BN {n:Nat} {es:List VV}:kY n es=true↔∀x∈es,dD n x=true:=by
 induction es with
 | nil=>simp[kY]
 | cons x xs ih=>simp[kY,ih]
theorem UO {n:Nat} {es:List VV} (h:kY n es=true):kY n (es.flatMap aB)=true:=by
 rw[BN] at h ⊢
 intro x hx
 obtain⟨y,hy,yM⟩:=List.mem_flatMap.1 hx
 have:=h y hy
 unfold aB at yM
 split at yM
 ·exact BN.1 (by simpa[dD] using this) x yM
 ·rw[List.mem_singleton] at yM;subst yM;exact this
def dL (n:Nat) (L:aA):Bool:=L.all fun
 | .row _ es _ _=>kY n es
 | .dead=>true
theorem VR.own {V V':View} {k0:Nat} (M8:∀q,V.base≤q∧q<V.P.length→V'.base≤q∧q<V'.P.length∧∀b' g' es e w,b'<k0→V'.H[b']? = some (.row g' es e w)→V'.m b'≠q) (hl:V.H.length≤V'.H.length) (hH:∀b,k0≤b→V'.H[b]? = V.H[b]?) (hm:∀b,k0≤b→V'.m b=V.m b) {x:VV} {v:Value} (h:VR V x v):dD k0 x=true→VR V' x v:=by
 induction h using VR.rec (motive_2:=fun xs vs _=>kY k0 xs=true→VL V' xs vs) with
 | any=>intro hx;cases hx
 | sc _ h=>intro _;exact .sc _ h
 | agg cs ps _ ih=>intro hx;exact .agg _ _ (ih hx)
 | dQ cs ps _ ih=>intro hx;exact .dQ _ _ (ih hx)
 | mU k hk=>intro _;exact .mU k hk
 |
  tree es k b o c r e p hF hb ho hc he hk _ _ =>
  intro hx
  simp only[dD,Bool.and_eq_true,decide_eq_true_eq] at hx
  obtain⟨_,rfl⟩:=hx
  exact hk.elim
 | cY=>intro hx;cases hx
 |
  ref b g o n c a n' c' aV hg ha hq =>
  intro hx
  have hb:k0≤b:=by simpa[dD] using hx
  exact .ref b g o n c a n' c' (Nat.lt_of_lt_of_le aV hl) (fun g' es e w hr=>hg g' es e w (by rw[←hH b hb];exact hr)) (fun es e w hr=>by rw[hm b hb];exact ha es e w (by rw[←hH b hb];exact hr)) fun a0 h=>by
   obtain⟨q1,q2,q3⟩:=hq a0 h
   obtain⟨q4,q5,q6⟩:=M8 _ ⟨q1,q2⟩
   refine⟨q4,q5,fun b' g' es e w hr eT => ?_⟩
   rcases Nat.lt_or_ge b' k0 with Jc | CC
   ·exact q6 b' g' es e w Jc hr
   ·rw[hm b' CC]
    exact q3 b' g' es e w (by rw[←hH b' CC];exact hr) eT
 |
  ptr b g j off a aV hg ha hq =>
  intro hx
  have hb:k0≤b:=by simpa[dD] using hx
  exact .ptr b g j off a (Nat.lt_of_lt_of_le aV hl) (fun g' es e w hr=>hg g' es e w (by rw[←hH b hb];exact hr)) (fun es e w hr=>by rw[hm b hb];exact ha es e w (by rw[←hH b hb];exact hr)) fun a0 h=>by
   obtain⟨q1,q2,q3⟩:=hq a0 h
   obtain⟨q4,q5,q6⟩:=M8 _ ⟨q1,q2⟩
   refine⟨q4,q5,fun b' g' es e w hr eT => ?_⟩
   rcases Nat.lt_or_ge b' k0 with Jc | CC
   ·exact q6 b' g' es e w Jc hr
   ·rw[hm b' CC]
    exact q3 b' g' es e w (by rw[←hH b' CC];exact hr) eT
 | sC=>intro hx;cases hx
 | nil=>exact .nil
 |
  cons x v xs vs _ _ ih Qj =>
  rename_i hx
  simp only[kY,Bool.and_eq_true] at hx
  exact .cons _ _ _ _ (ih hx.1) (Qj hx.2)
theorem VL.own {V V':View} {n:Nat} (M8:∀q,V.base≤q∧q<V.P.length→V'.base≤q∧q<V'.P.length∧∀b' g' es e w,b'<n→V'.H[b']? = some (.row g' es e w)→V'.m b'≠q) (hl:V.H.length≤V'.H.length) (hH:∀b,n≤b→V'.H[b]? = V.H[b]?) (hm:∀b,n≤b→V'.m b=V.m b) {xs:List VV} {vs:List Value} (h:VL V xs vs) (hx:kY n xs=true):VL V' xs vs:=by
 induction xs generalizing vs with
 | nil=>cases h;exact .nil
 |
  cons x xs ih=>cases h with
  |
   cons _ v _ vs h hs =>
   simp only[kY,Bool.and_eq_true] at hx
   exact .cons _ _ _ _ (h.own M8 hl hH hm hx.1) (ih hs hx.2)
theorem VL.Ba {V':View} {G:Nat→Prop} {P:aD} {xs:List VV} {vs:List Value} (hF:∀b,G b→V'.F b∧V'.P[b]? = P[b]?) (h:VL (bare G P) xs vs):VL V' xs vs:=by
 induction xs generalizing vs with
 | nil=>cases h;exact .nil
 |
  cons x xs ih=>cases h with
  | cons _ v _ vs h hs=>exact .cons _ _ _ _ (h.Ba hF) (ih hs)
def FC (f:Nat) (args:List VV) (R:Nat→VV→aA→Prop):Prop :=
 ∀n,iV f args n (List.replicate n .dead) fun r H'=>∃L,H'=List.replicate n .dead++L∧dD n r=true∧dL n L=true∧R n r L
theorem FC.walk {f:Nat} {pf:aS} {args:List VV} {R:Nat→VV→aA→Prop} (fl:Fl) (ht:iB f=some pf) (hn:args.length≤pf.ntmps)
  (h:∀n,VW fl n pf.body (zF pf.res fun r H'=>∃L,H'=List.replicate n .dead++L∧dD n r=true∧dL n L=true∧R n r L) (GX args) (List.replicate n .dead)):FC f args R :=
 fun n=>iV.walk fl ht hn (h n)
theorem FC.raw {f:Nat} {args gQ:List VV} {R:Nat→VV→aA→Prop} {H:aA} {lo:Nat} (h:FC f gQ R) (hf:args.mapM (fz depth H)=some gQ):iV f args lo H fun r H'=>∃L,H'=H++L∧R H.length r L∧dD H.length r=true∧dL H.length L=true:=by
 intro V dS dT hH hS hl
 have h1:=h H.length
 let V0:View:={ m:=V.m,F:=(· < V.P.length),H:=List.replicate H.length .dead,P:=V.P,base:=V.P.length }
 have Jm:∀(b g:Nat) (es:List VV) (e:Nat) (w:Bool),V0.H[b]? ≠ some (.row g es e w):=by
  intro b g es e w hb
  have:=List.eq_of_mem_replicate (List.mem_of_getElem? hb)
  cases this
 have hS0:SR V0 H.length dS:=⟨fun b g es e w hb=>absurd hb (Jm _ _ _ _ _),fun b g es e hb=>absurd hb (Jm _ _ _ _ _),fun a b g es e w _ _ _ _ ha=>absurd ha (Jm _ _ _ _ _),fun b hb=>hb,hS.PO,Nat.le_refl _⟩
 have wX:VL V0 gQ dT:=by
  have:=BS hS (G:=(· < V.P.length)) (fun q hq=>hS.fr q hq) hl (by rw[hH];exact hf) (fun i _ g es e w hb=>hS.mlt hb)
  exact VL.Ba (V':=V0) (fun b hb=>⟨hb,rfl⟩) this
 obtain⟨pv,V1,r,k1,k3,k4,k5,L,k2,h2,h3,hR⟩:=h1 V0 dS dT rfl hS0 wX
 have Sj:∀b g es e w,V1.H[b]? = some (.row g es e w)→V.P.length≤V1.m b:=by
  intro b g es e w hb
  rcases Nat.lt_or_ge (V1.m b) V.P.length with aV | CC
  ·obtain⟨g0,es0,w0,j1,_⟩:=k4.zM b g es e w hb aV
   exact absurd j1 (Jm _ _ _ _ _)
  ·exact CC
 have ajV:V1.H.length=H.length+(L).length:=by rw[k2];simp
 have xD:∀q,q<V.P.length→V1.P[q]? = V.P[q]? := fun q hq=>k4.bM q hq fun b g es e hb=>absurd hb (Jm _ _ _ _ _)
 let V2:View:={ m:=fun b=>if b<H.length then V.m b else V1.m b,F:=V.F,H:=H++L,P:=V1.P,base:=V.base }
 have ZU:∀b,H.length≤b→V2.H[b]? = V1.H[b]? := fun b hb=>by
  show (H++L)[b]? = _
  rw[k2,List.getElem?_append_right hb,List.getElem?_append_right (by simpa using hb),List.length_replicate]
 have mL:∀b,H.length≤b→V2.m b=V1.m b:=fun b hb=>by
  show (if b<H.length then V.m b else V1.m b)=_
  rw[if_neg (by omega)]
 have ZN:∀b,b<H.length→V2.H[b]? = V.H[b]? := fun b hb=>by
  show (H++L)[b]? = _
  rw[List.getElem?_append_left hb,hH]
 have mS:∀b,b<H.length→V2.m b=V.m b:=fun b hb=>by
  show (if b<H.length then V.m b else V1.m b)=_
  rw[if_pos hb]
 have hU:Up V V2:=⟨fun _ h=>h,fun b hb=>xD b (hS.fr b hb),by show V.H.length≤(H++L).length;rw[hH];simp,fun b g es e w aV hb=>⟨g,es,w,by rw[←ZN b (by rw[←hH];exact aV)];exact hb,Nat.le_refl _,fun _=>mS b (by rw[←hH];exact aV)⟩,rfl,k4.Cr,fun b g es e w hb hm=>by
   rcases Nat.lt_or_ge b H.length with h | h
   ·exact⟨g,es,w,by rw[←ZN b h];exact hb,mS b h,id⟩
   ·rw[mL b h] at hm
    have:=Sj b g es e w (by rw[←ZU b h];exact hb)
    omega⟩
 have Sz:∀ {b g es e w},V2.H[b]? = some (.row g es e w)→(b<H.length∧V.H[b]? = some (.row g es e w))∨(H.length≤b∧V1.H[b]? = some (.row g es e w)):=by
  intro b g es e w hb
  rcases Nat.lt_or_ge b H.length with h | h
  ·exact .inl ⟨h,by rw[←ZN b h];exact hb⟩
  ·exact .inr ⟨h,by rw[←ZU b h];exact hb⟩
 have aaM:V1.H.length≤V2.H.length:=by show _≤(H++L).length;rw[ajV];simp
 have ahR:∀ {b g es e w},H.length≤b→V1.H[b]? = some (.row g es e w)→kY H.length es=true:=by
  intro b g es e w hb hr
  rw[k2,List.getElem?_append_right (by simpa using hb)] at hr
  exact List.all_eq_true.1 h3 _ (List.mem_of_getElem? hr)
 have M8:∀q,V1.base≤q∧q<V1.P.length→V2.base≤q∧q<V2.P.length∧∀b' g' es e w,b'<H.length→V2.H[b']? = some (.row g' es e w)→V2.m b'≠q:=by
  intro q hq
  have CI:V.P.length≤q:=by have:=k4.HD;rw[this] at hq;exact hq.1
  refine⟨Nat.le_trans hS.HD CI,hq.2,fun b' g' es e w aV hr hm => ?_⟩
  rw[mS b' aV] at hm
  have:=hS.mlt (by rw[←ZN b' aV];exact hr)
  omega
 refine⟨pv,V2,r,k1,⟨fun b g es e w hb => ?_,fun b g es e hb => ?_,fun a b g es e w g' kU e' w' ha hb hm => ?_,fun b hb => ?_,?_,Nat.le_trans hS.HD k4.Cr⟩,{ hU with bM:=fun q hq _=>xD q hq,AT:=fun q hq => .inl hq },?_,L,rfl,hR,h2,h3⟩
 ·rcases Sz hb with⟨h,hb⟩ | ⟨h,hb⟩
  ·obtain⟨r,p,j1,j2,j3⟩:=hS.row b g es e w hb
   exact⟨r,p,by rw[mS b h];exact(xD _ (hS.mlt hb)).trans j1,j2,j3.mono hU⟩
  ·obtain⟨r,p,j1,j2,j3⟩:=k3.row b g es e w hb
   exact⟨r,p,by rw[mL b h];exact j1,j2,j3.own M8 aaM (fun b hb=>ZU b hb) (fun b hb=>mL b hb) (UO (ahR h hb))⟩
 ·rcases Sz hb with⟨h,hb⟩ | ⟨h,hb⟩
  ·rw[mS b h]
   exact hS.wr b g es e hb
  ·rw[mL b h]
   have:=Sj b g es e true hb
   exact⟨fun hF=>by have:=hS.fr _ hF;omega,fun _=>Nat.le_trans hS.PO this⟩
 ·rcases Sz ha with⟨h,ha⟩ | ⟨h,ha⟩<;>rcases Sz hb with⟨h',hb⟩ | ⟨h',hb⟩
  ·rw[mS a h,mS b h'] at hm
   exact hS.inj a b _ _ _ _ _ _ _ _ ha hb hm
  ·rw[mS a h,mL b h'] at hm
   have:=Sj b _ _ _ _ hb
   have:=hS.mlt ha
   omega
  ·rw[mL a h,mS b h'] at hm
   have:=Sj a _ _ _ _ ha
   have:=hS.mlt hb
   omega
  ·rw[mL a h,mL b h'] at hm
   exact k3.inj a b _ _ _ _ _ _ _ _ ha hb hm
 ·exact Nat.lt_of_lt_of_le (hS.fr b hb) k4.Cr
 ·exact Nat.le_trans hS.PO k4.Cr
 ·exact k5.own M8 aaM (fun b hb=>ZU b hb) (fun b hb=>mL b hb) h2
theorem eB {f:Nat} {args:List VV} {lo:Nat} {H:aA} {K:VV→aA→Prop} (vB:BJ.contains f=true) (h:iV f args lo H K):cZ f args lo H K:=by
 unfold cZ
 rw[if_pos vB]
 exact h
theorem FC.call {f:Nat} {args gQ:List VV} {R:Nat→VV→aA→Prop} {H:aA} {lo:Nat} {K:VV→aA→Prop} (h:FC f gQ R) (vB:BJ.contains f=true) (hf:args.mapM (fz depth H)=some gQ) (hk:∀r L,R H.length r L→K r (H++L)):cZ f args lo H K :=
 eB vB ((h.raw hf).mono fun r H' ⟨L,h1,h2,_⟩=>by subst h1;exact hk r L h2)
theorem FC.WC {f:Nat} {args gQ:List VV} {R:Nat→VV→aA→Prop} {H:aA} {lo:Nat} {K:VV→aA→Prop} (h:FC f gQ R) (vB:BJ.contains f=true) (hf:args.mapM (fz depth H)=some gQ) (hk:∀r L,R H.length r L→dD H.length r=true→dL H.length L=true→K r (H++L)):cZ f args lo H K :=
 eB vB ((h.raw hf).mono fun r H' ⟨L,h1,h2,h3,h4⟩=>by subst h1;exact hk r L h2 h3 h4)
def Ar (H K:aA):Prop:=K.length=H.length∧∀(b g:Nat) (es:List VV) (e:Nat) (w:Bool),K[b]? = some (.row g es e w)→H[b]? = some (.row g es e w)
theorem VR.kill {V:View} {K:aA} (hK:Ar V.H K) {x:VV} {v:Value} (h:VR V x v):VR { V with H:=K } x v:=by
 induction h using VR.rec (motive_2:=fun xs vs _=>VL { V with H:=K } xs vs) with
 | any=>exact .any _
 | sc _ h=>exact .sc _ h
 | agg cs ps _ ih=>exact .agg _ _ ih
 | dQ cs ps _ ih=>exact .dQ _ _ ih
 | mU k hk=>exact .mU k hk
 | tree es k b o c r e p hF hb ho hc he hk _ ih=>exact .tree es k b o c r e p hF hb ho hc he hk ih
 | cY x off b o r e p hF hb ho _ ih=>exact .cY x off b o r e p hF hb ho ih
 |
  ref b g o n c a n' c' aV hg ha hq =>
  exact .ref b g o n c a n' c' (by show b<K.length;rw[hK.1];exact aV) (fun g' es e w hr=>hg g' es e w (hK.2 _ _ _ _ _ hr)) (fun es e w hr=>ha es e w (hK.2 _ _ _ _ _ hr)) fun a0 h=>⟨(hq a0 h).1,(hq a0 h).2.1,fun b' g' es e w hr=>(hq a0 h).2.2 b' g' es e w (hK.2 _ _ _ _ _ hr)⟩
 |
  ptr b g j off a aV hg ha hq =>
  exact .ptr b g j off a (by show b<K.length;rw[hK.1];exact aV) (fun g' es e w hr=>hg g' es e w (hK.2 _ _ _ _ _ hr)) (fun es e w hr=>ha es e w (hK.2 _ _ _ _ _ hr)) fun a0 h=>⟨(hq a0 h).1,(hq a0 h).2.1,fun b' g' es e w hr=>(hq a0 h).2.2 b' g' es e w (hK.2 _ _ _ _ _ hr)⟩
 | sC f fC ps _ ih=>exact .sC _ _ _ ih
 | nil=>exact .nil
 | cons x v xs vs _ _ ih Qj=>exact .cons _ _ _ _ ih Qj
theorem VL.kill {V:View} {K:aA} (hK:Ar V.H K) {xs:List VV} {vs:List Value} (h:VL V xs vs):VL { V with H:=K } xs vs:=by
 induction xs generalizing vs with
 | nil=>cases h;exact .nil
 |
  cons x xs ih=>cases h with
  | cons _ v _ vs h hs=>exact .cons _ _ _ _ (h.kill hK) (ih hs)
theorem iV.kill {f:Nat} {args:List VV} {lo:Nat} {H:aA} {P P':VV→aA→Prop} (h:iV f args lo H P) (hk:∀v H',P v H'→∃K,Ar H' K∧P' v K):iV f args lo H P':=by
 intro V dS dT hH hS hl
 obtain⟨pv,V',v,h1,h2,h3,h4,h5⟩:=h V dS dT hH hS hl
 obtain⟨K,hK,h6⟩:=hk _ _ h5
 refine⟨pv,{ V' with H:=K },v,h1,⟨fun b g es e w hb => ?_,fun b g es e hb=>h2.wr b g es e (hK.2 _ _ _ _ _ hb),fun a b g es e w g' kU e' w' ha hb hm=>h2.inj a b _ _ _ _ _ _ _ _ (hK.2 _ _ _ _ _ ha) (hK.2 _ _ _ _ _ hb) hm,h2.fr,h2.PO,h2.HD⟩,
  { F:=h3.F,P:=h3.P,len:=by show V.H.length≤K.length;rw[hK.1];exact h3.len,row:=fun b g es e w aV hb=>h3.row b g es e w aV (hK.2 _ _ _ _ _ hb),HD:=h3.HD,Cr:=h3.Cr,zM:=fun b g es e w hb hm=>h3.zM b g es e w (hK.2 _ _ _ _ _ hb) hm,bM:=h3.bM,AT:=h3.AT },h4.kill hK,h6⟩
 obtain⟨r,p,j1,j2,j3⟩:=h2.row b g es e w (hK.2 _ _ _ _ _ hb)
 exact⟨r,p,j1,j2,j3.kill hK⟩
theorem FC.D6 {f:Nat} {pf:aS} {args:List VV} {R:Nat→VV→aA→Prop} (fl:Fl) (ht:iB f=some pf) (hn:args.length≤pf.ntmps)
  (h:∀n,VW fl n pf.body (zF pf.res fun r H'=>∃L,Ar H' (List.replicate n .dead++L)∧dD n r=true∧dL n L=true∧R n r L) (GX args) (List.replicate n .dead)):FC f args R :=
 fun n=>(iV.walk fl ht hn (h n)).kill fun _ _ ⟨L,h1,h2,h3,h4⟩=>⟨_,h1,L,rfl,h2,h3,h4⟩
end Go.PM
namespace Go.PM
open Go.ChangeShapes Go.WideShapes Go.ChangeAt Go.RowKit
open Go.Proofs
structure Fb (m m':dH) (H L:aD) (W:World) (cs pcs:List Value) (vs:List VV):Prop where
 inn:In m' (H++L) W
 ext:∀b l,m b=some l→m' b=some l
 len:pcs.length=cs.length
 rv:∀i,i<cs.length→RV m' (pcs.getD i Go.undef) (cs.getD i Go.undef)
 sc:∀v∈pcs,PM.fD v=true
 tree:VL (bare (· < (H++L).length) (H++L)) vs pcs
theorem VL.grow {H L:aD} {xs:List VV} {vs:List Value} (h:VL (bare (· < H.length) H) xs vs):VL (bare (· < (H++L).length) (H++L)) xs vs :=
 h.Ba fun b hb=>⟨by show b<_;rw[List.length_append];omega,List.getElem?_append_left hb⟩
theorem VL.app {V:View} {xs ys:List VV} {vs ws:List Value} (h:VL V xs vs) (h':VL V ys ws):VL V (xs++ys) (vs++ws):=by
 induction xs generalizing vs with
 | nil=>cases h;exact h'
 |
  cons x xs ih=>cases h with
  | cons _ v _ vs h hs=>exact .cons _ _ _ _ h (ih hs)
theorem KG {cs ds:List Value} {i:Nat} (h:i<cs.length):(cs++ds).getD i Go.undef=cs.getD i Go.undef:=by
 simp only[List.getD_eq_getElem?_getD,List.getElem?_append_left h]
theorem HS {cs ds:List Value} {i:Nat} (h:cs.length≤i):(cs++ds).getD i Go.undef=ds.getD (i-cs.length) Go.undef:=by
 simp only[List.getD_eq_getElem?_getD,List.getElem?_append_right h]
theorem Fb.both {m m1 m2:dH} {H L1 L2:aD} {W:World} {cs pcs zI ajJ:List Value} {vs vs':List VV} (h:Fb m m1 H L1 W cs pcs vs) (h':Fb m1 m2 (H++L1) L2 W zI ajJ vs'):Fb m m2 H (L1++L2) W (cs++zI) (pcs++ajJ) (vs++vs'):=by
 refine⟨by rw[←List.append_assoc];exact h'.inn,fun b l hb=>h'.ext _ _ (h.ext _ _ hb),by simp[h.len,h'.len],fun i hi => ?_,fun v hv => ?_,?_⟩
 ·rcases Nat.lt_or_ge i cs.length with aV | CC
  ·rw[KG aV,KG (by rw[h.len];exact aV)]
   exact(h.rv i aV).mono h'.ext
  ·rw[HS CC,HS (by rw[h.len];exact CC),h.len]
   exact h'.rv _ (by rw[List.length_append] at hi;omega)
 ·rcases List.mem_append.1 hv with hv | hv
  ·exact h.sc v hv
  ·exact h'.sc v hv
 ·rw[←List.append_assoc]
  exact h.tree.grow.app h'.tree
theorem Fb.none {m:dH} {H:aD} {W:World} (hI:In m H W):Fb m m H [] W [] [] [] :=
 ⟨by rw[List.append_nil];exact hI,fun _ _ h=>h,rfl,fun i hi=>absurd hi (Nat.not_lt_zero _),fun v hv=>(by cases hv),.nil⟩
end Go.PM
namespace Go.PM
def lM:aE:=(.seq (LS [LM 11 5,LM 12 0,LO 13 (.len (LT 12)),LO 14 (.bin .lss (LT 11) (LT 13))] (.cond (LT 14) .skip (.exit 0))) (.seq (.block 1 (LS [LM 17 0,LM 18 5,LO 19 (.iaddr 1 (LT 17) (LT 18)),LO 20 (LL 19),LM 21 1,LM 22 5,LO 23 (.iaddr 1 (LT 21) (LT 22)),LO 24 (LL 23),LO 25 (.bin .neq (LT 20) (LT 24))] (.cond (LT 25) (LS [LO 4 (.mv LF)] .ret) .skip))) (.eO [LM 15 5,LO 16 (.bin .add (LT 15) (LI 1)),LM 5 16])))
def qV:aE:=(LS [LO 4 (.mv LF)] (.seq (LS [LM 6 0,LO 7 (.len (LT 6)),LM 8 1,LO 9 (.len (LT 8)),LO 10 (.bin .neq (LT 7) (LT 9))] (.cond (LT 10) (LS [LO 4 (.mv LF)] .ret) .skip)) (.seq (LS [LO 5 (.mv (LI 0))] (.block 0 (.loop lM))) (LS [LO 4 (.mv LG)] .ret))))
def vA:aS:=⟨26,[(.tmp 4)],qV⟩
theorem Fw:iB 54=some vA:=by kernel_rfl
def jU:aE:=(.seq (LS [LM 6 5,LM 7 0,LO 8 (.len (LT 7)),LO 9 (.bin .lss (LT 6) (LT 8))] (.cond (LT 9) .skip (.exit 0))) (.seq (.block 1 (LS [LM 12 0,LM 13 5,LM 14 1,LO 15 (.call 130 [(LT 14)]),LO 16 (.iaddr 1 (LT 12) (LT 13)),LN (.store 1 (LT 16) (LT 15))] (.eO [LM 17 1,LO 18 (.bin .add (LT 17) (LI 1)),LM 1 18]))) (.eO [LM 10 5,LO 11 (.bin .add (LT 10) (LI 1)),LM 5 11])))
def oK:aE:=(LS [LO 4 (.mv (LI 0))] (.seq (LS [LO 5 (.mv (LI 0))] (.block 0 (.loop jU))) (LS [LM 19 1,LM 4 19] .ret)))
def qM:aS:=⟨20,[(.tmp 4)],oK⟩
theorem uX:iB 50=some qM:=by kernel_rfl
def nO:aE:=(.seq (LS [LM 6 5,LM 7 0,LO 8 (.len (LT 7)),LO 9 (.bin .lss (LT 6) (LT 8))] (.cond (LT 9) .skip (.exit 0))) (.seq (.block 1 (.seq (LS [LM 12 0,LM 13 5,LO 14 (.iaddr 1 (LT 12) (LT 13)),LO 15 (LL 14),LM 16 1,LQ 17 (.call 130 [(LT 16)]),LO 18 (.bin .neq (LT 15) (LT 17))] (.cond (LT 18) (LS [LO 4 (.mv (LI (-1)))] .ret) .skip)) (.eO [LM 19 1,LO 20 (.bin .add (LT 19) (LI 1)),LM 1 20]))) (.eO [LM 10 5,LO 11 (.bin .add (LT 10) (LI 1)),LM 5 11])))
def vK:aE:=(LS [LO 4 (.mv (LI 0))] (.seq (LS [LO 5 (.mv (LI 0))] (.block 0 (.loop nO))) (LS [LM 21 1,LM 4 21] .ret)))
def zH:aS:=⟨22,[(.tmp 4)],vK⟩
theorem Dm:iB 57=some zH:=by kernel_rfl
def kB:aE:=(LS [LO 2 (.box (LT 0)),LO 3 (.box (LT 1)),LO 4 (.mv LF)] (.seq (LS [LO 5 (LA 0 2),LO 6 (LL 5),LO 7 (LA 0 3),LO 8 (LL 7),LO 9 (.call 54 [(LT 6),(LT 8)]),LO 10 (.un .not (LT 9))] (.cond (LT 10) (LS [LO 4 (.mv LF)] .ret) .skip)) (.seq (LS [LO 11 (LA 1 2),LO 12 (LL 11),LO 13 (LA 1 3),LO 14 (LL 13),LO 15 (.call 82 [(LT 12),(LT 14)]),LO 16 (.un .not (LT 15))] (.cond (LT 16) (LS [LO 4 (.mv LF)] .ret) .skip)) (.seq (LS [LO 17 (LA 2 2),LO 18 (LL 17),LO 19 (LA 2 3),LO 20 (LL 19),LO 21 (.call 54 [(LT 18),(LT 20)]),LO 22 (.un .not (LT 21))] (.cond (LT 22) (LS [LO 4 (.mv LF)] .ret) .skip)) (LS [LO 4 (.mv LG)] .ret)))))
def mE:aS:=⟨23,[(.tmp 4)],kB⟩
theorem F8:iB 22=some mE:=by kernel_rfl
def tU:aE:=(LS [LO 2 (.box (LT 0)),LO 4 (.mv (LI 0))] (LS [LO 5 (LA 0 2),LO 6 (LL 5),LM 7 1,LO 8 (.call 50 [(LT 6),(LT 7)]),LM 1 8] (LS [LO 9 (LA 1 2),LO 10 (LL 9),LM 11 1,LO 12 (.call 71 [(LT 10),(LT 11)]),LM 1 12] (LS [LO 13 (LA 2 2),LO 14 (LL 13),LM 15 1,LO 16 (.call 50 [(LT 14),(LT 15)]),LM 1 16] (LS [LM 17 1,LM 4 17] .ret)))))
def yU:aS:=⟨18,[(.tmp 4)],tU⟩
theorem Dy:iB 23=some yU:=by kernel_rfl
def uT:aE:=(LS [LO 2 (.box (LT 0)),LO 4 (.mv (LI 0))] (LS [LO 5 (LA 0 2),LO 6 (LL 5),LM 7 1,LO 8 (.call 57 [(LT 6),(LT 7)]),LM 1 8] (.seq (LS [LM 9 1,LO 10 (.bin .lss (LT 9) (LI 0))] (.cond (LT 10) (LS [LO 4 (.mv (LI (-1)))] .ret) .skip)) (LS [LO 11 (LA 1 2),LO 12 (LL 11),LM 13 1,LO 14 (.call 83 [(LT 12),(LT 13)]),LM 1 14] (.seq (LS [LM 15 1,LO 16 (.bin .lss (LT 15) (LI 0))] (.cond (LT 16) (LS [LO 4 (.mv (LI (-1)))] .ret) .skip)) (LS [LO 17 (LA 2 2),LO 18 (LL 17),LM 19 1,LO 20 (.call 57 [(LT 18),(LT 19)]),LM 1 20] (.seq (LS [LM 21 1,LO 22 (.bin .lss (LT 21) (LI 0))] (.cond (LT 22) (LS [LO 4 (.mv (LI (-1)))] .ret) .skip)) (LS [LM 23 1,LM 4 23] .ret))))))))
def yC:aS:=⟨24,[(.tmp 4)],uT⟩
theorem Dq:iB 24=some yC:=by kernel_rfl
def jN:aE:=(.seq (LS [LM 6 5,LM 7 0,LO 8 (.len (LT 7)),LO 9 (.bin .lss (LT 6) (LT 8))] (.cond (LT 9) .skip (.exit 0))) (.seq (.block 1 (.eO [LM 12 0,LM 13 5,LO 14 (.iaddr 1 (LT 12) (LT 13)),LO 15 (LL 14),LM 16 1,LO 17 (.call 50 [(LT 15),(LT 16)]),LM 1 17])) (.eO [LM 10 5,LO 11 (.bin .add (LT 10) (LI 1)),LM 5 11])))
def nM:aE:=(LS [LO 4 (.mv (LI 0))] (.seq (LS [LO 5 (.mv (LI 0))] (.block 0 (.loop jN))) (LS [LM 18 1,LM 4 18] .ret)))
def pZ:aS:=⟨19,[(.tmp 4)],nM⟩
theorem sP:iB 71=some pZ:=by kernel_rfl
def qW:aE:=(.seq (LS [LM 6 0,LO 7 (.bin .gtr (LT 6) (LI 0))] (.cond (LT 7) .skip (.exit 0))) (.block 1 (LS [LM 8 0,LO 9 (.bin .rem (LT 8) (LI 10)),LO 10 (.bin .add (LI 48) (LT 9)),LO 11 (.cvt .u8 (LT 10)),LO 12 (.lit [(.int .u8 0)] 1 [(0,(LT 11))]),LO 13 (.b2s (LT 12)),LM 14 3,LO 15 (.bin .add (LT 13) (LT 14)),LM 3 15] (.eO [LM 16 0,LO 17 (.bin .quo (LT 16) (LI 10)),LM 0 17]))))
def sL:aE:=(LS [LO 2 (.mv (.const (.string ⟨#[]⟩)))] (.seq (LS [LM 4 0,LO 5 (.bin .leq (LT 4) (LI 0))] (.cond (LT 5) (LS [LO 2 (.mv (.const (.string ⟨#[109,48]⟩)))] .ret) .skip)) (LS [LO 3 (.mv (.const (.string ⟨#[]⟩)))] (.seq (.block 0 (.loop qW)) (LS [LM 18 3,LO 19 (.bin .add (.const (.string ⟨#[109]⟩)) (LT 18)),LM 2 19] .ret)))))
def xM:aS:=⟨20,[(.tmp 2)],sL⟩
theorem G7:iB 130=some xM:=by kernel_rfl
def kW:aE:=(.seq (LS [LM 11 5,LM 12 0,LO 13 (.len (LT 12)),LO 14 (.bin .lss (LT 11) (LT 13))] (.cond (LT 14) .skip (.exit 0))) (.seq (.block 1 (LS [LM 17 0,LM 18 5,LO 19 (.iaddr 1 (LT 17) (LT 18)),LO 20 (LL 19),LM 21 1,LM 22 5,LO 23 (.iaddr 1 (LT 21) (LT 22)),LO 24 (LL 23),LQ 25 (.call 54 [(LT 20),(LT 24)]),LO 26 (.un .not (LT 25))] (.cond (LT 26) (LS [LO 4 (.mv LF)] .ret) .skip))) (.eO [LM 15 5,LO 16 (.bin .add (LT 15) (LI 1)),LM 5 16])))
def pN:aE:=(LS [LO 4 (.mv LF)] (.seq (LS [LM 6 0,LO 7 (.len (LT 6)),LM 8 1,LO 9 (.len (LT 8)),LO 10 (.bin .neq (LT 7) (LT 9))] (.cond (LT 10) (LS [LO 4 (.mv LF)] .ret) .skip)) (.seq (LS [LO 5 (.mv (LI 0))] (.block 0 (.loop kW))) (LS [LO 4 (.mv LG)] .ret))))
def sH:aS:=⟨27,[(.tmp 4)],pN⟩
theorem D9:iB 82=some sH:=by kernel_rfl
def mK:aE:=(.seq (LS [LM 6 5,LM 7 0,LO 8 (.len (LT 7)),LO 9 (.bin .lss (LT 6) (LT 8))] (.cond (LT 9) .skip (.exit 0))) (.seq (.block 1 (LS [LM 12 0,LM 13 5,LO 14 (.iaddr 1 (LT 12) (LT 13)),LO 15 (LL 14),LM 16 1,LO 17 (.call 57 [(LT 15),(LT 16)]),LM 1 17] (LS [LM 18 1,LO 19 (.bin .lss (LT 18) (LI 0))] (.cond (LT 19) (LS [LO 4 (.mv (LI (-1)))] .ret) .skip)))) (.eO [LM 10 5,LO 11 (.bin .add (LT 10) (LI 1)),LM 5 11])))
def sN:aE:=(LS [LO 4 (.mv (LI 0))] (.seq (LS [LO 5 (.mv (LI 0))] (.block 0 (.loop mK))) (LS [LM 20 1,LM 4 20] .ret)))
def xC:aS:=⟨21,[(.tmp 4)],sN⟩
theorem Cw:iB 83=some xC:=by kernel_rfl
end Go.PM
namespace Go.PM
def room (n:Nat):Nat:=if n % 6=5 then 0 else if n % 3=0 then 1 else n
abbrev nV (n:Int):VV := .sc (.int .i64 n)
abbrev ahC (xs:List Int):VV:=bK nV xs
def iota (k:Int) (n:Nat):List Int:=(List.range n).map fun(j:Nat)=>k+(j:Int)
theorem NA (k:Int) (n:Nat):(iota k n).length=n:=by simp[iota]
def xE {α:Type} (fill:α) (xs:List α):List α:=xs++List.replicate (room xs.length) fill
theorem L8 {α:Type} (fill:α) (xs:List α):(xE fill xs).take xs.length=xs:=by simp[xE]
def ToR {α:Type} (f:α→VV) (e:Nat) (fill:α) (xs:List α) (bare:Bool) (n:Nat) (r:VV) (L:aA):Prop :=
 (bare=true∧xs=[]∧r = .tree [] .nil∧L=[])∨(r = .ref n 0 0 xs.length (xs.length+room xs.length)∧L=[.row 0 ((xE fill xs).map f) e true])
theorem ToR.no {α:Type} {f:α→VV} {e:Nat} {fill:α} {xs:List α} {n:Nat} {r:VV} {L:aA} (h:ToR f e fill xs false n r L):r = .ref n 0 0 xs.length (xs.length+room xs.length)∧L=[.row 0 ((xE fill xs).map f) e true]:=by
 rcases h with h | h
 ·cases h.1
 ·exact h
theorem Nx {α:Type} {f:α→VV} {n:Nat} (hf:∀x,dD n (f x)=true) (xs:List α):kY n (xs.map f)=true:=by
 rw[BN]
 intro x hx
 obtain⟨y,_,rfl⟩:=List.mem_map.1 hx
 exact hf y
end Go.PM
namespace Go.PM
abbrev sV (s:ByteArray):VV := .sc (.string s)
theorem acR:∀s:ByteArray,(aB (sV s)).length=1:=fun _=>rfl
abbrev jX (xs:List ByteArray):VV:=bK sV xs
theorem kS (xs:List ByteArray):aN (jX xs)=true:=lG acR fun _=>rfl
def Pl:ByteArray:=⟨#[126,115,112,97,114,101,126]⟩
instance:Inhabited ByteArray:=⟨ByteArray.empty⟩
theorem W2 {a b:ByteArray}:(a.toList == b.toList)=decide (a=b):=by
 by_cases h:a=b
 ·subst h;simp
 ·rw[decide_eq_false h,beq_eq_false_iff_ne]
  intro he
  apply h
  obtain⟨⟨x⟩⟩:=a
  obtain⟨⟨y⟩⟩:=b
  rw[ByteArray.toList_eq,ByteArray.toList_eq] at he
  simp at he
  rw[he]
theorem D1 {a b:ByteArray}:dB .neq (.string a) (.string b)=some (.bool (!decide (a=b))):=by
 rw[←W2];rfl
end Go.PM
namespace Go.PM
theorem rB (xs ys:List ByteArray) (hn:xs.length≤1000000000):TC 54 [jX xs,jX ys] (.sc (.bool (decide (xs=ys)))):=by
 refine TC.walk ⟨true,false⟩ Fw rfl (Nat.le_of_ble_eq_true rfl) (by simp[aP,kS]) rfl ?_
 by_cases hl:(xs.length:Int)=(ys.length:Int)
 ·simp only[vA,qV,hl,VX,Nat.reduceEqDiff,Nat.reduceAdd]
  refine aR (fun(i:Nat) ρ H=>i≤xs.length∧H=[]∧xs.take i=ys.take i∧ρ 0=jX xs∧ρ 1=jX ys∧ρ 5=VI i) (fun i=>xs.length-i) 0 ⟨Nat.zero_le _,rfl,by simp,rfl,rfl,rfl⟩ ?_
  rintro i ρ H ⟨hi,rfl,ht,h0,h1,h5⟩
  by_cases dK:(i:Int)<(xs.length:Int)
  ·obtain⟨x,hx⟩:∃x,xs[i]? = some x:=⟨_,List.getElem?_eq_getElem (by omega)⟩
   obtain⟨y,hy⟩:∃y,ys[i]? = some y:=⟨_,List.getElem?_eq_getElem (by omega)⟩
   have e1:=aK (f:=sV) (t := .op) (H:=[]) (size:=1) (k := .i64) hx rfl
   have e2:=aK (f:=sV) (t := .op) (H:=[]) (size:=1) (k := .i64) hy rfl
   have wi:IntKind.i64.wrap ((i:Int)+1)=((i+1:Nat):Int):=wrapN (i+1) (by omega) (by omega)
   by_cases yM:x=y
   ·simp only[lM,D1,h0,h1,h5,dK,e1,e2,yM,wi,VX,Nat.reduceEqDiff,Nat.reduceAdd]
    refine⟨i+1,by omega,by omega,?_⟩
    rw[List.take_add_one,List.take_add_one,hx,hy,ht,yM]
    (repeat' apply And.intro)<;>first | rfl | trivial
   ·simp only[lM,D1,h0,h1,h5,dK,e1,e2,yM,VX,Nat.reduceEqDiff,Nat.reduceAdd]
    have:¬xs=ys:=fun h=>yM (by rw[h,hy] at hx;injection hx with hx;exact hx.symm)
    simp only[this,decide_false]
    exact aI rfl
  ·simp only[lM,h0,h1,h5,dK,VX,Nat.reduceEqDiff,Nat.reduceAdd]
   have:xs=ys:=by
    rw[List.take_of_length_le (by omega),List.take_of_length_le (by omega)] at ht
    exact ht
   simp only[this,decide_true]
   exact aI rfl
 ·simp only[vA,qV,hl,VX,Nat.reduceEqDiff,Nat.reduceAdd]
  have:¬xs=ys:=fun h=>hl (by rw[h])
  simp only[this,decide_false]
  exact aI rfl
end Go.PM
namespace Go.PM
end Go.PM
namespace Go.PM
end Go.PM
namespace Go.PM
end Go.PM
namespace Go.PM
theorem fW {H L:aA} {b g:Nat} {x:List VV×Nat×Bool} (h:aF H b g=some x):aF (H++L) b g=some x:=by
 obtain⟨es,e,w⟩:=x
 rw[cC] at h ⊢
 rw[List.getElem?_append_left (List.getElem?_eq_some_iff.1 h).1]
 exact h
theorem N7 {H L:aA} {i g e:Nat} {es:List VV} {w:Bool} (h:L[i]? = some (.row g es e w)):aF (H++L) (H.length+i) g=some (es,e,w):=by
 rw[cC,List.getElem?_append_right (Nat.le_add_right _ _),Nat.add_sub_cancel_left]
 exact h
theorem aM {H:aA} {b b' g:Nat} {x:bU} {y:List VV×Nat×Bool} (hn:b'≠b) (h:aF H b g=some y):aF (H.set b' x) b g=some y:=by
 obtain⟨es,e,w⟩:=y
 rw[cC] at h ⊢
 rw[List.getElem?_set_ne hn]
 exact h
theorem dA {H:aA} {b g e:Nat} {es:List VV} {w:Bool} {y:List VV×Nat×Bool} {g':Nat} (h:aF H b g'=some y):aF (H.set b (.row g es e w)) b g=some (es,e,w):=by
 obtain⟨kU,e',w'⟩:=y
 rw[cC] at h ⊢
 rw[List.getElem?_set_self (List.getElem?_eq_some_iff.1 h).1]
theorem jJ {H:aA} {b g:Nat} {x:List VV×Nat×Bool} (h:aF H b g=some x):b<H.length:=by
 obtain⟨es,e,w⟩:=x
 exact(List.getElem?_eq_some_iff.1 (cC.1 h)).1
end Go.PM