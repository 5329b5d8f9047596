/- Texts of a claim, in one: part 5. -/
import Derived.KernelRfl
import Derived.Test.YtjmflicajplclaaGreatDoorKBd
set_option linter.unusedSimpArgs false
set_option linter.unusedVariables false
namespace Go.PM
def VT (f:Nat) (args:List VV) (r:VV):Prop :=
 ∀(F:Nat→Prop) (P:aF) (fB:List Value) (fC:Nat),(∀b,F b→b<P.length)→VL (bare F P) args fB→fC≤P.length →
  ∃P' pv,sX f fB fC P=some (pv,P')∧P <+: P'∧VR (bare (fun q=>F q∨(P.length≤q∧q<P'.length)) P') r pv
def R5 (lo fC:Nat) (V:View) (r:Option (Value×aF)) (K:VV→aA→Prop):Prop :=
 ∃pv V' v,r=some (pv,V'.P)∧SR V' lo fC∧F4 lo V V'∧VR V' v pv∧K v V'.H
def iI (f:Nat) (args:List VV) (lo:Nat) (H:aA) (K:VV→aA→Prop):Prop :=
 ∀(V:View) (fC:Nat) (fB:List Value),V.H=H→SR V lo fC→VL V args fB→R5 lo fC V (sX f fB fC V.P) K
theorem iI.mono {f:Nat} {args:List VV} {lo:Nat} {H:aA} {K K':VV→aA→Prop} (hk:∀v H,K v H→K' v H) (h:iI f args lo H K):iI f args lo H K':=by
 intro V fC fB hH hS hl
 obtain⟨pv,V',v,h1,h2,h3,h4,h5⟩:=h V fC fB hH hS hl
 exact⟨pv,V',v,h1,h2,h3,h4,hk _ _ h5⟩
theorem VT.uniq {f:Nat} {args:List VV} {r r':VV} (h:VT f args r) (h':VT f args r') (ha:aO args=true) (hr:fX r=true) (Gs:fX r'=true):r=r':=by
 obtain⟨P,ps,_,hl⟩:=PT args ha []
 obtain⟨P',pv,h1,_,h2⟩:=h (· < P.length) P ps 0 (fun _ h=>h) hl (Nat.zero_le _)
 obtain⟨Zg,pv',h3,_,h4⟩:=h' (· < P.length) P ps 0 (fun _ h=>h) hl (Nat.zero_le _)
 rw[h1] at h3
 injection h3 with h3
 injection h3 with h3 h5
 subst h3 h5
 exact h2.uniq h4 hr Gs
open Classical in
noncomputable def vT (f:Nat) (args:List VV):Option VV:=if h:∃r,aO args=true∧fX r=true∧VT f args r then some (Classical.choose h) else none
theorem RE {f:Nat} {args:List VV} {r:VV} (h:vT f args=some r):aO args=true∧fX r=true∧VT f args r:=by
 unfold vT at h
 split at h
 ·rename_i hx
  cases h
  exact Classical.choose_spec hx
 ·cases h
theorem aoK {f:Nat} {args:List VV} {r:VV} (ha:aO args=true) (hr:fX r=true) (h:VT f args r):vT f args=some r:=by
 have hx:∃r,aO args=true∧fX r=true∧VT f args r:=⟨r,ha,hr,h⟩
 unfold vT
 rw[dif_pos hx]
 obtain⟨_,h2,h3⟩:=Classical.choose_spec hx
 rw[h3.uniq h ha h2 hr]
def tk (r:Option VV) (K:VV→Prop):Prop:=match r with
 | some r=>K r
 | none=>False
noncomputable def Ig (f:Nat) (args:List VV) (K:VV→Prop):Prop:=tk (vT f args) K
noncomputable def cO (f:Nat) (args:List VV) (lo:Nat) (H:aA) (K:VV→aA→Prop):Prop :=
 if Cf.contains f=true then iI f args lo H K
 else if aO args=true then Ig f args fun r=>K r H
 else match args.mapM (fz depth H) with
  | some jC=>Ig f jC fun r=>if OH r=true then K r H else K r (dI H (args.flatMap (iS depth H)))
  | none=>False
noncomputable def fD (fl:Fl) (lo:Nat) (q:Bool) (op:oQ) (ρ:dU) (H:aA) (K:VV→aA→Prop):Prop :=
 match op with
 | .call f args=>cO f (args.map (fE ρ)) (if q then H.length else lo) H K
 |
  .callv fv args=>match fE ρ fv with
  | .wG f gL=>cO f (args.map (fE ρ)++gL) (if q then H.length else lo) H K
  | _=>False
 |
  o=>match vop fl lo o ρ H with
  | some (v,H')=>K v H'
  | none=>False
noncomputable def VS (fl:Fl) (lo:Nat):List PI→(dU→aA→Prop)→dU→aA→Prop
 | [],K,ρ,H=>K ρ H
 |
  i::is,K,ρ,H=>match CL i.g ρ with
  | none=>False
  | some false=>VS fl lo is K (Mg ρ i.dst rA) H
  | some true=>i.cf.all (kA ρ H)=true∧fD fl lo i.quiet i.op ρ H fun v H'=>VS fl lo is K (Mg ρ i.dst v) H'
def anQ:List Nat→dU→aA→Option (dU×aA)
 | [],ρ,H=>some (ρ,H)
 |
  t::ts,ρ,H=>match fz depth H (ρ t) with
  | some v=>anQ ts (Mg ρ (some t) v) (dI H (iS depth H (ρ t)))
  | none=>none
def MN (r:Option VV) (H:aA) (K:VV→aA→Prop):Prop:=match r with
 | some v=>K v H
 | none=>False
def gh (K:dU→aA→Prop) (ρ:dU) (H:aA):Prop:=∃ts bI H',anQ ts ρ H=some (bI,H')∧K bI H'
def jK (k:Nat) (H:aA):Bool:=H.all fun
 | .row _ es _ _=>mY k es
 | .dead=>true
def Ks (k:Nat) (ρ:dU):dU:=fun t=>Lq k (ρ t)
abbrev VQ:=Ex→dU→aA→Prop
def oF (K:dU→aA→Prop) (Q:VQ):VQ
 | .normal=>K
 | x=>Q x
def Bh (id:Nat) (Q:VQ):VQ
 | .exit Uu=>fun ρ H=>if Uu=id then Q .normal ρ H else Q (.exit Uu) ρ H
 | x=>Q x
def UL (body:VQ→dU→aA→Prop) (Q:VQ):Nat→dU→aA→Prop
 | 0,_,_=>False
 | n+1,ρ,H=>body (oF (fun bI H'=>UL body Q n bI H'∨(jK H.length (H'.take H.length)=true∧UL body Q n (Ks H.length bI) (H'.take H.length))) Q) ρ H
noncomputable def VW (fl:Fl) (lo:Nat):aD→VQ→dU→aA→Prop
 | .skip,Q,ρ,H=>Q .normal ρ H
 | .dE ops,Q,ρ,H=>VS fl lo ops (Q .normal) ρ H
 | .seq a b,Q,ρ,H=>VW fl lo a (oF (VW fl lo b Q) Q) ρ H
 |
  .cond c a b,Q,ρ,H=>match fE ρ c with
  | .sc (.bool t)=>if t=true then VW fl lo a Q ρ H else VW fl lo b Q ρ H
  | _=>False
 | .block id a,Q,ρ,H=>VW fl lo a (Bh id Q) ρ H
 | .loop a,Q,ρ,H=>∃n,UL (VW fl lo a) (fun x=>gh (Q x)) n ρ H
 | .exit id,Q,ρ,H=>Q (.exit id) ρ H
 | .ret,Q,ρ,H=>Q .ret ρ H
def F6 (ρ:dU) (H:aA):BI→Option VV
 | .tmp t=>some (ρ t)
 | .cell t agg size=>cC agg size (ρ t) H
def rU (ρ:dU) (H:aA):List BI→Option (List VV)
 | []=>some []
 |
  r::rs=>match F6 ρ H r,rU ρ H rs with
  | some v,some vs=>some (v::vs)
  | _,_=>none
def oU (res:List BI) (ρ:dU) (H:aA):Option VV :=
 match rU ρ H res with
 | some [v]=>some v
 | some vs=>some (.dQ vs)
 | none=>none
def I3 (R:VV→aA→Prop):Option VV→aA→Prop
 | some v,H=>R v H
 | none,_=>False
def B0 (res:List BI) (R:VV→aA→Prop):VQ
 | .exit _,_,_=>False
 | .normal,ρ,H=>I3 R (oU res ρ H) H
 | .ret,ρ,H=>I3 R (oU res ρ H) H
def K9 (args:List VV):dU:=fun k=>args.getD k rA
section
variable {lo fC:Nat}
theorem GO {V:View} (hS:SR V lo fC) {P':aF} (hp:V.P <+: P'):SR { V with P:=P',F:=fun q=>V.F q∨(V.P.length≤q∧q<P'.length) } lo fC∧F4 lo V { V with P:=P',F:=fun q=>V.F q∨(V.P.length≤q∧q<P'.length) }:=by
 obtain⟨L,rfl⟩:=hp
 have hU:Up V { V with P:=V.P++L,F:=fun q=>V.F q∨(V.P.length≤q∧q<(V.P++L).length) }:=⟨fun _ h => .inl h,fun b hb=>List.getElem?_append_left (hS.fr b hb),Nat.le_refl _,fun b g es e w _ h=>⟨g,es,w,h,Nat.le_refl _,fun _=>rfl⟩,rfl,by simp,fun b g es e w hb _=>⟨g,es,w,hb,rfl,id⟩⟩
 refine⟨⟨fun b g es e w hb => ?_,fun b g es e hb=>⟨fun hF => ?_,(hS.wr b g es e hb).2⟩,hS.inj,fun b hb => ?_,by have:=hS.VH;simp;omega,by have:=hS.Mx;simp;omega⟩,{ hU with cJ:=fun q hq _=>List.getElem?_append_left hq,DS:=fun q hq => ?_ }⟩
 ·obtain⟨r,p,h1,h2,h3⟩:=hS.row b g es e w hb
  exact⟨r,p,by rw[←h1];exact List.getElem?_append_left (hS.mlt hb),h2,h3.mono hU⟩
 ·rcases hF with hF | hF
  ·exact(hS.wr b g es e hb).1 hF
  ·have h1:=hS.mlt hb
   have h2:V.P.length≤V.m b:=hF.1
   omega
 ·rcases hb with hb | hb
  ·have:=hS.fr b hb
   simp;omega
  ·exact hb.2
 ·rcases hq with hq | hq
  ·exact .inl hq
  ·exact .inr (.inl hq.1)
theorem acW {V V':View} {x:VV} {v:Value} (h:VR V x v):OH x=true→VR V' x v:=by
 induction h using VR.rec (motive_2:=fun xs vs _=>Vd xs=true→VL V' xs vs) with
 | sc _ h=>intro _;exact .sc _ h
 | agg cs ps _ ih=>intro hx;exact .agg _ _ (ih hx)
 | dQ cs ps _ ih=>intro hx;exact .dQ _ _ (ih hx)
 | any=>intro hx;cases hx
 | oP=>intro hx;cases hx
 | tree=>intro hx;cases hx
 | dA=>intro hx;cases hx
 | ref=>intro hx;cases hx
 | ptr=>intro hx;cases hx
 | wG=>intro hx;cases hx
 | nil=>exact .nil
 |
  cons x v xs vs _ _ ih Wr =>
  rename_i hx
  simp only[Vd,Bool.and_eq_true] at hx
  exact .cons _ _ _ _ (ih hx.1) (Wr hx.2)
theorem VR.Eh {V':View} {G:Nat→Prop} {P:aF} {x:VV} {v:Value} (hF:∀b,G b→V'.F b∧V'.P[b]? = P[b]?) (h:VR (bare G P) x v):VR V' x v:=by
 induction h using VR.rec (motive_2:=fun xs vs _=>VL V' xs vs) with
 | any=>exact .any _
 | sc _ h=>exact .sc _ h
 | agg cs ps _ ih=>exact .agg _ _ ih
 | dQ cs ps _ ih=>exact .dQ _ _ ih
 | oP k hk=>exact .oP k hk
 | tree es k b o c r e p W3 hb ho hc he hk _ ih=>exact .tree es k b o c r e p (hF _ W3).1 (by rw[(hF _ W3).2];exact hb) ho hc he hk ih
 | dA x off b o r e p W3 hb ho _ ih=>exact .dA x off b o r e p (hF _ W3).1 (by rw[(hF _ W3).2];exact hb) ho ih
 | ref b g o n c a n' c' bH hg ha hq=>exact absurd bH (Nat.not_lt_zero _)
 | ptr b g j off a bH hg ha hq=>exact absurd bH (Nat.not_lt_zero _)
 | wG f gL ps _ ih=>exact .wG _ _ _ ih
 | nil=>exact .nil
 | cons x v xs vs _ _ ih Wr=>exact .cons _ _ _ _ ih Wr
theorem US {V:View} (hS:SR V lo fC) {f alW:Nat} (amE:alW≤V.P.length) {args:List VV} {fB:List Value} {G:Nat→Prop} (hG:∀b,G b→b<V.P.length) (hl:VL (bare G V.P) args fB) {K:VV→Prop} (h:Ig f args K) :
  ∃P' pv r,sX f fB alW V.P=some (pv,P')∧V.P <+: P'∧VR (bare (fun q=>G q∨(V.P.length≤q∧q<P'.length)) P') r pv∧aQ r=true∧K r:=by
 unfold Ig tk at h
 split at h
 ·rename_i r hr
  obtain⟨h1,h2,h3⟩:=RE hr
  obtain⟨P',pv,h4,h5,h6⟩:=h3 G V.P fB alW hG hl amE
  exact⟨P',pv,r,h4,h5,h6,UF r h2,h⟩
 ·cases h
theorem Jc {V:View} (hS:SR V lo fC) {f:Nat} {args:List VV} {fB:List Value} (hl:VL V args fB) {q:Bool} {K:VV→aA→Prop} (h:cO f args (if q then V.H.length else lo) V.H K):R5 lo fC V (sX f fB (if q then V.P.length else fC) V.P) K:=by
 have hlq:(if q=true then V.P.length else fC)≤V.P.length:=by split;exact Nat.le_refl _;exact hS.VH
 unfold cO at h
 split at h
 ·cases q with
  | false=>exact h V fC fB rfl hS hl
  |
   true =>
   have hS':SR V V.H.length V.P.length:=⟨hS.row,fun b g es e hb=>⟨(hS.wr b g es e hb).1,fun hl=>by have:=(List.getElem?_eq_some_iff.1 hb).1;omega⟩,hS.inj,hS.fr,Nat.le_refl _,hS.Mx⟩
   obtain⟨pv,V',r,g1,g3,g4,g5,g6⟩:=h V V.P.length fB rfl hS' hl
   refine⟨pv,V',r,g1,⟨g3.row,fun b g es e hb=>⟨(g3.wr b g es e hb).1,fun GG => ?_⟩,g3.inj,g3.fr,Nat.le_trans hS.VH g4.FT,g3.Mx⟩,{ g4.toUp with cJ:=fun p hp _=>g4.cJ p hp fun b g es e hb GG => ?_,DS:=g4.DS },g5,g6⟩
   ·rcases Nat.lt_or_ge (V'.m b) V.P.length with bH | DV
    ·obtain⟨g0,es0,w0,k1,k2,k3⟩:=g4.CO b g es e true hb bH
     have:=k3 rfl
     subst this
     rw[k2]
     exact(hS.wr _ _ _ _ k1).2 GG
    ·exact Nat.le_trans hS.VH DV
   ·have:=(List.getElem?_eq_some_iff.1 hb).1
    have GG:V.H.length≤b:=GG
    omega
 ·split at h
  ·rename_i hp
   obtain⟨P',pv,r,g1,g2,g3,g4,g5⟩:=US hS (alW:=if q=true then V.P.length else fC) hlq (G:=V.F) hS.fr (VL.pure (V:=V) (V':=bare V.F V.P) (fun b hb=>⟨hb,rfl⟩) hl hp) h
   obtain⟨k1,k2⟩:=GO hS g2
   exact⟨pv,_,r,g1,k1,k2,g3.Eh (fun b hb=>⟨hb,rfl⟩),g5⟩
  ·split at h
   case h_2=>cases h
   rename_i jC Xw
   unfold Ig tk at h
   split at h
   case h_2=>cases h
   rename_i r hr
   obtain⟨h1,h2,h3⟩:=RE hr
   split at h
   ·rename_i hfl
    have Cp:=FE hS (G:=(· < V.P.length)) (fun q hq=>hS.fr q hq) hl Xw (fun i _ g es e w hb=>hS.mlt hb)
    obtain⟨P',pv,g1,g2,g3⟩:=h3 _ V.P fB _ (fun _ h=>h) Cp hlq
    obtain⟨k1,k2⟩:=GO hS g2
    exact⟨pv,_,r,g1,k1,k2,acW g3 hfl,h⟩
   ·obtain⟨k1,k2,k3,k4,k5,k6⟩:=xD (args.flatMap (iS depth V.H)) hS
    have Cp:=FE hS (G:=(V.dI (args.flatMap (iS depth V.H))).F) (fun q hq=>k2.F q hq) hl Xw k6
    rw[←k4] at Cp
    obtain⟨P',pv,g1,g2,g3⟩:=h3 _ _ fB _ k1.fr Cp (by rw[k4];exact hlq)
    obtain⟨j1,j2⟩:=GO k1 g2
    rw[k4] at g1
    refine⟨pv,_,r,g1,j1,k2.trans j2,g3.Eh (fun b hb=>⟨hb,rfl⟩),?_⟩
    show K r (V.dI (args.flatMap (iS depth V.H))).H
    rw[k3]
    exact h
def Bp (lo fC:Nat) (V:View) (c:aD) (Q:VQ) (lQ:Env):Prop :=
 W fC c (fun x PE P'=>∃V' bI,V'.P=P'∧SR V' lo fC∧F4 lo V V'∧ER V' bI PE∧Q x bI V'.H) lQ V.P
theorem Ji {V:View} {ρ:dU} {lQ:Env} (hE:ER V ρ lQ) {g:Option (Nat×Bool)} {t:Bool} (h:CL g ρ=some t):AV g lQ=some t:=by
 unfold CL at h
 unfold AV
 split at h
 ·exact h
 ·rename_i t' want
  have ht:=hE t'
  split at h
  ·rename_i b hb
   obtain⟨e,_⟩:=sL ht hb
   simp only[e]
   exact h
  ·rename_i vs hb
   rw[hb] at ht
   generalize hu:lQ t'=u at ht
   cases ht with
   | dQ cs ps hl=>simp only[hu];exact h
  ·cases h
theorem Xq {V:View} (hS:SR V lo fC) {x y:VV} {u w:Value} (hx:VR V x u) (hy:VR V y w) (h:oS V.H x y=true):avE u w=true:=by
 have key:∀ {z:VV} {v:Value},VR V z v→(match sF V.H z with
   | .bad=>True
   | .no=>jW v=none
   | .row i wr=>jW v=some (V.m i)∧∃g es e,V.H[i]? = some (.row g es e wr)
   | .CO i=>∀q,jW v=some q→∀b' g' es e w,V.H[b']? = some (.row g' es e w)→b'≠i→V.m b'≠q
   | .tree=>∀b,jW v=some b→V.F b):=by
  intro z v hz
  cases hz with
  | any=>simp only[sF]
  | sc v h =>
      cases v<;>first | rfl | cases h | skip
      rename_i a;cases a<;>first | rfl | cases h
  | agg=>rfl
  | dQ=>rfl
  | oP k hk =>
       rcases hk with rfl | rfl
       ·intro b hb;cases hb
       ·rfl
  |
   tree es k b o c r e p hF hb ho hc he hk hl =>
   cases es with
   |
    nil=>cases k with
    | nil=>exact hk.elim
    | op=>intro b' vD;cases vD;exact hF
    | cl=>intro b' vD;cases vD;exact hF
   | cons=>intro b' vD;cases vD;exact hF
  | dA x off b o r e p hF hb ho hl=>intro b' vD;cases vD;exact hF
  |
   ref b g o n c a n' c' bH hg ha hq =>
   simp only[sF]
   cases hr:aJ V.H b g with
   | none=>exact fun q h=>(by
     cases a with
     | none=>cases h
     | some a0=>cases h;exact(hq a0 rfl).2.2)
   |
    some q =>
    obtain⟨es,e,wr⟩:=q
    rw[cK] at hr
    obtain⟨rfl,rfl,rfl⟩:=ha _ _ _ hr
    exact⟨rfl,g,es,e,hr⟩
  |
   ptr b g j off a bH hg ha hq =>
   simp only[sF]
   cases hr:aJ V.H b g with
   | none=>exact fun q h=>(by
     cases a with
     | none=>cases h
     | some a0=>cases h;exact(hq a0 rfl).2.2)
   |
    some q =>
    obtain⟨es,e,wr⟩:=q
    rw[cK] at hr
    have:=ha _ _ _ hr
    subst this
    exact⟨rfl,g,es,e,hr⟩
  | wG=>rfl
 have kx:=key hx
 have ky:=key hy
 unfold oS at h
 unfold avE
 cases hbx:sF V.H x with
 | bad=>rw[hbx] at h;have h:false=true:=h;cases h
 |
  no =>
  rw[hbx] at kx
  have kx:jW u=none:=kx
  rw[kx]
 |
  CO i =>
  rw[hbx] at kx h
  have kx:∀q,jW u=some q→∀b' g' es e w,V.H[b']? = some (.row g' es e w)→b'≠i→V.m b'≠q:=kx
  cases Vi:sF V.H y with
  | bad=>rw[Vi] at h;have h:false=true:=h;cases h
  |
   no =>
   rw[Vi] at ky
   have ky:jW w=none:=ky
   rw[ky]
   cases jW u<;>rfl
  | CO j=>rw[Vi] at h;have h:false=true:=h;cases h
  | tree=>rw[Vi] at h;have h:false=true:=h;cases h
  |
   row j wj =>
   rw[Vi] at ky h
   obtain⟨k3,g2,es2,e2,k4⟩:jW w=some (V.m j)∧∃g es e,V.H[j]? = some (.row g es e wj):=ky
   have h:(i != j)=true:=h
   simp only[bne_iff_ne,ne_eq] at h
   rw[k3]
   cases hu:jW u with
   | none=>rfl
   |
    some q =>
    simp only[bne_iff_ne,ne_eq]
    exact fun hm=>kx q hu j _ _ _ _ k4 (Ne.symm h) hm.symm
 |
  row i wi =>
  rw[hbx] at kx h
  obtain⟨k1,g1,Dx,e1,k2⟩:jW u=some (V.m i)∧∃g es e,V.H[i]? = some (.row g es e wi):=kx
  cases Vi:sF V.H y with
  | bad=>rw[Vi] at h;have h:false=true:=h;cases h
  |
   no =>
   rw[Vi] at ky
   have ky:jW w=none:=ky
   rw[ky]
   cases jW u<;>rfl
  |
   CO j =>
   rw[Vi] at ky h
   have ky:∀q,jW w=some q→∀b' g' es e w,V.H[b']? = some (.row g' es e w)→b'≠j→V.m b'≠q:=ky
   have h:(i != j)=true:=h
   simp only[bne_iff_ne,ne_eq] at h
   rw[k1]
   cases hw:jW w with
   | none=>rfl
   |
    some q =>
    simp only[bne_iff_ne,ne_eq]
    exact fun hm=>ky q hw i _ _ _ _ k2 h hm
  |
   row j wj =>
   rw[Vi] at ky h
   obtain⟨k3,g2,es2,e2,k4⟩:jW w=some (V.m j)∧∃g es e,V.H[j]? = some (.row g es e wj):=ky
   rw[k1,k3]
   have h:(i != j)=true:=h
   simp only[bne_iff_ne,ne_eq] at h ⊢
   exact fun hm=>h (hS.inj _ _ _ _ _ _ _ _ _ _ k2 k4 hm)
  |
   tree =>
   rw[Vi] at ky h
   have ky:∀b,jW w=some b→V.F b:=ky
   have h:wi=true:=h
   subst h
   cases hw:jW w with
   | none=>rw[k1]
   |
    some b =>
    rw[k1]
    simp only[bne_iff_ne,ne_eq]
    exact fun hm=>(hS.wr _ _ _ _ k2).1 (by rw[hm];exact ky b hw)
 |
  tree =>
  rw[hbx] at kx h
  have kx:∀b,jW u=some b→V.F b:=kx
  cases Vi:sF V.H y with
  | bad=>rw[Vi] at h;have h:false=true:=h;cases h
  |
   no =>
   rw[Vi] at ky
   have ky:jW w=none:=ky
   rw[ky]
   cases jW u<;>rfl
  | tree=>rw[Vi] at h;have h:false=true:=h;cases h
  | CO j=>rw[Vi] at h;have h:false=true:=h;cases h
  |
   row j wj =>
   rw[Vi] at ky h
   obtain⟨k1,g1,Dx,e1,k2⟩:jW w=some (V.m j)∧∃g es e,V.H[j]? = some (.row g es e wj):=ky
   have h:wj=true:=h
   subst h
   cases hw:jW u with
   | none=>rfl
   |
    some b =>
    rw[k1]
    simp only[bne_iff_ne,ne_eq]
    exact fun hm=>(hS.wr _ _ _ _ k2).1 (by rw[←hm];exact kx b hw)
theorem Ve {V:View} (hS:SR V lo fC) {ρ:dU} {lQ:Env} (hE:ER V ρ lQ) {fl:Fl} {q:Bool} {op:oQ} {K:VV→aA→Prop} (h:fD fl lo q op ρ V.H K):R5 lo fC V (kP fC q op lQ V.P) K:=by
 have other:∀ {v H'},vop fl lo op ρ V.H=some (v,H')→K v H'→R5 lo fC V (kP fC q op lQ V.P) K:=by
  intro v H' h1 h2
  obtain⟨pv,V',g1,g2,g3,g4,g5⟩:=aaY hS hE (q:=q) h1
  exact⟨pv,V',v,g1,g3,g4,g5,by rw[g2];exact h2⟩
 unfold fD at h
 split at h
 ·rw[ZZ]
  exact Jc hS (hE.evs _) h
 ·rename_i fv args
  rw[Xl]
  have hf:=hE.ev fv
  split at h
  ·rename_i f gL hfv
   rw[hfv] at hf
   generalize ev lQ fv=u at hf ⊢
   cases hf with
   |
    wG f gL ps hl =>
    unfold acZ
    simp only[List.nil_append]
    exact Jc hS ((hE.evs args).append hl) h
  ·cases h
 ·split at h
  ·rename_i v H' h1
   exact other h1 h
  ·cases h
theorem Na {fl:Fl} {K:dU→aA→Prop}:∀(is:List PI) {V:View} {ρ:dU} {lQ:Env},SR V lo fC→ER V ρ lQ→VS fl lo is K ρ V.H →
  WS fC is (fun PE P'=>∃V' bI,V'.P=P'∧SR V' lo fC∧F4 lo V V'∧ER V' bI PE∧K bI V'.H) lQ V.P
 |
  [],V,ρ,lQ,hS,hE,h=>by
  rw[aqD]
  exact⟨V,ρ,rfl,hS,F4.refl _ _,hE,h⟩
 |
  i::is,V,ρ,lQ,hS,hE,h=>by
  unfold VS at h
  rw[ayF]
  unfold AM
  split at h
  ·cases h
  ·rename_i hw
   rw[Ji hE hw]
   exact⟨_,_,rfl,Na is hS (hE.put (.dQ [] [] .nil)) h⟩
  ·rename_i hw
   rw[Ji hE hw]
   obtain⟨SU,h⟩:=h
   have aBJ:i.cf.all (BM lQ)=true:=by
    rw[List.all_eq_true] at SU ⊢
    intro c hc
    exact Xq hS (hE.ev c.1) (hE.ev c.2) (SU c hc)
   simp only[aBJ,if_true]
   obtain⟨pv,V',v,g1,g2,g3,g4,g5⟩:=Ve hS hE h
   refine⟨pv,V'.P,?_,?_⟩
   ·unfold kP at g1
    exact g1
   ·obtain⟨YC,Zg,k1,Va,B3,k2,k3,k4,k5,k6⟩:=Na is g2 ((hE.mono g3.toUp).put g4) g5
    exact⟨YC,Zg,k1,Va,B3,k2,k3,g3.trans k4,k5,k6⟩
theorem MX:∀(ts:List Nat) {V:View} {ρ bI:dU} {lQ:Env} {H':aA},SR V lo fC→ER V ρ lQ→anQ ts ρ V.H=some (bI,H')→∃V',V'.P=V.P∧V'.H=H'∧SR V' lo fC∧F4 lo V V'∧ER V' bI lQ
 |
  [],V,ρ,bI,lQ,H',hS,hE,h=>by
  cases h
  exact⟨V,rfl,rfl,hS,F4.refl _ _,hE⟩
 |
  t::ts,V,ρ,bI,lQ,H',hS,hE,h=>by
  unfold anQ at h
  split at h
  case h_2=>cases h
  rename_i v hv
  obtain⟨k1,k2,k3,k4,k5,k6⟩:=xD (iS depth V.H (ρ t)) hS
  have hx:=Ny hS (G:=(V.dI (iS depth V.H (ρ t))).F) (fun q hq=>k2.F q hq) depth (ρ t) v (lQ t) (hE t) hv k6
  have SG:VR (V.dI (iS depth V.H (ρ t))) v (lQ t):=hx.Eh (fun b hb=>⟨hb,by rw[k4]⟩)
  rw[←k3] at h
  obtain⟨V',g1,g2,g3,g4,g5⟩:=MX ts (lQ:=lQ) k1 (by
   have e:=(hE.mono k2.toUp).put (d:=some t) SG
   have ee:put lQ (some t) (lQ t)=lQ:=by
    funext k
    simp only[put]
    split
    ·rename_i hk;rw[hk]
    ·rfl
   rw[ee] at e
   exact e) h
  exact⟨V',g1.trans k4,g2,g3,k2.trans g4,g5⟩
theorem UK {V:View} (hS:SR V lo fC) {ρ:dU} {lQ:Env} (hE:ER V ρ lQ) {K:dU→aA→Prop} (h:gh K ρ V.H):∃V' bI,V'.P=V.P∧SR V' lo fC∧F4 lo V V'∧ER V' bI lQ∧K bI V'.H:=by
 obtain⟨ts,bI,H',h1,h2⟩:=h
 obtain⟨V',g1,g2,g3,g4,g5⟩:=MX ts hS hE h1
 exact⟨V',bI,g1,g3,g4,g5,by rw[g2];exact h2⟩
theorem Ns {k:Nat} {es:List VV}:mY k es=true↔∀x∈es,below k x=true:=by
 induction es with
 | nil=>simp[mY]
 | cons x xs ih=>simp[mY,ih]
theorem D6 {k:Nat} {es:List VV} (h:mY k es=true):mY k (es.flatMap aB)=true:=by
 rw[Ns] at h ⊢
 intro x hx
 obtain⟨y,hy,Bu⟩:=List.mem_flatMap.1 hx
 have:=h y hy
 unfold aB at Bu
 split at Bu
 ·exact Ns.1 (by simpa[below] using this) x Bu
 ·rw[List.mem_singleton] at Bu;subst Bu;exact this
theorem Uw {k:Nat} {x:VV} (h:below k x=true):mY k (aB x)=true:=by
 have:=D6 (k:=k) (es:=[x]) (by simp[mY,h])
 simpa using this
def View.A7 (V:View) (k:Nat):View:={ V with H:=V.H.take k }
theorem VR.A7 {V:View} {k:Nat} (hk:k≤V.H.length) {x:VV} {v:Value} (h:VR V x v):PM.below k x=true→VR (V.A7 k) x v:=by
 have he:∀ {b:Nat},b<k→∀y,(V.A7 k).H[b]? = some y→V.H[b]? = some y:=fun XU y hy=>by
  have:(V.H.take k)[_]? = some y:=hy
  rw[List.getElem?_take,if_pos XU] at this
  exact this
 have hT:∀ {b:Nat} {y:cB},(V.A7 k).H[b]? = some y→V.H[b]? = some y:=fun {b y} hy=>by
  have h:(V.H.take k)[b]? = some y:=hy
  rw[List.getElem?_take] at h
  split at h
  ·exact h
  ·cases h
 induction h using VR.rec (motive_2:=fun xs vs _=>mY k xs=true→VL (V.A7 k) xs vs) with
 | any=>intro _;exact .any _
 | sc _ h=>intro _;exact .sc _ h
 | agg cs ps _ ih=>intro hb;exact .agg _ _ (ih hb)
 | dQ cs ps _ ih=>intro hb;exact .dQ _ _ (ih hb)
 | oP k hk=>intro _;exact .oP k hk
 | tree es k b o c r e p W3 vB ho hc he hk' _ ih=>intro hb;exact .tree es k b o c r e p W3 vB ho hc he hk' (ih (D6 hb))
 | dA x off b o r e p W3 vB ho _ ih=>intro hb;exact .dA x off b o r e p W3 vB ho (ih (Uw hb))
 |
  ref b g o n c a n' c' bH hg ha hq =>
  intro hb
  have XU:b<k:=by simpa[PM.below] using hb
  exact .ref b g o n c a n' c' (by show b<(V.H.take k).length;simp;omega) (fun g' es e w hr=>hg _ _ _ _ (he XU _ hr)) (fun es e w hr=>ha _ _ _ (he XU _ hr)) fun a0 h=>⟨(hq a0 h).1,(hq a0 h).2.1,fun b' g' es e w hr=>(hq a0 h).2.2 b' g' es e w (hT hr)⟩
 |
  ptr b g j off a bH hg ha hq =>
  intro hb
  have XU:b<k:=by simpa[PM.below] using hb
  exact .ptr b g j off a (by show b<(V.H.take k).length;simp;omega) (fun g' es e w hr=>hg _ _ _ _ (he XU _ hr)) (fun es e w hr=>ha _ _ _ (he XU _ hr)) fun a0 h=>⟨(hq a0 h).1,(hq a0 h).2.1,fun b' g' es e w hr=>(hq a0 h).2.2 b' g' es e w (hT hr)⟩
 | wG f gL ps _ ih=>intro hb;exact .wG _ _ _ (ih hb)
 | nil=>exact .nil
 |
  cons x v xs vs _ _ ih Wr =>
  rename_i hb
  simp only[mY,Bool.and_eq_true] at hb
  exact .cons _ _ _ _ (ih hb.1) (Wr hb.2)
theorem VL.A7 {V:View} {k:Nat} (hk:k≤V.H.length) {xs:List VV} {vs:List Value} (h:VL V xs vs) (hb:mY k xs=true):VL (V.A7 k) xs vs:=by
 induction xs generalizing vs with
 | nil=>cases h;exact .nil
 |
  cons x xs ih=>cases h with
  |
   cons _ v _ vs h hs =>
   simp only[mY,Bool.and_eq_true] at hb
   exact .cons _ _ _ _ (h.A7 hk hb.1) (ih hs hb.2)
theorem TI {V V':View} (hS:SR V' lo fC) {ρ:dU} {lQ:Env} (hE:ER V' ρ lQ) (hx:F4 lo V V') (hr:jK V.H.length (V'.H.take V.H.length)=true) :
  SR (V'.A7 V.H.length) lo fC∧F4 lo V (V'.A7 V.H.length)∧ER (V'.A7 V.H.length) (Ks V.H.length ρ) lQ:=by
 have hk:=hx.len
 have get:∀ {b:Nat} {y:cB},(V'.A7 V.H.length).H[b]? = some y→V'.H[b]? = some y:=by
  intro b y h
  have h:(V'.H.take V.H.length)[b]? = some y:=h
  rw[List.getElem?_take] at h
  split at h
  ·exact h
  ·cases h
 refine⟨⟨fun b g es e w hb => ?_,fun b g es e hb=>hS.wr b g es e (get hb),fun a b g es e w g' nU e' w' ha hb hm=>hS.inj a b _ _ _ _ _ _ _ _ (get ha) (get hb) hm,hS.fr,hS.VH,hS.Mx⟩,
  { F:=hx.F,P:=hx.P,len:=by show V.H.length≤(V'.H.take V.H.length).length;simp;omega,row:=fun b g es e w bH hb=>hx.row b g es e w bH (get hb),Mx:=hx.Mx,FT:=hx.FT,CO:=fun b g es e w hb hm=>hx.CO b g es e w (get hb) hm,cJ:=hx.cJ,DS:=hx.DS },fun t => ?_⟩
 ·obtain⟨r,p,h1,h2,h3⟩:=hS.row b g es e w (get hb)
  refine⟨r,p,h1,h2,h3.A7 hk (D6 ?_)⟩
  have:=List.all_eq_true.1 hr _ (List.mem_of_getElem? (show (V'.H.take V.H.length)[b]? = some _ from hb))
  exact this
 ·unfold Ks Lq
  split
  ·rename_i hb
   exact(hE t).A7 hk hb
  ·exact .any _
theorem TY {c:aD} {Q:Ex→Env→aF→Prop} {ρ:Env} {H:aF} (h:W fC c (azA (fun bI H'=>W fC (.loop c) Q bI H') Q) ρ H):W fC (.loop c) Q ρ H:=by
 obtain⟨x,bI,H',h1,h2⟩:=h
 unfold W
 rw[aaJ,h1]
 cases x with
 |
  normal =>
  obtain⟨y,B3,H'',h3,h4⟩:=h2
  exact⟨y,B3,H'',h3,h4⟩
 | exit i=>exact⟨_,_,_,rfl,h2⟩
 | ret=>exact⟨_,_,_,rfl,h2⟩
theorem wY {fl:Fl}:∀(c:aD) {V:View} {ρ:dU} {lQ:Env} {Q:VQ},SR V lo fC→ER V ρ lQ→VW fl lo c Q ρ V.H→Bp lo fC V c Q lQ
 |
  .skip,V,ρ,lQ,Q,hS,hE,h=>by
  unfold Bp
  rw[aqQ]
  exact⟨V,ρ,rfl,hS,F4.refl _ _,hE,h⟩
 |
  .exit id,V,ρ,lQ,Q,hS,hE,h=>by
  unfold Bp
  rw[aqR]
  exact⟨V,ρ,rfl,hS,F4.refl _ _,hE,h⟩
 |
  .ret,V,ρ,lQ,Q,hS,hE,h=>by
  unfold Bp
  rw[awZ]
  exact⟨V,ρ,rfl,hS,F4.refl _ _,hE,h⟩
 |
  .dE ops,V,ρ,lQ,Q,hS,hE,h=>by
  unfold Bp
  rw[ayZ]
  exact Na ops hS hE h
 |
  .seq a b,V,ρ,lQ,Q,hS,hE,h=>by
  unfold Bp
  rw[axB]
  refine(wY a hS hE h).mono ?_
  rintro x PE P' ⟨V',bI,rfl,g2,g3,g4,g5⟩
  cases x with
  |
   normal =>
   refine(wY b g2 g4 g5).mono ?_
   rintro y YC Zg ⟨Va,B3,k1,k2,k3,k4,k5⟩
   exact⟨Va,B3,k1,k2,g3.trans k3,k4,k5⟩
  | exit i=>exact⟨V',bI,rfl,g2,g3,g4,g5⟩
  | ret=>exact⟨V',bI,rfl,g2,g3,g4,g5⟩
 |
  .cond c a b,V,ρ,lQ,Q,hS,hE,h=>by
  unfold Bp
  rw[atI]
  unfold VW at h
  split at h
  ·rename_i t hc
   obtain⟨e,_⟩:=sL (hE.ev c) hc
   refine⟨t,e,fun ht => ?_,fun ht => ?_⟩
   ·rw[if_pos ht] at h
    exact wY a hS hE h
   ·rw[if_neg (by simp[ht])] at h
    exact wY b hS hE h
  ·cases h
 |
  .block id a,V,ρ,lQ,Q,hS,hE,h=>by
  unfold Bp
  rw[amY]
  refine(wY a hS hE h).mono ?_
  rintro x PE P' ⟨V',bI,rfl,g2,g3,g4,g5⟩
  cases x with
  | normal=>exact⟨V',bI,rfl,g2,g3,g4,g5⟩
  |
   exit i =>
   rw[Js]
   have g5:if i=id then Q .normal bI V'.H else Q (.exit i) bI V'.H:=g5
   split at g5
   ·rename_i hi
    rw[if_pos hi]
    exact⟨V',bI,rfl,g2,g3,g4,g5⟩
   ·rename_i hi
    rw[if_neg hi]
    exact⟨V',bI,rfl,g2,g3,g4,g5⟩
  | ret=>exact⟨V',bI,rfl,g2,g3,g4,g5⟩
 |
  .loop a,V,ρ,lQ,Q,hS,hE,h=>by
  obtain⟨n,h⟩:=h
  have key:∀n {V:View} {ρ:dU} {lQ:Env},SR V lo fC→ER V ρ lQ→UL (VW fl lo a) (fun x=>gh (Q x)) n ρ V.H→Bp lo fC V (.loop a) Q lQ:=by
   intro n
   induction n with
   | zero=>intro V ρ lQ _ _ h;cases h
   |
    succ n ih =>
    intro V ρ lQ hS hE h
    unfold Bp
    refine TY ?_
    refine(wY a hS hE h).mono ?_
    rintro x PE P' ⟨V',bI,rfl,g2,g3,g4,g5⟩
    cases x with
    |
     normal =>
     rcases g5 with g5 | ⟨g5,g6⟩
     ·refine(ih g2 g4 g5).mono ?_
      rintro y YC Zg ⟨Va,B3,k1,k2,k3,k4,k5⟩
      exact⟨Va,B3,k1,k2,g3.trans k3,k4,k5⟩
     ·obtain⟨t1,t2,t3⟩:=TI g2 g4 g3 g5
      refine(ih t1 t3 g6).mono ?_
      rintro y YC Zg ⟨Va,B3,k1,k2,k3,k4,k5⟩
      exact⟨Va,B3,k1,k2,t2.trans k3,k4,k5⟩
    |
     exit i =>
     obtain⟨Va,B3,k1,k2,k3,k4,k5⟩:=UK g2 g4 g5
     exact⟨Va,B3,k1,k2,g3.trans k3,k4,k5⟩
    |
     ret =>
     obtain⟨Va,B3,k1,k2,k3,k4,k5⟩:=UK g2 g4 g5
     exact⟨Va,B3,k1,k2,g3.trans k3,k4,k5⟩
  exact key n hS hE h
theorem yO {V:View} (hS:SR V lo fC) {ρ:dU} {lQ:Env} (hE:ER V ρ lQ) {res:List BI} {v:VV} (h:oU res ρ V.H=some v):∃pv,rS res lQ V.P=some pv∧VR V v pv:=by
 have one:∀ {r:BI} {v:VV},F6 ρ V.H r=some v→∃pv,Yl lQ V.P r=some pv∧VR V v pv:=by
  intro r v h
  cases r with
  | tmp t=>cases h;exact⟨_,rfl,hE t⟩
  | cell t agg size=>exact Oa hS (hE t) h
 have all:∀ {rs:List BI} {vs:List VV},rU ρ V.H rs=some vs→∃ps,Dd lQ V.P rs=some ps∧VL V vs ps:=by
  intro rs
  induction rs with
  | nil=>intro vs h;cases h;exact⟨[],rfl,.nil⟩
  |
   cons r rs ih =>
   intro vs h
   unfold rU at h
   split at h
   ·rename_i v vs' h1 h2
    cases h
    obtain⟨pv,k1,k2⟩:=one h1
    obtain⟨ps,k3,k4⟩:=ih h2
    exact⟨pv::ps,by unfold Dd;rw[k1,k3],.cons _ _ _ _ k2 k4⟩
   ·cases h
 unfold oU at h
 split at h
 ·rename_i v' hv
  cases h
  obtain⟨ps,k1,k2⟩:=all hv
  cases k2 with
  |
   cons _ pv _ _ hx Pa =>
   cases Pa
   exact⟨pv,by unfold rS;rw[k1],hx⟩
 ·rename_i vs fT hv
  cases h
  obtain⟨ps,k1,k2⟩:=all hv
  refine⟨.tuple ps.toArray,?_,.dQ _ _ k2⟩
  unfold rS
  rw[k1]
  split
  ·rename_i pv he
   injection he with he
   subst he
   cases k2 with
   | cons x _ _ _ hx Pa=>cases Pa;exact absurd rfl (fT x)
  ·rename_i he
   injection he with he
   rw[he]
  ·rename_i he;cases he
 ·cases h
theorem U6 {V:View} {args:List VV} {fB:List Value} (h:VL V args fB):ER V (K9 args) (aaD fB):=by
 intro t
 unfold K9 aaD
 rw[List.getD_eq_getElem?_getD,List.getD_eq_getElem?_getD]
 cases hx:args[t]? with
 |
  none =>
  have:fB[t]? = none:=by
   rw[List.getElem?_eq_none_iff] at hx ⊢
   rw[h.length]
   exact hx
  rw[this]
  exact .dQ [] [] .nil
 |
  some x =>
  obtain⟨v,h1,h2⟩:=h.get hx
  rw[h1]
  exact h2
theorem iI.walk {f:Nat} {pf:aR} {args:List VV} {H:aA} {K:VV→aA→Prop} (fl:Fl) (ht:fA f=some pf) (ha:args.length≤pf.ntmps) (h:VW fl lo pf.body (B0 pf.res K) (K9 args) H):iI f args lo H K:=by
 intro V fC fB hH hS hl
 subst hH
 obtain⟨x,PE,P',h1,V',bI,rfl,g2,g3,g4,g5⟩:=wY pf.body hS (U6 hl) h
 have key:∃pv Zg,sX f fB fC V.P=some (pv,Zg)∧Zg=V'.P∧∃r,VR V' r pv∧K r V'.H:=by
  refine ahZ ht (by rw[hl.length];exact ha) ?_
  refine⟨x,PE,V'.P,h1,?_⟩
  cases x with
  | exit i=>exact g5.elim
  |
   normal =>
   simp only[B0,I3] at g5
   split at g5
   ·rename_i v hv
    obtain⟨pv,k2,k3⟩:=yO g2 g4 hv
    exact⟨pv,k2,rfl,v,k3,g5⟩
   ·cases g5
  |
   ret =>
   simp only[B0,I3] at g5
   split at g5
   ·rename_i v hv
    obtain⟨pv,k2,k3⟩:=yO g2 g4 hv
    exact⟨pv,k2,rfl,v,k3,g5⟩
   ·cases g5
 obtain⟨pv,Zg,k1,rfl,r,k2,k3⟩:=key
 exact⟨pv,V',r,k1,g2,g3,k2,k3⟩
theorem VT.walk {f:Nat} {pf:aR} {args:List VV} {r:VV} (fl:Fl) (ht:fA f=some pf) (ha:args.length≤pf.ntmps) (h:VW fl 0 pf.body (B0 pf.res fun v H=>fz depth H v=some r) (K9 args) []):VT f args r:=by
 intro F P fB fC hF hl amE
 have hS:SR (bare F P) 0 fC:=⟨fun b g es e w hb=>by simp[bare] at hb,fun b g es e hb=>by simp[bare] at hb,fun a b g es e w g' nU e' w' ha=>by simp[bare] at ha,hF,amE,Nat.zero_le _⟩
 obtain⟨x,PE,P',h1,V',bI,rfl,g2,g3,g4,g5⟩:=wY pf.body hS (U6 hl) h
 have fin:∀ {v:VV} {pv:Value},VR V' v pv→fz depth V'.H v=some r→VR (bare (fun q=>F q∨(P.length≤q∧q<V'.P.length)) V'.P) r pv:=by
  intro v pv hv hf
  refine Ny g2 (fun q hq => ?_) depth v r pv hv hf fun i _ g es e w hr => ?_
  ·rcases g3.DS q hq with h | h | ⟨b,g,es,e,w,h,_⟩
   ·exact .inl h
   ·exact .inr ⟨h,g2.fr q hq⟩
   ·simp[bare] at h
  ·rcases Nat.lt_or_ge (V'.m i) P.length with bH | DV
   ·obtain⟨g0,es0,w0,k1,_⟩:=g3.CO i g es e w hr bH
    simp[bare] at k1
   ·exact .inr ⟨DV,g2.mlt hr⟩
 have key:∃pv Zg,sX f fB fC P=some (pv,Zg)∧Zg=V'.P∧VR (bare (fun q=>F q∨(P.length≤q∧q<V'.P.length)) V'.P) r pv:=by
  refine ahZ ht (by rw[hl.length];exact ha) ?_
  refine⟨x,PE,V'.P,h1,?_⟩
  cases x with
  | exit i=>exact g5.elim
  |
   normal =>
   simp only[B0,I3] at g5
   split at g5
   ·rename_i v hv
    obtain⟨pv,k2,k3⟩:=yO g2 g4 hv
    exact⟨pv,k2,rfl,fin k3 g5⟩
   ·cases g5
  |
   ret =>
   simp only[B0,I3] at g5
   split at g5
   ·rename_i v hv
    obtain⟨pv,k2,k3⟩:=yO g2 g4 hv
    exact⟨pv,k2,rfl,fin k3 g5⟩
   ·cases g5
 obtain⟨pv,Zg,k1,rfl,k3⟩:=key
 refine⟨V'.P,pv,k1,?_,k3⟩
 refine⟨V'.P.drop P.length,List.ext_getElem? fun i => ?_⟩
 rcases Nat.lt_or_ge i P.length with hi | hi
 ·rw[List.getElem?_append_left hi]
  exact(g3.cJ i hi fun b g es e hb=>by simp[bare] at hb).symm
 ·rw[List.getElem?_append_right hi,List.getElem?_drop,show P.length+(i-P.length)=i by omega]
end
end Go.PM
namespace Go.PM
section
variable {fl:Fl} {lo:Nat} {ρ:dU} {H:aA} {Q:VQ} {K:dU→aA→Prop} {k:VV→aA→Prop} {a b:aD} {d:Option Nat} {is:List PI} {q:Bool} {op:oQ}
def TO (fl:Fl) (lo:Nat) (d:Option Nat) (is:List PI) (K:dU→aA→Prop) (ρ:dU):VV→aA→Prop:=fun v H'=>VS fl lo is K (Mg ρ d v) H'
def R8 (r:Option (VV×aA)) (k:VV→aA→Prop):Prop:=match r with
 | some (v,H')=>k v H'
 | none=>False
theorem QF {v:VV} {H':aA}:TO fl lo d is K ρ v H'=VS fl lo is K (Mg ρ d v) H':=rfl
theorem Ul {v:VV}:MN (some v) H k=k v H:=rfl
theorem QU {v:VV} {H':aA}:R8 (some (v,H')) k=k v H':=rfl
theorem amG {r:VV} {K:VV→Prop}:tk (some r) K=K r:=rfl
theorem Zc:VW fl lo .skip Q ρ H=Q .normal ρ H:=rfl
theorem Yw {i:Nat}:VW fl lo (.exit i) Q ρ H=Q (.exit i) ρ H:=rfl
theorem agK:VW fl lo .ret Q ρ H=Q .ret ρ H:=rfl
theorem acY {ops:List PI}:VW fl lo (.dE ops) Q ρ H=VS fl lo ops (Q .normal) ρ H:=rfl
theorem agM:VW fl lo (.seq a b) Q ρ H=VW fl lo a (oF (VW fl lo b Q) Q) ρ H:=rfl
theorem Vt {i:Nat}:VW fl lo (.block i a) Q ρ H=VW fl lo a (Bh i Q) ρ H:=rfl
theorem Zd {c:Operand} {t:Bool} (h:fE ρ c = .sc (.bool t)):VW fl lo (.cond c a b) Q ρ H=if t=true then VW fl lo a Q ρ H else VW fl lo b Q ρ H:=by
 simp only[VW,h]
theorem Dz:oF K Q .normal=K:=rfl
theorem Gc {i:Nat}:oF K Q (.exit i)=Q (.exit i):=rfl
theorem HV:oF K Q .ret=Q .ret:=rfl
theorem F9 {i:Nat}:Bh i Q .normal=Q .normal:=rfl
theorem D9 {i j:Nat}:Bh i Q (.exit j) ρ H=if j=i then Q .normal ρ H else Q (.exit j) ρ H:=rfl
theorem Oe {i:Nat}:Bh i Q .ret=Q .ret:=rfl
theorem HM {res:List BI} {R:VV→aA→Prop}:B0 res R .normal ρ H=I3 R (oU res ρ H) H:=rfl
theorem Q9 {res:List BI} {R:VV→aA→Prop}:B0 res R .ret ρ H=I3 R (oU res ρ H) H:=rfl
theorem OD {R:VV→aA→Prop} {v:VV}:I3 R (some v) H=R v H:=rfl
theorem Vq {t:Nat}:oU [.tmp t] ρ H=some (ρ t):=rfl
theorem UC {t u:Nat}:oU [.tmp t,.tmp u] ρ H=some (.dQ [ρ t,ρ u]):=rfl
theorem Oj {t u v:Nat}:oU [.tmp t,.tmp u,.tmp v] ρ H=some (.dQ [ρ t,ρ u,ρ v]):=rfl
theorem Ra:oU [] ρ H=some (.dQ []):=rfl
theorem ajA:VS fl lo [] K ρ H=K ρ H:=rfl
theorem aoN:VS fl lo (⟨d,op,none,q,[]⟩::is) K ρ H=fD fl lo q op ρ H (TO fl lo d is K ρ):=by
 simp only[VS,CL,List.all_nil,true_and]
 rfl
theorem rN {c:Operand×Operand} {cs:List (Operand×Operand)}:VS fl lo (⟨d,op,none,q,c::cs⟩::is) K ρ H=((c::cs).all (kA ρ H)=true∧fD fl lo q op ρ H (TO fl lo d is K ρ)):=by
 simp only[VS,CL]
 rfl
theorem T6 {t:Nat} {want x:Bool} {cf:List (Operand×Operand)} (h:ρ t = .sc (.bool x)):VS fl lo (⟨d,op,some (t,want),q,cf⟩::is) K ρ H =
  if (x == want)=true then (cf.all (kA ρ H)=true∧fD fl lo q op ρ H (TO fl lo d is K ρ)) else VS fl lo is K (Mg ρ d rA) H:=by
 simp only[VS,CL,h]
 cases (x == want)<;>rfl
theorem agV {t:Nat} {want:Bool} (h:ρ t = .sc (.bool want)):VS fl lo (⟨d,op,some (t,want),q,[]⟩::is) K ρ H=fD fl lo q op ρ H (TO fl lo d is K ρ):=by
 rw[T6 h]
 simp
theorem aoS {t:Nat} {want:Bool} {cf:List (Operand×Operand)} (h:ρ t = .sc (.bool (!want))):VS fl lo (⟨d,op,some (t,want),q,cf⟩::is) K ρ H=VS fl lo is K (Mg ρ d rA) H:=by
 rw[T6 h]
 cases want<;>rfl
theorem YB {c:Operand} (h:fE ρ c = .sc (.bool true)):VW fl lo (.cond c a b) Q ρ H=VW fl lo a Q ρ H:=by
 rw[Zd h,if_pos rfl]
theorem Ue {c:Operand} (h:fE ρ c = .sc (.bool false)):VW fl lo (.cond c a b) Q ρ H=VW fl lo b Q ρ H:=by
 rw[Zd h,if_neg (by decide)]
theorem Lm {t:Nat} {want:Bool} {cf:List (Operand×Operand)} (h:ρ t=rA):VS fl lo (⟨d,op,some (t,want),q,cf⟩::is) K ρ H=VS fl lo is K (Mg ρ d rA) H:=by
 simp only[VS,CL,h,rA]
theorem wS {d t:Nat} {v:VV}:Mg ρ (some d) v t=if t=d then v else ρ t:=rfl
theorem Qn {v:VV}:Mg ρ none v=ρ:=rfl
theorem Y0 {t:Nat}:fE ρ (.tmp t)=ρ t:=rfl
theorem Rg {v:Value}:fE ρ (.const v)=inj v:=rfl
theorem Ty {f:Nat}:fE ρ (.func f) = .wG f []:=rfl
theorem YE {k:IntKind} {n:Int}:inj (.int k n) = .sc (.int k n):=rfl
theorem TA {t:Bool}:inj (.bool t) = .sc (.bool t):=rfl
theorem YS {s:ByteArray}:inj (.string s) = .sc (.string s):=rfl
theorem Y3:inj (.slice none 0 0) = .tree [] .nil:=rfl
theorem YW {cs:Array Value}:inj (.agg cs) = .agg (cs.toList.map kK):=rfl
theorem TR {k:IntKind} {n:Int}:kK (.int k n) = .sc (.int k n):=rfl
theorem QB {t:Bool}:kK (.bool t) = .sc (.bool t):=rfl
theorem Th {s:ByteArray}:kK (.string s) = .sc (.string s):=rfl
theorem TH:kK (.slice none 0 0) = .tree [] .nil:=rfl
theorem aiU {x:Operand}:fD fl lo q (.mv x) ρ H k=k (fE ρ x) H:=rfl
theorem iW {r:Option VV}:(match r.map (fun v=>(v,H)) with | some (v,H')=>k v H' | none=>False)=MN r H k:=by cases r<;>rfl
theorem TT {c x y:Operand}:fD fl lo q (.pick c x y) ρ H k=MN (T7 (fE ρ c) (fE ρ x) (fE ρ y)) H k:=iW
theorem YH {o:BinOp} {x y:Operand}:fD fl lo q (.bin o x y) ρ H k=MN (J7 (dN o) (fE ρ x) (fE ρ y)) H k:=iW
theorem YP {n:Bool} {x y:Operand}:fD fl lo q (.eqb n x y) ρ H k=MN (J7 (Pv n) (fE ρ x) (fE ρ y)) H k:=iW
theorem P7 {n:Bool} {x:Operand}:fD fl lo q (.isnil n x) ρ H k=MN (Hn n (fE ρ x) H) H k:=iW
theorem QW {n:Bool} {ks:List CK} {x y:Operand}:fD fl lo q (.eqagg n ks x y) ρ H k=MN (Wz n ks (fE ρ x) (fE ρ y)) H k:=iW
theorem agT {o:UnOp} {x:Operand}:fD fl lo q (.un o x) ρ H k=MN (NQ (pun o) (fE ρ x)) H k:=iW
theorem X6 {o:IntKind} {x:Operand}:fD fl lo q (.cvt o x) ρ H k=MN (NQ (Xm o) (fE ρ x)) H k:=iW
theorem XR {x:Operand}:fD fl lo q (.cvs x) ρ H k=MN (NQ Zq (fE ρ x)) H k:=iW
theorem X7 {x:Operand} {i:Nat}:fD fl lo q (.ext x i) ρ H k=MN (adS i (fE ρ x)) H k:=iW
theorem XY {g:Bool} {off size:Nat} {x:Operand}:fD fl lo q (.fld g off size x) ρ H k=MN (amO g off size (fE ρ x)) H k:=iW
theorem Q6 {z:List Value} {places:List (Nat×Nat)} {parts:List (Nat×Operand)}:fD fl lo q (.build z places parts) ρ H k=MN ((zV places (z.map kK) (parts.map fun(i,x)=>(i,fE ρ x))).map .agg) H k:=by
 show (match (zV places (z.map kK) (parts.map fun(i,x)=>(i,fE ρ x))).map fun cs=>(VV.agg cs,H) with | some (v,H')=>k v H' | none=>False)=_
 cases zV places (z.map kK) (parts.map fun(i,x)=>(i,fE ρ x))<;>rfl
theorem YZ {x:Operand}:fD fl lo q (.chk x) ρ H k=MN (ZD (fE ρ x) H) H k:=iW
theorem QY {off:Nat} {x:Operand}:fD fl lo q (.faddr off x) ρ H k=MN (KC off (fE ρ x) H) H k:=iW
theorem Qo {size:Nat} {x i:Operand}:fD fl lo q (.iaddr size x i) ρ H k=MN (bL size (fE ρ x) (fE ρ i) H) H k:=iW
theorem Tk {x i:Operand}:fD fl lo q (.sidx x i) ρ H k=MN (J7 IA (fE ρ x) (fE ρ i)) H k:=iW
theorem UE {x:Operand} {l h:Option Operand}:fD fl lo q (.ssub x l h) ρ H k=MN (wV (fE ρ x) (l.map (fE ρ)) (h.map (fE ρ))) H k:=iW
theorem Uo {f:Nat} {gL:List Operand}:fD fl lo q (.mkfn f gL) ρ H k=k (.wG f (gL.map (fE ρ))) H:=rfl
theorem YU {x:Operand}:fD fl lo q (.len x) ρ H k=MN (pW (fE ρ x) H) H k:=iW
theorem UH {x:Operand}:fD fl lo q (.slen x) ρ H k=MN (NQ xV (fE ρ x)) H k:=iW
theorem XZ {x y:Operand}:fD fl lo q (.min x y) ρ H k=MN (J7 TZ (fE ρ x) (fE ρ y)) H k:=iW
theorem XV {x y:Operand}:fD fl lo q (.max x y) ρ H k=MN (J7 UQ (fE ρ x) (fE ρ y)) H k:=iW
theorem Tj {g:Bool} {size:Nat} {p:Operand}:fD fl lo q (.load g size p) ρ H k=MN (cC g size (fE ρ p) H) H k:=iW
theorem YY {size:Nat} {x:Operand} {l h m:Option Operand}:fD fl lo q (.sub size x l h m) ρ H k=MN (FW size (fE ρ x) (l.map (fE ρ)) (h.map (fE ρ)) (m.map (fE ρ)) H) H k:=iW
theorem Y1 {z:List Value}:fD fl lo q (.new z) ρ H k=R8 (if (z.map kK).all bS then some (.ptr H.length 0 0 0,H++[.row 0 [elemOf (z.map kK)] z.length true]) else none) k:=rfl
theorem Yr {x:Operand}:fD fl lo q (.box x) ρ H k=R8 (if (aB (fE ρ x)).all bS then (if fl.bf then some (.dA (fE ρ x) 0,H) else some (.ptr H.length 0 0 0,H++[.row 0 [fE ρ x] (aB (fE ρ x)).length true])) else none) k:=rfl
theorem Tv {z:List Value} {bytes:Nat} {l c:Operand}:fD fl lo q (.make z bytes l c) ρ H k=R8 (if (z.map kK).all bS then BK z bytes (fE ρ l) (fE ρ c) H else none) k:=rfl
theorem YL {z:List Value} {n:Nat} {parts:List (Nat×Operand)}:fD fl lo q (.lit z n parts) ρ H k=R8 (kD fl.lr z n (parts.map fun(i,x)=>(i,fE ρ x)) H) k:=rfl
def YM (r:Option aA) (k:VV→aA→Prop):Prop:=match r with
 | some H'=>k rA H'
 | none=>False
theorem NN {H':aA}:YM (some H') k=k rA H':=rfl
theorem QN {r:Option aA}:(match r.map (fun H'=>(rA,H')) with | some (v,H')=>k v H' | none=>False)=YM r k:=by cases r<;>rfl
theorem PX {size:Nat} {p v:Operand}:fD fl lo q (.store size p v) ρ H k=YM (bQ lo size (fE ρ p) (fE ρ v) H) k:=QN
def avQ (lo size bytes:Nat) (x:VV) (new:Option (List VV)) (H:aA) (k:VV→aA→Prop):Prop:=match new with
 | some new=>R8 (eE lo size bytes x new H) k
 | none=>False
theorem QE {size bytes:Nat} {x:VV} {new:List VV}:avQ lo size bytes x (some new) H k=R8 (eE lo size bytes x new H) k:=rfl
theorem YF {size bytes:Nat} {x y:Operand}:fD fl lo q (.app size bytes x y) ρ H k=avQ lo size bytes (fE ρ x) (cT size (fE ρ y) H) H k:=by
 show (match (match cT size (fE ρ y) H with | some new=>eE lo size bytes (fE ρ x) new H | none=>none) with | some (v,H')=>k v H' | none=>False)=_
 cases cT size (fE ρ y) H<;>rfl
theorem TJ {size:Nat} {x y:Operand}:fD fl lo q (.copy size x y) ρ H k=R8 (Lt lo size (fE ρ x) (fE ρ y) H) k:=rfl
theorem QM {z:List Value} {x:Operand}:fD fl lo q (.clear z x) ρ H k=YM (RA lo z (fE ρ x) H) k:=QN
theorem Us {f:Nat} {args:List Operand}:fD fl lo q (.call f args) ρ H k=cO f (args.map (fE ρ)) (if q then H.length else lo) H k:=rfl
noncomputable def Wl (x:VV) (args:List VV) (lo:Nat) (H:aA) (k:VV→aA→Prop):Prop:=match x with
 | .wG f gL=>cO f (args++gL) lo H k
 | _=>False
theorem Cz {f:Nat} {gL args:List VV}:Wl (.wG f gL) args lo H k=cO f (args++gL) lo H k:=rfl
theorem QP {fv:Operand} {args:List Operand}:fD fl lo q (.callv fv args) ρ H k=Wl (fE ρ fv) (args.map (fE ρ)) (if q then H.length else lo) H k:=by
 simp only[fD,Wl]
 all_goals (cases fE ρ fv<;>rfl)
theorem Rs {x:Operand}:fD fl lo q (.b2s x) ρ H k=R8 (vop fl lo (.b2s x) ρ H) k:=rfl
theorem Y6 {f:Value→Option Value} {x:Value}:NQ f (.sc x)=(f x).map .sc:=rfl
theorem Yi {f:Value→Value→Option Value} {x y:Value}:J7 f (.sc x) (.sc y)=(f x y).map .sc:=rfl
theorem Uc {t:Bool} {x y:VV}:T7 (.sc (.bool t)) x y=some (if t=true then x else y):=rfl
theorem Vp {vs:List VV} {i:Nat}:adS i (.dQ vs)=vs[i]? := rfl
theorem QG {es:List VV} {t:TK}:pW (.tree es t) H=some (.sc (.int .i64 es.length)):=rfl
theorem eR {b g o n c:Nat} {r:List VV×Nat×Bool} (h:aJ H b g=some r):pW (.ref b g o n c) H=some (.sc (.int .i64 n)):=by
 simp only[pW,h,Option.map_some]
theorem Ur {x:VV} {o off:Nat}:KC off (.dA x o) H=some (.dA x (o+off)):=rfl
theorem agF {x:VV} {o:Nat}:ZD (.dA x o) H=some (.dA x o):=rfl
theorem ME {g:Bool} {size o:Nat} {x:VV}:cC g size (.dA x o) H=dM g size x o:=rfl
theorem Si {g:Bool} {size b gn j o:Nat} {es:List VV} {e:Nat} {w:Bool} {x:VV} (h:aJ H b gn=some (es,e,w)) (hx:es[j]? = some x):cC g size (.ptr b gn j o) H=dM g size x o:=by
 simp only[cC,h,hx]
theorem aeN {size:Nat} {v:Value}:dM false size (.sc v) 0=some (.sc v):=rfl
theorem YD {size:Nat} {es:List VV} {t:TK}:dM false size (.tree es t) 0=some (.tree es t):=rfl
theorem afV {size b g o n c:Nat}:dM false size (.ref b g o n c) 0=some (.ref b g o n c):=rfl
theorem adK {size f:Nat} {gL:List VV}:dM false size (.wG f gL) 0=some (.wG f gL):=rfl
theorem R7 {size o:Nat} {cs:List VV}:dM false size (.agg cs) o=cs[o]? := rfl
theorem adC {size:Nat} {cs:List VV} (h:cs.length=size):dM true size (.agg cs) 0=some (.agg cs):=by
 subst h
 simp[dM,aB]
theorem ahS {size:Nat} {es:List VV} {t:TK} {kk:IntKind} {i:Int} {x:VV} (h0:0≤i) (hx:es[i.toNat]? = some x) (hs:(aB x).length=size):bL size (.tree es t) (.sc (.int kk i)) H=some (.dA x 0):=by
 simp only[bL,h0,hx,hs,if_true]
theorem abX {size:Nat} {es:List VV} {t:TK} {kk:IntKind} {i:Nat} {x:VV} (hx:es[i]? = some x) (hs:(aB x).length=size):bL size (.tree es t) (.sc (.int kk (i:Int))) H=some (.dA x 0) :=
 ahS (by omega) (by simpa using hx) hs
theorem ahA {size b g o n c:Nat} {kk:IntKind} {i:Int} {es:List VV} {w:Bool} (h:aJ H b g=some (es,size,w)) (h0:0≤i) (h1:i<n):bL size (.ref b g o n c) (.sc (.int kk i)) H=some (.ptr b g (o+i.toNat) 0):=by
 simp only[bL,h]
 rw[if_pos ⟨trivial,h0,h1⟩]
theorem ZQ {size b g o n c:Nat} {kk:IntKind} {i:Nat} {es:List VV} {w:Bool} (h:aJ H b g=some (es,size,w)) (h1:i<n):bL size (.ref b g o n c) (.sc (.int kk (i:Int))) H=some (.ptr b g (o+i) 0):=by
 rw[ahA h (by omega) (by omega),Int.toNat_natCast]
abbrev TC (f:Nat) (args:List VV) (r:VV):Prop:=∀(lo:Nat) (H:aA) (k:VV→aA→Prop),cO f args lo H k=k r H
theorem TC.of {f:Nat} {args:List VV} {r:VV} (hr:Cf.contains f=false) (ha:aO args=true) (h:vT f args=some r):TC f args r:=by
 intro lo H k
 unfold cO Ig
 simp only[hr,ha,if_true,h,Bool.false_eq_true,if_false,amG]
theorem TC.walk {f:Nat} {pf:aR} {args:List VV} {r:VV} (fl:Fl) (ht:fA f=some pf) (hr:Cf.contains f=false) (hn:args.length≤pf.ntmps) (ha:aO args=true) (XH:fX r=true) (h:VW fl 0 pf.body (B0 pf.res fun v H=>fz depth H v=some r) (K9 args) []):TC f args r :=
 TC.of hr ha (aoK ha XH (VT.walk fl ht hn h))
theorem TC.Ek {f:Nat} {args jC:List VV} {r:VV} (h:TC f jC r) (hr:Cf.contains f=false) (ha':aO jC=true) (hf:args.mapM (fz depth H)=some jC) (ha:aO args=false):cO f args lo H k=if OH r=true then k r H else k r (dI H (args.flatMap (iS depth H))):=by
 have e:∀K,Ig f jC K=K r:=fun K=>by
  have:=h 0 [] fun r _=>K r
  unfold cO at this
  simpa only[hr,ha',if_true,Bool.false_eq_true,if_false] using this
 unfold cO
 simp only[hr,ha,hf,Bool.false_eq_true,if_false]
 rw[e]
theorem aI {n:Nat} {v:VV} (h:aQ v=true):fz (n+1) H v=some v:=by
 unfold PM.fz
 rw[if_pos h]
theorem aE {v:VV} (h:aQ v=true):fz depth H v=some v:=aI h
theorem mapM_pure {n:Nat}:∀ {es:List VV},aO es=true→es.mapM (PM.fz (n+1) H)=some es
 | [],_=>rfl
 |
  x::xs,h=>by
  simp only[aO,Bool.and_eq_true] at h
  rw[List.mapM_cons,aI h.1,mapM_pure h.2]
  rfl
theorem Hf {b g n c e:Nat} {es:List VV} {w:Bool} (h:aJ H b g=some (es,e,w)) (hn:n=es.length) (hc:n≤c) (hp:aO es=true):fz depth H (.ref b g 0 n c)=some (.tree es .op):=by
 have:aQ (.ref b g 0 n c)=false:=rfl
 show fz (7+1) H _=_
 unfold PM.fz
 simp only[this,h,Bool.false_eq_true,if_false]
 subst hn
 rw[if_pos ⟨by omega,hc⟩,List.drop_zero,List.take_length,mapM_pure hp]
 rfl
theorem G5 {n:Nat} {v:VV} (h:aQ v=true):iS n H v=[]:=by
 cases n with
 | zero=>rfl
 | succ n=>unfold iS;rw[if_pos h]
theorem yG {n:Nat}:∀ {es:List VV},aO es=true→es.flatMap (iS n H)=[]
 | [],_=>rfl
 |
  x::xs,h=>by
  simp only[aO,Bool.and_eq_true] at h
  rw[List.flatMap_cons,G5 h.1,yG h.2]
  rfl
theorem Q4 {b g n c e:Nat} {es:List VV} {w:Bool} (h:aJ H b g=some (es,e,w)) (hn:n=es.length) (hp:aO es=true):iS depth H (.ref b g 0 n c)=[b]:=by
 have:aQ (.ref b g 0 n c)=false:=rfl
 show iS (7+1) H _=_
 unfold iS
 simp only[this,h,Bool.false_eq_true,if_false]
 subst hn
 rw[List.drop_zero,List.take_length,yG hp]
theorem Yo {r:Option VV} {K K':VV→Prop} (hk:∀v,K v→K' v) (h:tk r K):tk r K':=by
 cases r with
 | none=>exact h
 | some v=>exact hk _ h
theorem KQ {f:Nat} {args:List VV} {k k':VV→aA→Prop} (hk:∀v H,k v H→k' v H) (h:cO f args lo H k):cO f args lo H k':=by
 unfold cO at h ⊢
 split at h
 ·rename_i h1
  rw[if_pos h1]
  exact h.mono hk
 ·rename_i h1
  rw[if_neg h1]
  split at h
  ·rename_i h2
   rw[if_pos h2]
   exact Yo (fun v=>hk v H) h
  ·rename_i h2
   rw[if_neg h2]
   split at h
   ·refine Yo (fun v hv => ?_) h
    split at hv
    ·rename_i h3;rw[if_pos h3];exact hk _ _ hv
    ·rename_i h3;rw[if_neg h3];exact hk _ _ hv
   ·cases h
theorem WI {k k':VV→aA→Prop} (hk:∀v H,k v H→k' v H) (h:fD fl lo q op ρ H k):fD fl lo q op ρ H k':=by
 unfold fD at h ⊢
 split at h
 ·exact KQ hk h
 ·split at h
  ·exact KQ hk h
  ·cases h
 ·split at h
  ·exact hk _ _ h
  ·cases h
theorem SN {K K':dU→aA→Prop} (hk:∀ρ H,K ρ H→K' ρ H):∀ {is:List PI} {ρ:dU} {H:aA},VS fl lo is K ρ H→VS fl lo is K' ρ H
 | [],ρ,H,h=>hk _ _ h
 |
  i::is,ρ,H,h=>by
  unfold VS at h ⊢
  split at h
  ·cases h
  ·exact SN hk h
  ·exact⟨h.1,WI (fun v H' hv=>SN hk hv) h.2⟩
theorem rI {K K':dU→aA→Prop} {Q Q':VQ} (hk:∀ρ H,K ρ H→K' ρ H) (hq:∀x ρ H,Q x ρ H→Q' x ρ H):∀x ρ H,oF K Q x ρ H→oF K' Q' x ρ H
 | .normal,ρ,H,h=>hk _ _ h
 | .exit _,ρ,H,h=>hq _ _ _ h
 | .ret,ρ,H,h=>hq _ _ _ h
theorem akZ {K K':dU→aA→Prop} (hk:∀ρ H,K ρ H→K' ρ H) (h:gh K ρ H):gh K' ρ H:=by
 obtain⟨ts,bI,H',h1,h2⟩:=h
 exact⟨ts,bI,H',h1,hk _ _ h2⟩
theorem yH:∀ {c:aD} {Q Q':VQ} {ρ:dU} {H:aA},(∀x ρ H,Q x ρ H→Q' x ρ H)→VW fl lo c Q ρ H→VW fl lo c Q' ρ H
 | .skip,_,_,_,_,hq,h=>hq _ _ _ h
 | .exit _,_,_,_,_,hq,h=>hq _ _ _ h
 | .ret,_,_,_,_,hq,h=>hq _ _ _ h
 | .dE _,_,_,_,_,hq,h=>SN (fun ρ H=>hq .normal ρ H) h
 | .seq a b,Q,Q',_,_,hq,h=>yH (c:=a) (rI (fun ρ H h=>yH (c:=b) hq h) hq) h
 |
  .cond c a b,Q,Q',ρ,H,hq,h=>by
  unfold VW at h ⊢
  split at h
  ·split at h
   ·rename_i h1;rw[if_pos h1];exact yH (c:=a) hq h
   ·rename_i h1;rw[if_neg h1];exact yH (c:=b) hq h
  ·cases h
 |
  .block i a,Q,Q',_,_,hq,h=>by
  refine yH (c:=a) (fun x ρ H hx => ?_) h
  cases x with
  | normal=>exact hq _ _ _ hx
  | ret=>exact hq _ _ _ hx
  |
   exit j =>
   rw[D9] at hx ⊢
   split at hx
   ·rename_i h1;rw[if_pos h1];exact hq _ _ _ hx
   ·rename_i h1;rw[if_neg h1];exact hq _ _ _ hx
 |
  .loop a,Q,Q',ρ,H,hq,h=>by
  obtain⟨n,h⟩:=h
  refine⟨n,?_⟩
  induction n generalizing ρ H with
  | zero=>cases h
  |
   succ n ih =>
   refine yH (c:=a) (rI (fun ρ H h => ?_) fun x ρ H h=>akZ (hq x) h) h
   rcases h with h | ⟨h1,h2⟩
   ·exact .inl (ih _ _ h)
   ·exact .inr ⟨h1,ih _ _ h2⟩
theorem aoQ {K:dU→aA→Prop} (h:K ρ H):gh K ρ H:=⟨[],ρ,H,rfl,h⟩
theorem Vk {α:Type} {c:aD} (I:α→dU→aA→Prop) (μ:α→Nat) (s:α) (h0:I s ρ H)
  (round:∀s ρ H,I s ρ H→VW fl lo c (oF (fun bI H'=>∃s',μ s'<μ s∧(I s' bI H'∨(jK H.length (H'.take H.length)=true∧I s' (Ks H.length bI) (H'.take H.length)))) (fun x=>gh (Q x))) ρ H):VW fl lo (.loop c) Q ρ H:=by
 refine⟨μ s+1,?_⟩
 have key:∀n s ρ H,μ s<n→I s ρ H→UL (VW fl lo c) (fun x=>gh (Q x)) n ρ H:=by
  intro n
  induction n with
  | zero=>intro s ρ H h;omega
  |
   succ n ih =>
   intro s ρ H hn hI
   refine yH (rI (fun bI H' h => ?_) fun x ρ H h=>h) (round s ρ H hI)
   obtain⟨s',h1,h2 | ⟨h2,h3⟩⟩:=h
   ·exact .inl (ih s' _ _ (by omega) h2)
   ·exact .inr ⟨h2,ih s' _ _ (by omega) h3⟩
 exact key _ s ρ H (Nat.lt_succ_self _) h0
theorem aV {α:Type} {c:aD} (I:α→dU→aA→Prop) (μ:α→Nat) (s:α) (h0:I s ρ H)
  (round:∀s ρ H,I s ρ H→VW fl lo c (oF (fun bI H'=>∃s',μ s'<μ s∧I s' bI H') Q) ρ H):VW fl lo (.loop c) Q ρ H :=
 Vk I μ s h0 fun s ρ H h=>yH (rI (fun _ _ ⟨s',h1,h2⟩=>⟨s',h1,.inl h2⟩) fun _ _ _ h=>aoQ h) (round s ρ H h)
theorem IY {α:Type} {c:aD} (I:α→dU→aA→Prop) (μ:α→Nat) (s:α) (h0:I s ρ H)
  (round:∀s ρ H,I s ρ H→VW fl lo c (oF (fun bI H'=>∃s',μ s'<μ s∧jK H.length (H'.take H.length)=true∧I s' (Ks H.length bI) (H'.take H.length)) Q) ρ H):VW fl lo (.loop c) Q ρ H :=
 Vk I μ s h0 fun s ρ H h=>yH (rI (fun _ _ ⟨s',h1,h2⟩=>⟨s',h1,.inr h2⟩) fun _ _ _ h=>aoQ h) (round s ρ H h)
theorem Nt {n:Nat} {v:VV} (h:below n v=true):Lq n v=v:=by
 unfold Lq
 rw[if_pos h]
mutual
theorem GQ {n:Nat} (v:VV) (h:aQ v=true):below n v=true:=by
 cases v with
 | any=>rfl
 | sc=>rfl
 | agg cs=>exact lZ cs h
 | dQ cs=>exact lZ cs h
 | tree es t=>exact lZ es (Jz h).2.1
 | dA x o=>exact GQ x h
 | ref=>cases h
 | ptr=>cases h
 | wG f gL=>exact lZ gL h
theorem lZ {n:Nat} (vs:List VV) (h:aO vs=true):mY n vs=true:=by
 cases vs with
 | nil=>rfl
 |
  cons x xs =>
  simp only[aO,Bool.and_eq_true] at h
  simp only[mY,GQ x h.1,lZ xs h.2,Bool.and_self]
end
end
end Go.PM
namespace Go.PM
def val (b:Nat):List Nat→Nat
 | []=>0
 | d::ds=>d+b*val b ds
def aC (b n:Nat):List Nat:=if h:n=0∨b<2 then [] else n % b::aC b (n / b)
termination_by n
decreasing_by exact Nat.div_lt_self (by omega) (by omega)
section
variable {b:Nat}
theorem cF:aC b 0=[]:=by rw[aC];simp
theorem jV (hb:2≤b) {n:Nat} (hn:n≠0):aC b n=n % b::aC b (n / b):=by rw[aC,dif_neg (by omega)]
theorem uU {d:Nat} {ds:List Nat}:val b (d::ds)=d+b*val b ds:=rfl
theorem zG (xs ys:List Nat):val b (xs++ys)=val b xs+b^xs.length*val b ys:=by
 induction xs with
 | nil=>simp[val]
 |
  cons x xs ih =>
  simp only[List.cons_append,uU,ih,List.length_cons,Nat.pow_succ]
  rw[Nat.mul_add,Nat.mul_comm (b^xs.length) b,Nat.mul_assoc,Nat.add_assoc]
theorem val_one (d:Nat):val b [d]=d:=by simp[val]
theorem tT (xs:List Nat) (d:Nat):val b (xs++[d])=val b xs+b^xs.length*d:=by rw[zG,val_one]
theorem sG (n:Nat):val b (List.replicate n 0)=0:=by
 induction n with
 | zero=>rfl
 | succ n ih=>simp[List.replicate_succ,val,ih]
theorem pL {xs:List Nat} (h:∀d∈xs,d<b):val b xs<b^xs.length:=by
 induction xs with
 | nil=>simp[val]
 |
  cons x xs ih =>
  have h1:=h x List.mem_cons_self
  have h2:=ih fun d hd=>h d (List.mem_cons_of_mem _ hd)
  simp only[uU,List.length_cons,Nat.pow_succ]
  have h3:b*(val b xs+1)≤b*b^xs.length:=Nat.mul_le_mul_left _ h2
  rw[Nat.mul_add,Nat.mul_one] at h3
  rw[Nat.mul_comm (b^xs.length) b]
  omega
theorem cN (hb:2≤b) (n:Nat):val b (aC b n)=n:=by
 induction n using Nat.strongRecOn with
 |
  _ n ih =>
  by_cases h:n=0
  ·subst h;rw[cF];rfl
  ·rw[jV hb h,uU,ih _ (Nat.div_lt_self (by omega) (by omega))]
   exact Nat.mod_add_div n b
theorem fW (hb:2≤b) (n:Nat):∀d∈aC b n,d<b:=by
 induction n using Nat.strongRecOn with
 |
  _ n ih =>
  by_cases h:n=0
  ·subst h;rw[cF];intro d hd;cases hd
  ·rw[jV hb h]
   intro d hd
   rcases List.mem_cons.1 hd with rfl | hd
   ·exact Nat.mod_lt _ (by omega)
   ·exact ih _ (Nat.div_lt_self (by omega) (by omega)) d hd
theorem nA (hb:2≤b) {n:Nat}:aC b n=[]↔n=0:=by
 constructor
 ·intro h
  have:=cN hb n
  rw[h] at this
  exact this.symm
 ·rintro rfl;exact cF
theorem Qw (hb:2≤b) (n:Nat):(aC b n).getLast? ≠ some 0:=by
 induction n using Nat.strongRecOn with
 |
  _ n ih =>
  by_cases h:n=0
  ·subst h;rw[cF];simp
  ·rw[jV hb h]
   have h1:=ih _ (Nat.div_lt_self (n:=n) (k:=b) (by omega) (by omega))
   by_cases h2:n / b=0
   ·rw[h2,cF]
    have:n<b:=by
     rcases Nat.div_eq_zero_iff.1 h2 with h | h<;>omega
    simp[Nat.mod_eq_of_lt this,h]
   ·have fT:aC b (n / b)≠[]:=fun h=>h2 ((nA hb).1 h)
    obtain⟨x,xs,hx⟩:=List.exists_cons_of_ne_nil fT
    rw[hx] at h1 ⊢
    rw[List.getLast?_cons_cons]
    exact h1
theorem M6 (hb:2≤b) {xs:List Nat} (h:∀d∈xs,d<b) (hl:xs.getLast? ≠ some 0):aC b (val b xs)=xs:=by
 induction xs with
 | nil=>exact cF
 |
  cons x xs ih =>
  have h1:=h x List.mem_cons_self
  have hr:(x+b*val b xs) % b=x:=by rw[Nat.add_mul_mod_self_left,Nat.mod_eq_of_lt h1]
  have hq:(x+b*val b xs) / b=val b xs:=by rw[Nat.add_mul_div_left _ _ (by omega),Nat.div_eq_of_lt h1,Nat.zero_add]
  cases xs with
  |
   nil =>
   have hx:x≠0:=by rintro rfl;simp at hl
   rw[val_one,jV hb hx,Nat.mod_eq_of_lt h1,Nat.div_eq_of_lt h1,cF]
  |
   cons y ys =>
   rw[List.getLast?_cons_cons] at hl
   have h2:=ih (fun d hd=>h d (List.mem_cons_of_mem _ hd)) hl
   have h3:val b (y::ys)≠0:=fun h0=>by rw[h0,cF] at h2;cases h2
   have h4:b*val b (y::ys)≠0:=Nat.mul_ne_zero (by omega) h3
   rw[uU,jV hb (by omega),hr,hq,h2]
theorem MA (hb:2≤b) {n:Nat} (hn:n≠0):b^((aC b n).length-1)≤n:=by
 induction n using Nat.strongRecOn with
 |
  _ n ih =>
  rw[jV hb hn]
  by_cases h2:n / b=0
  ·rw[h2,cF];simp;omega
  ·have h3:=ih _ (Nat.div_lt_self (by omega) (by omega)) h2
   have fT:aC b (n / b)≠[]:=fun h=>h2 ((nA hb).1 h)
   obtain⟨x,xs,hx⟩:=List.exists_cons_of_ne_nil fT
   rw[hx] at h3 ⊢
   simp only[List.length_cons,Nat.add_sub_cancel] at h3 ⊢
   rw[Nat.pow_succ]
   calc b^xs.length*b≤n / b*b:=Nat.mul_le_mul_right _ h3
    _≤n:=Nat.div_mul_le_self n b
theorem iD (hb:2≤b) (n:Nat):n<b^(aC b n).length:=by
 have:=pL (fW hb n)
 rwa [cN hb] at this
theorem nL (hb:2≤b) {n k:Nat} (h:n<b^k):(aC b n).length≤k:=by
 by_cases hn:n=0
 ·subst hn;rw[cF];simp
 ·have h1:=MA hb hn
  have h2:b^((aC b n).length-1)<b^k:=Nat.lt_of_le_of_lt h1 h
  have h3:(aC b n).length-1<k:=(Nat.pow_lt_pow_iff_right (by omega)).1 h2
  have fT:aC b n≠[]:=fun h=>hn ((nA hb).1 h)
  have:=List.length_pos_iff.2 fT
  omega
theorem eZ (hb:2≤b) {m n:Nat} (h:m≤n):(aC b m).length≤(aC b n).length :=
 nL hb (Nat.lt_of_le_of_lt h (iD hb n))
theorem qM (xs:List Nat) (i:Nat):val b xs=val b (xs.take i)+b^(xs.take i).length*val b (xs.drop i):=by
 rw[←zG,List.take_append_drop]
theorem bF {xs:List Nat} {i d:Nat} (h:xs[i]? = some d):val b (xs.take (i+1))=val b (xs.take i)+b^i*d:=by
 have bH:=(List.getElem?_eq_some_iff.1 h).1
 rw[List.take_add_one,h]
 simp only[Option.toList_some]
 rw[tT,List.length_take,Nat.min_eq_left (by omega)]
theorem uE {xs:List Nat} {i d:Nat} (h:xs[i]? = some d):val b (xs.drop i)=d+b*val b (xs.drop (i+1)):=by
 obtain⟨bH,he⟩:=List.getElem?_eq_some_iff.1 h
 rw[List.drop_eq_getElem_cons bH,he,uU]
theorem GJ {P A B O c x y s q r W:Nat} (h:A+B=O+P*c) (hs:c+x+y=s) (hr:r+W*q=s):(A+P*x)+(B+P*y)=(O+P*r)+(P*W)*q:=by grind
theorem Ls {P A B O l x y r W l':Nat} (h:A+P*l=O+B) (hd:r+y+l=x+W*l'):(A+P*x)+(P*W)*l'=(O+P*r)+(B+P*y):=by grind
theorem agY {xs:List Nat} {i d:Nat} (h:i<xs.length):(xs.set i d).take (i+1)=xs.take i++[d]:=by
 rw[List.set_eq_take_append_cons_drop,if_pos h,List.take_append]
 simp[List.take_take,Nat.min_eq_left (by omega:i≤xs.length),Nat.min_eq_right (by omega:i≤i+1)]
theorem fJ {xs:List Nat} {i d:Nat} (h:i<xs.length):val b ((xs.set i d).take (i+1))=val b (xs.take i)+b^i*d:=by
 rw[agY h,tT,List.length_take,Nat.min_eq_left (by omega)]
theorem mU {xs:List Nat} {i d:Nat} (h:∀x∈xs,x<b) (hd:d<b):∀x∈xs.set i d,x<b:=by
 intro x hx
 rcases List.mem_or_eq_of_mem_set hx with h1 | h1
 ·exact h x h1
 ·subst h1;exact hd
theorem kI {xs:List Nat} {i:Nat} (h:xs.length≤i):val b (xs.take i)=val b xs:=by rw[List.take_of_length_le h]
theorem Bn (hb:0<b) (n:Nat):∀x∈List.replicate n 0,x<b:=by
 intro x hx
 rw[List.eq_of_mem_replicate hx]
 exact hb
theorem Z8 {P x y R t:Nat} (ht:t<P) (h:x<y):t+P*(x+R)<P*(y+R):=by
 have h1:P*(x+R+1)≤P*(y+R):=Nat.mul_le_mul_left _ (by omega)
 rw[Nat.mul_add,Nat.mul_one] at h1
 omega
theorem FF {xs ys:List Nat} {i x y:Nat} (hx:∀d∈xs,d<b) (hl:xs.length=ys.length) (hi:xs[i]? = some x) (hj:ys[i]? = some y) (hd:xs.drop (i+1)=ys.drop (i+1)) (h:x<y):val b xs<val b ys:=by
 have h1:=(List.getElem?_eq_some_iff.1 hi).1
 have ht:(xs.take i).length=i:=by simp;omega
 have ht':(ys.take i).length=i:=by simp;omega
 have h2:=pL (b:=b) (xs:=xs.take i) fun d hd=>hx d (List.mem_of_mem_take hd)
 rw[ht] at h2
 rw[qM xs i,qM ys i,ht,ht',uE hi,uE hj,hd]
 have:=Z8 (R:=b*val b (ys.drop (i+1))) h2 h
 omega
theorem Uy (hb:2≤b) {m n:Nat} (h:aC b m=aC b n):m=n:=by
 have:=congrArg (val b) h
 rwa [cN hb,cN hb] at this
def fK (a b:Nat):Int:=if a<b then -1 else if a=b then 0 else 1
theorem FB (hb:2≤b) {m n:Nat} (h:(aC b m).length<(aC b n).length):m<n:=by
 rcases Nat.lt_or_ge m n with h1 | h1
 ·exact h1
 ·have:=eZ hb h1
  omega
end
end Go.PM
namespace Go.PM
abbrev VI (n:Int):VV := .sc (.int .i64 n)
abbrev VK (k:IntKind) (n:Int):VV := .sc (.int k n)
abbrev VB (t:Bool):VV := .sc (.bool t)
abbrev aM {α:Type} (f:α→VV) (xs:List α):VV := .tree (xs.map f) .op
section
variable {α:Type} {f:α→VV} {xs ys:List α} {x:α} {t:TK} {H:aA} {size i:Nat} {k:IntKind}
theorem eX:pW (.tree (xs.map f) t) H=some (VI xs.length):=by simp[pW]
theorem aK (hx:xs[i]? = some x) (hs:(aB (f x)).length=size):bL size (.tree (xs.map f) t) (VK k (i:Int)) H=some (.dA (f x) 0) :=
 abX (by simp[hx]) hs
theorem Vn (hs:∀x,(aB (f x)).length=size):∀y∈xs.map f,(aB y).length=size:=by
 intro y hy
 obtain⟨x,_,rfl⟩:=List.mem_map.1 hy
 exact hs x
theorem eW (hp:∀x,aQ (f x)=true):aO (xs.map f)=true:=by
 rw[Bx]
 intro y hy
 obtain⟨x,_,rfl⟩:=List.mem_map.1 hy
 exact hp x
theorem alP (hp:∀x,fX (f x)=true):rE (xs.map f)=true:=by
 rw[Od]
 intro y hy
 obtain⟨x,_,rfl⟩:=List.mem_map.1 hy
 exact hp x
theorem X8 {size:Nat} (hs:∀x,(aB (f x)).length=size):uni (xs.map f)=true:=by
 cases xs with
 | nil=>rfl
 |
  cons x xs =>
  simp only[List.map_cons,uni,List.all_eq_true]
  intro y hy
  obtain⟨z,_,rfl⟩:=List.mem_map.1 hy
  simp[hs]
theorem kL {size:Nat} (hs:∀x,(aB (f x)).length=size) (hp:∀x,aQ (f x)=true):aQ (aM f xs)=true:=by
 simp only[aM,aQ,eW hp,X8 hs,decide_true,Bool.and_self]
theorem zN {size:Nat} (hs:∀x,(aB (f x)).length=size) (hp:∀x,fX (f x)=true) (he:∀x,Bo (f x)=true):fX (aM f xs)=true:=by
 have h4:(xs.map f).all Bo=true:=by
  rw[List.all_eq_true]
  intro y hy
  obtain⟨z,_,rfl⟩:=List.mem_map.1 hy
  exact he z
 simp only[aM,fX,alP hp,X8 hs,h4,decide_true,Bool.and_self]
theorem alA {es:List VV} {h:Nat} (fT:0<es.length) (hs:∀x∈es,(aB x).length=size) (hh:h≤es.length) {k2:IntKind} :
  FW size (.tree es t) none (some (VK k2 h)) none H=some (.tree (es.take h) .op):=by
 cases es with
 | nil=>simp at fT
 |
  cons y ys =>
  have hy:=hs y List.mem_cons_self
  simp only[List.length_cons] at hh
  have e1:(0:Int)≤h∧(h:Int)≤((ys.length+1:Nat):Int):=by omega
  simp only[FW,GV,hy,if_true,fG,e1,Int.toNat_natCast,Option.isSome_none,Bool.false_eq_true,false_and,if_false]
  simp
theorem Ui (h:0<xs.length):0<(xs.map f).length:=by simpa using h
theorem aiN {b g o n c:Nat} {es:List VV} {w:Bool} {l h:Nat} (hr:aJ H b g=some (es,size,w)) (hl:l≤h) (hh:h≤c) {k1 k2:IntKind} :
  FW size (.ref b g o n c) (some (VK k1 l)) (some (VK k2 h)) none H=some (.ref b g (o+l) (h-l) (c-l)):=by
 have e1:(0:Int)≤h∧(h:Int)≤(c:Int):=by omega
 have e2:(0:Int)≤l∧(l:Int)≤(h:Int):=by omega
 simp only[FW,GV,hr,if_true,fG,e1,e2,Int.toNat_natCast,Option.isSome_none,Bool.false_eq_true,false_and,if_false]
 simp[hl]
theorem wO {b g o n c:Nat} {es:List VV} {w:Bool} {h:Nat} (hr:aJ H b g=some (es,size,w)) (hh:h≤c) {k2:IntKind} :
  FW size (.ref b g o n c) none (some (VK k2 h)) none H=some (.ref b g o h c):=by
 have e1:(0:Int)≤h∧(h:Int)≤(c:Int):=by omega
 simp only[FW,GV,hr,if_true,fG,e1,Int.toNat_natCast,Option.isSome_none,Bool.false_eq_true,false_and,if_false]
 simp
theorem PD {b g o n c:Nat} {es:List VV} {w:Bool} {l:Nat} (hr:aJ H b g=some (es,size,w)) (hl:l≤n) (hn:n≤c) {k1:IntKind} :
  FW size (.ref b g o n c) (some (VK k1 l)) none none H=some (.ref b g (o+l) (n-l) (c-l)):=by
 have e2:(0:Int)≤l∧(l:Int)≤(n:Int):=by omega
 simp only[FW,GV,hr,if_true,fG,e2,Int.toNat_natCast,Option.isSome_none,Bool.false_eq_true,false_and,if_false]
 simp
theorem K6 {h:Nat} (hs:∀x,(aB (f x)).length=size) (fT:0<xs.length) (hh:h≤xs.length) {k2:IntKind} :
  FW size (.tree (xs.map f) t) none (some (VK k2 h)) none H=some (aM f (xs.take h)):=by
 rw[alA (Ui fT) (Vn hs) (by simpa using hh)]
 simp[aM]
theorem TQ {b g e:Nat} {es:List VV} {w:Bool} {L K:aA} (h:b=L.length):aJ (L ++ .row g es e w::K) b g=some (es,e,w):=by
 subst h
 simp[aJ]
theorem bB {g e:Nat} {es:List VV} {w:Bool} {K:aA}:aJ (.row g es e w::K) 0 g=some (es,e,w):=by simp[aJ]
theorem dY {n:Nat}:(n=n+1)=False:=eq_false fun h=>by omega
theorem adA {g g' e:Nat} {es:List VV} {w:Bool} {K:aA} (h:g'≠g):aJ (.row g' es e w::K) 0 g=none:=by simp[aJ,h]
theorem dH {g e:Nat} {es:List VV} {w:Bool} {K:aA}:aJ (.row (g+1) es e w::K) 0 g=none:=adA (Nat.succ_ne_self g)
theorem nB {b g:Nat} {x:cB} {K:aA}:aJ (x::K) (b+1) g=aJ K b g:=by simp[aJ]
theorem bC {b g o n c e:Nat} {es:List VV} {w:Bool} (h:aJ H b g=some (es,e,w)) (hi:i<n):bL e (.ref b g o n c) (VK k (i:Int)) H=some (.ptr b g (o+i) 0):=ZQ h hi
theorem bZ {b g j e lo:Nat} {es:List VV} {v:VV} (h:aJ H b g=some (es,e,true)) (hj:j<es.length) (dV:lo≤b) (hv:(aB v).length=e) (hs:(aB v).all bS=true):bQ lo e (.ptr b g j 0) v H=some (H.set b (.row g (es.set j v) e true)):=by
 obtain⟨x,hx⟩:∃x,es[j]? = some x:=⟨_,List.getElem?_eq_getElem hj⟩
 simp only[bQ,h,hx]
 rw[if_pos ⟨hv,dV,hs⟩,if_pos ⟨trivial,trivial⟩]
theorem tE {z:List Value} {bytes n:Nat} (hz:elemOf (z.map kK)=f x) (hn:n*bytes≤281474976710656) (hm:n≤9223372036854775807):BK z bytes (VI n) (VI n) H=some (.ref H.length 0 0 n n,H++[.row 0 ((List.replicate n x).map f) z.length true]):=by
 simp only[BK]
 rw[if_pos ⟨by omega,by omega,by omega,by omega⟩,hz]
 simp
theorem qU {ag w:Bool} {b gn e j o:Nat} (h:aJ H b gn=some (xs.map f,e,w)) (hx:xs[j]? = some x):cC ag size (.ptr b gn j o) H=dM ag size (f x) o :=
 Si h (by simp[hx])
theorem eV {b g j e lo:Nat} (h:aJ H b g=some (xs.map f,e,true)) (hj:j<xs.length) (dV:lo≤b) (hv:(aB (f x)).length=e) (hs:(aB (f x)).all bS=true):bQ lo e (.ptr b g j 0) (f x) H=some (H.set b (.row g ((xs.set j x).map f) e true)):=by
 rw[bZ h (by simpa using hj) dV hv hs,List.map_set]
theorem SS {b gn n c e:Nat} {es:List VV} {w:Bool} (h:aJ H b gn=some (es,e,w)) (hn:n≤es.length) (hc:n≤c) (hp:aO es=true):fz depth H (.ref b gn 0 n c)=some (.tree (es.take n) .op):=by
 have:aQ (.ref b gn 0 n c)=false:=rfl
 show fz (7+1) H _=_
 unfold fz
 simp only[this,h,Bool.false_eq_true,if_false]
 have DQ:aO (es.take n)=true:=Bx.2 fun x hx=>Bx.1 hp x (List.mem_of_mem_take hx)
 rw[if_pos ⟨by omega,hc⟩,List.drop_zero,mapM_pure DQ]
 rfl
theorem TC.flat {fn:Nat} {args jC:List VV} {r:VV} (h:TC fn jC r) (vO:Cf.contains fn=false) (ha':aO jC=true) (hf:args.mapM (fz depth H)=some jC) (hr:OH r=true) :
  ∀(lo:Nat) (K:VV→aA→Prop),cO fn args lo H K=K r H:=by
 intro lo K
 cases hp:aO args with
 |
  true =>
  have:=mapM_pure (n:=7) (H:=H) hp
  rw[show fz depth H=fz (7+1) H from rfl,this] at hf
  cases hf
  exact h lo H K
 | false=>rw[h.Ek vO ha' hf hp,hr,if_pos rfl]
theorem fz1 {v v':VV} (h:fz depth H v=some v'):[v].mapM (fz depth H)=some [v']:=by rw[List.mapM_cons,h];rfl
theorem fz2 {v v' u u':VV} (h:fz depth H v=some v') (hu:fz depth H u=some u'):[v,u].mapM (fz depth H)=some [v',u']:=by rw[List.mapM_cons,h,fz1 hu];rfl
theorem TC.alR {fn b gn n c e size:Nat} {w:Bool} {r:VV} (h:TC fn [aM f xs] r) (hr:aJ H b gn=some (xs.map f,e,w)) (hn:n=xs.length) (hc:n≤c) (hs:∀x,(aB (f x)).length=size) (hp:∀x,aQ (f x)=true) (vO:Cf.contains fn=false) (hf:OH r=false) :
  ∀(lo:Nat) (K:VV→aA→Prop),cO fn [.ref b gn 0 n c] lo H K=K r (dI H [b]):=by
 intro lo K
 have e1:fz depth H (.ref b gn 0 n c)=some (aM f xs):=Hf hr (by simpa using hn) hc (eW hp)
 have e2:iS depth H (.ref b gn 0 n c)=[b]:=Q4 hr (by simpa using hn) (eW hp)
 have e3:[VV.ref b gn 0 n c].mapM (fz depth H)=some [aM f xs]:=by rw[List.mapM_cons,e1];rfl
 rw[h.Ek vO (by simp only[aO,kL hs hp,Bool.and_self]) e3 rfl,hf]
 simp only[Bool.false_eq_true,if_false,List.flatMap_cons,List.flatMap_nil,e2,List.append_nil]
theorem aoB {es:List VV} {e:Nat} (hp:aO es=true):fz depth H (.tree es (.cl e))=some (.tree es .op):=by
 show fz (7+1) H _=_
 unfold fz
 have:aQ (.tree es (.cl e))=false:=by simp[aQ]
 simp only[this,Bool.false_eq_true,if_false,mapM_pure hp]
 rfl
theorem ajV {es:List VV} {e:Nat} (hp:aO es=true):iS depth H (.tree es (.cl e))=[]:=by
 show iS (7+1) H _=_
 unfold iS
 have:aQ (.tree es (.cl e))=false:=by simp[aQ]
 simp only[this,Bool.false_eq_true,if_false,yG hp]
theorem No:fz depth H (.tree [] .nil)=some (.tree [] .op):=by
 show fz (7+1) H _=_
 unfold fz
 have:aQ (.tree [] .nil)=false:=by simp[aQ]
 simp only[this,Bool.false_eq_true,if_false]
 rfl
theorem TC.args {fn:Nat} {args jC:List VV} {r:VV} (h:TC fn jC r) (vO:Cf.contains fn=false) (ha':aO jC=true) (hf:args.mapM (fz depth H)=some jC) (hi:args.flatMap (iS depth H)=[]) :
  ∀(lo:Nat) (K:VV→aA→Prop),cO fn args lo H K=K r H:=by
 intro lo K
 cases hp:aO args with
 |
  true =>
  have:=mapM_pure (n:=7) (H:=H) hp
  rw[show fz depth H=fz (7+1) H from rfl,this] at hf
  cases hf
  exact h lo H K
 |
  false =>
  rw[h.Ek vO ha' hf hp,hi]
  split<;>rfl
theorem gY {lr:Bool} {z:List Value} (hz:(z.map kK).all bS=true):kD lr z 0 [] H=some (.ref H.length 0 0 0 0,H++[.row 0 [] z.length true]):=by
 simp[kD,yS,hz]
theorem fU {z:List Value} {v:VV} (hz:(z.map kK).all bS=true) (hv:(aB v).length=z.length) (hs:(aB v).all bS=true):kD false z 1 [(0,v)] H=some (.tree [v] (.cl z.length),H):=by
 simp only[kD,yS,List.replicate_succ,List.replicate_zero,List.length_cons,List.length_nil,hv,hs,and_self,if_true,List.set_cons_zero,hz]
 simp[hs]
theorem S4 {z:List Value} {u v:VV} (hz:(z.map kK).all bS=true) (hu:(aB u).length=z.length) (hus:(aB u).all bS=true) (hv:(aB v).length=z.length) (hs:(aB v).all bS=true):kD false z 2 [(0,u),(1,v)] H=some (.tree [u,v] (.cl z.length),H):=by
 simp[kD,yS,hv,hs,hu,hus,hz,List.replicate_succ]
end
theorem wrap32 (n:Nat):IntKind.u32.wrap (n:Int)=((n % 4294967296:Nat):Int):=by rw[IntKind.wrap_u32];omega
theorem wrap_u64 (n:Int):IntKind.u64.wrap n=n % 18446744073709551616:=by simp[IntKind.wrap,IntKind.bits,IntKind.signed]
theorem eU (n:Nat) (h:n<18446744073709551616):IntKind.u64.wrap (n:Int)=(n:Int):=by rw[wrap_u64];omega
theorem wrapN {x:Int} (n:Nat) (h:x=n) (hn:n≤9223372036854775807):IntKind.i64.wrap x=(n:Int):=by subst h;exact wrap64 (by omega) (by omega)
theorem pB (n:Nat) (k:IntKind):dN .shr (.int .u64 (n:Int)) (.int k 32)=some (.int .u64 ((n / 4294967296:Nat):Int)):=by
 simp only[dN]
 have h1:¬((32:Int)<0):=by decide
 have h2:Nat.min (Int.toNat 32) IntKind.u64.bits=32:=by decide
 rw[if_neg h1,h2]
 congr 2
 rw[Int.fdiv_eq_ediv_of_nonneg _ (by decide)]
 omega
theorem Fg (n:Nat) (k:IntKind) (h:n<4294967296):dN .shl (.int .u64 (n:Int)) (.int k 32)=some (.int .u64 ((n*4294967296:Nat):Int)):=by
 simp only[dN]
 have h1:¬((32:Int)<0):=by decide
 have h2:Nat.min (Int.toNat 32) IntKind.u64.bits=32:=by decide
 rw[if_neg h1,h2]
 congr 2
 have:(n:Int)*2^32=((n*4294967296:Nat):Int):=by omega
 rw[this]
 exact eU _ (by omega)
section
variable {n k g:Nat} {K:aA} {x y:cB}
theorem Dc:aJ (List.replicate n cB.dead++K) n g=aJ K 0 g:=by
 unfold aJ
 rw[List.getElem?_append_right (by simp)]
 simp
theorem FN:aJ (List.replicate n cB.dead++K) (n+k) g=aJ K k g:=by
 unfold aJ
 rw[List.getElem?_append_right (by simp)]
 simp
theorem CN:(List.replicate n cB.dead++K).set n y=List.replicate n cB.dead++K.set 0 y:=by
 rw[List.set_append_right _ _ (by simp)]
 simp
theorem WK:(List.replicate n cB.dead++K).set (n+k) y=List.replicate n cB.dead++K.set k y:=by
 rw[List.set_append_right _ _ (by simp)]
 simp
theorem Gx:(List.replicate n cB.dead++K).length=n+K.length:=by simp
theorem alL:jK k (List.replicate n cB.dead++K)=jK k K:=by
 induction n with
 | zero=>rfl
 | succ n ih=>rw[List.replicate_succ,List.cons_append,←ih];rfl
end
theorem yU {k g e:Nat} {es:List VV} {w:Bool} {K:aA} (h:mY k es=true):jK k (.row g es e w::K)=jK k K:=by
 unfold jK
 rw[List.all_cons]
 simp only[h,Bool.true_and]
theorem Fm {k:Nat}:jK k []=true:=rfl
theorem dL {size:Nat} {v:VV} {t:TK} {H:aA} (h:(aB v).length=size) (hs:(aB v).all bS=true):cT size (.tree [v] t) H=some [v]:=by
 simp[cT,h,hs]
theorem gG {α:Type} {f:α→VV} {xs:List α} {x:α} {lo b g n e bytes:Nat} {H:aA} (h:aJ H b g=some (xs.map f,e,true)) (hn:n=xs.length) (dV:lo≤b) (he:1≤e) (hb:1≤bytes) (Co:(n+1)*bytes≤140737488355328) :
  eE lo e bytes (.ref b g 0 n n) [f x] H=some (.ref b (g+1) 0 (n+1) (n+1),H.set b (.row (g+1) ((xs++[x]).map f) e true)):=by
 subst hn
 simp only[eE,h,List.length_cons,List.length_nil,Nat.zero_add]
 rw[if_pos ⟨hb,he⟩,if_pos ⟨trivial,dV,by simp⟩,if_neg (by omega),if_pos Co,List.drop_zero,List.take_of_length_le (by simp)]
 simp
section
variable {H:aA} {b g o n c j lo size:Nat} {neg ag:Bool} {k:IntKind} {i:Int} {v:VV}
theorem bP:cC ag size (.ptr b g j o) H=(match aJ H b g with
 |
  some (es,_,_)=>match es[j]? with
  | some x=>dM ag size x o
  | none=>none
 | none=>none):=rfl
theorem Lj:bQ lo size (.ptr b g j o) v H=(match aJ H b g with
 |
  some (es,e,true)=>match es[j]? with
  |
   some x =>
   if (aB v).length=size∧lo≤b∧(aB v).all bS then
    if o=0∧size=e then some (H.set b (.row g (es.set j v) e true))
    else if 2≤e∧o+size≤e then some (H.set b (.row g (es.set j (.agg (dC (aB x) o (aB v)))) e true))
    else none
   else none
  | none=>none
 | _=>none):=rfl
theorem PZ:pW (.ref b g o n c) H=(aJ H b g).map fun _ => .sc (.int .i64 n):=rfl
theorem AO:KC size (.ptr b g j o) H=(aJ H b g).map fun _ => .ptr b g j (o+size):=rfl
theorem Rb:ZD (.ptr b g j o) H=(aJ H b g).map fun _ => .ptr b g j o:=rfl
theorem Lw:Hn neg (.ref b g o n c) H=(aJ H b g).map fun _ => .sc (.bool (false != neg)):=rfl
theorem Nd:Hn neg (.tree [] .nil) H=some (.sc (.bool (true != neg))):=rfl
theorem KZ {x:VV} {xs:List VV} {t:TK}:Hn neg (.tree (x::xs) t) H=some (.sc (.bool (false != neg))):=rfl
theorem Ll:bL size (.ref b g o n c) (.sc (.int k i)) H=(match aJ H b g with
 | some (_,e,_)=>if e=size∧0≤i∧i<n then some (.ptr b g (o+i.toNat) 0) else none
 | none=>none):=rfl
end
theorem I8 {v:Value}:isAny (.sc v)=false:=rfl
theorem C0 {es:List VV} {t:TK}:isAny (.tree es t)=false:=rfl
theorem FA {b g o n c:Nat}:isAny (.ref b g o n c)=false:=rfl
theorem Fj {cs:List VV}:isAny (.agg cs)=false:=rfl
theorem Qh {f:Nat} {cs:List VV}:isAny (.wG f cs)=false:=rfl
theorem gW {x:VV}:elemOf [x]=x:=rfl
theorem Cx {x y:VV} {cs:List VV}:elemOf (x::y::cs) = .agg (x::y::cs):=rfl
theorem pO {k t:Nat} {ρ:dU}:Ks k ρ t=Lq k (ρ t):=rfl
theorem I1 {k:Nat} {v:Value}:Lq k (.sc v) = .sc v:=rfl
theorem wL {k:Nat} {v:VV} (h:aQ v=true):Lq k v=v:=Nt (GQ v h)
theorem FM {k b g o n c:Nat} (h:b<k):Lq k (.ref b g o n c) = .ref b g o n c:=Nt (by simp[below,h])
theorem U5 {v:Value}:bS (.sc v)=true:=rfl
theorem OI {es:List VV} {t:TK}:bS (.tree es t)=true:=rfl
theorem Qq {b g o n c:Nat}:bS (.ref b g o n c)=true:=rfl
theorem PU {b g o n:Nat}:bS (.ptr b g o n)=true:=rfl
theorem NL {x:VV} {o:Nat}:bS (.dA x o)=true:=rfl
theorem Qz {f:Nat} {cs:List VV}:bS (.wG f cs)=true:=rfl
theorem PY {v:Value}:aB (.sc v)=[.sc v]:=rfl
theorem G9 {cs:List VV}:aB (.agg cs)=cs:=rfl
theorem Lb {es:List VV} {t:TK}:aB (.tree es t)=[.tree es t]:=rfl
theorem NR {b g o n c:Nat}:aB (.ref b g o n c)=[.ref b g o n c]:=rfl
theorem TS {k k':IntKind} {n:Int}:Xm k (.int k' n)=some (.int k (k.wrap n)):=rfl
theorem Q0 {args:List VV} {t:Nat}:K9 args t=args.getD t rA:=rfl
theorem avR {n:Nat}:LT n = .tmp n:=rfl
theorem ayO {n:Int}:LI n = .const (.int .i64 n):=rfl
theorem axS:LG = .const (.bool true):=rfl
theorem avO:LF = .const (.bool false):=rfl
theorem avK {n:Nat}:LL n = .load false 1 (.tmp n):=rfl
theorem awF {n:Nat}:LK n = .load true 3 (.tmp n):=rfl
theorem awU {n k:Nat}:LX n k = .ext (.tmp n) k:=rfl
theorem axU {k n:Nat}:LA k n = .faddr k (.tmp n):=rfl
theorem awS {d:Nat} {p:oQ}:LO d p=⟨some d,p,none,false,[]⟩:=rfl
theorem avJ {d:Nat} {p:oQ}:LQ d p=⟨some d,p,none,true,[]⟩:=rfl
theorem ayG {p:oQ}:LN p=⟨none,p,none,false,[]⟩:=rfl
theorem awA {d s:Nat}:LM d s=⟨some d,.mv (.tmp s),none,false,[]⟩:=rfl
theorem avM {g d:Nat} {p:oQ}:LY g d p=⟨some d,p,some (g,true),false,[]⟩:=rfl
theorem awV {g d:Nat} {p:oQ}:LZ g d p=⟨some d,p,some (g,false),false,[]⟩:=rfl
theorem ayU {l:List PI} {c:aD}:LS l c = .seq (.dE l) c:=rfl
theorem VX:type_of% (
 And.intro @agM<|And.intro @acY<|And.intro @Vt<|And.intro @Zc<|And.intro @Yw<|And.intro @agK<|And.intro @YB <|
 And.intro @Ue<|And.intro @Dz<|And.intro @Gc<|And.intro @HV<|And.intro @F9<|And.intro @D9 <|
 And.intro @Oe<|And.intro @HM<|And.intro @Q9<|And.intro @OD<|And.intro @Vq<|And.intro @UC <|
 And.intro @Oj<|And.intro @Ra<|And.intro @ajA<|And.intro @aoN<|And.intro @agV<|And.intro @aoS<|And.intro @Lm <|
 And.intro @aiU<|And.intro @TT<|And.intro @YH<|And.intro @YP<|And.intro @P7<|And.intro @QW<|And.intro @agT <|
 And.intro @X6<|And.intro @XR<|And.intro @X7<|And.intro @XY<|And.intro @Q6<|And.intro @YZ<|And.intro @QY <|
 And.intro @Qo<|And.intro @Tk<|And.intro @UE<|And.intro @Uo<|And.intro @YU<|And.intro @UH<|And.intro @XZ <|
 And.intro @XV<|And.intro @Tj<|And.intro @YY<|And.intro @Y1<|And.intro @Yr<|And.intro @Tv<|And.intro @YL <|
 And.intro @PX<|And.intro @YF<|And.intro @TJ<|And.intro @QM<|And.intro @Us<|And.intro @QP <|
 And.intro @Cz<|And.intro @QF<|And.intro @Ul<|And.intro @QU<|And.intro @NN<|And.intro @QE <|
 And.intro @wS<|And.intro @Qn<|And.intro @Y0<|And.intro @Rg<|And.intro @Ty<|And.intro @YE<|And.intro @TA <|
 And.intro @YS<|And.intro @Y3<|And.intro @YW<|And.intro @TR<|And.intro @QB<|And.intro @Th<|And.intro @TH <|
 And.intro @Y6<|And.intro @Yi<|And.intro @Uc<|And.intro @Vp<|And.intro @QG<|And.intro @Ur<|And.intro @agF <|
 And.intro @ME<|And.intro @aeN<|And.intro @YD<|And.intro @afV<|And.intro @adK<|And.intro @R7<|And.intro @adC <|
 And.intro @List.length_map.{0,0}<|And.intro @List.all_cons.{0}<|And.intro @List.all_nil.{0}<|And.intro @U5<|And.intro @Bool.and_self <|
 And.intro @Bool.and_true<|And.intro @TS<|And.intro @Zb<|And.intro @Ys<|And.intro @Vg<|And.intro @TE <|
 And.intro @TN<|And.intro @U0<|And.intro @S5<|And.intro @UX<|And.intro @Ux<|And.intro @Ud<|And.intro @Tf <|
 And.intro @XX<|And.intro @Yt<|And.intro @Value.bool.injEq<|And.intro @decide_eq_true_eq<|And.intro @decide_eq_false_iff_not <|
 And.intro @Bool.not_true<|And.intro @Bool.not_false<|And.intro @decide_true<|And.intro @decide_false<|And.intro @Bool.not_eq_true' <|
 And.intro @Bool.not_eq_false'<|And.intro @Bool.false_eq_true<|And.intro @false_and<|And.intro @and_false<|And.intro @Option.map_some.{0,0} <|
 And.intro @Option.map_none.{0,0}<|And.intro @if_true.{1}<|And.intro @if_false.{1}<|And.intro @List.map_cons.{0,0}<|And.intro @List.map_nil.{0,0} <|
 And.intro @List.cons_append.{0}<|And.intro @List.nil_append.{0}<|And.intro @and_true<|And.intro @true_and<|And.intro @Nat.zero_add <|
 And.intro @Nat.add_zero<|And.intro @List.length_cons.{0}<|And.intro @List.length_nil.{0}<|And.intro @Q0<|And.intro @List.getD_cons_zero.{0} <|
 And.intro @List.getD_cons_succ.{0}<|And.intro @List.getD_nil.{0}<|And.intro @VV.sc.injEq<|And.intro @List.getElem?_cons_zero.{0} <|
 And.intro @List.getElem?_cons_succ.{0}<|And.intro @OI<|And.intro @Qq<|And.intro @PU<|And.intro @NL <|
 And.intro @Qz<|And.intro @PY<|And.intro @G9<|And.intro @Lb<|And.intro @NR<|And.intro @avR<|And.intro @ayO <|
 And.intro @axS<|And.intro @avO<|And.intro @avK<|And.intro @awF<|And.intro @awU<|And.intro @axU<|And.intro @awS<|And.intro @avJ <|
 And.intro @ayG<|And.intro @awA<|And.intro @avM<|And.intro @awV <| @ayU) :=
 And.intro @agM<|And.intro @acY<|And.intro @Vt<|And.intro @Zc<|And.intro @Yw<|And.intro @agK<|And.intro @YB <|
 And.intro @Ue<|And.intro @Dz<|And.intro @Gc<|And.intro @HV<|And.intro @F9<|And.intro @D9 <|
 And.intro @Oe<|And.intro @HM<|And.intro @Q9<|And.intro @OD<|And.intro @Vq<|And.intro @UC <|
 And.intro @Oj<|And.intro @Ra<|And.intro @ajA<|And.intro @aoN<|And.intro @agV<|And.intro @aoS<|And.intro @Lm <|
 And.intro @aiU<|And.intro @TT<|And.intro @YH<|And.intro @YP<|And.intro @P7<|And.intro @QW<|And.intro @agT <|
 And.intro @X6<|And.intro @XR<|And.intro @X7<|And.intro @XY<|And.intro @Q6<|And.intro @YZ<|And.intro @QY <|
 And.intro @Qo<|And.intro @Tk<|And.intro @UE<|And.intro @Uo<|And.intro @YU<|And.intro @UH<|And.intro @XZ <|
 And.intro @XV<|And.intro @Tj<|And.intro @YY<|And.intro @Y1<|And.intro @Yr<|And.intro @Tv<|And.intro @YL <|
 And.intro @PX<|And.intro @YF<|And.intro @TJ<|And.intro @QM<|And.intro @Us<|And.intro @QP <|
 And.intro @Cz<|And.intro @QF<|And.intro @Ul<|And.intro @QU<|And.intro @NN<|And.intro @QE <|
 And.intro @wS<|And.intro @Qn<|And.intro @Y0<|And.intro @Rg<|And.intro @Ty<|And.intro @YE<|And.intro @TA <|
 And.intro @YS<|And.intro @Y3<|And.intro @YW<|And.intro @TR<|And.intro @QB<|And.intro @Th<|And.intro @TH <|
 And.intro @Y6<|And.intro @Yi<|And.intro @Uc<|And.intro @Vp<|And.intro @QG<|And.intro @Ur<|And.intro @agF <|
 And.intro @ME<|And.intro @aeN<|And.intro @YD<|And.intro @afV<|And.intro @adK<|And.intro @R7<|And.intro @adC <|
 And.intro @List.length_map.{0,0}<|And.intro @List.all_cons.{0}<|And.intro @List.all_nil.{0}<|And.intro @U5<|And.intro @Bool.and_self <|
 And.intro @Bool.and_true<|And.intro @TS<|And.intro @Zb<|And.intro @Ys<|And.intro @Vg<|And.intro @TE <|
 And.intro @TN<|And.intro @U0<|And.intro @S5<|And.intro @UX<|And.intro @Ux<|And.intro @Ud<|And.intro @Tf <|
 And.intro @XX<|And.intro @Yt<|And.intro @Value.bool.injEq<|And.intro @decide_eq_true_eq<|And.intro @decide_eq_false_iff_not <|
 And.intro @Bool.not_true<|And.intro @Bool.not_false<|And.intro @decide_true<|And.intro @decide_false<|And.intro @Bool.not_eq_true' <|
 And.intro @Bool.not_eq_false'<|And.intro @Bool.false_eq_true<|And.intro @false_and<|And.intro @and_false<|And.intro @Option.map_some.{0,0} <|
 And.intro @Option.map_none.{0,0}<|And.intro @if_true.{1}<|And.intro @if_false.{1}<|And.intro @List.map_cons.{0,0}<|And.intro @List.map_nil.{0,0} <|
 And.intro @List.cons_append.{0}<|And.intro @List.nil_append.{0}<|And.intro @and_true<|And.intro @true_and<|And.intro @Nat.zero_add <|
 And.intro @Nat.add_zero<|And.intro @List.length_cons.{0}<|And.intro @List.length_nil.{0}<|And.intro @Q0<|And.intro @List.getD_cons_zero.{0} <|
 And.intro @List.getD_cons_succ.{0}<|And.intro @List.getD_nil.{0}<|And.intro @VV.sc.injEq<|And.intro @List.getElem?_cons_zero.{0} <|
 And.intro @List.getElem?_cons_succ.{0}<|And.intro @OI<|And.intro @Qq<|And.intro @PU<|And.intro @NL <|
 And.intro @Qz<|And.intro @PY<|And.intro @G9<|And.intro @Lb<|And.intro @NR<|And.intro @avR<|And.intro @ayO <|
 And.intro @axS<|And.intro @avO<|And.intro @avK<|And.intro @awF<|And.intro @awU<|And.intro @axU<|And.intro @awS<|And.intro @avJ <|
 And.intro @ayG<|And.intro @awA<|And.intro @avM<|And.intro @awV <| @ayU
theorem iB:type_of% (
 And.intro @bP<|And.intro @Lj<|And.intro @Ll<|And.intro @PZ<|And.intro @AO<|And.intro @Rb <|
 And.intro @Lw<|And.intro @Nd<|And.intro @KZ<|And.intro @bB<|And.intro @nB<|And.intro @List.set_cons_zero.{0} <|
 And.intro @List.set_cons_succ.{0}<|And.intro @gW<|And.intro @Cx<|And.intro @oU.eq_1<|And.intro @rU.eq_1 <|
 And.intro @rU.eq_2<|And.intro @F6.eq_1<|And.intro @F6.eq_2<|And.intro @zV.eq_1<|And.intro @zV.eq_2<|And.intro @I8 <|
 And.intro @C0<|And.intro @FA<|And.intro @Fj<|And.intro @Qh<|And.intro @List.take_zero.{0} <|
 And.intro @List.take_succ_cons.{0}<|And.intro @List.take_nil.{0}<|And.intro @List.drop_zero.{0}<|And.intro @List.drop_succ_cons.{0} <|
 And.intro @List.drop_nil.{0}<|And.intro @List.append_nil.{0}<|And.intro @Nat.le_refl<|And.intro @dC.eq_1<|And.intro @Int.toNat_natCast <|
 And.intro @eq_self.{1}<|And.intro @ge_iff_le.{0} <| @Bool.and_eq_true) :=
 And.intro @bP<|And.intro @Lj<|And.intro @Ll<|And.intro @PZ<|And.intro @AO<|And.intro @Rb <|
 And.intro @Lw<|And.intro @Nd<|And.intro @KZ<|And.intro @bB<|And.intro @nB<|And.intro @List.set_cons_zero.{0} <|
 And.intro @List.set_cons_succ.{0}<|And.intro @gW<|And.intro @Cx<|And.intro @oU.eq_1<|And.intro @rU.eq_1 <|
 And.intro @rU.eq_2<|And.intro @F6.eq_1<|And.intro @F6.eq_2<|And.intro @zV.eq_1<|And.intro @zV.eq_2<|And.intro @I8 <|
 And.intro @C0<|And.intro @FA<|And.intro @Fj<|And.intro @Qh<|And.intro @List.take_zero.{0} <|
 And.intro @List.take_succ_cons.{0}<|And.intro @List.take_nil.{0}<|And.intro @List.drop_zero.{0}<|And.intro @List.drop_succ_cons.{0} <|
 And.intro @List.drop_nil.{0}<|And.intro @List.append_nil.{0}<|And.intro @Nat.le_refl<|And.intro @dC.eq_1<|And.intro @Int.toNat_natCast <|
 And.intro @eq_self.{1}<|And.intro @ge_iff_le.{0} <| @Bool.and_eq_true
end Go.PM
namespace Go.PM
theorem TC.vt {f:Nat} {args:List VV} {r:VV} (h:TC f args r) (vO:Cf.contains f=false) (hp:aO args=true):VT f args r:=by
 have h1:=h 0 [] fun x _=>x=r
 unfold cO at h1
 simp only[vO,hp,Bool.false_eq_true,if_false,if_true] at h1
 have h2:Ig f args fun x=>x=r:=by rw[h1];trivial
 unfold Ig tk at h2
 split at h2
 ·rename_i x hx
  rw[←h2]
  exact(RE hx).2.2
 ·exact h2.elim
theorem TC.yes {f:Nat} {args:List VV} {fB:List Value} {H:aF} (h:TC f args (.sc (.bool true))) (vO:Cf.contains f=false) (hp:aO args=true) (hl:VL (bare (· < H.length) H) args fB) :
  ∃v H',sX f fB H.length H=some (v,H')∧v = .bool true:=by
 obtain⟨P',pv,h1,_,h2⟩:=h.vt vO hp (· < H.length) H fB H.length (fun _ h=>h) hl (Nat.le_refl _)
 cases h2
 exact⟨_,P',h1,rfl⟩
theorem VR.grow {H L:aF} {x:VV} {v:Value} (h:VR (bare (· < H.length) H) x v):VR (bare (· < (H++L).length) (H++L)) x v :=
 h.Eh fun b hb=>⟨by show b<_;rw[List.length_append];omega,List.getElem?_append_left hb⟩
end Go.PM
namespace Go.PM
mutual
def fO (n:Nat):VV→Bool
 | .any=>false
 | .sc v=>lG v
 | .agg cs=>pJ n cs
 | .dQ vs=>pJ n vs
 | .tree es k=>es.isEmpty&&decide (k = .nil)
 | .dA _ _=>false
 | .ref b _ _ _ _=>decide (n≤b)
 | .ptr b _ _ _=>decide (n≤b)
 | .wG _ _=>false
def pJ (n:Nat):List VV→Bool
 | []=>true
 | x::xs=>fO n x&&pJ n xs
end
theorem Ey {n:Nat} {es:List VV}:pJ n es=true↔∀x∈es,fO n x=true:=by
 induction es with
 | nil=>simp[pJ]
 | cons x xs ih=>simp[pJ,ih]
theorem aaB {n:Nat} {es:List VV} (h:pJ n es=true):pJ n (es.flatMap aB)=true:=by
 rw[Ey] at h ⊢
 intro x hx
 obtain⟨y,hy,Bu⟩:=List.mem_flatMap.1 hx
 have:=h y hy
 unfold aB at Bu
 split at Bu
 ·exact Ey.1 (by simpa[fO] using this) x Bu
 ·rw[List.mem_singleton] at Bu;subst Bu;exact this
def eI (n:Nat) (L:aA):Bool:=L.all fun
 | .row _ es _ _=>pJ n es
 | .dead=>true
theorem VR.own {V V':View} {k0:Nat} (SW:∀q,V.base≤q∧q<V.P.length→V'.base≤q∧q<V'.P.length∧∀b' g' es e w,b'<k0→V'.H[b']? = some (.row g' es e w)→V'.m b'≠q) (hl:V.H.length≤V'.H.length) (hH:∀b,k0≤b→V'.H[b]? = V.H[b]?) (hm:∀b,k0≤b→V'.m b=V.m b) {x:VV} {v:Value} (h:VR V x v):fO k0 x=true→VR V' x v:=by
 induction h using VR.rec (motive_2:=fun xs vs _=>pJ k0 xs=true→VL V' xs vs) with
 | any=>intro hx;cases hx
 | sc _ h=>intro _;exact .sc _ h
 | agg cs ps _ ih=>intro hx;exact .agg _ _ (ih hx)
 | dQ cs ps _ ih=>intro hx;exact .dQ _ _ (ih hx)
 | oP k hk=>intro _;exact .oP k hk
 |
  tree es k b o c r e p hF hb ho hc he hk _ _ =>
  intro hx
  simp only[fO,Bool.and_eq_true,decide_eq_true_eq] at hx
  obtain⟨_,rfl⟩:=hx
  exact hk.elim
 | dA=>intro hx;cases hx
 |
  ref b g o n c a n' c' bH hg ha hq =>
  intro hx
  have hb:k0≤b:=by simpa[fO] using hx
  exact .ref b g o n c a n' c' (Nat.lt_of_lt_of_le bH hl) (fun g' es e w hr=>hg g' es e w (by rw[←hH b hb];exact hr)) (fun es e w hr=>by rw[hm b hb];exact ha es e w (by rw[←hH b hb];exact hr)) fun a0 h=>by
   obtain⟨q1,q2,q3⟩:=hq a0 h
   obtain⟨q4,q5,q6⟩:=SW _ ⟨q1,q2⟩
   refine⟨q4,q5,fun b' g' es e w hr fT => ?_⟩
   rcases Nat.lt_or_ge b' k0 with NT | DV
   ·exact q6 b' g' es e w NT hr
   ·rw[hm b' DV]
    exact q3 b' g' es e w (by rw[←hH b' DV];exact hr) fT
 |
  ptr b g j off a bH hg ha hq =>
  intro hx
  have hb:k0≤b:=by simpa[fO] using hx
  exact .ptr b g j off a (Nat.lt_of_lt_of_le bH hl) (fun g' es e w hr=>hg g' es e w (by rw[←hH b hb];exact hr)) (fun es e w hr=>by rw[hm b hb];exact ha es e w (by rw[←hH b hb];exact hr)) fun a0 h=>by
   obtain⟨q1,q2,q3⟩:=hq a0 h
   obtain⟨q4,q5,q6⟩:=SW _ ⟨q1,q2⟩
   refine⟨q4,q5,fun b' g' es e w hr fT => ?_⟩
   rcases Nat.lt_or_ge b' k0 with NT | DV
   ·exact q6 b' g' es e w NT hr
   ·rw[hm b' DV]
    exact q3 b' g' es e w (by rw[←hH b' DV];exact hr) fT
 | wG=>intro hx;cases hx
 | nil=>exact .nil
 |
  cons x v xs vs _ _ ih Wr =>
  rename_i hx
  simp only[pJ,Bool.and_eq_true] at hx
  exact .cons _ _ _ _ (ih hx.1) (Wr hx.2)
theorem VL.own {V V':View} {n:Nat} (SW:∀q,V.base≤q∧q<V.P.length→V'.base≤q∧q<V'.P.length∧∀b' g' es e w,b'<n→V'.H[b']? = some (.row g' es e w)→V'.m b'≠q) (hl:V.H.length≤V'.H.length) (hH:∀b,n≤b→V'.H[b]? = V.H[b]?) (hm:∀b,n≤b→V'.m b=V.m b) {xs:List VV} {vs:List Value} (h:VL V xs vs) (hx:pJ n xs=true):VL V' xs vs:=by
 induction xs generalizing vs with
 | nil=>cases h;exact .nil
 |
  cons x xs ih=>cases h with
  |
   cons _ v _ vs h hs =>
   simp only[pJ,Bool.and_eq_true] at hx
   exact .cons _ _ _ _ (h.own SW hl hH hm hx.1) (ih hs hx.2)
theorem VL.Eh {V':View} {G:Nat→Prop} {P:aF} {xs:List VV} {vs:List Value} (hF:∀b,G b→V'.F b∧V'.P[b]? = P[b]?) (h:VL (bare G P) xs vs):VL V' xs vs:=by
 induction xs generalizing vs with
 | nil=>cases h;exact .nil
 |
  cons x xs ih=>cases h with
  | cons _ v _ vs h hs=>exact .cons _ _ _ _ (h.Eh hF) (ih hs)
def FC (f:Nat) (args:List VV) (R:Nat→VV→aA→Prop):Prop :=
 ∀n,iI f args n (List.replicate n .dead) fun r H'=>∃L,H'=List.replicate n .dead++L∧fO n r=true∧eI n L=true∧R n r L
theorem FC.walk {f:Nat} {pf:aR} {args:List VV} {R:Nat→VV→aA→Prop} (fl:Fl) (ht:fA f=some pf) (hn:args.length≤pf.ntmps)
  (h:∀n,VW fl n pf.body (B0 pf.res fun r H'=>∃L,H'=List.replicate n .dead++L∧fO n r=true∧eI n L=true∧R n r L) (K9 args) (List.replicate n .dead)):FC f args R :=
 fun n=>iI.walk fl ht hn (h n)
theorem FC.raw {f:Nat} {args jC:List VV} {R:Nat→VV→aA→Prop} {H:aA} {lo:Nat} (h:FC f jC R) (hf:args.mapM (fz depth H)=some jC):iI f args lo H fun r H'=>∃L,H'=H++L∧R H.length r L∧fO H.length r=true∧eI H.length L=true:=by
 intro V fC fB hH hS hl
 have h1:=h H.length
 let V0:View:={ m:=V.m,F:=(· < V.P.length),H:=List.replicate H.length .dead,P:=V.P,base:=V.P.length }
 have M5:∀(b g:Nat) (es:List VV) (e:Nat) (w:Bool),V0.H[b]? ≠ some (.row g es e w):=by
  intro b g es e w hb
  have:=List.eq_of_mem_replicate (List.mem_of_getElem? hb)
  cases this
 have hS0:SR V0 H.length fC:=⟨fun b g es e w hb=>absurd hb (M5 _ _ _ _ _),fun b g es e hb=>absurd hb (M5 _ _ _ _ _),fun a b g es e w _ _ _ _ ha=>absurd ha (M5 _ _ _ _ _),fun b hb=>hb,hS.VH,Nat.le_refl _⟩
 have Bv:VL V0 jC fB:=by
  have:=FE hS (G:=(· < V.P.length)) (fun q hq=>hS.fr q hq) hl (by rw[hH];exact hf) (fun i _ g es e w hb=>hS.mlt hb)
  exact VL.Eh (V':=V0) (fun b hb=>⟨hb,rfl⟩) this
 obtain⟨pv,V1,r,k1,k3,k4,k5,L,k2,h2,h3,hR⟩:=h1 V0 fC fB rfl hS0 Bv
 have XP:∀b g es e w,V1.H[b]? = some (.row g es e w)→V.P.length≤V1.m b:=by
  intro b g es e w hb
  rcases Nat.lt_or_ge (V1.m b) V.P.length with bH | DV
  ·obtain⟨g0,es0,w0,j1,_⟩:=k4.CO b g es e w hb bH
   exact absurd j1 (M5 _ _ _ _ _)
  ·exact DV
 have azK:V1.H.length=H.length+(L).length:=by rw[k2];simp
 have KI:∀q,q<V.P.length→V1.P[q]? = V.P[q]? := fun q hq=>k4.cJ q hq fun b g es e hb=>absurd hb (M5 _ _ _ _ _)
 let V2:View:={ m:=fun b=>if b<H.length then V.m b else V1.m b,F:=V.F,H:=H++L,P:=V1.P,base:=V.base }
 have anG:∀b,H.length≤b→V2.H[b]? = V1.H[b]? := fun b hb=>by
  show (H++L)[b]? = _
  rw[k2,List.getElem?_append_right hb,List.getElem?_append_right (by simpa using hb),List.length_replicate]
 have mL:∀b,H.length≤b→V2.m b=V1.m b:=fun b hb=>by
  show (if b<H.length then V.m b else V1.m b)=_
  rw[if_neg (by omega)]
 have anF:∀b,b<H.length→V2.H[b]? = V.H[b]? := fun b hb=>by
  show (H++L)[b]? = _
  rw[List.getElem?_append_left hb,hH]
 have mS:∀b,b<H.length→V2.m b=V.m b:=fun b hb=>by
  show (if b<H.length then V.m b else V1.m b)=_
  rw[if_pos hb]
 have hU:Up V V2:=⟨fun _ h=>h,fun b hb=>KI b (hS.fr b hb),by show V.H.length≤(H++L).length;rw[hH];simp,fun b g es e w bH hb=>⟨g,es,w,by rw[←anF b (by rw[←hH];exact bH)];exact hb,Nat.le_refl _,fun _=>mS b (by rw[←hH];exact bH)⟩,rfl,k4.FT,fun b g es e w hb hm=>by
   rcases Nat.lt_or_ge b H.length with h | h
   ·exact⟨g,es,w,by rw[←anF b h];exact hb,mS b h,id⟩
   ·rw[mL b h] at hm
    have:=XP b g es e w (by rw[←anG b h];exact hb)
    omega⟩
 have X0:∀ {b g es e w},V2.H[b]? = some (.row g es e w)→(b<H.length∧V.H[b]? = some (.row g es e w))∨(H.length≤b∧V1.H[b]? = some (.row g es e w)):=by
  intro b g es e w hb
  rcases Nat.lt_or_ge b H.length with h | h
  ·exact .inl ⟨h,by rw[←anF b h];exact hb⟩
  ·exact .inr ⟨h,by rw[←anG b h];exact hb⟩
 have aoZ:V1.H.length≤V2.H.length:=by show _≤(H++L).length;rw[azK];simp
 have axX:∀ {b g es e w},H.length≤b→V1.H[b]? = some (.row g es e w)→pJ H.length es=true:=by
  intro b g es e w hb hr
  rw[k2,List.getElem?_append_right (by simpa using hb)] at hr
  exact List.all_eq_true.1 h3 _ (List.mem_of_getElem? hr)
 have SW:∀q,V1.base≤q∧q<V1.P.length→V2.base≤q∧q<V2.P.length∧∀b' g' es e w,b'<H.length→V2.H[b']? = some (.row g' es e w)→V2.m b'≠q:=by
  intro q hq
  have C2:V.P.length≤q:=by have:=k4.Mx;rw[this] at hq;exact hq.1
  refine⟨Nat.le_trans hS.Mx C2,hq.2,fun b' g' es e w bH hr hm => ?_⟩
  rw[mS b' bH] at hm
  have:=hS.mlt (by rw[←anF b' bH];exact hr)
  omega
 refine⟨pv,V2,r,k1,⟨fun b g es e w hb => ?_,fun b g es e hb => ?_,fun a b g es e w g' nU e' w' ha hb hm => ?_,fun b hb => ?_,?_,Nat.le_trans hS.Mx k4.FT⟩,{ hU with cJ:=fun q hq _=>KI q hq,DS:=fun q hq => .inl hq },?_,L,rfl,hR,h2,h3⟩
 ·rcases X0 hb with⟨h,hb⟩ | ⟨h,hb⟩
  ·obtain⟨r,p,j1,j2,j3⟩:=hS.row b g es e w hb
   exact⟨r,p,by rw[mS b h];exact(KI _ (hS.mlt hb)).trans j1,j2,j3.mono hU⟩
  ·obtain⟨r,p,j1,j2,j3⟩:=k3.row b g es e w hb
   exact⟨r,p,by rw[mL b h];exact j1,j2,j3.own SW aoZ (fun b hb=>anG b hb) (fun b hb=>mL b hb) (aaB (axX h hb))⟩
 ·rcases X0 hb with⟨h,hb⟩ | ⟨h,hb⟩
  ·rw[mS b h]
   exact hS.wr b g es e hb
  ·rw[mL b h]
   have:=XP b g es e true hb
   exact⟨fun hF=>by have:=hS.fr _ hF;omega,fun _=>Nat.le_trans hS.VH this⟩
 ·rcases X0 ha with⟨h,ha⟩ | ⟨h,ha⟩<;>rcases X0 hb with⟨h',hb⟩ | ⟨h',hb⟩
  ·rw[mS a h,mS b h'] at hm
   exact hS.inj a b _ _ _ _ _ _ _ _ ha hb hm
  ·rw[mS a h,mL b h'] at hm
   have:=XP b _ _ _ _ hb
   have:=hS.mlt ha
   omega
  ·rw[mL a h,mS b h'] at hm
   have:=XP a _ _ _ _ ha
   have:=hS.mlt hb
   omega
  ·rw[mL a h,mL b h'] at hm
   exact k3.inj a b _ _ _ _ _ _ _ _ ha hb hm
 ·exact Nat.lt_of_lt_of_le (hS.fr b hb) k4.FT
 ·exact Nat.le_trans hS.VH k4.FT
 ·exact k5.own SW aoZ (fun b hb=>anG b hb) (fun b hb=>mL b hb) h2
theorem fS {f:Nat} {args:List VV} {lo:Nat} {H:aA} {K:VV→aA→Prop} (vO:Cf.contains f=true) (h:iI f args lo H K):cO f args lo H K:=by
 unfold cO
 rw[if_pos vO]
 exact h
theorem FC.call {f:Nat} {args jC:List VV} {R:Nat→VV→aA→Prop} {H:aA} {lo:Nat} {K:VV→aA→Prop} (h:FC f jC R) (vO:Cf.contains f=true) (hf:args.mapM (fz depth H)=some jC) (hk:∀r L,R H.length r L→K r (H++L)):cO f args lo H K :=
 fS vO ((h.raw hf).mono fun r H' ⟨L,h1,h2,_⟩=>by subst h1;exact hk r L h2)
theorem FC.aeV {f:Nat} {args jC:List VV} {R:Nat→VV→aA→Prop} {H:aA} {lo:Nat} {K:VV→aA→Prop} (h:FC f jC R) (vO:Cf.contains f=true) (hf:args.mapM (fz depth H)=some jC) (hk:∀r L,R H.length r L→fO H.length r=true→eI H.length L=true→K r (H++L)):cO f args lo H K :=
 fS vO ((h.raw hf).mono fun r H' ⟨L,h1,h2,h3,h4⟩=>by subst h1;exact hk r L h2 h3 h4)
def Ia (H K:aA):Prop:=K.length=H.length∧∀(b g:Nat) (es:List VV) (e:Nat) (w:Bool),K[b]? = some (.row g es e w)→H[b]? = some (.row g es e w)
theorem VR.kill {V:View} {K:aA} (hK:Ia V.H K) {x:VV} {v:Value} (h:VR V x v):VR { V with H:=K } x v:=by
 induction h using VR.rec (motive_2:=fun xs vs _=>VL { V with H:=K } xs vs) with
 | any=>exact .any _
 | sc _ h=>exact .sc _ h
 | agg cs ps _ ih=>exact .agg _ _ ih
 | dQ cs ps _ ih=>exact .dQ _ _ ih
 | oP k hk=>exact .oP k hk
 | tree es k b o c r e p hF hb ho hc he hk _ ih=>exact .tree es k b o c r e p hF hb ho hc he hk ih
 | dA x off b o r e p hF hb ho _ ih=>exact .dA x off b o r e p hF hb ho ih
 |
  ref b g o n c a n' c' bH hg ha hq =>
  exact .ref b g o n c a n' c' (by show b<K.length;rw[hK.1];exact bH) (fun g' es e w hr=>hg g' es e w (hK.2 _ _ _ _ _ hr)) (fun es e w hr=>ha es e w (hK.2 _ _ _ _ _ hr)) fun a0 h=>⟨(hq a0 h).1,(hq a0 h).2.1,fun b' g' es e w hr=>(hq a0 h).2.2 b' g' es e w (hK.2 _ _ _ _ _ hr)⟩
 |
  ptr b g j off a bH hg ha hq =>
  exact .ptr b g j off a (by show b<K.length;rw[hK.1];exact bH) (fun g' es e w hr=>hg g' es e w (hK.2 _ _ _ _ _ hr)) (fun es e w hr=>ha es e w (hK.2 _ _ _ _ _ hr)) fun a0 h=>⟨(hq a0 h).1,(hq a0 h).2.1,fun b' g' es e w hr=>(hq a0 h).2.2 b' g' es e w (hK.2 _ _ _ _ _ hr)⟩
 | wG f gL ps _ ih=>exact .wG _ _ _ ih
 | nil=>exact .nil
 | cons x v xs vs _ _ ih Wr=>exact .cons _ _ _ _ ih Wr
theorem VL.kill {V:View} {K:aA} (hK:Ia V.H K) {xs:List VV} {vs:List Value} (h:VL V xs vs):VL { V with H:=K } xs vs:=by
 induction xs generalizing vs with
 | nil=>cases h;exact .nil
 |
  cons x xs ih=>cases h with
  | cons _ v _ vs h hs=>exact .cons _ _ _ _ (h.kill hK) (ih hs)
theorem iI.kill {f:Nat} {args:List VV} {lo:Nat} {H:aA} {P P':VV→aA→Prop} (h:iI f args lo H P) (hk:∀v H',P v H'→∃K,Ia H' K∧P' v K):iI f args lo H P':=by
 intro V fC fB hH hS hl
 obtain⟨pv,V',v,h1,h2,h3,h4,h5⟩:=h V fC fB hH hS hl
 obtain⟨K,hK,h6⟩:=hk _ _ h5
 refine⟨pv,{ V' with H:=K },v,h1,⟨fun b g es e w hb => ?_,fun b g es e hb=>h2.wr b g es e (hK.2 _ _ _ _ _ hb),fun a b g es e w g' nU e' w' ha hb hm=>h2.inj a b _ _ _ _ _ _ _ _ (hK.2 _ _ _ _ _ ha) (hK.2 _ _ _ _ _ hb) hm,h2.fr,h2.VH,h2.Mx⟩,
  { F:=h3.F,P:=h3.P,len:=by show V.H.length≤K.length;rw[hK.1];exact h3.len,row:=fun b g es e w bH hb=>h3.row b g es e w bH (hK.2 _ _ _ _ _ hb),Mx:=h3.Mx,FT:=h3.FT,CO:=fun b g es e w hb hm=>h3.CO b g es e w (hK.2 _ _ _ _ _ hb) hm,cJ:=h3.cJ,DS:=h3.DS },h4.kill hK,h6⟩
 obtain⟨r,p,j1,j2,j3⟩:=h2.row b g es e w (hK.2 _ _ _ _ _ hb)
 exact⟨r,p,j1,j2,j3.kill hK⟩
theorem FC.KK {f:Nat} {pf:aR} {args:List VV} {R:Nat→VV→aA→Prop} (fl:Fl) (ht:fA f=some pf) (hn:args.length≤pf.ntmps)
  (h:∀n,VW fl n pf.body (B0 pf.res fun r H'=>∃L,Ia H' (List.replicate n .dead++L)∧fO n r=true∧eI n L=true∧R n r L) (K9 args) (List.replicate n .dead)):FC f args R :=
 fun n=>(iI.walk fl ht hn (h n)).kill fun _ _ ⟨L,h1,h2,h3,h4⟩=>⟨_,h1,L,rfl,h2,h3,h4⟩
end Go.PM
namespace Go.PM
open Go.ChangeShapes Go.WideShapes Go.ChangeAt Go.RowKit
open Go.Proofs
def Db (W:World):Prop:=∃(rb:Nat) (arr:Array Value) (e:TypeId) (fz:Nat×Nat),W.heap[rb]? = some (.cells arr e fz)
structure CB (m m':dR) (H L:aF) (W:World) (cs LR:List Value) (vs:List VV):Prop where
 inn:In m' (H++L) W
 ext:∀b l,m b=some l→m' b=some l
 len:LR.length=cs.length
 rv:∀i,i<cs.length→RV m' (LR.getD i Go.undef) (cs.getD i Go.undef)
 sc:∀v∈LR,PM.gM v=true
 tree:VL (bare (· < (H++L).length) (H++L)) vs LR
def Qg {T:Type} (Ar:TypeId×Value→T) (P:Program) (W:World) (t:TypeId) (k:Nat) (S:List VV→Prop):Prop :=
 ∀fuel cs y,DataW.trod Ar P W 0 (fun _=>true) true fuel t cs=some y→∀(m:dR) (H:aF),In m H W→cs.length=k∧∃m' L LR vs,CB m m' H L W cs LR vs∧S vs
theorem VL.grow {H L:aF} {xs:List VV} {vs:List Value} (h:VL (bare (· < H.length) H) xs vs):VL (bare (· < (H++L).length) (H++L)) xs vs :=
 h.Eh fun b hb=>⟨by show b<_;rw[List.length_append];omega,List.getElem?_append_left hb⟩
theorem VL.app {V:View} {xs ys:List VV} {vs ws:List Value} (h:VL V xs vs) (h':VL V ys ws):VL V (xs++ys) (vs++ws):=by
 induction xs generalizing vs with
 | nil=>cases h;exact h'
 |
  cons x xs ih=>cases h with
  | cons _ v _ vs h hs=>exact .cons _ _ _ _ h (ih hs)
theorem Ka {cs ds:List Value} {i:Nat} (h:i<cs.length):(cs++ds).getD i Go.undef=cs.getD i Go.undef:=by
 simp only[List.getD_eq_getElem?_getD,List.getElem?_append_left h]
theorem Hx {cs ds:List Value} {i:Nat} (h:cs.length≤i):(cs++ds).getD i Go.undef=ds.getD (i-cs.length) Go.undef:=by
 simp only[List.getD_eq_getElem?_getD,List.getElem?_append_right h]
theorem CB.both {m m1 m2:dR} {H L1 L2:aF} {W:World} {cs LR Bt ayA:List Value} {vs vs':List VV} (h:CB m m1 H L1 W cs LR vs) (h':CB m1 m2 (H++L1) L2 W Bt ayA vs'):CB m m2 H (L1++L2) W (cs++Bt) (LR++ayA) (vs++vs'):=by
 refine⟨by rw[←List.append_assoc];exact h'.inn,fun b l hb=>h'.ext _ _ (h.ext _ _ hb),by simp[h.len,h'.len],fun i hi => ?_,fun v hv => ?_,?_⟩
 ·rcases Nat.lt_or_ge i cs.length with bH | DV
  ·rw[Ka bH,Ka (by rw[h.len];exact bH)]
   exact(h.rv i bH).mono h'.ext
  ·rw[Hx DV,Hx (by rw[h.len];exact DV),h.len]
   exact h'.rv _ (by rw[List.length_append] at hi;omega)
 ·rcases List.mem_append.1 hv with hv | hv
  ·exact h.sc v hv
  ·exact h'.sc v hv
 ·rw[←List.append_assoc]
  exact h.tree.grow.app h'.tree
theorem CB.none {m:dR} {H:aF} {W:World} (hI:In m H W):CB m m H [] W [] [] [] :=
 ⟨by rw[List.append_nil];exact hI,fun _ _ h=>h,rfl,fun i hi=>absurd hi (Nat.not_lt_zero _),fun v hv=>(by cases hv),.nil⟩
theorem Sd {T:Type} {Ar:TypeId×Value→T} {P:Program} {W:World} {t:TypeId} (ht:P.underlying t=some .string):Qg Ar P W t 1 (fun vs=>∃s:ByteArray,s.size≤maxLen∧vs=[.sc (.string s)]):=by
 intro fuel cs y h m H hI
 obtain⟨s,rfl,_,hs⟩:=DataW.trod_string ht h
 refine⟨rfl,m,[],[.string s],[.sc (.string s)],⟨by rw[List.append_nil];exact hI,fun _ _ h=>h,rfl,fun i hi => ?_,fun v hv => ?_,.cons _ _ _ _ (.sc _ rfl) .nil⟩,s,hs,rfl⟩
 ·have:i=0:=by simpa using hi
  subst this
  exact .str s
 ·rw[List.mem_singleton] at hv
  subst hv
  rfl
theorem OE {T:Type} {Ar:TypeId×Value→T} {P:Program} {W:World} {e:TypeId} {gC:Nat} {S:List VV→Prop} (ho:Qg Ar P W e gC S):∀(VF:List (List Value)),(∀cs∈VF,∃fuel y,DataW.trod Ar P W 0 (fun _=>true) true fuel e cs=some y)→∀(m:dR) (H:aF),In m H W →
  ∃(m':dR) (L:aF) (LR:List Value) (gs:List (List VV)),CB m m' H L W VF.flatten LR gs.flatten∧gs.length=VF.length∧(∀g∈gs,S g)∧∀cs∈VF,cs.length=gC
 | [],_,m,H,hI=>⟨m,[],[],[],CB.none hI,rfl,fun g hg=>(by cases hg),fun cs O7=>(by cases O7)⟩
 |
  cs::VF,h,m,H,hI=>by
  obtain⟨fuel,y,hy⟩:=h cs List.mem_cons_self
  obtain⟨hl,m1,L1,aCi,g,h1,hS⟩:=ho fuel cs y hy m H hI
  obtain⟨m2,L2,aBe,gs,h2,h3,h4,h5⟩:=OE ho VF (fun cs O7=>h cs (List.mem_cons_of_mem _ O7)) m1 (H++L1) h1.inn
  refine⟨m2,L1++L2,aCi++aBe,g::gs,?_,by simp[h3],fun g' hg' => ?_,fun Bt arK => ?_⟩
  ·rw[List.flatten_cons,List.flatten_cons]
   exact h1.both h2
  ·rcases List.mem_cons.1 hg' with rfl | hg'
   ·exact hS
   ·exact h4 _ hg'
  ·rcases List.mem_cons.1 arK with rfl | arK
   ·exact hl
   ·exact h5 _ arK
theorem E0 {α:Type} {k:Nat}:∀ {xss:List (List α)},(∀xs∈xss,xs.length=k)→xss.flatten.length=xss.length*k
 | [],_=>by simp
 |
  xs::xss,h=>by
  rw[List.flatten_cons,List.length_append,h xs List.mem_cons_self,E0 fun y hy=>h y (List.mem_cons_of_mem _ hy),List.length_cons,Nat.succ_mul,Nat.add_comm]
theorem II {α:Type} {k:Nat}:∀ {xss:List (List α)} (n:Nat),(∀xs∈xss,xs.length=k)→xss.flatten.take (n*k)=(xss.take n).flatten
 | [],n,_=>by simp
 | xs::xss,0,_=>by simp
 |
  xs::xss,n+1,h=>by
  have hl:=h xs List.mem_cons_self
  rw[List.flatten_cons,List.take_succ_cons,List.flatten_cons,←II n fun y hy=>h y (List.mem_cons_of_mem _ hy),show (n+1)*k=xs.length+n*k by rw[hl,Nat.succ_mul,Nat.add_comm],List.take_length_add_append]
theorem RY {k:Nat} (hk:1≤k) {VF:List (List Value)} (h:∀cs∈VF,cs.length=k) {i:Nat} (hi:i<VF.length*k):∃cs,VF[i / k]? = some cs∧VF.flatten.getD i Go.undef=cs.getD (i % k) Go.undef:=by
 induction VF generalizing i with
 | nil=>simp at hi
 |
  cons cs VF ih =>
  have hl:=h cs List.mem_cons_self
  rw[List.flatten_cons]
  rcases Nat.lt_or_ge i k with bH | DV
  ·refine⟨cs,by rw[Nat.div_eq_of_lt bH];rfl,?_⟩
   rw[Ka (by omega),Nat.mod_eq_of_lt bH]
  ·obtain⟨c',h1,h2⟩:=ih (fun y hy=>h y (List.mem_cons_of_mem _ hy)) (i:=i-k) (by rw[List.length_cons,Nat.succ_mul] at hi;omega)
   have e1:i / k=(i-k) / k+1:=by rw[Nat.div_eq_sub_div (by omega) DV]
   have e2:i % k=(i-k) % k:=by rw[Nat.mod_eq_sub_mod DV]
   exact⟨c',by rw[e1];exact h1,by rw[Hx (by omega),hl,h2,e2]⟩
theorem Tu {T:Type} {Ar:TypeId×Value→T} {α:Type} {f:α→VV} {anM:α→Prop} {P:Program} {W:World} {t e:TypeId} {gC:Nat} (ht:P.underlying t=some (.slice e)) (aBp:P.cellsOf e=gC) (pos:1≤gC) (hB:Db W)
  (hf:∀x,(aB (f x)).length=gC) (ho:Qg Ar P W e gC fun g=>∃x:α,anM x∧g=aB (f x)):Qg Ar P W t 1 fun vs=>∃xs:List α,xs.length≤maxLen∧(∀x∈xs,anM x)∧vs=[aM f xs]:=by
 intro fuel cs y h m H hI
 rcases DataW.trod_slice ht h with⟨rfl,_⟩ | ⟨a,n,c,elems,rest,k,_,rfl,_,_,hnc,hmx,hlen,hE,hR,_⟩
 ·refine⟨rfl,m,[],[.slice none 0 0],[.tree [] .op],⟨by rw[List.append_nil];exact hI,fun _ _ h=>h,rfl,fun i hi => ?_,fun v hv => ?_,.cons _ _ _ _ (.oP _ (.inl rfl)) .nil⟩,[],Nat.zero_le _,fun x hx=>(by cases hx),rfl⟩
  ·have:i=0:=by simpa using hi
   subst this
   exact .PG
  ·rw[List.mem_singleton] at hv
   subst hv
   rfl
 ·obtain⟨yX,hR⟩:=hR rfl
  have Qt:∀i,i<c→∃cs,W.cells? 0 (a.add (i*gC)) gC=some cs∧∃fuel y,DataW.trod Ar P W 0 (fun _=>true) true fuel e cs=some y:=by
   intro i hi
   have key:∃y,(W.cells? 0 (a.add (i*P.cellsOf e)) (P.cellsOf e)).bind (DataW.trod Ar P W 0 (fun _=>true) true k e)=some y:=by
    rcases Nat.lt_or_ge i n with cS | cS
    ·exact⟨elems[i]'(by omega),by rw[hE i cS];exact List.getElem?_eq_getElem _⟩
    ·have:=hR (i-n) (by omega)
     rw[show n+(i-n)=i by omega] at this
     exact⟨rest[i-n]'(by omega),by rw[this];exact List.getElem?_eq_getElem _⟩
   obtain⟨y,hy⟩:=key
   rw[Option.bind_eq_some_iff,aBp] at hy
   obtain⟨cs,h1,h2⟩:=hy
   exact⟨cs,h1,k,y,h2⟩
  obtain⟨VF,oR,O7⟩:=YN (fun i cs=>W.cells? 0 (a.add (i*gC)) gC=some cs∧∃fuel y,DataW.trod Ar P W 0 (fun _=>true) true fuel e cs=some y) c Qt
  obtain⟨m1,L1,LR,gs,hO,hgl,hgS,arQ⟩:=OE ho VF (fun cs hc=>by
   obtain⟨i,hi⟩:=List.getElem?_of_mem hc
   exact(O7 i cs hi).2) m H hI
  obtain⟨xs,hxg,Pa⟩:∃xs:List α,(∀x∈xs,anM x)∧gs=xs.map fun x=>aB (f x):=by
   clear hO hgl
   induction gs with
   | nil=>exact⟨[],fun x hx=>(by cases hx),rfl⟩
   |
    cons g gs ih =>
    obtain⟨xs,h1,h2⟩:=ih fun g hg=>hgS g (List.mem_cons_of_mem _ hg)
    obtain⟨x,h3,h4⟩:=hgS g List.mem_cons_self
    exact⟨x::xs,fun y hy=>by
     rcases List.mem_cons.1 hy with rfl | hy
     ·exact h3
     ·exact h1 y hy,by rw[List.map_cons,←h2,h4]⟩
  have hxl:xs.length=c:=by rw[←oR,←hgl,Pa,List.length_map]
  have O8:LR.length=c*gC:=by rw[hO.len,E0 arQ,oR]
  obtain⟨rb,base,arr,e',fz,axQ,XE,C2⟩:∃(rb base:Nat) (arr:Array Value) (e':TypeId) (fz:Nat×Nat),W.heap[rb]? = some (.cells arr e' fz)∧(c=0→base=0)∧(c≠0→a=⟨rb,base,none⟩):=by
   by_cases h0:c=0
   ·obtain⟨rb,arr,e',fz,hb⟩:=hB
    exact⟨rb,0,arr,e',fz,hb,fun _=>rfl,fun h=>absurd h0 h⟩
   ·obtain⟨cs,h1,_⟩:=Qt 0 (by omega)
    have h2:=(World.cells?_some h1).2
    have h3:=h2.2 0 (by omega)
    rw[List.getElem?_eq_getElem (by omega)] at h3
    have:(a.add (0*gC)).add 0=a:=by simp[Addr.add]
    rw[this] at h3
    unfold World.cell? at h3
    split at h3
    ·rename_i arr e' fz hb
     split at h3
     ·cases h3
     ·rename_i Vl
      refine⟨a.block,a.off,arr,e',fz,hb,fun h=>absurd h h0,fun _ => ?_⟩
      obtain⟨b,o,sp⟩:=a
      cases sp with
      | none=>rfl
      | some x=>simp at Vl
    ·cases h3
  have Sv:∀i,i<c*gC→W.cell? ⟨rb,base+i,none⟩=some (VF.flatten.getD i Go.undef):=by
   intro i hi
   obtain⟨cs,h1,h2⟩:=RY pos arQ (i:=i) (by rw[oR];exact hi)
   have h0:c≠0:=by intro h0;rw[h0] at hi;simp at hi
   have ha:=C2 h0
   have h3:=(World.cells?_some (O7 _ _ h1).1).2
   have hr:i % gC<gC:=Nat.mod_lt _ pos
   have h4:=h3.2 (i % gC) hr
   have PL:∀o k:Nat,(⟨rb,o,none⟩:Addr).add k=⟨rb,o+k,none⟩:=by
    intro o k
    unfold Addr.add
    split
    ·rename_i h0;subst h0;rfl
    ·rfl
   have aqL:i / gC*gC+i % gC=i:=by rw[Nat.mul_comm];exact Nat.div_add_mod i gC
   rw[ha,PL,PL,Nat.add_assoc,aqL] at h4
   rw[h2,List.getD_eq_getElem?_getD,h4]
   have bH:i % gC<cs.length:=by rw[h3.1];exact hr
   rw[List.getElem?_eq_getElem bH]
   rfl
  have sJ:base+LR.length≤arr.size:=by
   rw[O8]
   by_cases h0:c=0
   ·rw[XE h0,h0];simp
   ·have QQ:1≤c*gC:=Nat.mul_pos (by omega) pos
    have h3:=Sv (c*gC-1) (by omega)
    unfold World.cell? at h3
    simp only[axQ,Option.isSome_none,Bool.false_eq_true,if_false] at h3
    have:=(Array.getElem?_eq_some_iff.1 h3).1
    omega
  have PL:=hO.inn.add (gC:=gC) (cs:=LR) (base:=base) axQ sJ (fun i hi=>by
   rw[O8] at hi
   refine⟨_,Sv i hi,(hO.rv i (by rw[E0 arQ,oR];exact hi)).mono (vU (hO.inn.Tw (Nat.le_refl _))),?_⟩
   rw[List.getD_eq_getElem?_getD,List.getElem?_eq_getElem (by rw[O8];exact hi)]
   exact hO.sc _ (List.getElem_mem _))
  refine⟨rfl,_,L1++[.row LR gC false],[.slice (some ⟨(H++L1).length,0,none⟩) n c],[aM f (xs.take n)],⟨by rw[←List.append_assoc];exact PL,fun b l hb=>vU (hO.inn.Tw (Nat.le_refl _)) _ _ (hO.ext b l hb),rfl,fun i hi => ?_,fun v hv => ?_,?_⟩,xs.take n,by rw[List.length_take];omega,fun x hx=>hxg x (List.mem_of_mem_take hx),rfl⟩
  ·have:i=0:=by simpa using hi
   subst this
   refine .slice (H++L1).length 0 n c _ _ c (cD _ _ _) hnc (Nat.le_refl _) (fun _=>rfl) ?_
   by_cases h0:c=0
   ·exact .inl h0
   ·exact .inr ⟨by simpa using C2 h0,by simpa[O8] using sJ⟩
  ·rw[List.mem_singleton] at hv
   subst hv
   rfl
  ·rw[←List.append_assoc]
   refine .cons _ _ _ _ ?_ .nil
   have hl:(xs.take n).length=n:=by rw[List.length_take];omega
   have Gj:∀g∈gs,g.length=gC:=fun g hg=>by
    obtain⟨x,_,rfl⟩:=hgS g hg
    exact hf x
   have key:=hO.tree.grow (L:=[PO.row LR gC false])
   have key:=key.take (n*gC)
   rw[II n Gj,Pa,←List.map_take] at key
   have:=VR.tree (V:=bare (· < (H++L1++[PO.row LR gC false]).length) (H++L1++[PO.row LR gC false])) ((xs.take n).map f) .op (H++L1).length 0 c LR gC false (by show (H++L1).length<_;simp) (by show (H++L1++[PO.row LR gC false])[(H++L1).length]? = _;rw[List.getElem?_append_right (Nat.le_refl _),Nat.sub_self];rfl)
    (by rw[List.length_map,hl,O8];simp only[Nat.zero_add];exact Nat.mul_le_mul_right _ hnc) (by rw[List.length_map,hl];exact hnc) (fun y hy=>by
     obtain⟨x,_,rfl⟩:=List.mem_map.1 hy
     exact hf x) trivial (by rw[List.length_map,hl,List.drop_zero,List.flatMap_map,List.flatMap_def];exact key)
   rw[List.length_map,hl] at this
   exact this
end Go.PM
namespace Go.PM
def oV:aD:=(.seq (LS [LM 11 5,LM 12 0,LO 13 (.len (LT 12)),LO 14 (.bin .lss (LT 11) (LT 13))] (.cond (LT 14) .skip (.exit 0))) (.seq (.block 1 (LS [LM 17 0,LM 18 5,LO 19 (.iaddr 1 (LT 17) (LT 18)),LO 20 (LL 19),LM 21 1,LM 22 5,LO 23 (.iaddr 1 (LT 21) (LT 22)),LO 24 (LL 23),LO 25 (.bin .neq (LT 20) (LT 24))] (.cond (LT 25) (LS [LO 4 (.mv LF)] .ret) .skip))) (.dE [LM 15 5,LO 16 (.bin .add (LT 15) (LI 1)),LM 5 16])))
def vI:aD:=(LS [LO 4 (.mv LF)] (.seq (LS [LM 6 0,LO 7 (.len (LT 6)),LM 8 1,LO 9 (.len (LT 8)),LO 10 (.bin .neq (LT 7) (LT 9))] (.cond (LT 10) (LS [LO 4 (.mv LF)] .ret) .skip)) (.seq (LS [LO 5 (.mv (LI 0))] (.block 0 (.loop oV))) (LS [LO 4 (.mv LG)] .ret))))
def Aa:aR:=⟨26,[(.tmp 4)],vI⟩
theorem J0:fA 100=some Aa:=by kernel_rfl
def rD:aD:=(.seq (LS [LM 6 5,LM 7 0,LO 8 (.len (LT 7)),LO 9 (.bin .lss (LT 6) (LT 8))] (.cond (LT 9) .skip (.exit 0))) (.seq (.block 1 (LS [LM 12 0,LM 13 5,LM 14 1,LO 15 (.call 101 [(LT 14)]),LO 16 (.iaddr 1 (LT 12) (LT 13)),LN (.store 1 (LT 16) (LT 15))] (.dE [LM 17 1,LO 18 (.bin .add (LT 17) (LI 1)),LM 1 18]))) (.dE [LM 10 5,LO 11 (.bin .add (LT 10) (LI 1)),LM 5 11])))
def Ac:aD:=(LS [LO 4 (.mv (LI 0))] (.seq (LS [LO 5 (.mv (LI 0))] (.block 0 (.loop rD))) (LS [LM 19 1,LM 4 19] .ret)))
def Bz:aR:=⟨20,[(.tmp 4)],Ac⟩
theorem Ho:fA 37=some Bz:=by kernel_rfl
def rC:aD:=(.seq (LS [LM 6 5,LM 7 0,LO 8 (.len (LT 7)),LO 9 (.bin .lss (LT 6) (LT 8))] (.cond (LT 9) .skip (.exit 0))) (.seq (.block 1 (.seq (LS [LM 12 0,LM 13 5,LO 14 (.iaddr 1 (LT 12) (LT 13)),LO 15 (LL 14),LM 16 1,LQ 17 (.call 101 [(LT 16)]),LO 18 (.bin .neq (LT 15) (LT 17))] (.cond (LT 18) (LS [LO 4 (.mv (LI (-1)))] .ret) .skip)) (.dE [LM 19 1,LO 20 (.bin .add (LT 19) (LI 1)),LM 1 20]))) (.dE [LM 10 5,LO 11 (.bin .add (LT 10) (LI 1)),LM 5 11])))
def zS:aD:=(LS [LO 4 (.mv (LI 0))] (.seq (LS [LO 5 (.mv (LI 0))] (.block 0 (.loop rC))) (LS [LM 21 1,LM 4 21] .ret)))
def BX:aR:=⟨22,[(.tmp 4)],zS⟩
theorem Hm:fA 150=some BX:=by kernel_rfl
def oT:aD:=(.seq (LS [LM 12 5,LM 13 0,LO 14 (.len (LT 13)),LO 15 (.bin .lss (LT 12) (LT 14))] (.cond (LT 15) .skip (.exit 0))) (.seq (.block 1 (LS [LM 18 1,LM 19 0,LM 20 5,LO 21 (.iaddr 1 (LT 19) (LT 20)),LO 22 (LL 21),LO 23 (.slen (LT 22)),LO 24 (.bin .sub (LT 18) (LT 23)),LM 1 24] (LS [LM 25 1,LO 26 (.bin .lss (LT 25) (LI 0))] (.cond (LT 26) (LS [LO 4 (.mv (LI (-1)))] .ret) .skip)))) (.dE [LM 16 5,LO 17 (.bin .add (LT 16) (LI 1)),LM 5 17])))
def qN:aD:=(LS [LO 4 (.mv (LI 0))] (LS [LM 6 1,LM 7 0,LO 8 (.len (LT 7)),LO 9 (.bin .sub (LT 6) (LT 8)),LM 1 9] (.seq (LS [LM 10 1,LO 11 (.bin .lss (LT 10) (LI 0))] (.cond (LT 11) (LS [LO 4 (.mv (LI (-1)))] .ret) .skip)) (.seq (LS [LO 5 (.mv (LI 0))] (.block 0 (.loop oT))) (LS [LM 27 1,LM 4 27] .ret)))))
def uD:aR:=⟨28,[(.tmp 4)],qN⟩
theorem B8:fA 32=some uD:=by kernel_rfl
def pG:aD:=(.seq (LS [LM 21 6,LM 22 0,LO 23 (.len (LT 22)),LO 24 (.bin .lss (LT 21) (LT 23))] (.cond (LT 24) .skip (.exit 0))) (.seq (.block 1 (.dE [LM 27 5,LM 28 6,LM 29 0,LM 30 6,LO 31 (.iaddr 1 (LT 29) (LT 30)),LO 32 (LL 31),LO 33 (.iaddr 1 (LT 27) (LT 28)),LN (.store 1 (LT 33) (LT 32))])) (.dE [LM 25 6,LO 26 (.bin .add (LT 25) (LI 1)),LM 6 26])))
def pA:aD:=(.seq (LS [LM 36 7,LM 37 5,LO 38 (.len (LT 37)),LO 39 (.bin .lss (LT 36) (LT 38))] (.cond (LT 39) .skip (.exit 2))) (.seq (.block 3 (.dE [LM 42 5,LM 43 7,LO 44 (.iaddr 1 (LT 42) (LT 43)),LN (.store 1 (LT 44) (.const (.string ⟨#[126,115,112,97,114,101,126]⟩)))])) (.dE [LM 40 7,LO 41 (.bin .add (LT 40) (LI 1)),LM 7 41])))
def qL:aD:=(LS [LO 4 (.mv (.const (.slice none 0 0)))] (.seq (LS [LM 8 1,LM 9 8,LY 9 10 (.mv (LT 0)),LY 9 11 (.len (LT 10)),LY 9 12 (.bin .eql (LT 11) (LI 0)),LO 13 (.pick (LT 9) (LT 12) LF)] (.cond (LT 13) (LS [LO 4 (.mv (.const (.slice none 0 0)))] .ret) .skip)) (LS [LM 14 0,LO 15 (.len (LT 14)),LM 16 0,LO 17 (.len (LT 16)),LO 18 (.call 63 [(LT 17)]),LO 19 (.bin .add (LT 15) (LT 18)),LO 20 (.make [(.string ⟨#[]⟩)] 16 (LT 19) (LT 19)),LM 5 20] (.seq (LS [LO 6 (.mv (LI 0))] (.block 0 (.loop pG))) (.seq (LS [LM 34 0,LO 35 (.len (LT 34)),LM 7 35] (.block 2 (.loop pA))) (LS [LM 45 5,LM 46 0,LO 47 (.len (LT 46)),LO 48 (.sub 1 (LT 45) none (some (LT 47)) none),LM 4 48] .ret))))))
def uS:aR:=⟨49,[(.tmp 4)],qL⟩
theorem JR:fA 34=some uS:=by kernel_rfl
def wT:aD:=(LS [LO 4 (.mv LF)] (LS [LM 6 1,LO 7 (.len (LT 6)),LM 8 1,LO 9 (.len (LT 8)),LO 10 (.call 63 [(LT 9)]),LO 11 (.bin .add (LT 7) (LT 10)),LM 5 11] (LS [LM 12 0,LO 13 (.len (LT 12)),LM 14 1,LO 15 (.len (LT 14)),LO 16 (.bin .eql (LT 13) (LT 15)),LM 17 16,LY 17 18 (.mv (LT 0)),LY 17 19 (.mv (LT 5)),LY 17 20 (.sub 1 (LT 18) none (some (LT 19)) none),LY 17 21 (.mv (LT 1)),LY 17 22 (.mv (LT 5)),LY 17 23 (.sub 1 (LT 21) none (some (LT 22)) none),⟨(some 24),(.call 100 [(LT 20),(LT 23)]),(some (17,true)),true,[]⟩,LO 25 (.pick (LT 17) (LT 24) LF),LM 4 25] .ret)))
def Al:aR:=⟨26,[(.tmp 4)],wT⟩
theorem EM:fA 36=some Al:=by kernel_rfl
def zZ:aD:=(LS [LO 2 (.box (LT 0)),LO 3 (.box (LT 1)),LO 4 (.mv LF)] (.seq (LS [LO 5 (LA 0 2),LO 6 (LL 5),LO 7 (LA 0 3),LO 8 (LL 7),LO 9 (.call 73 [(LT 6),(LT 8)]),LO 10 (.un .not (LT 9))] (.cond (LT 10) (LS [LO 4 (.mv LF)] .ret) .skip)) (LS [LO 4 (.mv LG)] .ret)))
def C5:aR:=⟨11,[(.tmp 4)],zZ⟩
theorem On:fA 19=some C5:=by kernel_rfl
def lS:aD:=(.seq (LS [LM 6 5,LM 7 0,LO 8 (.len (LT 7)),LO 9 (.bin .lss (LT 6) (LT 8))] (.cond (LT 9) .skip (.exit 0))) (.seq (.block 1 (.dE [LM 12 0,LM 13 5,LO 14 (.iaddr 1 (LT 12) (LT 13)),LO 15 (LL 14),LM 16 1,LO 17 (.call 37 [(LT 15),(LT 16)]),LM 1 17])) (.dE [LM 10 5,LO 11 (.bin .add (LT 10) (LI 1)),LM 5 11])))
def qX:aD:=(LS [LO 4 (.mv (LI 0))] (.seq (LS [LO 5 (.mv (LI 0))] (.block 0 (.loop lS))) (LS [LM 18 1,LM 4 18] .ret)))
def tX:aR:=⟨19,[(.tmp 4)],qX⟩
theorem xZ:fA 21=some tX:=by kernel_rfl
def B2:aD:=(LS [LO 2 (.box (LT 0)),LO 4 (.mv (LI 0))] (LS [LO 5 (LA 0 2),LO 6 (LL 5),LM 7 1,LO 8 (.call 21 [(LT 6),(LT 7)]),LM 1 8] (LS [LM 9 1,LM 4 9] .ret)))
def EU:aR:=⟨10,[(.tmp 4)],B2⟩
theorem Kt:fA 22=some EU:=by kernel_rfl
def BH:aD:=(LS [LO 2 (.box (LT 0)),LO 4 (.mv (LI 0))] (LS [LO 5 (LA 0 2),LO 6 (LL 5),LM 7 1,LO 8 (.call 74 [(LT 6),(LT 7)]),LM 1 8] (.seq (LS [LM 9 1,LO 10 (.bin .lss (LT 9) (LI 0))] (.cond (LT 10) (LS [LO 4 (.mv (LI (-1)))] .ret) .skip)) (LS [LM 11 1,LM 4 11] .ret))))
def E8:aR:=⟨12,[(.tmp 4)],BH⟩
theorem Kg:fA 23=some E8:=by kernel_rfl
def pH:aD:=(LS [LO 2 (.mv (LI 0))] (.seq (LS [LM 3 0,LO 4 (.bin .rem (LT 3) (LI 6)),LO 5 (.bin .eql (LT 4) (LI 5))] (.cond (LT 5) (LS [LO 2 (.mv (LI 0))] .ret) .skip)) (.seq (LS [LM 6 0,LO 7 (.bin .rem (LT 6) (LI 3)),LO 8 (.bin .eql (LT 7) (LI 0))] (.cond (LT 8) (LS [LO 2 (.mv (LI 1))] .ret) .skip)) (LS [LM 9 0,LM 2 9] .ret))))
def rY:aR:=⟨10,[(.tmp 2)],pH⟩
theorem I0:fA 63=some rY:=by kernel_rfl
def vL:aD:=(.seq (LS [LM 6 0,LO 7 (.bin .gtr (LT 6) (LI 0))] (.cond (LT 7) .skip (.exit 0))) (.block 1 (LS [LM 8 0,LO 9 (.bin .rem (LT 8) (LI 10)),LO 10 (.bin .add (LI 48) (LT 9)),LO 11 (.cvt .u8 (LT 10)),LO 12 (.lit [(.int .u8 0)] 1 [(0,(LT 11))]),LO 13 (.b2s (LT 12)),LM 14 3,LO 15 (.bin .add (LT 13) (LT 14)),LM 3 15] (.dE [LM 16 0,LO 17 (.bin .quo (LT 16) (LI 10)),LM 0 17]))))
def xA:aD:=(LS [LO 2 (.mv (.const (.string ⟨#[]⟩)))] (.seq (LS [LM 4 0,LO 5 (.bin .leq (LT 4) (LI 0))] (.cond (LT 5) (LS [LO 2 (.mv (.const (.string ⟨#[109,48]⟩)))] .ret) .skip)) (LS [LO 3 (.mv (.const (.string ⟨#[]⟩)))] (.seq (.block 0 (.loop vL)) (LS [LM 18 3,LO 19 (.bin .add (.const (.string ⟨#[109]⟩)) (LT 18)),LM 2 19] .ret)))))
def Bm:aR:=⟨20,[(.tmp 2)],xA⟩
theorem Mk:fA 101=some Bm:=by kernel_rfl
def nN:aD:=(.seq (LS [LM 11 5,LM 12 0,LO 13 (.len (LT 12)),LO 14 (.bin .lss (LT 11) (LT 13))] (.cond (LT 14) .skip (.exit 0))) (.seq (.block 1 (LS [LM 17 0,LM 18 5,LO 19 (.iaddr 1 (LT 17) (LT 18)),LO 20 (LL 19),LM 21 1,LM 22 5,LO 23 (.iaddr 1 (LT 21) (LT 22)),LO 24 (LL 23),LQ 25 (.call 100 [(LT 20),(LT 24)]),LO 26 (.un .not (LT 25))] (.cond (LT 26) (LS [LO 4 (.mv LF)] .ret) .skip))) (.dE [LM 15 5,LO 16 (.bin .add (LT 15) (LI 1)),LM 5 16])))
def uH:aD:=(LS [LO 4 (.mv LF)] (.seq (LS [LM 6 0,LO 7 (.len (LT 6)),LM 8 1,LO 9 (.len (LT 8)),LO 10 (.bin .neq (LT 7) (LT 9))] (.cond (LT 10) (LS [LO 4 (.mv LF)] .ret) .skip)) (.seq (LS [LO 5 (.mv (LI 0))] (.block 0 (.loop nN))) (LS [LO 4 (.mv LG)] .ret))))
def xC:aR:=⟨27,[(.tmp 4)],uH⟩
theorem IL:fA 73=some xC:=by kernel_rfl
def pU:aD:=(.seq (LS [LM 6 5,LM 7 0,LO 8 (.len (LT 7)),LO 9 (.bin .lss (LT 6) (LT 8))] (.cond (LT 9) .skip (.exit 0))) (.seq (.block 1 (LS [LM 12 0,LM 13 5,LO 14 (.iaddr 1 (LT 12) (LT 13)),LO 15 (LL 14),LM 16 1,LO 17 (.call 150 [(LT 15),(LT 16)]),LM 1 17] (LS [LM 18 1,LO 19 (.bin .lss (LT 18) (LI 0))] (.cond (LT 19) (LS [LO 4 (.mv (LI (-1)))] .ret) .skip)))) (.dE [LM 10 5,LO 11 (.bin .add (LT 10) (LI 1)),LM 5 11])))
def yA:aD:=(LS [LO 4 (.mv (LI 0))] (.seq (LS [LO 5 (.mv (LI 0))] (.block 0 (.loop pU))) (LS [LM 20 1,LM 4 20] .ret)))
def AY:aR:=⟨21,[(.tmp 4)],yA⟩
theorem FP:fA 74=some AY:=by kernel_rfl
end Go.PM