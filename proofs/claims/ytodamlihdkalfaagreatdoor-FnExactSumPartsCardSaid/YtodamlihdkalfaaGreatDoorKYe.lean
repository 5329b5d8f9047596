/- Texts of a claim, in one: part 5. -/
import Derived.KernelRfl
import Derived.Test.YtodamlihdkalfaaGreatDoorKYd
set_option linter.unusedSimpArgs false
set_option linter.unusedVariables false
namespace Go.PM
def VT (f:Nat) (args:List VV) (r:VV):Prop :=
 ∀(F:Nat→Prop) (P:aE) (dM:List Value) (dN:Nat),(∀b,F b→b<P.length)→VL (bare F P) args dM→dN≤P.length →
  ∃P' pv,pS f dM dN P=some (pv,P')∧P <+: P'∧VR (bare (fun q=>F q∨(P.length≤q∧q<P'.length)) P') r pv
def N9 (lo dN:Nat) (V:View) (r:Option (Value×aE)) (K:VV→aA→Prop):Prop :=
 ∃pv V' v,r=some (pv,V'.P)∧SR V' lo dN∧Du lo V V'∧VR V' v pv∧K v V'.H
def kG (f:Nat) (args:List VV) (lo:Nat) (H:aA) (K:VV→aA→Prop):Prop :=
 ∀(V:View) (dN:Nat) (dM:List Value),V.H=H→SR V lo dN→VL V args dM→N9 lo dN V (pS f dM dN V.P) K
theorem kG.mono {f:Nat} {args:List VV} {lo:Nat} {H:aA} {K K':VV→aA→Prop} (hk:∀v H,K v H→K' v H) (h:kG f args lo H K):kG f args lo H K':=by
 intro V dN dM hH hS hl
 obtain⟨pv,V',v,h1,h2,h3,h4,h5⟩:=h V dN dM hH hS hl
 exact⟨pv,V',v,h1,h2,h3,h4,hk _ _ h5⟩
theorem VT.uniq {f:Nat} {args:List VV} {r r':VV} (h:VT f args r) (h':VT f args r') (ha:aL args=true) (hr:gH r=true) (FT:gH r'=true):r=r':=by
 obtain⟨P,ps,_,hl⟩:=My args ha []
 obtain⟨P',pv,h1,_,h2⟩:=h (· < P.length) P ps 0 (fun _ h=>h) hl (Nat.zero_le _)
 obtain⟨V6,pv',h3,_,h4⟩:=h' (· < P.length) P ps 0 (fun _ h=>h) hl (Nat.zero_le _)
 rw[h1] at h3
 injection h3 with h3
 injection h3 with h3 h5
 subst h3 h5
 exact h2.uniq h4 hr FT
open Classical in
noncomputable def vT (f:Nat) (args:List VV):Option VV:=if h:∃r,aL args=true∧gH r=true∧VT f args r then some (Classical.choose h) else none
theorem Nc {f:Nat} {args:List VV} {r:VV} (h:vT f args=some r):aL args=true∧gH r=true∧VT f args r:=by
 unfold vT at h
 split at h
 ·rename_i hx
  cases h
  exact Classical.choose_spec hx
 ·cases h
theorem adN {f:Nat} {args:List VV} {r:VV} (ha:aL args=true) (hr:gH r=true) (h:VT f args r):vT f args=some r:=by
 have hx:∃r,aL args=true∧gH r=true∧VT f args r:=⟨r,ha,hr,h⟩
 unfold vT
 rw[dif_pos hx]
 obtain⟨_,h2,h3⟩:=Classical.choose_spec hx
 rw[h3.uniq h ha h2 hr]
def tk (r:Option VV) (K:VV→Prop):Prop:=match r with
 | some r=>K r
 | none=>False
noncomputable def E9 (f:Nat) (args:List VV) (K:VV→Prop):Prop:=tk (vT f args) K
noncomputable def cB (f:Nat) (args:List VV) (lo:Nat) (H:aA) (K:VV→aA→Prop):Prop :=
 if AQ.contains f=true then kG f args lo H K
 else if aL args=true then E9 f args fun r=>K r H
 else match args.mapM (fz depth H) with
  | some gM=>E9 f gM fun r=>if J5 r=true then K r H else K r (cG H (args.flatMap (gY depth H)))
  | none=>False
noncomputable def dL (fl:Fl) (lo:Nat) (q:Bool) (op:mB) (ρ:cM) (H:aA) (K:VV→aA→Prop):Prop :=
 match op with
 | .call f args=>cB f (args.map (dK ρ)) (if q then H.length else lo) H K
 |
  .callv fv args=>match dK ρ fv with
  | .sY f eY=>cB f (args.map (dK ρ)++eY) (if q then H.length else lo) H K
  | _=>False
 |
  o=>match vop fl lo o ρ H with
  | some (v,H')=>K v H'
  | none=>False
noncomputable def VS (fl:Fl) (lo:Nat):List PI→(cM→aA→Prop)→cM→aA→Prop
 | [],K,ρ,H=>K ρ H
 |
  i::is,K,ρ,H=>match AS i.g ρ with
  | none=>False
  | some false=>VS fl lo is K (Ic ρ i.dst oQ) H
  | some true=>i.cf.all (rE ρ H)=true∧dL fl lo i.quiet i.op ρ H fun v H'=>VS fl lo is K (Ic ρ i.dst v) H'
def ZQ:List Nat→cM→aA→Option (cM×aA)
 | [],ρ,H=>some (ρ,H)
 |
  t::ts,ρ,H=>match fz depth H (ρ t) with
  | some v=>ZQ ts (Ic ρ (some t) v) (cG H (gY depth H (ρ t)))
  | none=>none
def IZ (r:Option VV) (H:aA) (K:VV→aA→Prop):Prop:=match r with
 | some v=>K v H
 | none=>False
def gh (K:cM→aA→Prop) (ρ:cM) (H:aA):Prop:=∃ts aU H',ZQ ts ρ H=some (aU,H')∧K aU H'
def iG (k:Nat) (H:aA):Bool:=H.all fun
 | .row _ es _ _=>kC k es
 | .dead=>true
def GH (k:Nat) (ρ:cM):cM:=fun t=>Hf k (ρ t)
abbrev VQ:=Ex→cM→aA→Prop
def lO (K:cM→aA→Prop) (Q:VQ):VQ
 | .normal=>K
 | x=>Q x
def yV (id:Nat) (Q:VQ):VQ
 | .exit O6=>fun ρ H=>if O6=id then Q .normal ρ H else Q (.exit O6) ρ H
 | x=>Q x
def Oz (body:VQ→cM→aA→Prop) (Q:VQ):Nat→cM→aA→Prop
 | 0,_,_=>False
 | n+1,ρ,H=>body (lO (fun aU H'=>Oz body Q n aU H'∨(iG H.length (H'.take H.length)=true∧Oz body Q n (GH H.length aU) (H'.take H.length))) Q) ρ H
noncomputable def VW (fl:Fl) (lo:Nat):aD→VQ→cM→aA→Prop
 | .skip,Q,ρ,H=>Q .normal ρ H
 | .cX ops,Q,ρ,H=>VS fl lo ops (Q .normal) ρ H
 | .seq a b,Q,ρ,H=>VW fl lo a (lO (VW fl lo b Q) Q) ρ H
 |
  .cond c a b,Q,ρ,H=>match dK ρ c with
  | .sc (.bool t)=>if t=true then VW fl lo a Q ρ H else VW fl lo b Q ρ H
  | _=>False
 | .block id a,Q,ρ,H=>VW fl lo a (yV id Q) ρ H
 | .loop a,Q,ρ,H=>∃n,Oz (VW fl lo a) (fun x=>gh (Q x)) n ρ H
 | .exit id,Q,ρ,H=>Q (.exit id) ρ H
 | .ret,Q,ρ,H=>Q .ret ρ H
def Dv (ρ:cM) (H:aA):zP→Option VV
 | .tmp t=>some (ρ t)
 | .cell t agg size=>dG agg size (ρ t) H
def pO (ρ:cM) (H:aA):List zP→Option (List VV)
 | []=>some []
 |
  r::rs=>match Dv ρ H r,pO ρ H rs with
  | some v,some vs=>some (v::vs)
  | _,_=>none
def mM (res:List zP) (ρ:cM) (H:aA):Option VV :=
 match pO ρ H res with
 | some [v]=>some v
 | some vs=>some (.dY vs)
 | none=>none
def EX (R:VV→aA→Prop):Option VV→aA→Prop
 | some v,H=>R v H
 | none,_=>False
def zJ (res:List zP) (R:VV→aA→Prop):VQ
 | .exit _,_,_=>False
 | .normal,ρ,H=>EX R (mM res ρ H) H
 | .ret,ρ,H=>EX R (mM res ρ H) H
def Hv (args:List VV):cM:=fun k=>args.getD k oQ
section
variable {lo dN:Nat}
theorem Er {V:View} (hS:SR V lo dN) {P':aE} (hp:V.P <+: P'):SR { V with P:=P',F:=fun q=>V.F q∨(V.P.length≤q∧q<P'.length) } lo dN∧Du lo V { V with P:=P',F:=fun q=>V.F q∨(V.P.length≤q∧q<P'.length) }:=by
 obtain⟨L,rfl⟩:=hp
 have hU:Up V { V with P:=V.P++L,F:=fun q=>V.F q∨(V.P.length≤q∧q<(V.P++L).length) }:=⟨fun _ h => .inl h,fun b hb=>List.getElem?_append_left (hS.fr b hb),Nat.le_refl _,fun b g es e w _ h=>⟨g,es,w,h,Nat.le_refl _,fun _=>rfl⟩,rfl,by simp,fun b g es e w hb _=>⟨g,es,w,hb,rfl,id⟩⟩
 refine⟨⟨fun b g es e w hb => ?_,fun b g es e hb=>⟨fun hF => ?_,(hS.wr b g es e hb).2⟩,hS.inj,fun b hb => ?_,by have:=hS.Q4;simp;omega,by have:=hS.IK;simp;omega⟩,{ hU with cL:=fun q hq _=>List.getElem?_append_left hq,BM:=fun q hq => ?_ }⟩
 ·obtain⟨r,p,h1,h2,h3⟩:=hS.row b g es e w hb
  exact⟨r,p,by rw[←h1];exact List.getElem?_append_left (hS.mlt hb),h2,h3.mono hU⟩
 ·rcases hF with hF | hF
  ·exact(hS.wr b g es e hb).1 hF
  ·have h1:=hS.mlt hb
   have h2:V.P.length≤V.m b:=hF.1
   omega
 ·rcases hb with hb | hb
  ·have:=hS.fr b hb
   simp;omega
  ·exact hb.2
 ·rcases hq with hq | hq
  ·exact .inl hq
  ·exact .inr (.inl hq.1)
theorem Zj {V V':View} {x:VV} {v:Value} (h:VR V x v):J5 x=true→VR V' x v:=by
 induction h using VR.rec (motive_2:=fun xs vs _=>QB xs=true→VL V' xs vs) with
 | sc _ h=>intro _;exact .sc _ h
 | agg cs ps _ ih=>intro hx;exact .agg _ _ (ih hx)
 | dY cs ps _ ih=>intro hx;exact .dY _ _ (ih hx)
 | any=>intro hx;cases hx
 | lS=>intro hx;cases hx
 | tree=>intro hx;cases hx
 | cO=>intro hx;cases hx
 | ref=>intro hx;cases hx
 | ptr=>intro hx;cases hx
 | sY=>intro hx;cases hx
 | nil=>exact .nil
 |
  cons x v xs vs _ _ ih Sk =>
  rename_i hx
  simp only[QB,Bool.and_eq_true] at hx
  exact .cons _ _ _ _ (ih hx.1) (Sk hx.2)
theorem VR.Cb {V':View} {G:Nat→Prop} {P:aE} {x:VV} {v:Value} (hF:∀b,G b→V'.F b∧V'.P[b]? = P[b]?) (h:VR (bare G P) x v):VR V' x v:=by
 induction h using VR.rec (motive_2:=fun xs vs _=>VL V' xs vs) with
 | any=>exact .any _
 | sc _ h=>exact .sc _ h
 | agg cs ps _ ih=>exact .agg _ _ ih
 | dY cs ps _ ih=>exact .dY _ _ ih
 | lS k hk=>exact .lS k hk
 | tree es k b o c r e p Sl hb ho hc he hk _ ih=>exact .tree es k b o c r e p (hF _ Sl).1 (by rw[(hF _ Sl).2];exact hb) ho hc he hk ih
 | cO x off b o r e p Sl hb ho _ ih=>exact .cO x off b o r e p (hF _ Sl).1 (by rw[(hF _ Sl).2];exact hb) ho ih
 | ref b g o n c a n' c' aV hg ha hq=>exact absurd aV (Nat.not_lt_zero _)
 | ptr b g j off a aV hg ha hq=>exact absurd aV (Nat.not_lt_zero _)
 | sY f eY ps _ ih=>exact .sY _ _ _ ih
 | nil=>exact .nil
 | cons x v xs vs _ _ ih Sk=>exact .cons _ _ _ _ ih Sk
theorem OU {V:View} (hS:SR V lo dN) {f aaR:Nat} (aaW:aaR≤V.P.length) {args:List VV} {dM:List Value} {G:Nat→Prop} (hG:∀b,G b→b<V.P.length) (hl:VL (bare G V.P) args dM) {K:VV→Prop} (h:E9 f args K) :
  ∃P' pv r,pS f dM aaR V.P=some (pv,P')∧V.P <+: P'∧VR (bare (fun q=>G q∨(V.P.length≤q∧q<P'.length)) P') r pv∧aO r=true∧K r:=by
 unfold E9 tk at h
 split at h
 ·rename_i r hr
  obtain⟨h1,h2,h3⟩:=Nc hr
  obtain⟨P',pv,h4,h5,h6⟩:=h3 G V.P dM aaR hG hl aaW
  exact⟨P',pv,r,h4,h5,h6,QK r h2,h⟩
 ·cases h
theorem FJ {V:View} (hS:SR V lo dN) {f:Nat} {args:List VV} {dM:List Value} (hl:VL V args dM) {q:Bool} {K:VV→aA→Prop} (h:cB f args (if q then V.H.length else lo) V.H K):N9 lo dN V (pS f dM (if q then V.P.length else dN) V.P) K:=by
 have hlq:(if q=true then V.P.length else dN)≤V.P.length:=by split;exact Nat.le_refl _;exact hS.Q4
 unfold cB at h
 split at h
 ·cases q with
  | false=>exact h V dN dM rfl hS hl
  |
   true =>
   have hS':SR V V.H.length V.P.length:=⟨hS.row,fun b g es e hb=>⟨(hS.wr b g es e hb).1,fun hl=>by have:=(List.getElem?_eq_some_iff.1 hb).1;omega⟩,hS.inj,hS.fr,Nat.le_refl _,hS.IK⟩
   obtain⟨pv,V',r,g1,g3,g4,g5,g6⟩:=h V V.P.length dM rfl hS' hl
   refine⟨pv,V',r,g1,⟨g3.row,fun b g es e hb=>⟨(g3.wr b g es e hb).1,fun DR => ?_⟩,g3.inj,g3.fr,Nat.le_trans hS.Q4 g4.Dj,g3.IK⟩,{ g4.toUp with cL:=fun p hp _=>g4.cL p hp fun b g es e hb DR => ?_,BM:=g4.BM },g5,g6⟩
   ·rcases Nat.lt_or_ge (V'.m b) V.P.length with aV | AF
    ·obtain⟨g0,es0,w0,k1,k2,k3⟩:=g4.AT b g es e true hb aV
     have:=k3 rfl
     subst this
     rw[k2]
     exact(hS.wr _ _ _ _ k1).2 DR
    ·exact Nat.le_trans hS.Q4 AF
   ·have:=(List.getElem?_eq_some_iff.1 hb).1
    have DR:V.H.length≤b:=DR
    omega
 ·split at h
  ·rename_i hp
   obtain⟨P',pv,r,g1,g2,g3,g4,g5⟩:=OU hS (aaR:=if q=true then V.P.length else dN) hlq (G:=V.F) hS.fr (VL.pure (V:=V) (V':=bare V.F V.P) (fun b hb=>⟨hb,rfl⟩) hl hp) h
   obtain⟨k1,k2⟩:=Er hS g2
   exact⟨pv,_,r,g1,k1,k2,g3.Cb (fun b hb=>⟨hb,rfl⟩),g5⟩
  ·split at h
   case h_2=>cases h
   rename_i gM Ue
   unfold E9 tk at h
   split at h
   case h_2=>cases h
   rename_i r hr
   obtain⟨h1,h2,h3⟩:=Nc hr
   split at h
   ·rename_i hfl
    have BO:=Db hS (G:=(· < V.P.length)) (fun q hq=>hS.fr q hq) hl Ue (fun i _ g es e w hb=>hS.mlt hb)
    obtain⟨P',pv,g1,g2,g3⟩:=h3 _ V.P dM _ (fun _ h=>h) BO hlq
    obtain⟨k1,k2⟩:=Er hS g2
    exact⟨pv,_,r,g1,k1,k2,Zj g3 hfl,h⟩
   ·obtain⟨k1,k2,k3,k4,k5,k6⟩:=uG (args.flatMap (gY depth V.H)) hS
    have BO:=Db hS (G:=(V.cG (args.flatMap (gY depth V.H))).F) (fun q hq=>k2.F q hq) hl Ue k6
    rw[←k4] at BO
    obtain⟨P',pv,g1,g2,g3⟩:=h3 _ _ dM _ k1.fr BO (by rw[k4];exact hlq)
    obtain⟨j1,j2⟩:=Er k1 g2
    rw[k4] at g1
    refine⟨pv,_,r,g1,j1,k2.trans j2,g3.Cb (fun b hb=>⟨hb,rfl⟩),?_⟩
    show K r (V.cG (args.flatMap (gY depth V.H))).H
    rw[k3]
    exact h
def yU (lo dN:Nat) (V:View) (c:aD) (Q:VQ) (iX:Env):Prop :=
 W dN c (fun x KT P'=>∃V' aU,V'.P=P'∧SR V' lo dN∧Du lo V V'∧ER V' aU KT∧Q x aU V'.H) iX V.P
theorem FO {V:View} {ρ:cM} {iX:Env} (hE:ER V ρ iX) {g:Option (Nat×Bool)} {t:Bool} (h:AS g ρ=some t):yN g iX=some t:=by
 unfold AS at h
 unfold yN
 split at h
 ·exact h
 ·rename_i t' want
  have ht:=hE t'
  split at h
  ·rename_i b hb
   obtain⟨e,_⟩:=qB ht hb
   simp only[e]
   exact h
  ·rename_i vs hb
   rw[hb] at ht
   generalize hu:iX t'=u at ht
   cases ht with
   | dY cs ps hl=>simp only[hu];exact h
  ·cases h
theorem Sc {V:View} (hS:SR V lo dN) {x y:VV} {u w:Value} (hx:VR V x u) (hy:VR V y w) (h:xW V.H x y=true):akV u w=true:=by
 have key:∀ {z:VV} {v:Value},VR V z v→(match zB V.H z with
   | .bad=>True
   | .no=>gX v=none
   | .row i wr=>gX v=some (V.m i)∧∃g es e,V.H[i]? = some (.row g es e wr)
   | .AT i=>∀q,gX v=some q→∀b' g' es e w,V.H[b']? = some (.row g' es e w)→b'≠i→V.m b'≠q
   | .tree=>∀b,gX v=some b→V.F b):=by
  intro z v hz
  cases hz with
  | any=>simp only[zB]
  | sc v h =>
      cases v<;>first | rfl | cases h | skip
      rename_i a;cases a<;>first | rfl | cases h
  | agg=>rfl
  | dY=>rfl
  | lS k hk =>
       rcases hk with rfl | rfl
       ·intro b hb;cases hb
       ·rfl
  |
   tree es k b o c r e p hF hb ho hc he hk hl =>
   cases es with
   |
    nil=>cases k with
    | nil=>exact hk.elim
    | op=>intro b' xH;cases xH;exact hF
    | cl=>intro b' xH;cases xH;exact hF
   | cons=>intro b' xH;cases xH;exact hF
  | cO x off b o r e p hF hb ho hl=>intro b' xH;cases xH;exact hF
  |
   ref b g o n c a n' c' aV hg ha hq =>
   simp only[zB]
   cases hr:aK V.H b g with
   | none=>exact fun q h=>(by
     cases a with
     | none=>cases h
     | some a0=>cases h;exact(hq a0 rfl).2.2)
   |
    some q =>
    obtain⟨es,e,wr⟩:=q
    rw[bS] at hr
    obtain⟨rfl,rfl,rfl⟩:=ha _ _ _ hr
    exact⟨rfl,g,es,e,hr⟩
  |
   ptr b g j off a aV hg ha hq =>
   simp only[zB]
   cases hr:aK V.H b g with
   | none=>exact fun q h=>(by
     cases a with
     | none=>cases h
     | some a0=>cases h;exact(hq a0 rfl).2.2)
   |
    some q =>
    obtain⟨es,e,wr⟩:=q
    rw[bS] at hr
    have:=ha _ _ _ hr
    subst this
    exact⟨rfl,g,es,e,hr⟩
  | sY=>rfl
 have kx:=key hx
 have ky:=key hy
 unfold xW at h
 unfold akV
 cases hbx:zB V.H x with
 | bad=>rw[hbx] at h;have h:false=true:=h;cases h
 |
  no =>
  rw[hbx] at kx
  have kx:gX u=none:=kx
  rw[kx]
 |
  AT i =>
  rw[hbx] at kx h
  have kx:∀q,gX u=some q→∀b' g' es e w,V.H[b']? = some (.row g' es e w)→b'≠i→V.m b'≠q:=kx
  cases QO:zB V.H y with
  | bad=>rw[QO] at h;have h:false=true:=h;cases h
  |
   no =>
   rw[QO] at ky
   have ky:gX w=none:=ky
   rw[ky]
   cases gX u<;>rfl
  | AT j=>rw[QO] at h;have h:false=true:=h;cases h
  | tree=>rw[QO] at h;have h:false=true:=h;cases h
  |
   row j wj =>
   rw[QO] at ky h
   obtain⟨k3,g2,X5,e2,k4⟩:gX w=some (V.m j)∧∃g es e,V.H[j]? = some (.row g es e wj):=ky
   have h:(i != j)=true:=h
   simp only[bne_iff_ne,ne_eq] at h
   rw[k3]
   cases hu:gX u with
   | none=>rfl
   |
    some q =>
    simp only[bne_iff_ne,ne_eq]
    exact fun hm=>kx q hu j _ _ _ _ k4 (Ne.symm h) hm.symm
 |
  row i wi =>
  rw[hbx] at kx h
  obtain⟨k1,g1,Bi,e1,k2⟩:gX u=some (V.m i)∧∃g es e,V.H[i]? = some (.row g es e wi):=kx
  cases QO:zB V.H y with
  | bad=>rw[QO] at h;have h:false=true:=h;cases h
  |
   no =>
   rw[QO] at ky
   have ky:gX w=none:=ky
   rw[ky]
   cases gX u<;>rfl
  |
   AT j =>
   rw[QO] at ky h
   have ky:∀q,gX w=some q→∀b' g' es e w,V.H[b']? = some (.row g' es e w)→b'≠j→V.m b'≠q:=ky
   have h:(i != j)=true:=h
   simp only[bne_iff_ne,ne_eq] at h
   rw[k1]
   cases hw:gX w with
   | none=>rfl
   |
    some q =>
    simp only[bne_iff_ne,ne_eq]
    exact fun hm=>ky q hw i _ _ _ _ k2 h hm
  |
   row j wj =>
   rw[QO] at ky h
   obtain⟨k3,g2,X5,e2,k4⟩:gX w=some (V.m j)∧∃g es e,V.H[j]? = some (.row g es e wj):=ky
   rw[k1,k3]
   have h:(i != j)=true:=h
   simp only[bne_iff_ne,ne_eq] at h ⊢
   exact fun hm=>h (hS.inj _ _ _ _ _ _ _ _ _ _ k2 k4 hm)
  |
   tree =>
   rw[QO] at ky h
   have ky:∀b,gX w=some b→V.F b:=ky
   have h:wi=true:=h
   subst h
   cases hw:gX w with
   | none=>rw[k1]
   |
    some b =>
    rw[k1]
    simp only[bne_iff_ne,ne_eq]
    exact fun hm=>(hS.wr _ _ _ _ k2).1 (by rw[hm];exact ky b hw)
 |
  tree =>
  rw[hbx] at kx h
  have kx:∀b,gX u=some b→V.F b:=kx
  cases QO:zB V.H y with
  | bad=>rw[QO] at h;have h:false=true:=h;cases h
  |
   no =>
   rw[QO] at ky
   have ky:gX w=none:=ky
   rw[ky]
   cases gX u<;>rfl
  | tree=>rw[QO] at h;have h:false=true:=h;cases h
  | AT j=>rw[QO] at h;have h:false=true:=h;cases h
  |
   row j wj =>
   rw[QO] at ky h
   obtain⟨k1,g1,Bi,e1,k2⟩:gX w=some (V.m j)∧∃g es e,V.H[j]? = some (.row g es e wj):=ky
   have h:wj=true:=h
   subst h
   cases hw:gX u with
   | none=>rfl
   |
    some b =>
    rw[k1]
    simp only[bne_iff_ne,ne_eq]
    exact fun hm=>(hS.wr _ _ _ _ k2).1 (by rw[←hm];exact kx b hw)
theorem OS {V:View} (hS:SR V lo dN) {ρ:cM} {iX:Env} (hE:ER V ρ iX) {fl:Fl} {q:Bool} {op:mB} {K:VV→aA→Prop} (h:dL fl lo q op ρ V.H K):N9 lo dN V (iL dN q op iX V.P) K:=by
 have other:∀ {v H'},vop fl lo op ρ V.H=some (v,H')→K v H'→N9 lo dN V (iL dN q op iX V.P) K:=by
  intro v H' h1 h2
  obtain⟨pv,V',g1,g2,g3,g4,g5⟩:=VE hS hE (q:=q) h1
  exact⟨pv,V',v,g1,g3,g4,g5,by rw[g2];exact h2⟩
 unfold dL at h
 split at h
 ·rw[VU]
  exact FJ hS (hE.evs _) h
 ·rename_i fv args
  rw[R4]
  have hf:=hE.ev fv
  split at h
  ·rename_i f eY hfv
   rw[hfv] at hf
   generalize ev iX fv=u at hf ⊢
   cases hf with
   |
    sY f eY ps hl =>
    unfold Xo
    simp only[List.nil_append]
    exact FJ hS ((hE.evs args).append hl) h
  ·cases h
 ·split at h
  ·rename_i v H' h1
   exact other h1 h
  ·cases h
theorem Jy {fl:Fl} {K:cM→aA→Prop}:∀(is:List PI) {V:View} {ρ:cM} {iX:Env},SR V lo dN→ER V ρ iX→VS fl lo is K ρ V.H →
  WS dN is (fun KT P'=>∃V' aU,V'.P=P'∧SR V' lo dN∧Du lo V V'∧ER V' aU KT∧K aU V'.H) iX V.P
 |
  [],V,ρ,iX,hS,hE,h=>by
  rw[ahD]
  exact⟨V,ρ,rfl,hS,Du.refl _ _,hE,h⟩
 |
  i::is,V,ρ,iX,hS,hE,h=>by
  unfold VS at h
  rw[akS]
  unfold xM
  split at h
  ·cases h
  ·rename_i hw
   rw[FO hE hw]
   exact⟨_,_,rfl,Jy is hS (hE.put (.dY [] [] .nil)) h⟩
  ·rename_i hw
   rw[FO hE hw]
   obtain⟨Oo,h⟩:=h
   have aqA:i.cf.all (Aw iX)=true:=by
    rw[List.all_eq_true] at Oo ⊢
    intro c hc
    exact Sc hS (hE.ev c.1) (hE.ev c.2) (Oo c hc)
   simp only[aqA,if_true]
   obtain⟨pv,V',v,g1,g2,g3,g4,g5⟩:=OS hS hE h
   refine⟨pv,V'.P,?_,?_⟩
   ·unfold iL at g1
    exact g1
   ·obtain⟨TB,V6,k1,QH,vD,k2,k3,k4,k5,k6⟩:=Jy is g2 ((hE.mono g3.toUp).put g4) g5
    exact⟨TB,V6,k1,QH,vD,k2,k3,g3.trans k4,k5,k6⟩
theorem I9:∀(ts:List Nat) {V:View} {ρ aU:cM} {iX:Env} {H':aA},SR V lo dN→ER V ρ iX→ZQ ts ρ V.H=some (aU,H')→∃V',V'.P=V.P∧V'.H=H'∧SR V' lo dN∧Du lo V V'∧ER V' aU iX
 |
  [],V,ρ,aU,iX,H',hS,hE,h=>by
  cases h
  exact⟨V,rfl,rfl,hS,Du.refl _ _,hE⟩
 |
  t::ts,V,ρ,aU,iX,H',hS,hE,h=>by
  unfold ZQ at h
  split at h
  case h_2=>cases h
  rename_i v hv
  obtain⟨k1,k2,k3,k4,k5,k6⟩:=uG (gY depth V.H (ρ t)) hS
  have hx:=KF hS (G:=(V.cG (gY depth V.H (ρ t))).F) (fun q hq=>k2.F q hq) depth (ρ t) v (iX t) (hE t) hv k6
  have Vp:VR (V.cG (gY depth V.H (ρ t))) v (iX t):=hx.Cb (fun b hb=>⟨hb,by rw[k4]⟩)
  rw[←k3] at h
  obtain⟨V',g1,g2,g3,g4,g5⟩:=I9 ts (iX:=iX) k1 (by
   have e:=(hE.mono k2.toUp).put (d:=some t) Vp
   have ee:put iX (some t) (iX t)=iX:=by
    funext k
    simp only[put]
    split
    ·rename_i hk;rw[hk]
    ·rfl
   rw[ee] at e
   exact e) h
  exact⟨V',g1.trans k4,g2,g3,k2.trans g4,g5⟩
theorem Pw {V:View} (hS:SR V lo dN) {ρ:cM} {iX:Env} (hE:ER V ρ iX) {K:cM→aA→Prop} (h:gh K ρ V.H):∃V' aU,V'.P=V.P∧SR V' lo dN∧Du lo V V'∧ER V' aU iX∧K aU V'.H:=by
 obtain⟨ts,aU,H',h1,h2⟩:=h
 obtain⟨V',g1,g2,g3,g4,g5⟩:=I9 ts hS hE h1
 exact⟨V',aU,g1,g3,g4,g5,by rw[g2];exact h2⟩
theorem JY {k:Nat} {es:List VV}:kC k es=true↔∀x∈es,below k x=true:=by
 induction es with
 | nil=>simp[kC]
 | cons x xs ih=>simp[kC,ih]
theorem Cs {k:Nat} {es:List VV} (h:kC k es=true):kC k (es.flatMap aB)=true:=by
 rw[JY] at h ⊢
 intro x hx
 obtain⟨y,hy,yT⟩:=List.mem_flatMap.1 hx
 have:=h y hy
 unfold aB at yT
 split at yT
 ·exact JY.1 (by simpa[below] using this) x yT
 ·rw[List.mem_singleton] at yT;subst yT;exact this
theorem Pj {k:Nat} {x:VV} (h:below k x=true):kC k (aB x)=true:=by
 have:=Cs (k:=k) (es:=[x]) (by simp[kC,h])
 simpa using this
def View.yH (V:View) (k:Nat):View:={ V with H:=V.H.take k }
theorem VR.yH {V:View} {k:Nat} (hk:k≤V.H.length) {x:VV} {v:Value} (h:VR V x v):PM.below k x=true→VR (V.yH k) x v:=by
 have he:∀ {b:Nat},b<k→∀y,(V.yH k).H[b]? = some y→V.H[b]? = some y:=fun Q3 y hy=>by
  have:(V.H.take k)[_]? = some y:=hy
  rw[List.getElem?_take,if_pos Q3] at this
  exact this
 have hT:∀ {b:Nat} {y:cI},(V.yH k).H[b]? = some y→V.H[b]? = some y:=fun {b y} hy=>by
  have h:(V.H.take k)[b]? = some y:=hy
  rw[List.getElem?_take] at h
  split at h
  ·exact h
  ·cases h
 induction h using VR.rec (motive_2:=fun xs vs _=>kC k xs=true→VL (V.yH k) xs vs) with
 | any=>intro _;exact .any _
 | sc _ h=>intro _;exact .sc _ h
 | agg cs ps _ ih=>intro hb;exact .agg _ _ (ih hb)
 | dY cs ps _ ih=>intro hb;exact .dY _ _ (ih hb)
 | lS k hk=>intro _;exact .lS k hk
 | tree es k b o c r e p Sl tG ho hc he hk' _ ih=>intro hb;exact .tree es k b o c r e p Sl tG ho hc he hk' (ih (Cs hb))
 | cO x off b o r e p Sl tG ho _ ih=>intro hb;exact .cO x off b o r e p Sl tG ho (ih (Pj hb))
 |
  ref b g o n c a n' c' aV hg ha hq =>
  intro hb
  have Q3:b<k:=by simpa[PM.below] using hb
  exact .ref b g o n c a n' c' (by show b<(V.H.take k).length;simp;omega) (fun g' es e w hr=>hg _ _ _ _ (he Q3 _ hr)) (fun es e w hr=>ha _ _ _ (he Q3 _ hr)) fun a0 h=>⟨(hq a0 h).1,(hq a0 h).2.1,fun b' g' es e w hr=>(hq a0 h).2.2 b' g' es e w (hT hr)⟩
 |
  ptr b g j off a aV hg ha hq =>
  intro hb
  have Q3:b<k:=by simpa[PM.below] using hb
  exact .ptr b g j off a (by show b<(V.H.take k).length;simp;omega) (fun g' es e w hr=>hg _ _ _ _ (he Q3 _ hr)) (fun es e w hr=>ha _ _ _ (he Q3 _ hr)) fun a0 h=>⟨(hq a0 h).1,(hq a0 h).2.1,fun b' g' es e w hr=>(hq a0 h).2.2 b' g' es e w (hT hr)⟩
 | sY f eY ps _ ih=>intro hb;exact .sY _ _ _ (ih hb)
 | nil=>exact .nil
 |
  cons x v xs vs _ _ ih Sk =>
  rename_i hb
  simp only[kC,Bool.and_eq_true] at hb
  exact .cons _ _ _ _ (ih hb.1) (Sk hb.2)
theorem VL.yH {V:View} {k:Nat} (hk:k≤V.H.length) {xs:List VV} {vs:List Value} (h:VL V xs vs) (hb:kC k xs=true):VL (V.yH k) xs vs:=by
 induction xs generalizing vs with
 | nil=>cases h;exact .nil
 |
  cons x xs ih=>cases h with
  |
   cons _ v _ vs h hs =>
   simp only[kC,Bool.and_eq_true] at hb
   exact .cons _ _ _ _ (h.yH hk hb.1) (ih hs hb.2)
theorem Oy {V V':View} (hS:SR V' lo dN) {ρ:cM} {iX:Env} (hE:ER V' ρ iX) (hx:Du lo V V') (hr:iG V.H.length (V'.H.take V.H.length)=true) :
  SR (V'.yH V.H.length) lo dN∧Du lo V (V'.yH V.H.length)∧ER (V'.yH V.H.length) (GH V.H.length ρ) iX:=by
 have hk:=hx.len
 have get:∀ {b:Nat} {y:cI},(V'.yH V.H.length).H[b]? = some y→V'.H[b]? = some y:=by
  intro b y h
  have h:(V'.H.take V.H.length)[b]? = some y:=h
  rw[List.getElem?_take] at h
  split at h
  ·exact h
  ·cases h
 refine⟨⟨fun b g es e w hb => ?_,fun b g es e hb=>hS.wr b g es e (get hb),fun a b g es e w g' lL e' w' ha hb hm=>hS.inj a b _ _ _ _ _ _ _ _ (get ha) (get hb) hm,hS.fr,hS.Q4,hS.IK⟩,
  { F:=hx.F,P:=hx.P,len:=by show V.H.length≤(V'.H.take V.H.length).length;simp;omega,row:=fun b g es e w aV hb=>hx.row b g es e w aV (get hb),IK:=hx.IK,Dj:=hx.Dj,AT:=fun b g es e w hb hm=>hx.AT b g es e w (get hb) hm,cL:=hx.cL,BM:=hx.BM },fun t => ?_⟩
 ·obtain⟨r,p,h1,h2,h3⟩:=hS.row b g es e w (get hb)
  refine⟨r,p,h1,h2,h3.yH hk (Cs ?_)⟩
  have:=List.all_eq_true.1 hr _ (List.mem_of_getElem? (show (V'.H.take V.H.length)[b]? = some _ from hb))
  exact this
 ·unfold GH Hf
  split
  ·rename_i hb
   exact(hE t).yH hk hb
  ·exact .any _
theorem Pr {c:aD} {Q:Ex→Env→aE→Prop} {ρ:Env} {H:aE} (h:W dN c (amW (fun aU H'=>W dN (.loop c) Q aU H') Q) ρ H):W dN (.loop c) Q ρ H:=by
 obtain⟨x,aU,H',h1,h2⟩:=h
 unfold W
 rw[UK,h1]
 cases x with
 |
  normal =>
  obtain⟨y,vD,Z7,h3,h4⟩:=h2
  exact⟨y,vD,Z7,h3,h4⟩
 | exit i=>exact⟨_,_,_,rfl,h2⟩
 | ret=>exact⟨_,_,_,rfl,h2⟩
theorem tH {fl:Fl}:∀(c:aD) {V:View} {ρ:cM} {iX:Env} {Q:VQ},SR V lo dN→ER V ρ iX→VW fl lo c Q ρ V.H→yU lo dN V c Q iX
 |
  .skip,V,ρ,iX,Q,hS,hE,h=>by
  unfold yU
  rw[agN]
  exact⟨V,ρ,rfl,hS,Du.refl _ _,hE,h⟩
 |
  .exit id,V,ρ,iX,Q,hS,hE,h=>by
  unfold yU
  rw[agU]
  exact⟨V,ρ,rfl,hS,Du.refl _ _,hE,h⟩
 |
  .ret,V,ρ,iX,Q,hS,hE,h=>by
  unfold yU
  rw[alI]
  exact⟨V,ρ,rfl,hS,Du.refl _ _,hE,h⟩
 |
  .cX ops,V,ρ,iX,Q,hS,hE,h=>by
  unfold yU
  rw[alW]
  exact Jy ops hS hE h
 |
  .seq a b,V,ρ,iX,Q,hS,hE,h=>by
  unfold yU
  rw[amC]
  refine(tH a hS hE h).mono ?_
  rintro x KT P' ⟨V',aU,rfl,g2,g3,g4,g5⟩
  cases x with
  |
   normal =>
   refine(tH b g2 g4 g5).mono ?_
   rintro y TB V6 ⟨QH,vD,k1,k2,k3,k4,k5⟩
   exact⟨QH,vD,k1,k2,g3.trans k3,k4,k5⟩
  | exit i=>exact⟨V',aU,rfl,g2,g3,g4,g5⟩
  | ret=>exact⟨V',aU,rfl,g2,g3,g4,g5⟩
 |
  .cond c a b,V,ρ,iX,Q,hS,hE,h=>by
  unfold yU
  rw[agB]
  unfold VW at h
  split at h
  ·rename_i t hc
   obtain⟨e,_⟩:=qB (hE.ev c) hc
   refine⟨t,e,fun ht => ?_,fun ht => ?_⟩
   ·rw[if_pos ht] at h
    exact tH a hS hE h
   ·rw[if_neg (by simp[ht])] at h
    exact tH b hS hE h
  ·cases h
 |
  .block id a,V,ρ,iX,Q,hS,hE,h=>by
  unfold yU
  rw[Z0]
  refine(tH a hS hE h).mono ?_
  rintro x KT P' ⟨V',aU,rfl,g2,g3,g4,g5⟩
  cases x with
  | normal=>exact⟨V',aU,rfl,g2,g3,g4,g5⟩
  |
   exit i =>
   rw[FZ]
   have g5:if i=id then Q .normal aU V'.H else Q (.exit i) aU V'.H:=g5
   split at g5
   ·rename_i hi
    rw[if_pos hi]
    exact⟨V',aU,rfl,g2,g3,g4,g5⟩
   ·rename_i hi
    rw[if_neg hi]
    exact⟨V',aU,rfl,g2,g3,g4,g5⟩
  | ret=>exact⟨V',aU,rfl,g2,g3,g4,g5⟩
 |
  .loop a,V,ρ,iX,Q,hS,hE,h=>by
  obtain⟨n,h⟩:=h
  have key:∀n {V:View} {ρ:cM} {iX:Env},SR V lo dN→ER V ρ iX→Oz (VW fl lo a) (fun x=>gh (Q x)) n ρ V.H→yU lo dN V (.loop a) Q iX:=by
   intro n
   induction n with
   | zero=>intro V ρ iX _ _ h;cases h
   |
    succ n ih =>
    intro V ρ iX hS hE h
    unfold yU
    refine Pr ?_
    refine(tH a hS hE h).mono ?_
    rintro x KT P' ⟨V',aU,rfl,g2,g3,g4,g5⟩
    cases x with
    |
     normal =>
     rcases g5 with g5 | ⟨g5,g6⟩
     ·refine(ih g2 g4 g5).mono ?_
      rintro y TB V6 ⟨QH,vD,k1,k2,k3,k4,k5⟩
      exact⟨QH,vD,k1,k2,g3.trans k3,k4,k5⟩
     ·obtain⟨t1,t2,t3⟩:=Oy g2 g4 g3 g5
      refine(ih t1 t3 g6).mono ?_
      rintro y TB V6 ⟨QH,vD,k1,k2,k3,k4,k5⟩
      exact⟨QH,vD,k1,k2,t2.trans k3,k4,k5⟩
    |
     exit i =>
     obtain⟨QH,vD,k1,k2,k3,k4,k5⟩:=Pw g2 g4 g5
     exact⟨QH,vD,k1,k2,g3.trans k3,k4,k5⟩
    |
     ret =>
     obtain⟨QH,vD,k1,k2,k3,k4,k5⟩:=Pw g2 g4 g5
     exact⟨QH,vD,k1,k2,g3.trans k3,k4,k5⟩
  exact key n hS hE h
theorem uW {V:View} (hS:SR V lo dN) {ρ:cM} {iX:Env} (hE:ER V ρ iX) {res:List zP} {v:VV} (h:mM res ρ V.H=some v):∃pv,pK res iX V.P=some pv∧VR V v pv:=by
 have one:∀ {r:zP} {v:VV},Dv ρ V.H r=some v→∃pv,Uj iX V.P r=some pv∧VR V v pv:=by
  intro r v h
  cases r with
  | tmp t=>cases h;exact⟨_,rfl,hE t⟩
  | cell t agg size=>exact Jj hS (hE t) h
 have all:∀ {rs:List zP} {vs:List VV},pO ρ V.H rs=some vs→∃ps,Bb iX V.P rs=some ps∧VL V vs ps:=by
  intro rs
  induction rs with
  | nil=>intro vs h;cases h;exact⟨[],rfl,.nil⟩
  |
   cons r rs ih =>
   intro vs h
   unfold pO at h
   split at h
   ·rename_i v vs' h1 h2
    cases h
    obtain⟨pv,k1,k2⟩:=one h1
    obtain⟨ps,k3,k4⟩:=ih h2
    exact⟨pv::ps,by unfold Bb;rw[k1,k3],.cons _ _ _ _ k2 k4⟩
   ·cases h
 unfold mM at h
 split at h
 ·rename_i v' hv
  cases h
  obtain⟨ps,k1,k2⟩:=all hv
  cases k2 with
  |
   cons _ pv _ _ hx Ov =>
   cases Ov
   exact⟨pv,by unfold pK;rw[k1],hx⟩
 ·rename_i vs eW hv
  cases h
  obtain⟨ps,k1,k2⟩:=all hv
  refine⟨.tuple ps.toArray,?_,.dY _ _ k2⟩
  unfold pK
  rw[k1]
  split
  ·rename_i pv he
   injection he with he
   subst he
   cases k2 with
   | cons x _ _ _ hx Ov=>cases Ov;exact absurd rfl (eW x)
  ·rename_i he
   injection he with he
   rw[he]
  ·rename_i he;cases he
 ·cases h
theorem PB {V:View} {args:List VV} {dM:List Value} (h:VL V args dM):ER V (Hv args) (Vr dM):=by
 intro t
 unfold Hv Vr
 rw[List.getD_eq_getElem?_getD,List.getD_eq_getElem?_getD]
 cases hx:args[t]? with
 |
  none =>
  have:dM[t]? = none:=by
   rw[List.getElem?_eq_none_iff] at hx ⊢
   rw[h.length]
   exact hx
  rw[this]
  exact .dY [] [] .nil
 |
  some x =>
  obtain⟨v,h1,h2⟩:=h.get hx
  rw[h1]
  exact h2
theorem kG.walk {f:Nat} {pf:aT} {args:List VV} {H:aA} {K:VV→aA→Prop} (fl:Fl) (ht:gE f=some pf) (ha:args.length≤pf.ntmps) (h:VW fl lo pf.body (zJ pf.res K) (Hv args) H):kG f args lo H K:=by
 intro V dN dM hH hS hl
 subst hH
 obtain⟨x,KT,P',h1,V',aU,rfl,g2,g3,g4,g5⟩:=tH pf.body hS (PB hl) h
 have key:∃pv V6,pS f dM dN V.P=some (pv,V6)∧V6=V'.P∧∃r,VR V' r pv∧K r V'.H:=by
  refine Ya ht (by rw[hl.length];exact ha) ?_
  refine⟨x,KT,V'.P,h1,?_⟩
  cases x with
  | exit i=>exact g5.elim
  |
   normal =>
   simp only[zJ,EX] at g5
   split at g5
   ·rename_i v hv
    obtain⟨pv,k2,k3⟩:=uW g2 g4 hv
    exact⟨pv,k2,rfl,v,k3,g5⟩
   ·cases g5
  |
   ret =>
   simp only[zJ,EX] at g5
   split at g5
   ·rename_i v hv
    obtain⟨pv,k2,k3⟩:=uW g2 g4 hv
    exact⟨pv,k2,rfl,v,k3,g5⟩
   ·cases g5
 obtain⟨pv,V6,k1,rfl,r,k2,k3⟩:=key
 exact⟨pv,V',r,k1,g2,g3,k2,k3⟩
theorem VT.walk {f:Nat} {pf:aT} {args:List VV} {r:VV} (fl:Fl) (ht:gE f=some pf) (ha:args.length≤pf.ntmps) (h:VW fl 0 pf.body (zJ pf.res fun v H=>fz depth H v=some r) (Hv args) []):VT f args r:=by
 intro F P dM dN hF hl aaW
 have hS:SR (bare F P) 0 dN:=⟨fun b g es e w hb=>by simp[bare] at hb,fun b g es e hb=>by simp[bare] at hb,fun a b g es e w g' lL e' w' ha=>by simp[bare] at ha,hF,aaW,Nat.zero_le _⟩
 obtain⟨x,KT,P',h1,V',aU,rfl,g2,g3,g4,g5⟩:=tH pf.body hS (PB hl) h
 have fin:∀ {v:VV} {pv:Value},VR V' v pv→fz depth V'.H v=some r→VR (bare (fun q=>F q∨(P.length≤q∧q<V'.P.length)) V'.P) r pv:=by
  intro v pv hv hf
  refine KF g2 (fun q hq => ?_) depth v r pv hv hf fun i _ g es e w hr => ?_
  ·rcases g3.BM q hq with h | h | ⟨b,g,es,e,w,h,_⟩
   ·exact .inl h
   ·exact .inr ⟨h,g2.fr q hq⟩
   ·simp[bare] at h
  ·rcases Nat.lt_or_ge (V'.m i) P.length with aV | AF
   ·obtain⟨g0,es0,w0,k1,_⟩:=g3.AT i g es e w hr aV
    simp[bare] at k1
   ·exact .inr ⟨AF,g2.mlt hr⟩
 have key:∃pv V6,pS f dM dN P=some (pv,V6)∧V6=V'.P∧VR (bare (fun q=>F q∨(P.length≤q∧q<V'.P.length)) V'.P) r pv:=by
  refine Ya ht (by rw[hl.length];exact ha) ?_
  refine⟨x,KT,V'.P,h1,?_⟩
  cases x with
  | exit i=>exact g5.elim
  |
   normal =>
   simp only[zJ,EX] at g5
   split at g5
   ·rename_i v hv
    obtain⟨pv,k2,k3⟩:=uW g2 g4 hv
    exact⟨pv,k2,rfl,fin k3 g5⟩
   ·cases g5
  |
   ret =>
   simp only[zJ,EX] at g5
   split at g5
   ·rename_i v hv
    obtain⟨pv,k2,k3⟩:=uW g2 g4 hv
    exact⟨pv,k2,rfl,fin k3 g5⟩
   ·cases g5
 obtain⟨pv,V6,k1,rfl,k3⟩:=key
 refine⟨V'.P,pv,k1,?_,k3⟩
 refine⟨V'.P.drop P.length,List.ext_getElem? fun i => ?_⟩
 rcases Nat.lt_or_ge i P.length with hi | hi
 ·rw[List.getElem?_append_left hi]
  exact(g3.cL i hi fun b g es e hb=>by simp[bare] at hb).symm
 ·rw[List.getElem?_append_right hi,List.getElem?_drop,show P.length+(i-P.length)=i by omega]
end
end Go.PM
namespace Go.PM
section
variable {fl:Fl} {lo:Nat} {ρ:cM} {H:aA} {Q:VQ} {K:cM→aA→Prop} {k:VV→aA→Prop} {a b:aD} {d:Option Nat} {is:List PI} {q:Bool} {op:mB}
def Qo (fl:Fl) (lo:Nat) (d:Option Nat) (is:List PI) (K:cM→aA→Prop) (ρ:cM):VV→aA→Prop:=fun v H'=>VS fl lo is K (Ic ρ d v) H'
def Ni (r:Option (VV×aA)) (k:VV→aA→Prop):Prop:=match r with
 | some (v,H')=>k v H'
 | none=>False
theorem Mx {v:VV} {H':aA}:Qo fl lo d is K ρ v H'=VS fl lo is K (Ic ρ d v) H':=rfl
theorem P3 {v:VV}:IZ (some v) H k=k v H:=rfl
theorem Md {v:VV} {H':aA}:Ni (some (v,H')) k=k v H':=rfl
theorem acA {r:VV} {K:VV→Prop}:tk (some r) K=K r:=rfl
theorem Tv:VW fl lo .skip Q ρ H=Q .normal ρ H:=rfl
theorem Tc {i:Nat}:VW fl lo (.exit i) Q ρ H=Q (.exit i) ρ H:=rfl
theorem Xt:VW fl lo .ret Q ρ H=Q .ret ρ H:=rfl
theorem WZ {ops:List PI}:VW fl lo (.cX ops) Q ρ H=VS fl lo ops (Q .normal) ρ H:=rfl
theorem Y1:VW fl lo (.seq a b) Q ρ H=VW fl lo a (lO (VW fl lo b Q) Q) ρ H:=rfl
theorem OH {i:Nat}:VW fl lo (.block i a) Q ρ H=VW fl lo a (yV i Q) ρ H:=rfl
theorem T0 {c:Operand} {t:Bool} (h:dK ρ c = .sc (.bool t)):VW fl lo (.cond c a b) Q ρ H=if t=true then VW fl lo a Q ρ H else VW fl lo b Q ρ H:=by
 simp only[VW,h]
theorem BA:lO K Q .normal=K:=rfl
theorem DV {i:Nat}:lO K Q (.exit i)=Q (.exit i):=rfl
theorem E4:lO K Q .ret=Q .ret:=rfl
theorem DG {i:Nat}:yV i Q .normal=Q .normal:=rfl
theorem Cx {i j:Nat}:yV i Q (.exit j) ρ H=if j=i then Q .normal ρ H else Q (.exit j) ρ H:=rfl
theorem Kl {i:Nat}:yV i Q .ret=Q .ret:=rfl
theorem Fg {res:List zP} {R:VV→aA→Prop}:zJ res R .normal ρ H=EX R (mM res ρ H) H:=rfl
theorem Mn {res:List zP} {R:VV→aA→Prop}:zJ res R .ret ρ H=EX R (mM res ρ H) H:=rfl
theorem JO {R:VV→aA→Prop} {v:VV}:EX R (some v) H=R v H:=rfl
theorem Px {t:Nat}:mM [.tmp t] ρ H=some (ρ t):=rfl
theorem Qi {t u:Nat}:mM [.tmp t,.tmp u] ρ H=some (.dY [ρ t,ρ u]):=rfl
theorem KJ {t u v:Nat}:mM [.tmp t,.tmp u,.tmp v] ρ H=some (.dY [ρ t,ρ u,ρ v]):=rfl
theorem Mo:mM [] ρ H=some (.dY []):=rfl
theorem WR:VS fl lo [] K ρ H=K ρ H:=rfl
theorem acU:VS fl lo (⟨d,op,none,q,[]⟩::is) K ρ H=dL fl lo q op ρ H (Qo fl lo d is K ρ):=by
 simp only[VS,AS,List.all_nil,true_and]
 rfl
theorem B6 {c:Operand×Operand} {cs:List (Operand×Operand)}:VS fl lo (⟨d,op,none,q,c::cs⟩::is) K ρ H=((c::cs).all (rE ρ H)=true∧dL fl lo q op ρ H (Qo fl lo d is K ρ)):=by
 simp only[VS,AS]
 rfl
theorem Ow {t:Nat} {want x:Bool} {cf:List (Operand×Operand)} (h:ρ t = .sc (.bool x)):VS fl lo (⟨d,op,some (t,want),q,cf⟩::is) K ρ H =
  if (x == want)=true then (cf.all (rE ρ H)=true∧dL fl lo q op ρ H (Qo fl lo d is K ρ)) else VS fl lo is K (Ic ρ d oQ) H:=by
 simp only[VS,AS,h]
 cases (x == want)<;>rfl
theorem ZA {t:Nat} {want:Bool} (h:ρ t = .sc (.bool want)):VS fl lo (⟨d,op,some (t,want),q,[]⟩::is) K ρ H=dL fl lo q op ρ H (Qo fl lo d is K ρ):=by
 rw[Ow h]
 simp
theorem adJ {t:Nat} {want:Bool} {cf:List (Operand×Operand)} (h:ρ t = .sc (.bool (!want))):VS fl lo (⟨d,op,some (t,want),q,cf⟩::is) K ρ H=VS fl lo is K (Ic ρ d oQ) H:=by
 rw[Ow h]
 cases want<;>rfl
theorem T5 {c:Operand} (h:dK ρ c = .sc (.bool true)):VW fl lo (.cond c a b) Q ρ H=VW fl lo a Q ρ H:=by
 rw[T0 h,if_pos rfl]
theorem Pv {c:Operand} (h:dK ρ c = .sc (.bool false)):VW fl lo (.cond c a b) Q ρ H=VW fl lo b Q ρ H:=by
 rw[T0 h,if_neg (by decide)]
theorem HS {t:Nat} {want:Bool} {cf:List (Operand×Operand)} (h:ρ t=oQ):VS fl lo (⟨d,op,some (t,want),q,cf⟩::is) K ρ H=VS fl lo is K (Ic ρ d oQ) H:=by
 simp only[VS,AS,h,oQ]
theorem tO {d t:Nat} {v:VV}:Ic ρ (some d) v t=if t=d then v else ρ t:=rfl
theorem MT {v:VV}:Ic ρ none v=ρ:=rfl
theorem S9 {t:Nat}:dK ρ (.tmp t)=ρ t:=rfl
theorem MK {v:Value}:dK ρ (.const v)=inj v:=rfl
theorem PV {f:Nat}:dK ρ (.func f) = .sY f []:=rfl
theorem TL {k:IntKind} {n:Int}:inj (.int k n) = .sc (.int k n):=rfl
theorem Qu {t:Bool}:inj (.bool t) = .sc (.bool t):=rfl
theorem Ul {s:ByteArray}:inj (.string s) = .sc (.string s):=rfl
theorem TY:inj (.slice none 0 0) = .tree [] .nil:=rfl
theorem Uk {cs:Array Value}:inj (.agg cs) = .agg (cs.toList.map iH):=rfl
theorem Qk {k:IntKind} {n:Int}:iH (.int k n) = .sc (.int k n):=rfl
theorem Lo {t:Bool}:iH (.bool t) = .sc (.bool t):=rfl
theorem Qr {s:ByteArray}:iH (.string s) = .sc (.string s):=rfl
theorem OZ:iH (.slice none 0 0) = .tree [] .nil:=rfl
theorem Y0 {x:Operand}:dL fl lo q (.mv x) ρ H k=k (dK ρ x) H:=rfl
theorem gC {r:Option VV}:(match r.map (fun v=>(v,H)) with | some (v,H')=>k v H' | none=>False)=IZ r H k:=by cases r<;>rfl
theorem PC {c x y:Operand}:dL fl lo q (.pick c x y) ρ H k=IZ (P9 (dK ρ c) (dK ρ x) (dK ρ y)) H k:=gC
theorem Th {o:BinOp} {x y:Operand}:dL fl lo q (.bin o x y) ρ H k=IZ (GY (cU o) (dK ρ x) (dK ρ y)) H k:=gC
theorem TI {n:Bool} {x y:Operand}:dL fl lo q (.eqb n x y) ρ H k=IZ (GY (Lm n) (dK ρ x) (dK ρ y)) H k:=gC
theorem L3 {n:Bool} {x:Operand}:dL fl lo q (.isnil n x) ρ H k=IZ (Ec n (dK ρ x) H) H k:=gC
theorem M3 {n:Bool} {ks:List CK} {x y:Operand}:dL fl lo q (.eqagg n ks x y) ρ H k=IZ (Rf n ks (dK ρ x) (dK ρ y)) H k:=gC
theorem Zs {o:UnOp} {x:Operand}:dL fl lo q (.un o x) ρ H k=IZ (JR (Yj o) (dK ρ x)) H k:=gC
theorem Td {o:IntKind} {x:Operand}:dL fl lo q (.cvt o x) ρ H k=IZ (JR (R7 o) (dK ρ x)) H k:=gC
theorem TS {x:Operand}:dL fl lo q (.cvs x) ρ H k=IZ (JR U1 (dK ρ x)) H k:=gC
theorem Un {x:Operand} {i:Nat}:dL fl lo q (.ext x i) ρ H k=IZ (YR i (dK ρ x)) H k:=gC
theorem S7 {g:Bool} {off size:Nat} {x:Operand}:dL fl lo q (.fld g off size x) ρ H k=IZ (Z3 g off size (dK ρ x)) H k:=gC
theorem Lz {z:List Value} {places:List (Nat×Nat)} {parts:List (Nat×Operand)}:dL fl lo q (.build z places parts) ρ H k=IZ ((xI places (z.map iH) (parts.map fun(i,x)=>(i,dK ρ x))).map .agg) H k:=by
 show (match (xI places (z.map iH) (parts.map fun(i,x)=>(i,dK ρ x))).map fun cs=>(VV.agg cs,H) with | some (v,H')=>k v H' | none=>False)=_
 cases xI places (z.map iH) (parts.map fun(i,x)=>(i,dK ρ x))<;>rfl
theorem S8 {x:Operand}:dL fl lo q (.chk x) ρ H k=IZ (Vh (dK ρ x) H) H k:=gC
theorem MI {off:Nat} {x:Operand}:dL fl lo q (.faddr off x) ρ H k=IZ (Gw off (dK ρ x) H) H k:=gC
theorem L6 {size:Nat} {x i:Operand}:dL fl lo q (.iaddr size x i) ρ H k=IZ (bC size (dK ρ x) (dK ρ i) H) H k:=gC
theorem PS {x i:Operand}:dL fl lo q (.sidx x i) ρ H k=IZ (GY E2 (dK ρ x) (dK ρ i)) H k:=gC
theorem Qn {x:Operand} {l h:Option Operand}:dL fl lo q (.ssub x l h) ρ H k=IZ (tN (dK ρ x) (l.map (dK ρ)) (h.map (dK ρ))) H k:=gC
theorem Qb {f:Nat} {eY:List Operand}:dL fl lo q (.mkfn f eY) ρ H k=k (.sY f (eY.map (dK ρ))) H:=rfl
theorem TP {x:Operand}:dL fl lo q (.len x) ρ H k=IZ (nS (dK ρ x) H) H k:=gC
theorem PR {x:Operand}:dL fl lo q (.slen x) ρ H k=IZ (JR Ae (dK ρ x)) H k:=gC
theorem Ts {x y:Operand}:dL fl lo q (.min x y) ρ H k=IZ (GY QD (dK ρ x) (dK ρ y)) H k:=gC
theorem TU {x y:Operand}:dL fl lo q (.max x y) ρ H k=IZ (GY PK (dK ρ x) (dK ρ y)) H k:=gC
theorem Qw {g:Bool} {size:Nat} {p:Operand}:dL fl lo q (.load g size p) ρ H k=IZ (dG g size (dK ρ p) H) H k:=gC
theorem S0 {size:Nat} {x:Operand} {l h m:Option Operand}:dL fl lo q (.sub size x l h m) ρ H k=IZ (Ee size (dK ρ x) (l.map (dK ρ)) (h.map (dK ρ)) (m.map (dK ρ)) H) H k:=gC
theorem Ti {z:List Value}:dL fl lo q (.new z) ρ H k=Ni (if (z.map iH).all bQ then some (.ptr H.length 0 0 0,H++[.row 0 [elemOf (z.map iH)] z.length true]) else none) k:=rfl
theorem Uc {x:Operand}:dL fl lo q (.box x) ρ H k=Ni (if (aB (dK ρ x)).all bQ then (if fl.bf then some (.cO (dK ρ x) 0,H) else some (.ptr H.length 0 0 0,H++[.row 0 [dK ρ x] (aB (dK ρ x)).length true])) else none) k:=rfl
theorem PL {z:List Value} {bytes:Nat} {l c:Operand}:dL fl lo q (.make z bytes l c) ρ H k=Ni (if (z.map iH).all bQ then AA z bytes (dK ρ l) (dK ρ c) H else none) k:=rfl
theorem SX {z:List Value} {n:Nat} {parts:List (Nat×Operand)}:dL fl lo q (.lit z n parts) ρ H k=Ni (mV fl.lr z n (parts.map fun(i,x)=>(i,dK ρ x)) H) k:=rfl
def TM (r:Option aA) (k:VV→aA→Prop):Prop:=match r with
 | some H'=>k oQ H'
 | none=>False
theorem Kq {H':aA}:TM (some H') k=k oQ H':=rfl
theorem MF {r:Option aA}:(match r.map (fun H'=>(oQ,H')) with | some (v,H')=>k v H' | none=>False)=TM r k:=by cases r<;>rfl
theorem MY {size:Nat} {p v:Operand}:dL fl lo q (.store size p v) ρ H k=TM (cJ lo size (dK ρ p) (dK ρ v) H) k:=MF
def alS (lo size bytes:Nat) (x:VV) (new:Option (List VV)) (H:aA) (k:VV→aA→Prop):Prop:=match new with
 | some new=>Ni (eJ lo size bytes x new H) k
 | none=>False
theorem MJ {size bytes:Nat} {x:VV} {new:List VV}:alS lo size bytes x (some new) H k=Ni (eJ lo size bytes x new H) k:=rfl
theorem TD {size bytes:Nat} {x y:Operand}:dL fl lo q (.app size bytes x y) ρ H k=alS lo size bytes (dK ρ x) (dD size (dK ρ y) H) H k:=by
 show (match (match dD size (dK ρ y) H with | some new=>eJ lo size bytes (dK ρ x) new H | none=>none) with | some (v,H')=>k v H' | none=>False)=_
 cases dD size (dK ρ y) H<;>rfl
theorem Ox {size:Nat} {x y:Operand}:dL fl lo q (.copy size x y) ρ H k=Ni (MN lo size (dK ρ x) (dK ρ y) H) k:=rfl
theorem Lr {z:List Value} {x:Operand}:dL fl lo q (.clear z x) ρ H k=TM (Nt lo z (dK ρ x) H) k:=MF
theorem PE {f:Nat} {args:List Operand}:dL fl lo q (.call f args) ρ H k=cB f (args.map (dK ρ)) (if q then H.length else lo) H k:=rfl
noncomputable def RE (x:VV) (args:List VV) (lo:Nat) (H:aA) (k:VV→aA→Prop):Prop:=match x with
 | .sY f eY=>cB f (args++eY) lo H k
 | _=>False
theorem AM {f:Nat} {eY args:List VV}:RE (.sY f eY) args lo H k=cB f (args++eY) lo H k:=rfl
theorem L9 {fv:Operand} {args:List Operand}:dL fl lo q (.callv fv args) ρ H k=RE (dK ρ fv) (args.map (dK ρ)) (if q then H.length else lo) H k:=by
 simp only[dL,RE]
 all_goals (cases dK ρ fv<;>rfl)
theorem Ny {x:Operand}:dL fl lo q (.b2s x) ρ H k=Ni (vop fl lo (.b2s x) ρ H) k:=rfl
theorem S6 {f:Value→Option Value} {x:Value}:JR f (.sc x)=(f x).map .sc:=rfl
theorem TO {f:Value→Value→Option Value} {x y:Value}:GY f (.sc x) (.sc y)=(f x y).map .sc:=rfl
theorem Py {t:Bool} {x y:VV}:P9 (.sc (.bool t)) x y=some (if t=true then x else y):=rfl
theorem Po {vs:List VV} {i:Nat}:YR i (.dY vs)=vs[i]? := rfl
theorem Lv {es:List VV} {t:TK}:nS (.tree es t) H=some (.sc (.int .i64 es.length)):=rfl
theorem cT {b g o n c:Nat} {r:List VV×Nat×Bool} (h:aK H b g=some r):nS (.ref b g o n c) H=some (.sc (.int .i64 n)):=by
 simp only[nS,h,Option.map_some]
theorem Pf {x:VV} {o off:Nat}:Gw off (.cO x o) H=some (.cO x (o+off)):=rfl
theorem Zx {x:VV} {o:Nat}:Vh (.cO x o) H=some (.cO x o):=rfl
theorem IQ {g:Bool} {size o:Nat} {x:VV}:dG g size (.cO x o) H=dW g size x o:=rfl
theorem Od {g:Bool} {size b gn j o:Nat} {es:List VV} {e:Nat} {w:Bool} {x:VV} (h:aK H b gn=some (es,e,w)) (hx:es[j]? = some x):dG g size (.ptr b gn j o) H=dW g size x o:=by
 simp only[dG,h,hx]
theorem Zc {size:Nat} {v:Value}:dW false size (.sc v) 0=some (.sc v):=rfl
theorem Uo {size:Nat} {es:List VV} {t:TK}:dW false size (.tree es t) 0=some (.tree es t):=rfl
theorem X6 {size b g o n c:Nat}:dW false size (.ref b g o n c) 0=some (.ref b g o n c):=rfl
theorem Xl {size f:Nat} {eY:List VV}:dW false size (.sY f eY) 0=some (.sY f eY):=rfl
theorem XM {size o:Nat} {cs:List VV}:dW false size (.agg cs) o=cs[o]? := rfl
theorem YV {size:Nat} {cs:List VV} (h:cs.length=size):dW true size (.agg cs) 0=some (.agg cs):=by
 subst h
 simp[dW,aB]
theorem YI {size:Nat} {es:List VV} {t:TK} {kk:IntKind} {i:Int} {x:VV} (h0:0≤i) (hx:es[i.toNat]? = some x) (hs:(aB x).length=size):bC size (.tree es t) (.sc (.int kk i)) H=some (.cO x 0):=by
 simp only[bC,h0,hx,hs,if_true]
theorem Vw {size:Nat} {es:List VV} {t:TK} {kk:IntKind} {i:Nat} {x:VV} (hx:es[i]? = some x) (hs:(aB x).length=size):bC size (.tree es t) (.sc (.int kk (i:Int))) H=some (.cO x 0) :=
 YI (by omega) (by simpa using hx) hs
theorem Yx {size b g o n c:Nat} {kk:IntKind} {i:Int} {es:List VV} {w:Bool} (h:aK H b g=some (es,size,w)) (h0:0≤i) (h1:i<n):bC size (.ref b g o n c) (.sc (.int kk i)) H=some (.ptr b g (o+i.toNat) 0):=by
 simp only[bC,h]
 rw[if_pos ⟨trivial,h0,h1⟩]
theorem Vi {size b g o n c:Nat} {kk:IntKind} {i:Nat} {es:List VV} {w:Bool} (h:aK H b g=some (es,size,w)) (h1:i<n):bC size (.ref b g o n c) (.sc (.int kk (i:Int))) H=some (.ptr b g (o+i) 0):=by
 rw[Yx h (by omega) (by omega),Int.toNat_natCast]
abbrev TC (f:Nat) (args:List VV) (r:VV):Prop:=∀(lo:Nat) (H:aA) (k:VV→aA→Prop),cB f args lo H k=k r H
theorem TC.of {f:Nat} {args:List VV} {r:VV} (hr:AQ.contains f=false) (ha:aL args=true) (h:vT f args=some r):TC f args r:=by
 intro lo H k
 unfold cB E9
 simp only[hr,ha,if_true,h,Bool.false_eq_true,if_false,acA]
theorem TC.walk {f:Nat} {pf:aT} {args:List VV} {r:VV} (fl:Fl) (ht:gE f=some pf) (hr:AQ.contains f=false) (hn:args.length≤pf.ntmps) (ha:aL args=true) (RC:gH r=true) (h:VW fl 0 pf.body (zJ pf.res fun v H=>fz depth H v=some r) (Hv args) []):TC f args r :=
 TC.of hr ha (adN ha RC (VT.walk fl ht hn h))
theorem TC.Fi {f:Nat} {args gM:List VV} {r:VV} (h:TC f gM r) (hr:AQ.contains f=false) (ha':aL gM=true) (hf:args.mapM (fz depth H)=some gM) (ha:aL args=false):cB f args lo H k=if J5 r=true then k r H else k r (cG H (args.flatMap (gY depth H))):=by
 have e:∀K,E9 f gM K=K r:=fun K=>by
  have:=h 0 [] fun r _=>K r
  unfold cB at this
  simpa only[hr,ha',if_true,Bool.false_eq_true,if_false] using this
 unfold cB
 simp only[hr,ha,hf,Bool.false_eq_true,if_false]
 rw[e]
theorem aH {n:Nat} {v:VV} (h:aO v=true):fz (n+1) H v=some v:=by
 unfold PM.fz
 rw[if_pos h]
theorem aI {v:VV} (h:aO v=true):fz depth H v=some v:=aH h
theorem mapM_pure {n:Nat}:∀ {es:List VV},aL es=true→es.mapM (PM.fz (n+1) H)=some es
 | [],_=>rfl
 |
  x::xs,h=>by
  simp only[aL,Bool.and_eq_true] at h
  rw[List.mapM_cons,aH h.1,mapM_pure h.2]
  rfl
theorem AX {b g n c e:Nat} {es:List VV} {w:Bool} (h:aK H b g=some (es,e,w)) (hn:n=es.length) (hc:n≤c) (hp:aL es=true):fz depth H (.ref b g 0 n c)=some (.tree es .op):=by
 have:aO (.ref b g 0 n c)=false:=rfl
 show fz (7+1) H _=_
 unfold PM.fz
 simp only[this,h,Bool.false_eq_true,if_false]
 subst hn
 rw[if_pos ⟨by omega,hc⟩,List.drop_zero,List.take_length,mapM_pure hp]
 rfl
theorem D9 {n:Nat} {v:VV} (h:aO v=true):gY n H v=[]:=by
 cases n with
 | zero=>rfl
 | succ n=>unfold gY;rw[if_pos h]
theorem AZ {n:Nat}:∀ {es:List VV},aL es=true→es.flatMap (gY n H)=[]
 | [],_=>rfl
 |
  x::xs,h=>by
  simp only[aL,Bool.and_eq_true] at h
  rw[List.flatMap_cons,D9 h.1,AZ h.2]
  rfl
theorem Mb {b g n c e:Nat} {es:List VV} {w:Bool} (h:aK H b g=some (es,e,w)) (hn:n=es.length) (hp:aL es=true):gY depth H (.ref b g 0 n c)=[b]:=by
 have:aO (.ref b g 0 n c)=false:=rfl
 show gY (7+1) H _=_
 unfold gY
 simp only[this,h,Bool.false_eq_true,if_false]
 subst hn
 rw[List.drop_zero,List.take_length,AZ hp]
theorem Uh {r:Option VV} {K K':VV→Prop} (hk:∀v,K v→K' v) (h:tk r K):tk r K':=by
 cases r with
 | none=>exact h
 | some v=>exact hk _ h
theorem HP {f:Nat} {args:List VV} {k k':VV→aA→Prop} (hk:∀v H,k v H→k' v H) (h:cB f args lo H k):cB f args lo H k':=by
 unfold cB at h ⊢
 split at h
 ·rename_i h1
  rw[if_pos h1]
  exact h.mono hk
 ·rename_i h1
  rw[if_neg h1]
  split at h
  ·rename_i h2
   rw[if_pos h2]
   exact Uh (fun v=>hk v H) h
  ·rename_i h2
   rw[if_neg h2]
   split at h
   ·refine Uh (fun v hv => ?_) h
    split at hv
    ·rename_i h3;rw[if_pos h3];exact hk _ _ hv
    ·rename_i h3;rw[if_neg h3];exact hk _ _ hv
   ·cases h
theorem RI {k k':VV→aA→Prop} (hk:∀v H,k v H→k' v H) (h:dL fl lo q op ρ H k):dL fl lo q op ρ H k':=by
 unfold dL at h ⊢
 split at h
 ·exact HP hk h
 ·split at h
  ·exact HP hk h
  ·cases h
 ·split at h
  ·exact hk _ _ h
  ·cases h
theorem NR {K K':cM→aA→Prop} (hk:∀ρ H,K ρ H→K' ρ H):∀ {is:List PI} {ρ:cM} {H:aA},VS fl lo is K ρ H→VS fl lo is K' ρ H
 | [],ρ,H,h=>hk _ _ h
 |
  i::is,ρ,H,h=>by
  unfold VS at h ⊢
  split at h
  ·cases h
  ·exact NR hk h
  ·exact⟨h.1,RI (fun v H' hv=>NR hk hv) h.2⟩
theorem pA {K K':cM→aA→Prop} {Q Q':VQ} (hk:∀ρ H,K ρ H→K' ρ H) (hq:∀x ρ H,Q x ρ H→Q' x ρ H):∀x ρ H,lO K Q x ρ H→lO K' Q' x ρ H
 | .normal,ρ,H,h=>hk _ _ h
 | .exit _,ρ,H,h=>hq _ _ _ h
 | .ret,ρ,H,h=>hq _ _ _ h
theorem aaV {K K':cM→aA→Prop} (hk:∀ρ H,K ρ H→K' ρ H) (h:gh K ρ H):gh K' ρ H:=by
 obtain⟨ts,aU,H',h1,h2⟩:=h
 exact⟨ts,aU,H',h1,hk _ _ h2⟩
theorem uR:∀ {c:aD} {Q Q':VQ} {ρ:cM} {H:aA},(∀x ρ H,Q x ρ H→Q' x ρ H)→VW fl lo c Q ρ H→VW fl lo c Q' ρ H
 | .skip,_,_,_,_,hq,h=>hq _ _ _ h
 | .exit _,_,_,_,_,hq,h=>hq _ _ _ h
 | .ret,_,_,_,_,hq,h=>hq _ _ _ h
 | .cX _,_,_,_,_,hq,h=>NR (fun ρ H=>hq .normal ρ H) h
 | .seq a b,Q,Q',_,_,hq,h=>uR (c:=a) (pA (fun ρ H h=>uR (c:=b) hq h) hq) h
 |
  .cond c a b,Q,Q',ρ,H,hq,h=>by
  unfold VW at h ⊢
  split at h
  ·split at h
   ·rename_i h1;rw[if_pos h1];exact uR (c:=a) hq h
   ·rename_i h1;rw[if_neg h1];exact uR (c:=b) hq h
  ·cases h
 |
  .block i a,Q,Q',_,_,hq,h=>by
  refine uR (c:=a) (fun x ρ H hx => ?_) h
  cases x with
  | normal=>exact hq _ _ _ hx
  | ret=>exact hq _ _ _ hx
  |
   exit j =>
   rw[Cx] at hx ⊢
   split at hx
   ·rename_i h1;rw[if_pos h1];exact hq _ _ _ hx
   ·rename_i h1;rw[if_neg h1];exact hq _ _ _ hx
 |
  .loop a,Q,Q',ρ,H,hq,h=>by
  obtain⟨n,h⟩:=h
  refine⟨n,?_⟩
  induction n generalizing ρ H with
  | zero=>cases h
  |
   succ n ih =>
   refine uR (c:=a) (pA (fun ρ H h => ?_) fun x ρ H h=>aaV (hq x) h) h
   rcases h with h | ⟨h1,h2⟩
   ·exact .inl (ih _ _ h)
   ·exact .inr ⟨h1,ih _ _ h2⟩
theorem adA {K:cM→aA→Prop} (h:K ρ H):gh K ρ H:=⟨[],ρ,H,rfl,h⟩
theorem O8 {α:Type} {c:aD} (I:α→cM→aA→Prop) (μ:α→Nat) (s:α) (h0:I s ρ H)
  (round:∀s ρ H,I s ρ H→VW fl lo c (lO (fun aU H'=>∃s',μ s'<μ s∧(I s' aU H'∨(iG H.length (H'.take H.length)=true∧I s' (GH H.length aU) (H'.take H.length)))) (fun x=>gh (Q x))) ρ H):VW fl lo (.loop c) Q ρ H:=by
 refine⟨μ s+1,?_⟩
 have key:∀n s ρ H,μ s<n→I s ρ H→Oz (VW fl lo c) (fun x=>gh (Q x)) n ρ H:=by
  intro n
  induction n with
  | zero=>intro s ρ H h;omega
  |
   succ n ih =>
   intro s ρ H hn hI
   refine uR (pA (fun aU H' h => ?_) fun x ρ H h=>h) (round s ρ H hI)
   obtain⟨s',h1,h2 | ⟨h2,h3⟩⟩:=h
   ·exact .inl (ih s' _ _ (by omega) h2)
   ·exact .inr ⟨h2,ih s' _ _ (by omega) h3⟩
 exact key _ s ρ H (Nat.lt_succ_self _) h0
theorem aN {α:Type} {c:aD} (I:α→cM→aA→Prop) (μ:α→Nat) (s:α) (h0:I s ρ H)
  (round:∀s ρ H,I s ρ H→VW fl lo c (lO (fun aU H'=>∃s',μ s'<μ s∧I s' aU H') Q) ρ H):VW fl lo (.loop c) Q ρ H :=
 O8 I μ s h0 fun s ρ H h=>uR (pA (fun _ _ ⟨s',h1,h2⟩=>⟨s',h1,.inl h2⟩) fun _ _ _ h=>adA h) (round s ρ H h)
theorem JX {α:Type} {c:aD} (I:α→cM→aA→Prop) (μ:α→Nat) (s:α) (h0:I s ρ H)
  (round:∀s ρ H,I s ρ H→VW fl lo c (lO (fun aU H'=>∃s',μ s'<μ s∧iG H.length (H'.take H.length)=true∧I s' (GH H.length aU) (H'.take H.length)) Q) ρ H):VW fl lo (.loop c) Q ρ H :=
 O8 I μ s h0 fun s ρ H h=>uR (pA (fun _ _ ⟨s',h1,h2⟩=>⟨s',h1,.inr h2⟩) fun _ _ _ h=>adA h) (round s ρ H h)
theorem J4 {n:Nat} {v:VV} (h:below n v=true):Hf n v=v:=by
 unfold Hf
 rw[if_pos h]
mutual
theorem Ef {n:Nat} (v:VV) (h:aO v=true):below n v=true:=by
 cases v with
 | any=>rfl
 | sc=>rfl
 | agg cs=>exact kX cs h
 | dY cs=>exact kX cs h
 | tree es t=>exact kX es (F4 h).2.1
 | cO x o=>exact Ef x h
 | ref=>cases h
 | ptr=>cases h
 | sY f eY=>exact kX eY h
theorem kX {n:Nat} (vs:List VV) (h:aL vs=true):kC n vs=true:=by
 cases vs with
 | nil=>rfl
 |
  cons x xs =>
  simp only[aL,Bool.and_eq_true] at h
  simp only[kC,Ef x h.1,kX xs h.2,Bool.and_self]
end
end
end Go.PM
namespace Go.PM
def val (b:Nat):List Nat→Nat
 | []=>0
 | d::ds=>d+b*val b ds
def aC (b n:Nat):List Nat:=if h:n=0∨b<2 then [] else n % b::aC b (n / b)
termination_by n
decreasing_by exact Nat.div_lt_self (by omega) (by omega)
section
variable {b:Nat}
theorem bN:aC b 0=[]:=by rw[aC];simp
theorem gW (hb:2≤b) {n:Nat} (hn:n≠0):aC b n=n % b::aC b (n / b):=by rw[aC,dif_neg (by omega)]
theorem rR {d:Nat} {ds:List Nat}:val b (d::ds)=d+b*val b ds:=rfl
theorem wI (xs ys:List Nat):val b (xs++ys)=val b xs+b^xs.length*val b ys:=by
 induction xs with
 | nil=>simp[val]
 |
  cons x xs ih =>
  simp only[List.cons_append,rR,ih,List.length_cons,Nat.pow_succ]
  rw[Nat.mul_add,Nat.mul_comm (b^xs.length) b,Nat.mul_assoc,Nat.add_assoc]
theorem val_one (d:Nat):val b [d]=d:=by simp[val]
theorem rA (xs:List Nat) (d:Nat):val b (xs++[d])=val b xs+b^xs.length*d:=by rw[wI,val_one]
theorem pU (n:Nat):val b (List.replicate n 0)=0:=by
 induction n with
 | zero=>rfl
 | succ n ih=>simp[List.replicate_succ,val,ih]
theorem nB {xs:List Nat} (h:∀d∈xs,d<b):val b xs<b^xs.length:=by
 induction xs with
 | nil=>simp[val]
 |
  cons x xs ih =>
  have h1:=h x List.mem_cons_self
  have h2:=ih fun d hd=>h d (List.mem_cons_of_mem _ hd)
  simp only[rR,List.length_cons,Nat.pow_succ]
  have h3:b*(val b xs+1)≤b*b^xs.length:=Nat.mul_le_mul_left _ h2
  rw[Nat.mul_add,Nat.mul_one] at h3
  rw[Nat.mul_comm (b^xs.length) b]
  omega
theorem bP (hb:2≤b) (n:Nat):val b (aC b n)=n:=by
 induction n using Nat.strongRecOn with
 |
  _ n ih =>
  by_cases h:n=0
  ·subst h;rw[bN];rfl
  ·rw[gW hb h,rR,ih _ (Nat.div_lt_self (by omega) (by omega))]
   exact Nat.mod_add_div n b
theorem eI (hb:2≤b) (n:Nat):∀d∈aC b n,d<b:=by
 induction n using Nat.strongRecOn with
 |
  _ n ih =>
  by_cases h:n=0
  ·subst h;rw[bN];intro d hd;cases hd
  ·rw[gW hb h]
   intro d hd
   rcases List.mem_cons.1 hd with rfl | hd
   ·exact Nat.mod_lt _ (by omega)
   ·exact ih _ (Nat.div_lt_self (by omega) (by omega)) d hd
theorem kK (hb:2≤b) {n:Nat}:aC b n=[]↔n=0:=by
 constructor
 ·intro h
  have:=bP hb n
  rw[h] at this
  exact this.symm
 ·rintro rfl;exact bN
theorem Mi (hb:2≤b) (n:Nat):(aC b n).getLast? ≠ some 0:=by
 induction n using Nat.strongRecOn with
 |
  _ n ih =>
  by_cases h:n=0
  ·subst h;rw[bN];simp
  ·rw[gW hb h]
   have h1:=ih _ (Nat.div_lt_self (n:=n) (k:=b) (by omega) (by omega))
   by_cases h2:n / b=0
   ·rw[h2,bN]
    have:n<b:=by
     rcases Nat.div_eq_zero_iff.1 h2 with h | h<;>omega
    simp[Nat.mod_eq_of_lt this,h]
   ·have eW:aC b (n / b)≠[]:=fun h=>h2 ((kK hb).1 h)
    obtain⟨x,xs,hx⟩:=List.exists_cons_of_ne_nil eW
    rw[hx] at h1 ⊢
    rw[List.getLast?_cons_cons]
    exact h1
theorem J8 (hb:2≤b) {xs:List Nat} (h:∀d∈xs,d<b) (hl:xs.getLast? ≠ some 0):aC b (val b xs)=xs:=by
 induction xs with
 | nil=>exact bN
 |
  cons x xs ih =>
  have h1:=h x List.mem_cons_self
  have hr:(x+b*val b xs) % b=x:=by rw[Nat.add_mul_mod_self_left,Nat.mod_eq_of_lt h1]
  have hq:(x+b*val b xs) / b=val b xs:=by rw[Nat.add_mul_div_left _ _ (by omega),Nat.div_eq_of_lt h1,Nat.zero_add]
  cases xs with
  |
   nil =>
   have hx:x≠0:=by rintro rfl;simp at hl
   rw[val_one,gW hb hx,Nat.mod_eq_of_lt h1,Nat.div_eq_of_lt h1,bN]
  |
   cons y ys =>
   rw[List.getLast?_cons_cons] at hl
   have h2:=ih (fun d hd=>h d (List.mem_cons_of_mem _ hd)) hl
   have h3:val b (y::ys)≠0:=fun h0=>by rw[h0,bN] at h2;cases h2
   have h4:b*val b (y::ys)≠0:=Nat.mul_ne_zero (by omega) h3
   rw[rR,gW hb (by omega),hr,hq,h2]
theorem IP (hb:2≤b) {n:Nat} (hn:n≠0):b^((aC b n).length-1)≤n:=by
 induction n using Nat.strongRecOn with
 |
  _ n ih =>
  rw[gW hb hn]
  by_cases h2:n / b=0
  ·rw[h2,bN];simp;omega
  ·have h3:=ih _ (Nat.div_lt_self (by omega) (by omega)) h2
   have eW:aC b (n / b)≠[]:=fun h=>h2 ((kK hb).1 h)
   obtain⟨x,xs,hx⟩:=List.exists_cons_of_ne_nil eW
   rw[hx] at h3 ⊢
   simp only[List.length_cons,Nat.add_sub_cancel] at h3 ⊢
   rw[Nat.pow_succ]
   calc b^xs.length*b≤n / b*b:=Nat.mul_le_mul_right _ h3
    _≤n:=Nat.div_mul_le_self n b
theorem fL (hb:2≤b) (n:Nat):n<b^(aC b n).length:=by
 have:=nB (eI hb n)
 rwa [bP hb] at this
theorem kU (hb:2≤b) {n k:Nat} (h:n<b^k):(aC b n).length≤k:=by
 by_cases hn:n=0
 ·subst hn;rw[bN];simp
 ·have h1:=IP hb hn
  have h2:b^((aC b n).length-1)<b^k:=Nat.lt_of_le_of_lt h1 h
  have h3:(aC b n).length-1<k:=(Nat.pow_lt_pow_iff_right (by omega)).1 h2
  have eW:aC b n≠[]:=fun h=>hn ((kK hb).1 h)
  have:=List.length_pos_iff.2 eW
  omega
theorem dJ (hb:2≤b) {m n:Nat} (h:m≤n):(aC b m).length≤(aC b n).length :=
 kU hb (Nat.lt_of_le_of_lt h (fL hb n))
theorem oN (xs:List Nat) (i:Nat):val b xs=val b (xs.take i)+b^(xs.take i).length*val b (xs.drop i):=by
 rw[←wI,List.take_append_drop]
theorem aS {xs:List Nat} {i d:Nat} (h:xs[i]? = some d):val b (xs.take (i+1))=val b (xs.take i)+b^i*d:=by
 have aV:=(List.getElem?_eq_some_iff.1 h).1
 rw[List.take_add_one,h]
 simp only[Option.toList_some]
 rw[rA,List.length_take,Nat.min_eq_left (by omega)]
theorem qY {xs:List Nat} {i d:Nat} (h:xs[i]? = some d):val b (xs.drop i)=d+b*val b (xs.drop (i+1)):=by
 obtain⟨aV,he⟩:=List.getElem?_eq_some_iff.1 h
 rw[List.drop_eq_getElem_cons aV,he,rR]
theorem Ek {P A B O c x y s q r W:Nat} (h:A+B=O+P*c) (hs:c+x+y=s) (hr:r+W*q=s):(A+P*x)+(B+P*y)=(O+P*r)+(P*W)*q:=by grind
theorem Ha {P A B O l x y r W l':Nat} (h:A+P*l=O+B) (hd:r+y+l=x+W*l'):(A+P*x)+(P*W)*l'=(O+P*r)+(B+P*y):=by grind
theorem Yk {xs:List Nat} {i d:Nat} (h:i<xs.length):(xs.set i d).take (i+1)=xs.take i++[d]:=by
 rw[List.set_eq_take_append_cons_drop,if_pos h,List.take_append]
 simp[List.take_take,Nat.min_eq_left (by omega:i≤xs.length),Nat.min_eq_right (by omega:i≤i+1)]
theorem dQ {xs:List Nat} {i d:Nat} (h:i<xs.length):val b ((xs.set i d).take (i+1))=val b (xs.take i)+b^i*d:=by
 rw[Yk h,rA,List.length_take,Nat.min_eq_left (by omega)]
theorem kI {xs:List Nat} {i d:Nat} (h:∀x∈xs,x<b) (hd:d<b):∀x∈xs.set i d,x<b:=by
 intro x hx
 rcases List.mem_or_eq_of_mem_set hx with h1 | h1
 ·exact h x h1
 ·subst h1;exact hd
theorem iB {xs:List Nat} {i:Nat} (h:xs.length≤i):val b (xs.take i)=val b xs:=by rw[List.take_of_length_le h]
theorem yR (hb:0<b) (n:Nat):∀x∈List.replicate n 0,x<b:=by
 intro x hx
 rw[List.eq_of_mem_replicate hx]
 exact hb
theorem Wm {P x y R t:Nat} (ht:t<P) (h:x<y):t+P*(x+R)<P*(y+R):=by
 have h1:P*(x+R+1)≤P*(y+R):=Nat.mul_le_mul_left _ (by omega)
 rw[Nat.mul_add,Nat.mul_one] at h1
 omega
theorem CQ {xs ys:List Nat} {i x y:Nat} (hx:∀d∈xs,d<b) (hl:xs.length=ys.length) (hi:xs[i]? = some x) (hj:ys[i]? = some y) (hd:xs.drop (i+1)=ys.drop (i+1)) (h:x<y):val b xs<val b ys:=by
 have h1:=(List.getElem?_eq_some_iff.1 hi).1
 have ht:(xs.take i).length=i:=by simp;omega
 have ht':(ys.take i).length=i:=by simp;omega
 have h2:=nB (b:=b) (xs:=xs.take i) fun d hd=>hx d (List.mem_of_mem_take hd)
 rw[ht] at h2
 rw[oN xs i,oN ys i,ht,ht',qY hi,qY hj,hd]
 have:=Wm (R:=b*val b (ys.drop (i+1))) h2 h
 omega
theorem P5 (hb:2≤b) {m n:Nat} (h:aC b m=aC b n):m=n:=by
 have:=congrArg (val b) h
 rwa [bP hb,bP hb] at this
def eH (a b:Nat):Int:=if a<b then -1 else if a=b then 0 else 1
theorem Df (hb:2≤b) {m n:Nat} (h:(aC b m).length<(aC b n).length):m<n:=by
 rcases Nat.lt_or_ge m n with h1 | h1
 ·exact h1
 ·have:=dJ hb h1
  omega
end
end Go.PM
namespace Go.PM
abbrev VI (n:Int):VV := .sc (.int .i64 n)
abbrev VK (k:IntKind) (n:Int):VV := .sc (.int k n)
abbrev VB (t:Bool):VV := .sc (.bool t)
abbrev aZ {α:Type} (f:α→VV) (xs:List α):VV := .tree (xs.map f) .op
section
variable {α:Type} {f:α→VV} {xs ys:List α} {x:α} {t:TK} {H:aA} {size i:Nat} {k:IntKind}
theorem dH:nS (.tree (xs.map f) t) H=some (VI xs.length):=by simp[nS]
theorem aF (hx:xs[i]? = some x) (hs:(aB (f x)).length=size):bC size (.tree (xs.map f) t) (VK k (i:Int)) H=some (.cO (f x) 0) :=
 Vw (by simp[hx]) hs
theorem Qh (hs:∀x,(aB (f x)).length=size):∀y∈xs.map f,(aB y).length=size:=by
 intro y hy
 obtain⟨x,_,rfl⟩:=List.mem_map.1 hy
 exact hs x
theorem cZ (hp:∀x,aO (f x)=true):aL (xs.map f)=true:=by
 rw[zK]
 intro y hy
 obtain⟨x,_,rfl⟩:=List.mem_map.1 hy
 exact hp x
theorem aaE (hp:∀x,gH (f x)=true):qI (xs.map f)=true:=by
 rw[I1]
 intro y hy
 obtain⟨x,_,rfl⟩:=List.mem_map.1 hy
 exact hp x
theorem S5 {size:Nat} (hs:∀x,(aB (f x)).length=size):uni (xs.map f)=true:=by
 cases xs with
 | nil=>rfl
 |
  cons x xs =>
  simp only[List.map_cons,uni,List.all_eq_true]
  intro y hy
  obtain⟨z,_,rfl⟩:=List.mem_map.1 hy
  simp[hs]
theorem iW {size:Nat} (hs:∀x,(aB (f x)).length=size) (hp:∀x,aO (f x)=true):aO (aZ f xs)=true:=by
 simp only[aZ,aO,cZ hp,S5 hs,decide_true,Bool.and_self]
theorem Cr {size:Nat} (hs:∀x,(aB (f x)).length=size) (hp:∀x,gH (f x)=true) (he:∀x,yW (f x)=true):gH (aZ f xs)=true:=by
 have h4:(xs.map f).all yW=true:=by
  rw[List.all_eq_true]
  intro y hy
  obtain⟨z,_,rfl⟩:=List.mem_map.1 hy
  exact he z
 simp only[aZ,gH,aaE hp,S5 hs,h4,decide_true,Bool.and_self]
theorem aaQ {es:List VV} {h:Nat} (eW:0<es.length) (hs:∀x∈es,(aB x).length=size) (hh:h≤es.length) {k2:IntKind} :
  Ee size (.tree es t) none (some (VK k2 h)) none H=some (.tree (es.take h) .op):=by
 cases es with
 | nil=>simp at eW
 |
  cons y ys =>
  have hy:=hs y List.mem_cons_self
  simp only[List.length_cons] at hh
  have e1:(0:Int)≤h∧(h:Int)≤((ys.length+1:Nat):Int):=by omega
  simp only[Ee,FH,hy,if_true,dV,e1,Int.toNat_natCast,Option.isSome_none,Bool.false_eq_true,false_and,if_false]
  simp
theorem Qy (h:0<xs.length):0<(xs.map f).length:=by simpa using h
theorem Zl {b g o n c:Nat} {es:List VV} {w:Bool} {l h:Nat} (hr:aK H b g=some (es,size,w)) (hl:l≤h) (hh:h≤c) {k1 k2:IntKind} :
  Ee size (.ref b g o n c) (some (VK k1 l)) (some (VK k2 h)) none H=some (.ref b g (o+l) (h-l) (c-l)):=by
 have e1:(0:Int)≤h∧(h:Int)≤(c:Int):=by omega
 have e2:(0:Int)≤l∧(l:Int)≤(h:Int):=by omega
 simp only[Ee,FH,hr,if_true,dV,e1,e2,Int.toNat_natCast,Option.isSome_none,Bool.false_eq_true,false_and,if_false]
 simp[hl]
theorem nI {b g o n c:Nat} {es:List VV} {w:Bool} {h:Nat} (hr:aK H b g=some (es,size,w)) (hh:h≤c) {k2:IntKind} :
  Ee size (.ref b g o n c) none (some (VK k2 h)) none H=some (.ref b g o h c):=by
 have e1:(0:Int)≤h∧(h:Int)≤(c:Int):=by omega
 simp only[Ee,FH,hr,if_true,dV,e1,Int.toNat_natCast,Option.isSome_none,Bool.false_eq_true,false_and,if_false]
 simp
theorem HT {h:Nat} (hs:∀x,(aB (f x)).length=size) (eW:0<xs.length) (hh:h≤xs.length) {k2:IntKind} :
  Ee size (.tree (xs.map f) t) none (some (VK k2 h)) none H=some (aZ f (xs.take h)):=by
 rw[aaQ (Qy eW) (Qh hs) (by simpa using hh)]
 simp[aZ]
theorem Qt {b g e:Nat} {es:List VV} {w:Bool} {L K:aA} (h:b=L.length):aK (L ++ .row g es e w::K) b g=some (es,e,w):=by
 subst h
 simp[aK]
theorem bG {g e:Nat} {es:List VV} {w:Bool} {K:aA}:aK (.row g es e w::K) 0 g=some (es,e,w):=by simp[aK]
theorem kQ {n:Nat}:(n=n+1)=False:=eq_false fun h=>by omega
theorem Xg {g g' e:Nat} {es:List VV} {w:Bool} {K:aA} (h:g'≠g):aK (.row g' es e w::K) 0 g=none:=by simp[aK,h]
theorem iQ {g e:Nat} {es:List VV} {w:Bool} {K:aA}:aK (.row (g+1) es e w::K) 0 g=none:=Xg (Nat.succ_ne_self g)
theorem C0 {b g:Nat} {x:cI} {K:aA}:aK (x::K) (b+1) g=aK K b g:=by simp[aK]
theorem aQ {b g o n c e:Nat} {es:List VV} {w:Bool} (h:aK H b g=some (es,e,w)) (hi:i<n):bC e (.ref b g o n c) (VK k (i:Int)) H=some (.ptr b g (o+i) 0):=Vi h hi
theorem jL {b g j e lo:Nat} {es:List VV} {v:VV} (h:aK H b g=some (es,e,true)) (hj:j<es.length) (eX:lo≤b) (hv:(aB v).length=e) (hs:(aB v).all bQ=true):cJ lo e (.ptr b g j 0) v H=some (H.set b (.row g (es.set j v) e true)):=by
 obtain⟨x,hx⟩:∃x,es[j]? = some x:=⟨_,List.getElem?_eq_getElem hj⟩
 simp only[cJ,h,hx]
 rw[if_pos ⟨hv,eX,hs⟩,if_pos ⟨trivial,trivial⟩]
theorem sH {z:List Value} {bytes n:Nat} (hz:elemOf (z.map iH)=f x) (hn:n*bytes≤281474976710656) (hm:n≤9223372036854775807):AA z bytes (VI n) (VI n) H=some (.ref H.length 0 0 n n,H++[.row 0 ((List.replicate n x).map f) z.length true]):=by
 simp only[AA]
 rw[if_pos ⟨by omega,by omega,by omega,by omega⟩,hz]
 simp
theorem oM {ag w:Bool} {b gn e j o:Nat} (h:aK H b gn=some (xs.map f,e,w)) (hx:xs[j]? = some x):dG ag size (.ptr b gn j o) H=dW ag size (f x) o :=
 Od h (by simp[hx])
theorem cR {b g j e lo:Nat} (h:aK H b g=some (xs.map f,e,true)) (hj:j<xs.length) (eX:lo≤b) (hv:(aB (f x)).length=e) (hs:(aB (f x)).all bQ=true):cJ lo e (.ptr b g j 0) (f x) H=some (H.set b (.row g ((xs.set j x).map f) e true)):=by
 rw[jL h (by simpa using hj) eX hv hs,List.map_set]
theorem Nr {b gn n c e:Nat} {es:List VV} {w:Bool} (h:aK H b gn=some (es,e,w)) (hn:n≤es.length) (hc:n≤c) (hp:aL es=true):fz depth H (.ref b gn 0 n c)=some (.tree (es.take n) .op):=by
 have:aO (.ref b gn 0 n c)=false:=rfl
 show fz (7+1) H _=_
 unfold fz
 simp only[this,h,Bool.false_eq_true,if_false]
 have Cw:aL (es.take n)=true:=zK.2 fun x hx=>zK.1 hp x (List.mem_of_mem_take hx)
 rw[if_pos ⟨by omega,hc⟩,List.drop_zero,mapM_pure Cw]
 rfl
theorem TC.flat {fn:Nat} {args gM:List VV} {r:VV} (h:TC fn gM r) (rZ:AQ.contains fn=false) (ha':aL gM=true) (hf:args.mapM (fz depth H)=some gM) (hr:J5 r=true) :
  ∀(lo:Nat) (K:VV→aA→Prop),cB fn args lo H K=K r H:=by
 intro lo K
 cases hp:aL args with
 |
  true =>
  have:=mapM_pure (n:=7) (H:=H) hp
  rw[show fz depth H=fz (7+1) H from rfl,this] at hf
  cases hf
  exact h lo H K
 | false=>rw[h.Fi rZ ha' hf hp,hr,if_pos rfl]
theorem fz1 {v v':VV} (h:fz depth H v=some v'):[v].mapM (fz depth H)=some [v']:=by rw[List.mapM_cons,h];rfl
theorem WA {v v' u u':VV} (h:fz depth H v=some v') (hu:fz depth H u=some u'):[v,u].mapM (fz depth H)=some [v',u']:=by rw[List.mapM_cons,h,fz1 hu];rfl
theorem TC.aaA {fn b gn n c e size:Nat} {w:Bool} {r:VV} (h:TC fn [aZ f xs] r) (hr:aK H b gn=some (xs.map f,e,w)) (hn:n=xs.length) (hc:n≤c) (hs:∀x,(aB (f x)).length=size) (hp:∀x,aO (f x)=true) (rZ:AQ.contains fn=false) (hf:J5 r=false) :
  ∀(lo:Nat) (K:VV→aA→Prop),cB fn [.ref b gn 0 n c] lo H K=K r (cG H [b]):=by
 intro lo K
 have e1:fz depth H (.ref b gn 0 n c)=some (aZ f xs):=AX hr (by simpa using hn) hc (cZ hp)
 have e2:gY depth H (.ref b gn 0 n c)=[b]:=Mb hr (by simpa using hn) (cZ hp)
 have e3:[VV.ref b gn 0 n c].mapM (fz depth H)=some [aZ f xs]:=by rw[List.mapM_cons,e1];rfl
 rw[h.Fi rZ (by simp only[aL,iW hs hp,Bool.and_self]) e3 rfl,hf]
 simp only[Bool.false_eq_true,if_false,List.flatMap_cons,List.flatMap_nil,e2,List.append_nil]
theorem acK {es:List VV} {e:Nat} (hp:aL es=true):fz depth H (.tree es (.cl e))=some (.tree es .op):=by
 show fz (7+1) H _=_
 unfold fz
 have:aO (.tree es (.cl e))=false:=by simp[aO]
 simp only[this,Bool.false_eq_true,if_false,mapM_pure hp]
 rfl
theorem XW {es:List VV} {e:Nat} (hp:aL es=true):gY depth H (.tree es (.cl e))=[]:=by
 show gY (7+1) H _=_
 unfold gY
 have:aO (.tree es (.cl e))=false:=by simp[aO]
 simp only[this,Bool.false_eq_true,if_false,AZ hp]
theorem JW:fz depth H (.tree [] .nil)=some (.tree [] .op):=by
 show fz (7+1) H _=_
 unfold fz
 have:aO (.tree [] .nil)=false:=by simp[aO]
 simp only[this,Bool.false_eq_true,if_false]
 rfl
theorem TC.args {fn:Nat} {args gM:List VV} {r:VV} (h:TC fn gM r) (rZ:AQ.contains fn=false) (ha':aL gM=true) (hf:args.mapM (fz depth H)=some gM) (hi:args.flatMap (gY depth H)=[]) :
  ∀(lo:Nat) (K:VV→aA→Prop),cB fn args lo H K=K r H:=by
 intro lo K
 cases hp:aL args with
 |
  true =>
  have:=mapM_pure (n:=7) (H:=H) hp
  rw[show fz depth H=fz (7+1) H from rfl,this] at hf
  cases hf
  exact h lo H K
 |
  false =>
  rw[h.Fi rZ ha' hf hp,hi]
  split<;>rfl
theorem jJ {lr:Bool} {z:List Value} (hz:(z.map iH).all bQ=true):mV lr z 0 [] H=some (.ref H.length 0 0 0 0,H++[.row 0 [] z.length true]):=by
 simp[mV,uU,hz]
theorem kH {z:List Value} {v:VV} (hz:(z.map iH).all bQ=true) (hv:(aB v).length=z.length) (hs:(aB v).all bQ=true):mV false z 1 [(0,v)] H=some (.tree [v] (.cl z.length),H):=by
 simp only[mV,uU,List.replicate_succ,List.replicate_zero,List.length_cons,List.length_nil,hv,hs,and_self,if_true,List.set_cons_zero,hz]
 simp[hs]
theorem XF {z:List Value} {u v:VV} (hz:(z.map iH).all bQ=true) (hu:(aB u).length=z.length) (hus:(aB u).all bQ=true) (hv:(aB v).length=z.length) (hs:(aB v).all bQ=true):mV false z 2 [(0,u),(1,v)] H=some (.tree [u,v] (.cl z.length),H):=by
 simp[mV,uU,hv,hs,hu,hus,hz,List.replicate_succ]
end
theorem wrap32 (n:Nat):IntKind.u32.wrap (n:Int)=((n % 4294967296:Nat):Int):=by rw[IntKind.wrap_u32];omega
theorem wrap_u64 (n:Int):IntKind.u64.wrap n=n % 18446744073709551616:=by simp[IntKind.wrap,IntKind.bits,IntKind.signed]
theorem eO (n:Nat) (h:n<18446744073709551616):IntKind.u64.wrap (n:Int)=(n:Int):=by rw[wrap_u64];omega
theorem wrapN {x:Int} (n:Nat) (h:x=n) (hn:n≤9223372036854775807):IntKind.i64.wrap x=(n:Int):=by subst h;exact wrap64 (by omega) (by omega)
theorem qV (n:Nat) (k:IntKind):cU .shr (.int .u64 (n:Int)) (.int k 32)=some (.int .u64 ((n / 4294967296:Nat):Int)):=by
 simp only[cU]
 have h1:¬((32:Int)<0):=by decide
 have h2:Nat.min (Int.toNat 32) IntKind.u64.bits=32:=by decide
 rw[if_neg h1,h2]
 congr 2
 rw[Int.fdiv_eq_ediv_of_nonneg _ (by decide)]
 omega
theorem CP (n:Nat) (k:IntKind) (h:n<4294967296):cU .shl (.int .u64 (n:Int)) (.int k 32)=some (.int .u64 ((n*4294967296:Nat):Int)):=by
 simp only[cU]
 have h1:¬((32:Int)<0):=by decide
 have h2:Nat.min (Int.toNat 32) IntKind.u64.bits=32:=by decide
 rw[if_neg h1,h2]
 congr 2
 have:(n:Int)*2^32=((n*4294967296:Nat):Int):=by omega
 rw[this]
 exact eO _ (by omega)
section
variable {n k g:Nat} {K:aA} {x y:cI}
theorem IL:aK (List.replicate n cI.dead++K) n g=aK K 0 g:=by
 unfold aK
 rw[List.getElem?_append_right (by simp)]
 simp
theorem RP:(List.replicate n cI.dead++K).set n y=List.replicate n cI.dead++K.set 0 y:=by
 rw[List.set_append_right _ _ (by simp)]
 simp
theorem aiW:(List.replicate n cI.dead++K).length=n+K.length:=by simp
theorem acI:iG k (List.replicate n cI.dead++K)=iG k K:=by
 induction n with
 | zero=>rfl
 | succ n ih=>rw[List.replicate_succ,List.cons_append,←ih];rfl
end
theorem Az {k g e:Nat} {es:List VV} {w:Bool} {K:aA} (h:kC k es=true):iG k (.row g es e w::K)=iG k K:=by
 unfold iG
 rw[List.all_cons]
 simp only[h,Bool.true_and]
theorem G1 {k:Nat}:iG k []=true:=rfl
theorem iC {size:Nat} {v:VV} {t:TK} {H:aA} (h:(aB v).length=size) (hs:(aB v).all bQ=true):dD size (.tree [v] t) H=some [v]:=by
 simp[dD,h,hs]
theorem iE {α:Type} {f:α→VV} {xs:List α} {x:α} {lo b g n e bytes:Nat} {H:aA} (h:aK H b g=some (xs.map f,e,true)) (hn:n=xs.length) (eX:lo≤b) (he:1≤e) (hb:1≤bytes) (A3:(n+1)*bytes≤140737488355328) :
  eJ lo e bytes (.ref b g 0 n n) [f x] H=some (.ref b (g+1) 0 (n+1) (n+1),H.set b (.row (g+1) ((xs++[x]).map f) e true)):=by
 subst hn
 simp only[eJ,h,List.length_cons,List.length_nil,Nat.zero_add]
 rw[if_pos ⟨hb,he⟩,if_pos ⟨trivial,eX,by simp⟩,if_neg (by omega),if_pos A3,List.drop_zero,List.take_of_length_le (by simp)]
 simp
section
variable {H:aA} {b g o n c j lo size:Nat} {neg ag:Bool} {k:IntKind} {i:Int} {v:VV}
theorem jN:dG ag size (.ptr b g j o) H=(match aK H b g with
 |
  some (es,_,_)=>match es[j]? with
  | some x=>dW ag size x o
  | none=>none
 | none=>none):=rfl
theorem Hg:cJ lo size (.ptr b g j o) v H=(match aK H b g with
 |
  some (es,e,true)=>match es[j]? with
  |
   some x =>
   if (aB v).length=size∧lo≤b∧(aB v).all bQ then
    if o=0∧size=e then some (H.set b (.row g (es.set j v) e true))
    else if 2≤e∧o+size≤e then some (H.set b (.row g (es.set j (.agg (cK (aB x) o (aB v)))) e true))
    else none
   else none
  | none=>none
 | _=>none):=rfl
theorem ML:nS (.ref b g o n c) H=(aK H b g).map fun _ => .sc (.int .i64 n):=rfl
theorem Ht:Gw size (.ptr b g j o) H=(aK H b g).map fun _ => .ptr b g j (o+size):=rfl
theorem Me:Vh (.ptr b g j o) H=(aK H b g).map fun _ => .ptr b g j o:=rfl
theorem Hn:Ec neg (.ref b g o n c) H=(aK H b g).map fun _ => .sc (.bool (false != neg)):=rfl
theorem Km:Ec neg (.tree [] .nil) H=some (.sc (.bool (true != neg))):=rfl
theorem Hq {x:VV} {xs:List VV} {t:TK}:Ec neg (.tree (x::xs) t) H=some (.sc (.bool (false != neg))):=rfl
theorem Ho:bC size (.ref b g o n c) (.sc (.int k i)) H=(match aK H b g with
 | some (_,e,_)=>if e=size∧0≤i∧i<n then some (.ptr b g (o+i.toNat) 0) else none
 | none=>none):=rfl
end
theorem FE {v:Value}:isAny (.sc v)=false:=rfl
theorem A5 {es:List VV} {t:TK}:isAny (.tree es t)=false:=rfl
theorem C9 {b g o n c:Nat}:isAny (.ref b g o n c)=false:=rfl
theorem CX {cs:List VV}:isAny (.agg cs)=false:=rfl
theorem Mq {f:Nat} {cs:List VV}:isAny (.sY f cs)=false:=rfl
theorem AI {x:VV}:elemOf [x]=x:=rfl
theorem Bc {x y:VV} {cs:List VV}:elemOf (x::y::cs) = .agg (x::y::cs):=rfl
theorem sW {k t:Nat} {ρ:cM}:GH k ρ t=Hf k (ρ t):=rfl
theorem Jz {k:Nat} {v:Value}:Hf k (.sc v) = .sc v:=rfl
theorem Ai {k:Nat} {v:VV} (h:aO v=true):Hf k v=v:=J4 (Ef v h)
theorem F6 {k b g o n c:Nat} (h:b<k):Hf k (.ref b g o n c) = .ref b g o n c:=J4 (by simp[below,h])
theorem OQ {v:Value}:bQ (.sc v)=true:=rfl
theorem J6 {es:List VV} {t:TK}:bQ (.tree es t)=true:=rfl
theorem MZ {b g o n c:Nat}:bQ (.ref b g o n c)=true:=rfl
theorem MV {b g o n:Nat}:bQ (.ptr b g o n)=true:=rfl
theorem KN {x:VV} {o:Nat}:bQ (.cO x o)=true:=rfl
theorem Mt {f:Nat} {cs:List VV}:bQ (.sY f cs)=true:=rfl
theorem Lw {v:Value}:aB (.sc v)=[.sc v]:=rfl
theorem KD {cs:List VV}:aB (.agg cs)=cs:=rfl
theorem Hk {es:List VV} {t:TK}:aB (.tree es t)=[.tree es t]:=rfl
theorem Ju {b g o n c:Nat}:aB (.ref b g o n c)=[.ref b g o n c]:=rfl
theorem Pl {k k':IntKind} {n:Int}:R7 k (.int k' n)=some (.int k (k.wrap n)):=rfl
theorem L5 {args:List VV} {t:Nat}:Hv args t=args.getD t oQ:=rfl
theorem ajU {n:Nat}:LT n = .tmp n:=rfl
theorem akC {n:Int}:LI n = .const (.int .i64 n):=rfl
theorem alV:LG = .const (.bool true):=rfl
theorem akN:LF = .const (.bool false):=rfl
theorem akX {n:Nat}:LL n = .load false 1 (.tmp n):=rfl
theorem alX {n:Nat}:LK n = .load true 3 (.tmp n):=rfl
theorem ajP {n k:Nat}:LX n k = .ext (.tmp n) k:=rfl
theorem amN {k n:Nat}:LA k n = .faddr k (.tmp n):=rfl
theorem akA {d:Nat} {p:mB}:LO d p=⟨some d,p,none,false,[]⟩:=rfl
theorem amL {d:Nat} {p:mB}:LQ d p=⟨some d,p,none,true,[]⟩:=rfl
theorem ajJ {p:mB}:LN p=⟨none,p,none,false,[]⟩:=rfl
theorem amO {d s:Nat}:LM d s=⟨some d,.mv (.tmp s),none,false,[]⟩:=rfl
theorem aiX {g d:Nat} {p:mB}:LY g d p=⟨some d,p,some (g,true),false,[]⟩:=rfl
theorem akQ {g d:Nat} {p:mB}:LZ g d p=⟨some d,p,some (g,false),false,[]⟩:=rfl
theorem akZ {l:List PI} {c:aD}:LS l c = .seq (.cX l) c:=rfl
theorem VX:type_of% (
 And.intro @Y1<|And.intro @WZ<|And.intro @OH<|And.intro @Tv<|And.intro @Tc<|And.intro @Xt<|And.intro @T5 <|
 And.intro @Pv<|And.intro @BA<|And.intro @DV<|And.intro @E4<|And.intro @DG<|And.intro @Cx <|
 And.intro @Kl<|And.intro @Fg<|And.intro @Mn<|And.intro @JO<|And.intro @Px<|And.intro @Qi <|
 And.intro @KJ<|And.intro @Mo<|And.intro @WR<|And.intro @acU<|And.intro @ZA<|And.intro @adJ<|And.intro @HS <|
 And.intro @Y0<|And.intro @PC<|And.intro @Th<|And.intro @TI<|And.intro @L3<|And.intro @M3<|And.intro @Zs <|
 And.intro @Td<|And.intro @TS<|And.intro @Un<|And.intro @S7<|And.intro @Lz<|And.intro @S8<|And.intro @MI <|
 And.intro @L6<|And.intro @PS<|And.intro @Qn<|And.intro @Qb<|And.intro @TP<|And.intro @PR<|And.intro @Ts <|
 And.intro @TU<|And.intro @Qw<|And.intro @S0<|And.intro @Ti<|And.intro @Uc<|And.intro @PL<|And.intro @SX <|
 And.intro @MY<|And.intro @TD<|And.intro @Ox<|And.intro @Lr<|And.intro @PE<|And.intro @L9 <|
 And.intro @AM<|And.intro @Mx<|And.intro @P3<|And.intro @Md<|And.intro @Kq<|And.intro @MJ <|
 And.intro @tO<|And.intro @MT<|And.intro @S9<|And.intro @MK<|And.intro @PV<|And.intro @TL<|And.intro @Qu <|
 And.intro @Ul<|And.intro @TY<|And.intro @Uk<|And.intro @Qk<|And.intro @Lo<|And.intro @Qr<|And.intro @OZ <|
 And.intro @S6<|And.intro @TO<|And.intro @Py<|And.intro @Po<|And.intro @Lv<|And.intro @Pf<|And.intro @Zx <|
 And.intro @IQ<|And.intro @Zc<|And.intro @Uo<|And.intro @X6<|And.intro @Xl<|And.intro @XM<|And.intro @YV <|
 And.intro @List.length_map.{0,0}<|And.intro @List.all_cons.{0}<|And.intro @List.all_nil.{0}<|And.intro @OQ<|And.intro @Bool.and_self <|
 And.intro @Bool.and_true<|And.intro @Pl<|And.intro @Ur<|And.intro @S4<|And.intro @OP<|And.intro @Pt <|
 And.intro @O5<|And.intro @Qv<|And.intro @PA<|And.intro @OT<|And.intro @OM<|And.intro @P6<|And.intro @OV <|
 And.intro @T8<|And.intro @Ua<|And.intro @Value.bool.injEq<|And.intro @decide_eq_true_eq<|And.intro @decide_eq_false_iff_not <|
 And.intro @Bool.not_true<|And.intro @Bool.not_false<|And.intro @decide_true<|And.intro @decide_false<|And.intro @Bool.not_eq_true' <|
 And.intro @Bool.not_eq_false'<|And.intro @Bool.false_eq_true<|And.intro @false_and<|And.intro @and_false<|And.intro @Option.map_some.{0,0} <|
 And.intro @Option.map_none.{0,0}<|And.intro @if_true.{1}<|And.intro @if_false.{1}<|And.intro @List.map_cons.{0,0}<|And.intro @List.map_nil.{0,0} <|
 And.intro @List.cons_append.{0}<|And.intro @List.nil_append.{0}<|And.intro @and_true<|And.intro @true_and<|And.intro @Nat.zero_add <|
 And.intro @Nat.add_zero<|And.intro @List.length_cons.{0}<|And.intro @List.length_nil.{0}<|And.intro @L5<|And.intro @List.getD_cons_zero.{0} <|
 And.intro @List.getD_cons_succ.{0}<|And.intro @List.getD_nil.{0}<|And.intro @VV.sc.injEq<|And.intro @List.getElem?_cons_zero.{0} <|
 And.intro @List.getElem?_cons_succ.{0}<|And.intro @J6<|And.intro @MZ<|And.intro @MV<|And.intro @KN <|
 And.intro @Mt<|And.intro @Lw<|And.intro @KD<|And.intro @Hk<|And.intro @Ju<|And.intro @ajU<|And.intro @akC <|
 And.intro @alV<|And.intro @akN<|And.intro @akX<|And.intro @alX<|And.intro @ajP<|And.intro @amN<|And.intro @akA<|And.intro @amL <|
 And.intro @ajJ<|And.intro @amO<|And.intro @aiX<|And.intro @akQ <| @akZ) :=
 And.intro @Y1<|And.intro @WZ<|And.intro @OH<|And.intro @Tv<|And.intro @Tc<|And.intro @Xt<|And.intro @T5 <|
 And.intro @Pv<|And.intro @BA<|And.intro @DV<|And.intro @E4<|And.intro @DG<|And.intro @Cx <|
 And.intro @Kl<|And.intro @Fg<|And.intro @Mn<|And.intro @JO<|And.intro @Px<|And.intro @Qi <|
 And.intro @KJ<|And.intro @Mo<|And.intro @WR<|And.intro @acU<|And.intro @ZA<|And.intro @adJ<|And.intro @HS <|
 And.intro @Y0<|And.intro @PC<|And.intro @Th<|And.intro @TI<|And.intro @L3<|And.intro @M3<|And.intro @Zs <|
 And.intro @Td<|And.intro @TS<|And.intro @Un<|And.intro @S7<|And.intro @Lz<|And.intro @S8<|And.intro @MI <|
 And.intro @L6<|And.intro @PS<|And.intro @Qn<|And.intro @Qb<|And.intro @TP<|And.intro @PR<|And.intro @Ts <|
 And.intro @TU<|And.intro @Qw<|And.intro @S0<|And.intro @Ti<|And.intro @Uc<|And.intro @PL<|And.intro @SX <|
 And.intro @MY<|And.intro @TD<|And.intro @Ox<|And.intro @Lr<|And.intro @PE<|And.intro @L9 <|
 And.intro @AM<|And.intro @Mx<|And.intro @P3<|And.intro @Md<|And.intro @Kq<|And.intro @MJ <|
 And.intro @tO<|And.intro @MT<|And.intro @S9<|And.intro @MK<|And.intro @PV<|And.intro @TL<|And.intro @Qu <|
 And.intro @Ul<|And.intro @TY<|And.intro @Uk<|And.intro @Qk<|And.intro @Lo<|And.intro @Qr<|And.intro @OZ <|
 And.intro @S6<|And.intro @TO<|And.intro @Py<|And.intro @Po<|And.intro @Lv<|And.intro @Pf<|And.intro @Zx <|
 And.intro @IQ<|And.intro @Zc<|And.intro @Uo<|And.intro @X6<|And.intro @Xl<|And.intro @XM<|And.intro @YV <|
 And.intro @List.length_map.{0,0}<|And.intro @List.all_cons.{0}<|And.intro @List.all_nil.{0}<|And.intro @OQ<|And.intro @Bool.and_self <|
 And.intro @Bool.and_true<|And.intro @Pl<|And.intro @Ur<|And.intro @S4<|And.intro @OP<|And.intro @Pt <|
 And.intro @O5<|And.intro @Qv<|And.intro @PA<|And.intro @OT<|And.intro @OM<|And.intro @P6<|And.intro @OV <|
 And.intro @T8<|And.intro @Ua<|And.intro @Value.bool.injEq<|And.intro @decide_eq_true_eq<|And.intro @decide_eq_false_iff_not <|
 And.intro @Bool.not_true<|And.intro @Bool.not_false<|And.intro @decide_true<|And.intro @decide_false<|And.intro @Bool.not_eq_true' <|
 And.intro @Bool.not_eq_false'<|And.intro @Bool.false_eq_true<|And.intro @false_and<|And.intro @and_false<|And.intro @Option.map_some.{0,0} <|
 And.intro @Option.map_none.{0,0}<|And.intro @if_true.{1}<|And.intro @if_false.{1}<|And.intro @List.map_cons.{0,0}<|And.intro @List.map_nil.{0,0} <|
 And.intro @List.cons_append.{0}<|And.intro @List.nil_append.{0}<|And.intro @and_true<|And.intro @true_and<|And.intro @Nat.zero_add <|
 And.intro @Nat.add_zero<|And.intro @List.length_cons.{0}<|And.intro @List.length_nil.{0}<|And.intro @L5<|And.intro @List.getD_cons_zero.{0} <|
 And.intro @List.getD_cons_succ.{0}<|And.intro @List.getD_nil.{0}<|And.intro @VV.sc.injEq<|And.intro @List.getElem?_cons_zero.{0} <|
 And.intro @List.getElem?_cons_succ.{0}<|And.intro @J6<|And.intro @MZ<|And.intro @MV<|And.intro @KN <|
 And.intro @Mt<|And.intro @Lw<|And.intro @KD<|And.intro @Hk<|And.intro @Ju<|And.intro @ajU<|And.intro @akC <|
 And.intro @alV<|And.intro @akN<|And.intro @akX<|And.intro @alX<|And.intro @ajP<|And.intro @amN<|And.intro @akA<|And.intro @amL <|
 And.intro @ajJ<|And.intro @amO<|And.intro @aiX<|And.intro @akQ <| @akZ
theorem jX:type_of% (
 And.intro @jN<|And.intro @Hg<|And.intro @Ho<|And.intro @ML<|And.intro @Ht<|And.intro @Me <|
 And.intro @Hn<|And.intro @Km<|And.intro @Hq<|And.intro @bG<|And.intro @C0<|And.intro @List.set_cons_zero.{0} <|
 And.intro @List.set_cons_succ.{0}<|And.intro @AI<|And.intro @Bc<|And.intro @mM.eq_1<|And.intro @pO.eq_1 <|
 And.intro @pO.eq_2<|And.intro @Dv.eq_1<|And.intro @Dv.eq_2<|And.intro @xI.eq_1<|And.intro @xI.eq_2<|And.intro @FE <|
 And.intro @A5<|And.intro @C9<|And.intro @CX<|And.intro @Mq<|And.intro @List.take_zero.{0} <|
 And.intro @List.take_succ_cons.{0}<|And.intro @List.take_nil.{0}<|And.intro @List.drop_zero.{0}<|And.intro @List.drop_succ_cons.{0} <|
 And.intro @List.drop_nil.{0}<|And.intro @List.append_nil.{0}<|And.intro @Nat.le_refl<|And.intro @cK.eq_1<|And.intro @Int.toNat_natCast <|
 And.intro @eq_self.{1}<|And.intro @ge_iff_le.{0} <| @Bool.and_eq_true) :=
 And.intro @jN<|And.intro @Hg<|And.intro @Ho<|And.intro @ML<|And.intro @Ht<|And.intro @Me <|
 And.intro @Hn<|And.intro @Km<|And.intro @Hq<|And.intro @bG<|And.intro @C0<|And.intro @List.set_cons_zero.{0} <|
 And.intro @List.set_cons_succ.{0}<|And.intro @AI<|And.intro @Bc<|And.intro @mM.eq_1<|And.intro @pO.eq_1 <|
 And.intro @pO.eq_2<|And.intro @Dv.eq_1<|And.intro @Dv.eq_2<|And.intro @xI.eq_1<|And.intro @xI.eq_2<|And.intro @FE <|
 And.intro @A5<|And.intro @C9<|And.intro @CX<|And.intro @Mq<|And.intro @List.take_zero.{0} <|
 And.intro @List.take_succ_cons.{0}<|And.intro @List.take_nil.{0}<|And.intro @List.drop_zero.{0}<|And.intro @List.drop_succ_cons.{0} <|
 And.intro @List.drop_nil.{0}<|And.intro @List.append_nil.{0}<|And.intro @Nat.le_refl<|And.intro @cK.eq_1<|And.intro @Int.toNat_natCast <|
 And.intro @eq_self.{1}<|And.intro @ge_iff_le.{0} <| @Bool.and_eq_true
end Go.PM
namespace Go.PM
theorem TC.vt {f:Nat} {args:List VV} {r:VV} (h:TC f args r) (rZ:AQ.contains f=false) (hp:aL args=true):VT f args r:=by
 have h1:=h 0 [] fun x _=>x=r
 unfold cB at h1
 simp only[rZ,hp,Bool.false_eq_true,if_false,if_true] at h1
 have h2:E9 f args fun x=>x=r:=by rw[h1];trivial
 unfold E9 tk at h2
 split at h2
 ·rename_i x hx
  rw[←h2]
  exact(Nc hx).2.2
 ·exact h2.elim
theorem TC.yes {f:Nat} {args:List VV} {dM:List Value} {H:aE} (h:TC f args (.sc (.bool true))) (rZ:AQ.contains f=false) (hp:aL args=true) (hl:VL (bare (· < H.length) H) args dM) :
  ∃v H',pS f dM H.length H=some (v,H')∧v = .bool true:=by
 obtain⟨P',pv,h1,_,h2⟩:=h.vt rZ hp (· < H.length) H dM H.length (fun _ h=>h) hl (Nat.le_refl _)
 cases h2
 exact⟨_,P',h1,rfl⟩
theorem VR.grow {H L:aE} {x:VV} {v:Value} (h:VR (bare (· < H.length) H) x v):VR (bare (· < (H++L).length) (H++L)) x v :=
 h.Cb fun b hb=>⟨by show b<_;rw[List.length_append];omega,List.getElem?_append_left hb⟩
theorem Z1 {α:Type} {enc:α→List Value} {f:α→VV} {cF n c:Nat} {H:aE} {pa:Option Addr} {xs:List α} (hA:Arr enc cF H pa n xs) (hc:n≤c) (hf:∀x,aB (f x)=(enc x).map .sc) (hs:∀x,(enc x).all jS=true) (hlen:∀x,(enc x).length=cF)
  (hb:(pa=none∧xs=[]∧n=0∧c=0)∨∃b r p,pa=some ⟨b,0,none⟩∧H[b]? = some (.row r cF p)∧n*cF≤r.length∧r.take (n*cF)=xs.flatMap enc):VR (bare (· < H.length) H) (aZ f xs) (.slice pa n c):=by
 rcases hb with⟨rfl,rfl,rfl,rfl⟩ | ⟨b,r,p,rfl,h1,h2,h3⟩
 ·exact .lS _ (.inl rfl)
 ·have hn:=hA.len
  subst hn
  have hl:xs.length=(xs.map f).length:=by simp
  have key:VL (bare (· < H.length) H) ((xs.map f).flatMap aB) (xs.flatMap enc):=by
   clear h3 h2 hl hc hA
   induction xs with
   | nil=>exact .nil
   |
    cons x xs ih =>
    simp only[List.map_cons,List.flatMap_cons,hf]
    have hx:=hs x
    revert hx
    generalize enc x=cs
    intro hx
    induction cs with
    | nil=>exact ih
    |
     cons v vs ih2 =>
     simp only[List.all_cons,Bool.and_eq_true] at hx
     exact .cons _ _ _ _ (.sc v hx.1) (ih2 hx.2)
  have:=VR.tree (V:=bare (· < H.length) H) (xs.map f) .op b 0 c r cF p (by show b<_;exact(List.getElem?_eq_some_iff.1 h1).1) h1 (by rw[←hl];omega) (by rw[←hl];exact hc) (fun y hy=>by
   obtain⟨x,_,rfl⟩:=List.mem_map.1 hy
   rw[hf,List.length_map,hlen]) trivial (by rw[←hl,List.drop_zero,h3];exact key)
  rw[←hl] at this
  exact this
end Go.PM
namespace Go.PM
mutual
def fO (n:Nat):VV→Bool
 | .any=>false
 | .sc v=>jS v
 | .agg cs=>sQ n cs
 | .dY vs=>sQ n vs
 | .tree es k=>es.isEmpty&&decide (k = .nil)
 | .cO _ _=>false
 | .ref b _ _ _ _=>decide (n≤b)
 | .ptr b _ _ _=>decide (n≤b)
 | .sY _ _=>false
def sQ (n:Nat):List VV→Bool
 | []=>true
 | x::xs=>fO n x&&sQ n xs
end
theorem EG {n:Nat} {es:List VV}:sQ n es=true↔∀x∈es,fO n x=true:=by
 induction es with
 | nil=>simp[sQ]
 | cons x xs ih=>simp[sQ,ih]
theorem Ux {n:Nat} {es:List VV} (h:sQ n es=true):sQ n (es.flatMap aB)=true:=by
 rw[EG] at h ⊢
 intro x hx
 obtain⟨y,hy,yT⟩:=List.mem_flatMap.1 hx
 have:=h y hy
 unfold aB at yT
 split at yT
 ·exact EG.1 (by simpa[fO] using this) x yT
 ·rw[List.mem_singleton] at yT;subst yT;exact this
def dA (n:Nat) (L:aA):Bool:=L.all fun
 | .row _ es _ _=>sQ n es
 | .dead=>true
theorem VR.own {V V':View} {k0:Nat} (Ou:∀q,V.base≤q∧q<V.P.length→V'.base≤q∧q<V'.P.length∧∀b' g' es e w,b'<k0→V'.H[b']? = some (.row g' es e w)→V'.m b'≠q) (hl:V.H.length≤V'.H.length) (hH:∀b,k0≤b→V'.H[b]? = V.H[b]?) (hm:∀b,k0≤b→V'.m b=V.m b) {x:VV} {v:Value} (h:VR V x v):fO k0 x=true→VR V' x v:=by
 induction h using VR.rec (motive_2:=fun xs vs _=>sQ k0 xs=true→VL V' xs vs) with
 | any=>intro hx;cases hx
 | sc _ h=>intro _;exact .sc _ h
 | agg cs ps _ ih=>intro hx;exact .agg _ _ (ih hx)
 | dY cs ps _ ih=>intro hx;exact .dY _ _ (ih hx)
 | lS k hk=>intro _;exact .lS k hk
 |
  tree es k b o c r e p hF hb ho hc he hk _ _ =>
  intro hx
  simp only[fO,Bool.and_eq_true,decide_eq_true_eq] at hx
  obtain⟨_,rfl⟩:=hx
  exact hk.elim
 | cO=>intro hx;cases hx
 |
  ref b g o n c a n' c' aV hg ha hq =>
  intro hx
  have hb:k0≤b:=by simpa[fO] using hx
  exact .ref b g o n c a n' c' (Nat.lt_of_lt_of_le aV hl) (fun g' es e w hr=>hg g' es e w (by rw[←hH b hb];exact hr)) (fun es e w hr=>by rw[hm b hb];exact ha es e w (by rw[←hH b hb];exact hr)) fun a0 h=>by
   obtain⟨q1,q2,q3⟩:=hq a0 h
   obtain⟨q4,q5,q6⟩:=Ou _ ⟨q1,q2⟩
   refine⟨q4,q5,fun b' g' es e w hr eW => ?_⟩
   rcases Nat.lt_or_ge b' k0 with JA | AF
   ·exact q6 b' g' es e w JA hr
   ·rw[hm b' AF]
    exact q3 b' g' es e w (by rw[←hH b' AF];exact hr) eW
 |
  ptr b g j off a aV hg ha hq =>
  intro hx
  have hb:k0≤b:=by simpa[fO] using hx
  exact .ptr b g j off a (Nat.lt_of_lt_of_le aV hl) (fun g' es e w hr=>hg g' es e w (by rw[←hH b hb];exact hr)) (fun es e w hr=>by rw[hm b hb];exact ha es e w (by rw[←hH b hb];exact hr)) fun a0 h=>by
   obtain⟨q1,q2,q3⟩:=hq a0 h
   obtain⟨q4,q5,q6⟩:=Ou _ ⟨q1,q2⟩
   refine⟨q4,q5,fun b' g' es e w hr eW => ?_⟩
   rcases Nat.lt_or_ge b' k0 with JA | AF
   ·exact q6 b' g' es e w JA hr
   ·rw[hm b' AF]
    exact q3 b' g' es e w (by rw[←hH b' AF];exact hr) eW
 | sY=>intro hx;cases hx
 | nil=>exact .nil
 |
  cons x v xs vs _ _ ih Sk =>
  rename_i hx
  simp only[sQ,Bool.and_eq_true] at hx
  exact .cons _ _ _ _ (ih hx.1) (Sk hx.2)
theorem VL.own {V V':View} {n:Nat} (Ou:∀q,V.base≤q∧q<V.P.length→V'.base≤q∧q<V'.P.length∧∀b' g' es e w,b'<n→V'.H[b']? = some (.row g' es e w)→V'.m b'≠q) (hl:V.H.length≤V'.H.length) (hH:∀b,n≤b→V'.H[b]? = V.H[b]?) (hm:∀b,n≤b→V'.m b=V.m b) {xs:List VV} {vs:List Value} (h:VL V xs vs) (hx:sQ n xs=true):VL V' xs vs:=by
 induction xs generalizing vs with
 | nil=>cases h;exact .nil
 |
  cons x xs ih=>cases h with
  |
   cons _ v _ vs h hs =>
   simp only[sQ,Bool.and_eq_true] at hx
   exact .cons _ _ _ _ (h.own Ou hl hH hm hx.1) (ih hs hx.2)
theorem VL.Cb {V':View} {G:Nat→Prop} {P:aE} {xs:List VV} {vs:List Value} (hF:∀b,G b→V'.F b∧V'.P[b]? = P[b]?) (h:VL (bare G P) xs vs):VL V' xs vs:=by
 induction xs generalizing vs with
 | nil=>cases h;exact .nil
 |
  cons x xs ih=>cases h with
  | cons _ v _ vs h hs=>exact .cons _ _ _ _ (h.Cb hF) (ih hs)
def FC (f:Nat) (args:List VV) (R:Nat→VV→aA→Prop):Prop :=
 ∀n,kG f args n (List.replicate n .dead) fun r H'=>∃L,H'=List.replicate n .dead++L∧fO n r=true∧dA n L=true∧R n r L
theorem FC.walk {f:Nat} {pf:aT} {args:List VV} {R:Nat→VV→aA→Prop} (fl:Fl) (ht:gE f=some pf) (hn:args.length≤pf.ntmps)
  (h:∀n,VW fl n pf.body (zJ pf.res fun r H'=>∃L,H'=List.replicate n .dead++L∧fO n r=true∧dA n L=true∧R n r L) (Hv args) (List.replicate n .dead)):FC f args R :=
 fun n=>kG.walk fl ht hn (h n)
theorem FC.raw {f:Nat} {args gM:List VV} {R:Nat→VV→aA→Prop} {H:aA} {lo:Nat} (h:FC f gM R) (hf:args.mapM (fz depth H)=some gM):kG f args lo H fun r H'=>∃L,H'=H++L∧R H.length r L∧fO H.length r=true∧dA H.length L=true:=by
 intro V dN dM hH hS hl
 have h1:=h H.length
 let V0:View:={ m:=V.m,F:=(· < V.P.length),H:=List.replicate H.length .dead,P:=V.P,base:=V.P.length }
 have JH:∀(b g:Nat) (es:List VV) (e:Nat) (w:Bool),V0.H[b]? ≠ some (.row g es e w):=by
  intro b g es e w hb
  have:=List.eq_of_mem_replicate (List.mem_of_getElem? hb)
  cases this
 have hS0:SR V0 H.length dN:=⟨fun b g es e w hb=>absurd hb (JH _ _ _ _ _),fun b g es e hb=>absurd hb (JH _ _ _ _ _),fun a b g es e w _ _ _ _ ha=>absurd ha (JH _ _ _ _ _),fun b hb=>hb,hS.Q4,Nat.le_refl _⟩
 have zF:VL V0 gM dM:=by
  have:=Db hS (G:=(· < V.P.length)) (fun q hq=>hS.fr q hq) hl (by rw[hH];exact hf) (fun i _ g es e w hb=>hS.mlt hb)
  exact VL.Cb (V':=V0) (fun b hb=>⟨hb,rfl⟩) this
 obtain⟨pv,V1,r,k1,k3,k4,k5,L,k2,h2,h3,hR⟩:=h1 V0 dN dM rfl hS0 zF
 have TZ:∀b g es e w,V1.H[b]? = some (.row g es e w)→V.P.length≤V1.m b:=by
  intro b g es e w hb
  rcases Nat.lt_or_ge (V1.m b) V.P.length with aV | AF
  ·obtain⟨g0,es0,w0,j1,_⟩:=k4.AT b g es e w hb aV
   exact absurd j1 (JH _ _ _ _ _)
  ·exact AF
 have alD:V1.H.length=H.length+(L).length:=by rw[k2];simp
 have HI:∀q,q<V.P.length→V1.P[q]? = V.P[q]? := fun q hq=>k4.cL q hq fun b g es e hb=>absurd hb (JH _ _ _ _ _)
 let V2:View:={ m:=fun b=>if b<H.length then V.m b else V1.m b,F:=V.F,H:=H++L,P:=V1.P,base:=V.base }
 have aaI:∀b,H.length≤b→V2.H[b]? = V1.H[b]? := fun b hb=>by
  show (H++L)[b]? = _
  rw[k2,List.getElem?_append_right hb,List.getElem?_append_right (by simpa using hb),List.length_replicate]
 have mL:∀b,H.length≤b→V2.m b=V1.m b:=fun b hb=>by
  show (if b<H.length then V.m b else V1.m b)=_
  rw[if_neg (by omega)]
 have abB:∀b,b<H.length→V2.H[b]? = V.H[b]? := fun b hb=>by
  show (H++L)[b]? = _
  rw[List.getElem?_append_left hb,hH]
 have mS:∀b,b<H.length→V2.m b=V.m b:=fun b hb=>by
  show (if b<H.length then V.m b else V1.m b)=_
  rw[if_pos hb]
 have hU:Up V V2:=⟨fun _ h=>h,fun b hb=>HI b (hS.fr b hb),by show V.H.length≤(H++L).length;rw[hH];simp,fun b g es e w aV hb=>⟨g,es,w,by rw[←abB b (by rw[←hH];exact aV)];exact hb,Nat.le_refl _,fun _=>mS b (by rw[←hH];exact aV)⟩,rfl,k4.Dj,fun b g es e w hb hm=>by
   rcases Nat.lt_or_ge b H.length with h | h
   ·exact⟨g,es,w,by rw[←abB b h];exact hb,mS b h,id⟩
   ·rw[mL b h] at hm
    have:=TZ b g es e w (by rw[←aaI b h];exact hb)
    omega⟩
 have TG:∀ {b g es e w},V2.H[b]? = some (.row g es e w)→(b<H.length∧V.H[b]? = some (.row g es e w))∨(H.length≤b∧V1.H[b]? = some (.row g es e w)):=by
  intro b g es e w hb
  rcases Nat.lt_or_ge b H.length with h | h
  ·exact .inl ⟨h,by rw[←abB b h];exact hb⟩
  ·exact .inr ⟨h,by rw[←aaI b h];exact hb⟩
 have acS:V1.H.length≤V2.H.length:=by show _≤(H++L).length;rw[alD];simp
 have DH:∀ {b g es e w},H.length≤b→V1.H[b]? = some (.row g es e w)→sQ H.length es=true:=by
  intro b g es e w hb hr
  rw[k2,List.getElem?_append_right (by simpa using hb)] at hr
  exact List.all_eq_true.1 h3 _ (List.mem_of_getElem? hr)
 have Ou:∀q,V1.base≤q∧q<V1.P.length→V2.base≤q∧q<V2.P.length∧∀b' g' es e w,b'<H.length→V2.H[b']? = some (.row g' es e w)→V2.m b'≠q:=by
  intro q hq
  have Di:V.P.length≤q:=by have:=k4.IK;rw[this] at hq;exact hq.1
  refine⟨Nat.le_trans hS.IK Di,hq.2,fun b' g' es e w aV hr hm => ?_⟩
  rw[mS b' aV] at hm
  have:=hS.mlt (by rw[←abB b' aV];exact hr)
  omega
 refine⟨pv,V2,r,k1,⟨fun b g es e w hb => ?_,fun b g es e hb => ?_,fun a b g es e w g' lL e' w' ha hb hm => ?_,fun b hb => ?_,?_,Nat.le_trans hS.IK k4.Dj⟩,{ hU with cL:=fun q hq _=>HI q hq,BM:=fun q hq => .inl hq },?_,L,rfl,hR,h2,h3⟩
 ·rcases TG hb with⟨h,hb⟩ | ⟨h,hb⟩
  ·obtain⟨r,p,j1,j2,j3⟩:=hS.row b g es e w hb
   exact⟨r,p,by rw[mS b h];exact(HI _ (hS.mlt hb)).trans j1,j2,j3.mono hU⟩
  ·obtain⟨r,p,j1,j2,j3⟩:=k3.row b g es e w hb
   exact⟨r,p,by rw[mL b h];exact j1,j2,j3.own Ou acS (fun b hb=>aaI b hb) (fun b hb=>mL b hb) (Ux (DH h hb))⟩
 ·rcases TG hb with⟨h,hb⟩ | ⟨h,hb⟩
  ·rw[mS b h]
   exact hS.wr b g es e hb
  ·rw[mL b h]
   have:=TZ b g es e true hb
   exact⟨fun hF=>by have:=hS.fr _ hF;omega,fun _=>Nat.le_trans hS.Q4 this⟩
 ·rcases TG ha with⟨h,ha⟩ | ⟨h,ha⟩<;>rcases TG hb with⟨h',hb⟩ | ⟨h',hb⟩
  ·rw[mS a h,mS b h'] at hm
   exact hS.inj a b _ _ _ _ _ _ _ _ ha hb hm
  ·rw[mS a h,mL b h'] at hm
   have:=TZ b _ _ _ _ hb
   have:=hS.mlt ha
   omega
  ·rw[mL a h,mS b h'] at hm
   have:=TZ a _ _ _ _ ha
   have:=hS.mlt hb
   omega
  ·rw[mL a h,mL b h'] at hm
   exact k3.inj a b _ _ _ _ _ _ _ _ ha hb hm
 ·exact Nat.lt_of_lt_of_le (hS.fr b hb) k4.Dj
 ·exact Nat.le_trans hS.Q4 k4.Dj
 ·exact k5.own Ou acS (fun b hb=>aaI b hb) (fun b hb=>mL b hb) h2
theorem fX {f:Nat} {args:List VV} {lo:Nat} {H:aA} {K:VV→aA→Prop} (rZ:AQ.contains f=true) (h:kG f args lo H K):cB f args lo H K:=by
 unfold cB
 rw[if_pos rZ]
 exact h
theorem FC.call {f:Nat} {args gM:List VV} {R:Nat→VV→aA→Prop} {H:aA} {lo:Nat} {K:VV→aA→Prop} (h:FC f gM R) (rZ:AQ.contains f=true) (hf:args.mapM (fz depth H)=some gM) (hk:∀r L,R H.length r L→K r (H++L)):cB f args lo H K :=
 fX rZ ((h.raw hf).mono fun r H' ⟨L,h1,h2,_⟩=>by subst h1;exact hk r L h2)
theorem FC.adL {f:Nat} {args gM:List VV} {R:Nat→VV→aA→Prop} {H:aA} {lo:Nat} {K:VV→aA→Prop} (h:FC f gM R) (rZ:AQ.contains f=true) (hf:args.mapM (fz depth H)=some gM) (hk:∀r L,R H.length r L→fO H.length r=true→dA H.length L=true→K r (H++L)):cB f args lo H K :=
 fX rZ ((h.raw hf).mono fun r H' ⟨L,h1,h2,h3,h4⟩=>by subst h1;exact hk r L h2 h3 h4)
def EF (H K:aA):Prop:=K.length=H.length∧∀(b g:Nat) (es:List VV) (e:Nat) (w:Bool),K[b]? = some (.row g es e w)→H[b]? = some (.row g es e w)
theorem VR.kill {V:View} {K:aA} (hK:EF V.H K) {x:VV} {v:Value} (h:VR V x v):VR { V with H:=K } x v:=by
 induction h using VR.rec (motive_2:=fun xs vs _=>VL { V with H:=K } xs vs) with
 | any=>exact .any _
 | sc _ h=>exact .sc _ h
 | agg cs ps _ ih=>exact .agg _ _ ih
 | dY cs ps _ ih=>exact .dY _ _ ih
 | lS k hk=>exact .lS k hk
 | tree es k b o c r e p hF hb ho hc he hk _ ih=>exact .tree es k b o c r e p hF hb ho hc he hk ih
 | cO x off b o r e p hF hb ho _ ih=>exact .cO x off b o r e p hF hb ho ih
 |
  ref b g o n c a n' c' aV hg ha hq =>
  exact .ref b g o n c a n' c' (by show b<K.length;rw[hK.1];exact aV) (fun g' es e w hr=>hg g' es e w (hK.2 _ _ _ _ _ hr)) (fun es e w hr=>ha es e w (hK.2 _ _ _ _ _ hr)) fun a0 h=>⟨(hq a0 h).1,(hq a0 h).2.1,fun b' g' es e w hr=>(hq a0 h).2.2 b' g' es e w (hK.2 _ _ _ _ _ hr)⟩
 |
  ptr b g j off a aV hg ha hq =>
  exact .ptr b g j off a (by show b<K.length;rw[hK.1];exact aV) (fun g' es e w hr=>hg g' es e w (hK.2 _ _ _ _ _ hr)) (fun es e w hr=>ha es e w (hK.2 _ _ _ _ _ hr)) fun a0 h=>⟨(hq a0 h).1,(hq a0 h).2.1,fun b' g' es e w hr=>(hq a0 h).2.2 b' g' es e w (hK.2 _ _ _ _ _ hr)⟩
 | sY f eY ps _ ih=>exact .sY _ _ _ ih
 | nil=>exact .nil
 | cons x v xs vs _ _ ih Sk=>exact .cons _ _ _ _ ih Sk
theorem VL.kill {V:View} {K:aA} (hK:EF V.H K) {xs:List VV} {vs:List Value} (h:VL V xs vs):VL { V with H:=K } xs vs:=by
 induction xs generalizing vs with
 | nil=>cases h;exact .nil
 |
  cons x xs ih=>cases h with
  | cons _ v _ vs h hs=>exact .cons _ _ _ _ (h.kill hK) (ih hs)
theorem kG.kill {f:Nat} {args:List VV} {lo:Nat} {H:aA} {P P':VV→aA→Prop} (h:kG f args lo H P) (hk:∀v H',P v H'→∃K,EF H' K∧P' v K):kG f args lo H P':=by
 intro V dN dM hH hS hl
 obtain⟨pv,V',v,h1,h2,h3,h4,h5⟩:=h V dN dM hH hS hl
 obtain⟨K,hK,h6⟩:=hk _ _ h5
 refine⟨pv,{ V' with H:=K },v,h1,⟨fun b g es e w hb => ?_,fun b g es e hb=>h2.wr b g es e (hK.2 _ _ _ _ _ hb),fun a b g es e w g' lL e' w' ha hb hm=>h2.inj a b _ _ _ _ _ _ _ _ (hK.2 _ _ _ _ _ ha) (hK.2 _ _ _ _ _ hb) hm,h2.fr,h2.Q4,h2.IK⟩,
  { F:=h3.F,P:=h3.P,len:=by show V.H.length≤K.length;rw[hK.1];exact h3.len,row:=fun b g es e w aV hb=>h3.row b g es e w aV (hK.2 _ _ _ _ _ hb),IK:=h3.IK,Dj:=h3.Dj,AT:=fun b g es e w hb hm=>h3.AT b g es e w (hK.2 _ _ _ _ _ hb) hm,cL:=h3.cL,BM:=h3.BM },h4.kill hK,h6⟩
 obtain⟨r,p,j1,j2,j3⟩:=h2.row b g es e w (hK.2 _ _ _ _ _ hb)
 exact⟨r,p,j1,j2,j3.kill hK⟩
theorem FC.Qs {f:Nat} {pf:aT} {args:List VV} {R:Nat→VV→aA→Prop} (fl:Fl) (ht:gE f=some pf) (hn:args.length≤pf.ntmps)
  (h:∀n,VW fl n pf.body (zJ pf.res fun r H'=>∃L,EF H' (List.replicate n .dead++L)∧fO n r=true∧dA n L=true∧R n r L) (Hv args) (List.replicate n .dead)):FC f args R :=
 fun n=>(kG.walk fl ht hn (h n)).kill fun _ _ ⟨L,h1,h2,h3,h4⟩=>⟨_,h1,L,rfl,h2,h3,h4⟩
end Go.PM
namespace Go.PM
open Go.ChangeShapes Go.WideShapes Go.ChangeAt Go.RowKit
open Go.Proofs
def AL (W:World):Prop:=∃(rb:Nat) (arr:Array Value) (e:TypeId) (fz:Nat×Nat),W.heap[rb]? = some (.cells arr e fz)
structure AP (m m':cD) (H L:aE) (W:World) (cs Iq:List Value) (vs:List VV):Prop where
 inn:In m' (H++L) W
 ext:∀b l,m b=some l→m' b=some l
 len:Iq.length=cs.length
 rv:∀i,i<cs.length→RV m' (Iq.getD i Go.undef) (cs.getD i Go.undef)
 sc:∀v∈Iq,PM.fP v=true
 tree:VL (bare (· < (H++L).length) (H++L)) vs Iq
def MA {T:Type} (qL:TypeId×Value→T) (P:Program) (W:World) (t:TypeId) (k:Nat) (S:List VV→Prop):Prop :=
 ∀fuel cs y,DataW.trod qL P W 0 (fun _=>true) true fuel t cs=some y→∀(m:cD) (H:aE),In m H W→cs.length=k∧∃m' L Iq vs,AP m m' H L W cs Iq vs∧S vs
theorem VL.grow {H L:aE} {xs:List VV} {vs:List Value} (h:VL (bare (· < H.length) H) xs vs):VL (bare (· < (H++L).length) (H++L)) xs vs :=
 h.Cb fun b hb=>⟨by show b<_;rw[List.length_append];omega,List.getElem?_append_left hb⟩
theorem VL.app {V:View} {xs ys:List VV} {vs ws:List Value} (h:VL V xs vs) (h':VL V ys ws):VL V (xs++ys) (vs++ws):=by
 induction xs generalizing vs with
 | nil=>cases h;exact h'
 |
  cons x xs ih=>cases h with
  | cons _ v _ vs h hs=>exact .cons _ _ _ _ h (ih hs)
theorem GQ {cs ds:List Value} {i:Nat} (h:i<cs.length):(cs++ds).getD i Go.undef=cs.getD i Go.undef:=by
 simp only[List.getD_eq_getElem?_getD,List.getElem?_append_left h]
theorem Eg {cs ds:List Value} {i:Nat} (h:cs.length≤i):(cs++ds).getD i Go.undef=ds.getD (i-cs.length) Go.undef:=by
 simp only[List.getD_eq_getElem?_getD,List.getElem?_append_right h]
theorem AP.both {m m1 m2:cD} {H L1 L2:aE} {W:World} {cs Iq zG akP:List Value} {vs vs':List VV} (h:AP m m1 H L1 W cs Iq vs) (h':AP m1 m2 (H++L1) L2 W zG akP vs'):AP m m2 H (L1++L2) W (cs++zG) (Iq++akP) (vs++vs'):=by
 refine⟨by rw[←List.append_assoc];exact h'.inn,fun b l hb=>h'.ext _ _ (h.ext _ _ hb),by simp[h.len,h'.len],fun i hi => ?_,fun v hv => ?_,?_⟩
 ·rcases Nat.lt_or_ge i cs.length with aV | AF
  ·rw[GQ aV,GQ (by rw[h.len];exact aV)]
   exact(h.rv i aV).mono h'.ext
  ·rw[Eg AF,Eg (by rw[h.len];exact AF),h.len]
   exact h'.rv _ (by rw[List.length_append] at hi;omega)
 ·rcases List.mem_append.1 hv with hv | hv
  ·exact h.sc v hv
  ·exact h'.sc v hv
 ·rw[←List.append_assoc]
  exact h.tree.grow.app h'.tree
theorem AP.none {m:cD} {H:aE} {W:World} (hI:In m H W):AP m m H [] W [] [] [] :=
 ⟨by rw[List.append_nil];exact hI,fun _ _ h=>h,rfl,fun i hi=>absurd hi (Nat.not_lt_zero _),fun v hv=>(by cases hv),.nil⟩
theorem NJ {T:Type} {qL:TypeId×Value→T} {P:Program} {W:World} {t:TypeId} (ht:P.underlying t=some .string):MA qL P W t 1 (fun vs=>∃s:ByteArray,s.size≤maxLen∧vs=[.sc (.string s)]):=by
 intro fuel cs y h m H hI
 obtain⟨s,rfl,_,hs⟩:=DataW.trod_string ht h
 refine⟨rfl,m,[],[.string s],[.sc (.string s)],⟨by rw[List.append_nil];exact hI,fun _ _ h=>h,rfl,fun i hi => ?_,fun v hv => ?_,.cons _ _ _ _ (.sc _ rfl) .nil⟩,s,hs,rfl⟩
 ·have:i=0:=by simpa using hi
  subst this
  exact .str s
 ·rw[List.mem_singleton] at hv
  subst hv
  rfl
theorem Jt {T:Type} {qL:TypeId×Value→T} {P:Program} {W:World} {e:TypeId} {cF:Nat} {S:List VV→Prop} (ho:MA qL P W e cF S):∀(Q5:List (List Value)),(∀cs∈Q5,∃fuel y,DataW.trod qL P W 0 (fun _=>true) true fuel e cs=some y)→∀(m:cD) (H:aE),In m H W →
  ∃(m':cD) (L:aE) (Iq:List Value) (gs:List (List VV)),AP m m' H L W Q5.flatten Iq gs.flatten∧gs.length=Q5.length∧(∀g∈gs,S g)∧∀cs∈Q5,cs.length=cF
 | [],_,m,H,hI=>⟨m,[],[],[],AP.none hI,rfl,fun g hg=>(by cases hg),fun cs IN=>(by cases IN)⟩
 |
  cs::Q5,h,m,H,hI=>by
  obtain⟨fuel,y,hy⟩:=h cs List.mem_cons_self
  obtain⟨hl,m1,L1,apW,g,h1,hS⟩:=ho fuel cs y hy m H hI
  obtain⟨m2,L2,aqD,gs,h2,h3,h4,h5⟩:=Jt ho Q5 (fun cs IN=>h cs (List.mem_cons_of_mem _ IN)) m1 (H++L1) h1.inn
  refine⟨m2,L1++L2,apW++aqD,g::gs,?_,by simp[h3],fun g' Xn => ?_,fun zG agL => ?_⟩
  ·rw[List.flatten_cons,List.flatten_cons]
   exact h1.both h2
  ·rcases List.mem_cons.1 Xn with rfl | Xn
   ·exact hS
   ·exact h4 _ Xn
  ·rcases List.mem_cons.1 agL with rfl | agL
   ·exact hl
   ·exact h5 _ agL
theorem Ch {α:Type} {k:Nat}:∀ {ZG:List (List α)},(∀xs∈ZG,xs.length=k)→ZG.flatten.length=ZG.length*k
 | [],_=>by simp
 |
  xs::ZG,h=>by
  rw[List.flatten_cons,List.length_append,h xs List.mem_cons_self,Ch fun y hy=>h y (List.mem_cons_of_mem _ hy),List.length_cons,Nat.succ_mul,Nat.add_comm]
theorem E6 {α:Type} {k:Nat}:∀ {ZG:List (List α)} (n:Nat),(∀xs∈ZG,xs.length=k)→ZG.flatten.take (n*k)=(ZG.take n).flatten
 | [],n,_=>by simp
 | xs::ZG,0,_=>by simp
 |
  xs::ZG,n+1,h=>by
  have hl:=h xs List.mem_cons_self
  rw[List.flatten_cons,List.take_succ_cons,List.flatten_cons,←E6 n fun y hy=>h y (List.mem_cons_of_mem _ hy),show (n+1)*k=xs.length+n*k by rw[hl,Nat.succ_mul,Nat.add_comm],List.take_length_add_append]
theorem NV {k:Nat} (hk:1≤k) {Q5:List (List Value)} (h:∀cs∈Q5,cs.length=k) {i:Nat} (hi:i<Q5.length*k):∃cs,Q5[i / k]? = some cs∧Q5.flatten.getD i Go.undef=cs.getD (i % k) Go.undef:=by
 induction Q5 generalizing i with
 | nil=>simp at hi
 |
  cons cs Q5 ih =>
  have hl:=h cs List.mem_cons_self
  rw[List.flatten_cons]
  rcases Nat.lt_or_ge i k with aV | AF
  ·refine⟨cs,by rw[Nat.div_eq_of_lt aV];rfl,?_⟩
   rw[GQ (by omega),Nat.mod_eq_of_lt aV]
  ·obtain⟨c',h1,h2⟩:=ih (fun y hy=>h y (List.mem_cons_of_mem _ hy)) (i:=i-k) (by rw[List.length_cons,Nat.succ_mul] at hi;omega)
   have e1:i / k=(i-k) / k+1:=by rw[Nat.div_eq_sub_div (by omega) AF]
   have e2:i % k=(i-k) % k:=by rw[Nat.mod_eq_sub_mod AF]
   exact⟨c',by rw[e1];exact h1,by rw[Eg (by omega),hl,h2,e2]⟩
theorem Pe {T:Type} {qL:TypeId×Value→T} {α:Type} {f:α→VV} {KP:α→Prop} {P:Program} {W:World} {t e:TypeId} {cF:Nat} (ht:P.underlying t=some (.slice e)) (aeE:P.cellsOf e=cF) (pos:1≤cF) (hB:AL W)
  (hf:∀x,(aB (f x)).length=cF) (ho:MA qL P W e cF fun g=>∃x:α,KP x∧g=aB (f x)):MA qL P W t 1 fun vs=>∃xs:List α,xs.length≤maxLen∧(∀x∈xs,KP x)∧vs=[aZ f xs]:=by
 intro fuel cs y h m H hI
 rcases DataW.trod_slice ht h with⟨rfl,_⟩ | ⟨a,n,c,elems,rest,k,_,rfl,_,_,Tn,hmx,hlen,hE,hR,_⟩
 ·refine⟨rfl,m,[],[.slice none 0 0],[.tree [] .op],⟨by rw[List.append_nil];exact hI,fun _ _ h=>h,rfl,fun i hi => ?_,fun v hv => ?_,.cons _ _ _ _ (.lS _ (.inl rfl)) .nil⟩,[],Nat.zero_le _,fun x hx=>(by cases hx),rfl⟩
  ·have:i=0:=by simpa using hi
   subst this
   exact .Jg
  ·rw[List.mem_singleton] at hv
   subst hv
   rfl
 ·obtain⟨FF,hR⟩:=hR rfl
  have Mf:∀i,i<c→∃cs,W.cells? 0 (a.add (i*cF)) cF=some cs∧∃fuel y,DataW.trod qL P W 0 (fun _=>true) true fuel e cs=some y:=by
   intro i hi
   have key:∃y,(W.cells? 0 (a.add (i*P.cellsOf e)) (P.cellsOf e)).bind (DataW.trod qL P W 0 (fun _=>true) true k e)=some y:=by
    rcases Nat.lt_or_ge i n with cC | cC
    ·exact⟨elems[i]'(by omega),by rw[hE i cC];exact List.getElem?_eq_getElem _⟩
    ·have:=hR (i-n) (by omega)
     rw[show n+(i-n)=i by omega] at this
     exact⟨rest[i-n]'(by omega),by rw[this];exact List.getElem?_eq_getElem _⟩
   obtain⟨y,hy⟩:=key
   rw[Option.bind_eq_some_iff,aeE] at hy
   obtain⟨cs,h1,h2⟩:=hy
   exact⟨cs,h1,k,y,h2⟩
  obtain⟨Q5,mC,IN⟩:=Nj (fun i cs=>W.cells? 0 (a.add (i*cF)) cF=some cs∧∃fuel y,DataW.trod qL P W 0 (fun _=>true) true fuel e cs=some y) c Mf
  obtain⟨m1,L1,Iq,gs,hO,XV,hgS,aeC⟩:=Jt ho Q5 (fun cs hc=>by
   obtain⟨i,hi⟩:=List.getElem?_of_mem hc
   exact(IN i cs hi).2) m H hI
  obtain⟨xs,hxg,Ov⟩:∃xs:List α,(∀x∈xs,KP x)∧gs=xs.map fun x=>aB (f x):=by
   clear hO XV
   induction gs with
   | nil=>exact⟨[],fun x hx=>(by cases hx),rfl⟩
   |
    cons g gs ih =>
    obtain⟨xs,h1,h2⟩:=ih fun g hg=>hgS g (List.mem_cons_of_mem _ hg)
    obtain⟨x,h3,h4⟩:=hgS g List.mem_cons_self
    exact⟨x::xs,fun y hy=>by
     rcases List.mem_cons.1 hy with rfl | hy
     ·exact h3
     ·exact h1 y hy,by rw[List.map_cons,←h2,h4]⟩
  have hxl:xs.length=c:=by rw[←mC,←XV,Ov,List.length_map]
  have KS:Iq.length=c*cF:=by rw[hO.len,Ch aeC,mC]
  obtain⟨rb,base,arr,e',fz,Yw,On,Di⟩:∃(rb base:Nat) (arr:Array Value) (e':TypeId) (fz:Nat×Nat),W.heap[rb]? = some (.cells arr e' fz)∧(c=0→base=0)∧(c≠0→a=⟨rb,base,none⟩):=by
   by_cases h0:c=0
   ·obtain⟨rb,arr,e',fz,hb⟩:=hB
    exact⟨rb,0,arr,e',fz,hb,fun _=>rfl,fun h=>absurd h0 h⟩
   ·obtain⟨cs,h1,_⟩:=Mf 0 (by omega)
    have h2:=(World.cells?_some h1).2
    have h3:=h2.2 0 (by omega)
    rw[List.getElem?_eq_getElem (by omega)] at h3
    have:(a.add (0*cF)).add 0=a:=by simp[Addr.add]
    rw[this] at h3
    unfold World.cell? at h3
    split at h3
    ·rename_i arr e' fz hb
     split at h3
     ·cases h3
     ·rename_i QJ
      refine⟨a.block,a.off,arr,e',fz,hb,fun h=>absurd h h0,fun _ => ?_⟩
      obtain⟨b,o,sp⟩:=a
      cases sp with
      | none=>rfl
      | some x=>simp at QJ
    ·cases h3
  have Of:∀i,i<c*cF→W.cell? ⟨rb,base+i,none⟩=some (Q5.flatten.getD i Go.undef):=by
   intro i hi
   obtain⟨cs,h1,h2⟩:=NV pos aeC (i:=i) (by rw[mC];exact hi)
   have h0:c≠0:=by intro h0;rw[h0] at hi;simp at hi
   have ha:=Di h0
   have h3:=(World.cells?_some (IN _ _ h1).1).2
   have hr:i % cF<cF:=Nat.mod_lt _ pos
   have h4:=h3.2 (i % cF) hr
   have Ii:∀o k:Nat,(⟨rb,o,none⟩:Addr).add k=⟨rb,o+k,none⟩:=by
    intro o k
    unfold Addr.add
    split
    ·rename_i h0;subst h0;rfl
    ·rfl
   have VP:i / cF*cF+i % cF=i:=by rw[Nat.mul_comm];exact Nat.div_add_mod i cF
   rw[ha,Ii,Ii,Nat.add_assoc,VP] at h4
   rw[h2,List.getD_eq_getElem?_getD,h4]
   have aV:i % cF<cs.length:=by rw[h3.1];exact hr
   rw[List.getElem?_eq_getElem aV]
   rfl
  have nC:base+Iq.length≤arr.size:=by
   rw[KS]
   by_cases h0:c=0
   ·rw[On h0,h0];simp
   ·have IF:1≤c*cF:=Nat.mul_pos (by omega) pos
    have h3:=Of (c*cF-1) (by omega)
    unfold World.cell? at h3
    simp only[Yw,Option.isSome_none,Bool.false_eq_true,if_false] at h3
    have:=(Array.getElem?_eq_some_iff.1 h3).1
    omega
  have Ii:=hO.inn.add (cF:=cF) (cs:=Iq) (base:=base) Yw nC (fun i hi=>by
   rw[KS] at hi
   refine⟨_,Of i hi,(hO.rv i (by rw[Ch aeC,mC];exact hi)).mono (qC (hO.inn.MX (Nat.le_refl _))),?_⟩
   rw[List.getD_eq_getElem?_getD,List.getElem?_eq_getElem (by rw[KS];exact hi)]
   exact hO.sc _ (List.getElem_mem _))
  refine⟨rfl,_,L1++[.row Iq cF false],[.slice (some ⟨(H++L1).length,0,none⟩) n c],[aZ f (xs.take n)],⟨by rw[←List.append_assoc];exact Ii,fun b l hb=>qC (hO.inn.MX (Nat.le_refl _)) _ _ (hO.ext b l hb),rfl,fun i hi => ?_,fun v hv => ?_,?_⟩,xs.take n,by rw[List.length_take];omega,fun x hx=>hxg x (List.mem_of_mem_take hx),rfl⟩
  ·have:i=0:=by simpa using hi
   subst this
   refine .slice (H++L1).length 0 n c _ _ c (bI _ _ _) Tn (Nat.le_refl _) (fun _=>rfl) ?_
   by_cases h0:c=0
   ·exact .inl h0
   ·exact .inr ⟨by simpa using Di h0,by simpa[KS] using nC⟩
  ·rw[List.mem_singleton] at hv
   subst hv
   rfl
  ·rw[←List.append_assoc]
   refine .cons _ _ _ _ ?_ .nil
   have hl:(xs.take n).length=n:=by rw[List.length_take];omega
   have DS:∀g∈gs,g.length=cF:=fun g hg=>by
    obtain⟨x,_,rfl⟩:=hgS g hg
    exact hf x
   have key:=hO.tree.grow (L:=[Lb.row Iq cF false])
   have key:=key.take (n*cF)
   rw[E6 n DS,Ov,←List.map_take] at key
   have:=VR.tree (V:=bare (· < (H++L1++[Lb.row Iq cF false]).length) (H++L1++[Lb.row Iq cF false])) ((xs.take n).map f) .op (H++L1).length 0 c Iq cF false (by show (H++L1).length<_;simp) (by show (H++L1++[Lb.row Iq cF false])[(H++L1).length]? = _;rw[List.getElem?_append_right (Nat.le_refl _),Nat.sub_self];rfl)
    (by rw[List.length_map,hl,KS];simp only[Nat.zero_add];exact Nat.mul_le_mul_right _ Tn) (by rw[List.length_map,hl];exact Tn) (fun y hy=>by
     obtain⟨x,_,rfl⟩:=List.mem_map.1 hy
     exact hf x) trivial (by rw[List.length_map,hl,List.drop_zero,List.flatMap_map,List.flatMap_def];exact key)
   rw[List.length_map,hl] at this
   exact this
end Go.PM
namespace Go.PM
def mQ:aD:=(.seq (LS [LM 11 5,LM 12 0,LO 13 (.len (LT 12)),LO 14 (.bin .lss (LT 11) (LT 13))] (.cond (LT 14) .skip (.exit 0))) (.seq (.block 1 (LS [LM 17 0,LM 18 5,LO 19 (.iaddr 1 (LT 17) (LT 18)),LO 20 (LL 19),LM 21 1,LM 22 5,LO 23 (.iaddr 1 (LT 21) (LT 22)),LO 24 (LL 23),LO 25 (.bin .neq (LT 20) (LT 24))] (.cond (LT 25) (LS [LO 4 (.mv LF)] .ret) .skip))) (.cX [LM 15 5,LO 16 (.bin .add (LT 15) (LI 1)),LM 5 16])))
def sC:aD:=(LS [LO 4 (.mv LF)] (.seq (LS [LM 6 0,LO 7 (.len (LT 6)),LM 8 1,LO 9 (.len (LT 8)),LO 10 (.bin .neq (LT 7) (LT 9))] (.cond (LT 10) (LS [LO 4 (.mv LF)] .ret) .skip)) (.seq (LS [LO 5 (.mv (LI 0))] (.block 0 (.loop mQ))) (LS [LO 4 (.mv LG)] .ret))))
def vR:aT:=⟨26,[(.tmp 4)],sC⟩
theorem G7:gE 54=some vR:=by kernel_rfl
def jY:aD:=(.seq (LS [LM 6 5,LM 7 0,LO 8 (.len (LT 7)),LO 9 (.bin .lss (LT 6) (LT 8))] (.cond (LT 9) .skip (.exit 0))) (.seq (.block 1 (LS [LM 12 0,LM 13 5,LM 14 1,LO 15 (.call 130 [(LT 14)]),LO 16 (.iaddr 1 (LT 12) (LT 13)),LN (.store 1 (LT 16) (LT 15))] (.cX [LM 17 1,LO 18 (.bin .add (LT 17) (LI 1)),LM 1 18]))) (.cX [LM 10 5,LO 11 (.bin .add (LT 10) (LI 1)),LM 5 11])))
def pY:aD:=(LS [LO 4 (.mv (LI 0))] (.seq (LS [LO 5 (.mv (LI 0))] (.block 0 (.loop jY))) (LS [LM 19 1,LM 4 19] .ret)))
def sB:aT:=⟨20,[(.tmp 4)],pY⟩
theorem wM:gE 50=some sB:=by kernel_rfl
def oP:aD:=(.seq (LS [LM 6 5,LM 7 0,LO 8 (.len (LT 7)),LO 9 (.bin .lss (LT 6) (LT 8))] (.cond (LT 9) .skip (.exit 0))) (.seq (.block 1 (.seq (LS [LM 12 0,LM 13 5,LO 14 (.iaddr 1 (LT 12) (LT 13)),LO 15 (LL 14),LM 16 1,LQ 17 (.call 130 [(LT 16)]),LO 18 (.bin .neq (LT 15) (LT 17))] (.cond (LT 18) (LS [LO 4 (.mv (LI (-1)))] .ret) .skip)) (.cX [LM 19 1,LO 20 (.bin .add (LT 19) (LI 1)),LM 1 20]))) (.cX [LM 10 5,LO 11 (.bin .add (LT 10) (LI 1)),LM 5 11])))
def wO:aD:=(LS [LO 4 (.mv (LI 0))] (.seq (LS [LO 5 (.mv (LI 0))] (.block 0 (.loop oP))) (LS [LM 21 1,LM 4 21] .ret)))
def Ag:aT:=⟨22,[(.tmp 4)],wO⟩
theorem En:gE 57=some Ag:=by kernel_rfl
def mI:aD:=(.seq (LS [LM 12 5,LM 13 0,LO 14 (.len (LT 13)),LO 15 (.bin .lss (LT 12) (LT 14))] (.cond (LT 15) .skip (.exit 0))) (.seq (.block 1 (LS [LM 18 1,LM 19 0,LM 20 5,LO 21 (.iaddr 1 (LT 19) (LT 20)),LO 22 (LL 21),LO 23 (.slen (LT 22)),LO 24 (.bin .sub (LT 18) (LT 23)),LM 1 24] (LS [LM 25 1,LO 26 (.bin .lss (LT 25) (LI 0))] (.cond (LT 26) (LS [LO 4 (.mv (LI (-1)))] .ret) .skip)))) (.cX [LM 16 5,LO 17 (.bin .add (LT 16) (LI 1)),LM 5 17])))
def oK:aD:=(LS [LO 4 (.mv (LI 0))] (LS [LM 6 1,LM 7 0,LO 8 (.len (LT 7)),LO 9 (.bin .sub (LT 6) (LT 8)),LM 1 9] (.seq (LS [LM 10 1,LO 11 (.bin .lss (LT 10) (LI 0))] (.cond (LT 11) (LS [LO 4 (.mv (LI (-1)))] .ret) .skip)) (.seq (LS [LO 5 (.mv (LI 0))] (.block 0 (.loop mI))) (LS [LM 27 1,LM 4 27] .ret)))))
def rC:aT:=⟨28,[(.tmp 4)],oK⟩
theorem Aa:gE 41=some rC:=by kernel_rfl
def mE:aD:=(.seq (LS [LM 21 6,LM 22 0,LO 23 (.len (LT 22)),LO 24 (.bin .lss (LT 21) (LT 23))] (.cond (LT 24) .skip (.exit 0))) (.seq (.block 1 (.cX [LM 27 5,LM 28 6,LM 29 0,LM 30 6,LO 31 (.iaddr 1 (LT 29) (LT 30)),LO 32 (LL 31),LO 33 (.iaddr 1 (LT 27) (LT 28)),LN (.store 1 (LT 33) (LT 32))])) (.cX [LM 25 6,LO 26 (.bin .add (LT 25) (LI 1)),LM 6 26])))
def mR:aD:=(.seq (LS [LM 36 7,LM 37 5,LO 38 (.len (LT 37)),LO 39 (.bin .lss (LT 36) (LT 38))] (.cond (LT 39) .skip (.exit 2))) (.seq (.block 3 (.cX [LM 42 5,LM 43 7,LO 44 (.iaddr 1 (LT 42) (LT 43)),LN (.store 1 (LT 44) (.const (.string ⟨#[126,115,112,97,114,101,126]⟩)))])) (.cX [LM 40 7,LO 41 (.bin .add (LT 40) (LI 1)),LM 7 41])))
def nO:aD:=(LS [LO 4 (.mv (.const (.slice none 0 0)))] (.seq (LS [LM 8 1,LM 9 8,LY 9 10 (.mv (LT 0)),LY 9 11 (.len (LT 10)),LY 9 12 (.bin .eql (LT 11) (LI 0)),LO 13 (.pick (LT 9) (LT 12) LF)] (.cond (LT 13) (LS [LO 4 (.mv (.const (.slice none 0 0)))] .ret) .skip)) (LS [LM 14 0,LO 15 (.len (LT 14)),LM 16 0,LO 17 (.len (LT 16)),LO 18 (.call 118 [(LT 17)]),LO 19 (.bin .add (LT 15) (LT 18)),LO 20 (.make [(.string ⟨#[]⟩)] 16 (LT 19) (LT 19)),LM 5 20] (.seq (LS [LO 6 (.mv (LI 0))] (.block 0 (.loop mE))) (.seq (LS [LM 34 0,LO 35 (.len (LT 34)),LM 7 35] (.block 2 (.loop mR))) (LS [LM 45 5,LM 46 0,LO 47 (.len (LT 46)),LO 48 (.sub 1 (LT 45) none (some (LT 47)) none),LM 4 48] .ret))))))
def rS:aT:=⟨49,[(.tmp 4)],nO⟩
theorem GC:gE 43=some rS:=by kernel_rfl
def tP:aD:=(LS [LO 4 (.mv LF)] (LS [LM 6 1,LO 7 (.len (LT 6)),LM 8 1,LO 9 (.len (LT 8)),LO 10 (.call 118 [(LT 9)]),LO 11 (.bin .add (LT 7) (LT 10)),LM 5 11] (LS [LM 12 0,LO 13 (.len (LT 12)),LM 14 1,LO 15 (.len (LT 14)),LO 16 (.bin .eql (LT 13) (LT 15)),LM 17 16,LY 17 18 (.mv (LT 0)),LY 17 19 (.mv (LT 5)),LY 17 20 (.sub 1 (LT 18) none (some (LT 19)) none),LY 17 21 (.mv (LT 1)),LY 17 22 (.mv (LT 5)),LY 17 23 (.sub 1 (LT 21) none (some (LT 22)) none),⟨(some 24),(.call 54 [(LT 20),(LT 23)]),(some (17,true)),true,[]⟩,LO 25 (.pick (LT 17) (LT 24) LF),LM 4 25] .ret)))
def vY:aT:=⟨26,[(.tmp 4)],tP⟩
theorem B5:gE 45=some vY:=by kernel_rfl
def oI:aD:=(.seq (LS [LM 21 6,LM 22 0,LO 23 (.len (LT 22)),LO 24 (.bin .lss (LT 21) (LT 23))] (.cond (LT 24) .skip (.exit 0))) (.seq (.block 1 (.cX [LM 27 5,LM 28 6,LM 29 0,LM 30 6,LO 31 (.iaddr 1 (LT 29) (LT 30)),LO 32 (LL 31),LO 33 (.iaddr 1 (LT 27) (LT 28)),LN (.store 1 (LT 33) (LT 32))])) (.cX [LM 25 6,LO 26 (.bin .add (LT 25) (LI 1)),LM 6 26])))
def nT:aD:=(.seq (LS [LM 36 7,LM 37 5,LO 38 (.len (LT 37)),LO 39 (.bin .lss (LT 36) (LT 38))] (.cond (LT 39) .skip (.exit 2))) (.seq (.block 3 (.cX [LM 42 5,LM 43 7,LO 44 (.iaddr 1 (LT 42) (LT 43)),LN (.store 1 (LT 44) (LI (-7000000000000000101)))])) (.cX [LM 40 7,LO 41 (.bin .add (LT 40) (LI 1)),LM 7 41])))
def pJ:aD:=(LS [LO 4 (.mv (.const (.slice none 0 0)))] (.seq (LS [LM 8 1,LM 9 8,LY 9 10 (.mv (LT 0)),LY 9 11 (.len (LT 10)),LY 9 12 (.bin .eql (LT 11) (LI 0)),LO 13 (.pick (LT 9) (LT 12) LF)] (.cond (LT 13) (LS [LO 4 (.mv (.const (.slice none 0 0)))] .ret) .skip)) (LS [LM 14 0,LO 15 (.len (LT 14)),LM 16 0,LO 17 (.len (LT 16)),LO 18 (.call 118 [(LT 17)]),LO 19 (.bin .add (LT 15) (LT 18)),LO 20 (.make [(.int .i64 0)] 8 (LT 19) (LT 19)),LM 5 20] (.seq (LS [LO 6 (.mv (LI 0))] (.block 0 (.loop oI))) (.seq (LS [LM 34 0,LO 35 (.len (LT 34)),LM 7 35] (.block 2 (.loop nT))) (LS [LM 45 5,LM 46 0,LO 47 (.len (LT 46)),LO 48 (.sub 1 (LT 45) none (some (LT 47)) none),LM 4 48] .ret))))))
def tE:aT:=⟨49,[(.tmp 4)],pJ⟩
theorem HW:gE 52=some tE:=by kernel_rfl
def uM:aD:=(LS [LO 4 (.mv LF)] (LS [LM 6 1,LO 7 (.len (LT 6)),LM 8 1,LO 9 (.len (LT 8)),LO 10 (.call 118 [(LT 9)]),LO 11 (.bin .add (LT 7) (LT 10)),LM 5 11] (LS [LM 12 0,LO 13 (.len (LT 12)),LM 14 1,LO 15 (.len (LT 14)),LO 16 (.bin .eql (LT 13) (LT 15)),LM 17 16,LY 17 18 (.mv (LT 0)),LY 17 19 (.mv (LT 5)),LY 17 20 (.sub 1 (LT 18) none (some (LT 19)) none),LY 17 21 (.mv (LT 1)),LY 17 22 (.mv (LT 5)),LY 17 23 (.sub 1 (LT 21) none (some (LT 22)) none),⟨(some 24),(.call 133 [(LT 20),(LT 23)]),(some (17,true)),true,[]⟩,LO 25 (.pick (LT 17) (LT 24) LF),LM 4 25] .ret)))
def yJ:aT:=⟨26,[(.tmp 4)],uM⟩
theorem Dr:gE 55=some yJ:=by kernel_rfl
def qD:aD:=(.seq (LS [LM 6 5,LM 7 0,LO 8 (.len (LT 7)),LO 9 (.bin .lss (LT 6) (LT 8))] (.cond (LT 9) .skip (.exit 0))) (.seq (.block 1 (LS [LM 12 0,LM 13 5,LM 14 1,LO 15 (.iaddr 1 (LT 12) (LT 13)),LN (.store 1 (LT 15) (LT 14))] (.cX [LM 16 1,LO 17 (.bin .add (LT 16) (LI 1)),LM 1 17]))) (.cX [LM 10 5,LO 11 (.bin .add (LT 10) (LI 1)),LM 5 11])))
def yC:aD:=(LS [LO 4 (.mv (LI 0))] (.seq (LS [LO 5 (.mv (LI 0))] (.block 0 (.loop qD))) (LS [LM 18 1,LM 4 18] .ret)))
def Bm:aT:=⟨19,[(.tmp 4)],yC⟩
theorem FQ:gE 56=some Bm:=by kernel_rfl
def mP:aD:=(LS [LO 2 (.mv (LI 0))] (.seq (LS [LM 3 0,LO 4 (.bin .rem (LT 3) (LI 6)),LO 5 (.bin .eql (LT 4) (LI 5))] (.cond (LT 5) (LS [LO 2 (.mv (LI 0))] .ret) .skip)) (.seq (LS [LM 6 0,LO 7 (.bin .rem (LT 6) (LI 3)),LO 8 (.bin .eql (LT 7) (LI 0))] (.cond (LT 8) (LS [LO 2 (.mv (LI 1))] .ret) .skip)) (LS [LM 9 0,LM 2 9] .ret))))
def pL:aT:=⟨10,[(.tmp 2)],mP⟩
theorem Fx:gE 118=some pL:=by kernel_rfl
def sP:aD:=(.seq (LS [LM 6 0,LO 7 (.bin .gtr (LT 6) (LI 0))] (.cond (LT 7) .skip (.exit 0))) (.block 1 (LS [LM 8 0,LO 9 (.bin .rem (LT 8) (LI 10)),LO 10 (.bin .add (LI 48) (LT 9)),LO 11 (.cvt .u8 (LT 10)),LO 12 (.lit [(.int .u8 0)] 1 [(0,(LT 11))]),LO 13 (.b2s (LT 12)),LM 14 3,LO 15 (.bin .add (LT 13) (LT 14)),LM 3 15] (.cX [LM 16 0,LO 17 (.bin .quo (LT 16) (LI 10)),LM 0 17]))))
def tW:aD:=(LS [LO 2 (.mv (.const (.string ⟨#[]⟩)))] (.seq (LS [LM 4 0,LO 5 (.bin .leq (LT 4) (LI 0))] (.cond (LT 5) (LS [LO 2 (.mv (.const (.string ⟨#[109,48]⟩)))] .ret) .skip)) (LS [LO 3 (.mv (.const (.string ⟨#[]⟩)))] (.seq (.block 0 (.loop sP)) (LS [LM 18 3,LO 19 (.bin .add (.const (.string ⟨#[109]⟩)) (LT 18)),LM 2 19] .ret)))))
def zD:aT:=⟨20,[(.tmp 2)],tW⟩
theorem HZ:gE 130=some zD:=by kernel_rfl
def oH:aD:=(.seq (LS [LM 11 5,LM 12 0,LO 13 (.len (LT 12)),LO 14 (.bin .lss (LT 11) (LT 13))] (.cond (LT 14) .skip (.exit 0))) (.seq (.block 1 (LS [LM 17 0,LM 18 5,LO 19 (.iaddr 1 (LT 17) (LT 18)),LO 20 (LL 19),LM 21 1,LM 22 5,LO 23 (.iaddr 1 (LT 21) (LT 22)),LO 24 (LL 23),LO 25 (.bin .neq (LT 20) (LT 24))] (.cond (LT 25) (LS [LO 4 (.mv LF)] .ret) .skip))) (.cX [LM 15 5,LO 16 (.bin .add (LT 15) (LI 1)),LM 5 16])))
def uD:aD:=(LS [LO 4 (.mv LF)] (.seq (LS [LM 6 0,LO 7 (.len (LT 6)),LM 8 1,LO 9 (.len (LT 8)),LO 10 (.bin .neq (LT 7) (LT 9))] (.cond (LT 10) (LS [LO 4 (.mv LF)] .ret) .skip)) (.seq (LS [LO 5 (.mv (LI 0))] (.block 0 (.loop oH))) (LS [LO 4 (.mv LG)] .ret))))
def yP:aT:=⟨26,[(.tmp 4)],uD⟩
theorem Ir:gE 133=some yP:=by kernel_rfl
end Go.PM