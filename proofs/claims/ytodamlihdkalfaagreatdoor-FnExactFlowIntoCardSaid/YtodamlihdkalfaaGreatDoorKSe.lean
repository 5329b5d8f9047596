/- Texts of a claim, in one: part 5. -/
import Derived.KernelRfl
import Derived.Test.YtodamlihdkalfaaGreatDoorKSd
set_option linter.unusedSimpArgs false
set_option linter.unusedVariables false
namespace Go.PM
def VT (f:Nat) (args:List VV) (r:VV):Prop :=
 ∀(F:Nat→Prop) (P:aE) (dV:List Value) (dS:Nat),(∀b,F b→b<P.length)→VL (bare F P) args dV→dS≤P.length →
  ∃P' pv,qP f dV dS P=some (pv,P')∧P <+: P'∧VR (bare (fun q=>F q∨(P.length≤q∧q<P'.length)) P') r pv
def OD (lo dS:Nat) (V:View) (r:Option (Value×aE)) (K:VV→aA→Prop):Prop :=
 ∃pv V' v,r=some (pv,V'.P)∧SR V' lo dS∧Eh lo V V'∧VR V' v pv∧K v V'.H
def oO (f:Nat) (args:List VV) (lo:Nat) (H:aA) (K:VV→aA→Prop):Prop :=
 ∀(V:View) (dS:Nat) (dV:List Value),V.H=H→SR V lo dS→VL V args dV→OD lo dS V (qP f dV dS V.P) K
theorem oO.mono {f:Nat} {args:List VV} {lo:Nat} {H:aA} {K K':VV→aA→Prop} (hk:∀v H,K v H→K' v H) (h:oO f args lo H K):oO f args lo H K':=by
 intro V dS dV hH hS hl
 obtain⟨pv,V',v,h1,h2,h3,h4,h5⟩:=h V dS dV hH hS hl
 exact⟨pv,V',v,h1,h2,h3,h4,hk _ _ h5⟩
theorem VT.uniq {f:Nat} {args:List VV} {r r':VV} (h:VT f args r) (h':VT f args r') (ha:aJ args=true) (hr:eQ r=true) (G7:eQ r'=true):r=r':=by
 obtain⟨P,ps,_,hl⟩:=MJ args ha []
 obtain⟨P',pv,h1,_,h2⟩:=h (· < P.length) P ps 0 (fun _ h=>h) hl (Nat.zero_le _)
 obtain⟨Wm,pv',h3,_,h4⟩:=h' (· < P.length) P ps 0 (fun _ h=>h) hl (Nat.zero_le _)
 rw[h1] at h3
 injection h3 with h3
 injection h3 with h3 h5
 subst h3 h5
 exact h2.uniq h4 hr G7
open Classical in
noncomputable def vT (f:Nat) (args:List VV):Option VV:=if h:∃r,aJ args=true∧eQ r=true∧VT f args r then some (Classical.choose h) else none
theorem NK {f:Nat} {args:List VV} {r:VV} (h:vT f args=some r):aJ args=true∧eQ r=true∧VT f args r:=by
 unfold vT at h
 split at h
 ·rename_i hx
  cases h
  exact Classical.choose_spec hx
 ·cases h
theorem aeP {f:Nat} {args:List VV} {r:VV} (ha:aJ args=true) (hr:eQ r=true) (h:VT f args r):vT f args=some r:=by
 have hx:∃r,aJ args=true∧eQ r=true∧VT f args r:=⟨r,ha,hr,h⟩
 unfold vT
 rw[dif_pos hx]
 obtain⟨_,h2,h3⟩:=Classical.choose_spec hx
 rw[h3.uniq h ha h2 hr]
def tk (r:Option VV) (K:VV→Prop):Prop:=match r with
 | some r=>K r
 | none=>False
noncomputable def FE (f:Nat) (args:List VV) (K:VV→Prop):Prop:=tk (vT f args) K
noncomputable def cT (f:Nat) (args:List VV) (lo:Nat) (H:aA) (K:VV→aA→Prop):Prop :=
 if C0.contains f=true then oO f args lo H K
 else if aJ args=true then FE f args fun r=>K r H
 else match args.mapM (fz depth H) with
  | some kL=>FE f kL fun r=>if Ix r=true then K r H else K r (cM H (args.flatMap (jE depth H)))
  | none=>False
noncomputable def dW (fl:Fl) (lo:Nat) (q:Bool) (op:nE) (ρ:cP) (H:aA) (K:VV→aA→Prop):Prop :=
 match op with
 | .call f args=>cT f (args.map (eG ρ)) (if q then H.length else lo) H K
 |
  .callv fv args=>match eG ρ fv with
  | .uG f fS=>cT f (args.map (eG ρ)++fS) (if q then H.length else lo) H K
  | _=>False
 |
  o=>match vop fl lo o ρ H with
  | some (v,H')=>K v H'
  | none=>False
noncomputable def VS (fl:Fl) (lo:Nat):List PI→(cP→aA→Prop)→cP→aA→Prop
 | [],K,ρ,H=>K ρ H
 |
  i::is,K,ρ,H=>match BH i.g ρ with
  | none=>False
  | some false=>VS fl lo is K (I2 ρ i.dst pI) H
  | some true=>i.cf.all (cC ρ H)=true∧dW fl lo i.quiet i.op ρ H fun v H'=>VS fl lo is K (I2 ρ i.dst v) H'
def abD:List Nat→cP→aA→Option (cP×aA)
 | [],ρ,H=>some (ρ,H)
 |
  t::ts,ρ,H=>match fz depth H (ρ t) with
  | some v=>abD ts (I2 ρ (some t) v) (cM H (jE depth H (ρ t)))
  | none=>none
def Jb (r:Option VV) (H:aA) (K:VV→aA→Prop):Prop:=match r with
 | some v=>K v H
 | none=>False
def gh (K:cP→aA→Prop) (ρ:cP) (H:aA):Prop:=∃ts aZ H',abD ts ρ H=some (aZ,H')∧K aZ H'
def iW (k:Nat) (H:aA):Bool:=H.all fun
 | .row _ es _ _=>lH k es
 | .dead=>true
def EV (k:Nat) (ρ:cP):cP:=fun t=>Eg k (ρ t)
abbrev VQ:=Ex→cP→aA→Prop
def mV (K:cP→aA→Prop) (Q:VQ):VQ
 | .normal=>K
 | x=>Q x
def Ai (id:Nat) (Q:VQ):VQ
 | .exit PF=>fun ρ H=>if PF=id then Q .normal ρ H else Q (.exit PF) ρ H
 | x=>Q x
def Rc (body:VQ→cP→aA→Prop) (Q:VQ):Nat→cP→aA→Prop
 | 0,_,_=>False
 | n+1,ρ,H=>body (mV (fun aZ H'=>Rc body Q n aZ H'∨(iW H.length (H'.take H.length)=true∧Rc body Q n (EV H.length aZ) (H'.take H.length))) Q) ρ H
noncomputable def VW (fl:Fl) (lo:Nat):aD→VQ→cP→aA→Prop
 | .skip,Q,ρ,H=>Q .normal ρ H
 | .dT ops,Q,ρ,H=>VS fl lo ops (Q .normal) ρ H
 | .seq a b,Q,ρ,H=>VW fl lo a (mV (VW fl lo b Q) Q) ρ H
 |
  .cond c a b,Q,ρ,H=>match eG ρ c with
  | .sc (.bool t)=>if t=true then VW fl lo a Q ρ H else VW fl lo b Q ρ H
  | _=>False
 | .block id a,Q,ρ,H=>VW fl lo a (Ai id Q) ρ H
 | .loop a,Q,ρ,H=>∃n,Rc (VW fl lo a) (fun x=>gh (Q x)) n ρ H
 | .exit id,Q,ρ,H=>Q (.exit id) ρ H
 | .ret,Q,ρ,H=>Q .ret ρ H
def CU (ρ:cP) (H:aA):AX→Option VV
 | .tmp t=>some (ρ t)
 | .cell t agg size=>dN agg size (ρ t) H
def oP (ρ:cP) (H:aA):List AX→Option (List VV)
 | []=>some []
 |
  r::rs=>match CU ρ H r,oP ρ H rs with
  | some v,some vs=>some (v::vs)
  | _,_=>none
def mF (res:List AX) (ρ:cP) (H:aA):Option VV :=
 match oP ρ H res with
 | some [v]=>some v
 | some vs=>some (.dL vs)
 | none=>none
def Gn (R:VV→aA→Prop):Option VV→aA→Prop
 | some v,H=>R v H
 | none,_=>False
def Aq (res:List AX) (R:VV→aA→Prop):VQ
 | .exit _,_,_=>False
 | .normal,ρ,H=>Gn R (mF res ρ H) H
 | .ret,ρ,H=>Gn R (mF res ρ H) H
def HR (args:List VV):cP:=fun k=>args.getD k pI
section
variable {lo dS:Nat}
theorem Ey {V:View} (hS:SR V lo dS) {P':aE} (hp:V.P <+: P'):SR { V with P:=P',F:=fun q=>V.F q∨(V.P.length≤q∧q<P'.length) } lo dS∧Eh lo V { V with P:=P',F:=fun q=>V.F q∨(V.P.length≤q∧q<P'.length) }:=by
 obtain⟨L,rfl⟩:=hp
 have hU:Up V { V with P:=V.P++L,F:=fun q=>V.F q∨(V.P.length≤q∧q<(V.P++L).length) }:=⟨fun _ h => .inl h,fun b hb=>List.getElem?_append_left (hS.fr b hb),Nat.le_refl _,fun b g es e w _ h=>⟨g,es,w,h,Nat.le_refl _,fun _=>rfl⟩,rfl,by simp,fun b g es e w hb _=>⟨g,es,w,hb,rfl,id⟩⟩
 refine⟨⟨fun b g es e w hb => ?_,fun b g es e hb=>⟨fun hF => ?_,(hS.wr b g es e hb).2⟩,hS.inj,fun b hb => ?_,by have:=hS.RF;simp;omega,by have:=hS.Jf;simp;omega⟩,{ hU with eI:=fun q hq _=>List.getElem?_append_left hq,Cd:=fun q hq => ?_ }⟩
 ·obtain⟨r,p,h1,h2,h3⟩:=hS.row b g es e w hb
  exact⟨r,p,by rw[←h1];exact List.getElem?_append_left (hS.mlt hb),h2,h3.mono hU⟩
 ·rcases hF with hF | hF
  ·exact(hS.wr b g es e hb).1 hF
  ·have h1:=hS.mlt hb
   have h2:V.P.length≤V.m b:=hF.1
   omega
 ·rcases hb with hb | hb
  ·have:=hS.fr b hb
   simp;omega
  ·exact hb.2
 ·rcases hq with hq | hq
  ·exact .inl hq
  ·exact .inr (.inl hq.1)
theorem ZH {V V':View} {x:VV} {v:Value} (h:VR V x v):Ix x=true→VR V' x v:=by
 induction h using VR.rec (motive_2:=fun xs vs _=>PX xs=true→VL V' xs vs) with
 | sc _ h=>intro _;exact .sc _ h
 | agg cs ps _ ih=>intro hx;exact .agg _ _ (ih hx)
 | dL cs ps _ ih=>intro hx;exact .dL _ _ (ih hx)
 | any=>intro hx;cases hx
 | nG=>intro hx;cases hx
 | tree=>intro hx;cases hx
 | cK=>intro hx;cases hx
 | ref=>intro hx;cases hx
 | ptr=>intro hx;cases hx
 | uG=>intro hx;cases hx
 | nil=>exact .nil
 |
  cons x v xs vs _ _ ih RQ =>
  rename_i hx
  simp only[PX,Bool.and_eq_true] at hx
  exact .cons _ _ _ _ (ih hx.1) (RQ hx.2)
theorem VR.Dj {V':View} {G:Nat→Prop} {P:aE} {x:VV} {v:Value} (hF:∀b,G b→V'.F b∧V'.P[b]? = P[b]?) (h:VR (bare G P) x v):VR V' x v:=by
 induction h using VR.rec (motive_2:=fun xs vs _=>VL V' xs vs) with
 | any=>exact .any _
 | sc _ h=>exact .sc _ h
 | agg cs ps _ ih=>exact .agg _ _ ih
 | dL cs ps _ ih=>exact .dL _ _ ih
 | nG k hk=>exact .nG k hk
 | tree es k b o c r e p Sp hb ho hc he hk _ ih=>exact .tree es k b o c r e p (hF _ Sp).1 (by rw[(hF _ Sp).2];exact hb) ho hc he hk ih
 | cK x off b o r e p Sp hb ho _ ih=>exact .cK x off b o r e p (hF _ Sp).1 (by rw[(hF _ Sp).2];exact hb) ho ih
 | ref b g o n c a n' c' bD hg ha hq=>exact absurd bD (Nat.not_lt_zero _)
 | ptr b g j off a bD hg ha hq=>exact absurd bD (Nat.not_lt_zero _)
 | uG f fS ps _ ih=>exact .uG _ _ _ ih
 | nil=>exact .nil
 | cons x v xs vs _ _ ih RQ=>exact .cons _ _ _ _ ih RQ
theorem PT {V:View} (hS:SR V lo dS) {f abG:Nat} (aaQ:abG≤V.P.length) {args:List VV} {dV:List Value} {G:Nat→Prop} (hG:∀b,G b→b<V.P.length) (hl:VL (bare G V.P) args dV) {K:VV→Prop} (h:FE f args K) :
  ∃P' pv r,qP f dV abG V.P=some (pv,P')∧V.P <+: P'∧VR (bare (fun q=>G q∨(V.P.length≤q∧q<P'.length)) P') r pv∧aM r=true∧K r:=by
 unfold FE tk at h
 split at h
 ·rename_i r hr
  obtain⟨h1,h2,h3⟩:=NK hr
  obtain⟨P',pv,h4,h5,h6⟩:=h3 G V.P dV abG hG hl aaQ
  exact⟨P',pv,r,h4,h5,h6,Qx r h2,h⟩
 ·cases h
theorem Fe {V:View} (hS:SR V lo dS) {f:Nat} {args:List VV} {dV:List Value} (hl:VL V args dV) {q:Bool} {K:VV→aA→Prop} (h:cT f args (if q then V.H.length else lo) V.H K):OD lo dS V (qP f dV (if q then V.P.length else dS) V.P) K:=by
 have hlq:(if q=true then V.P.length else dS)≤V.P.length:=by split;exact Nat.le_refl _;exact hS.RF
 unfold cT at h
 split at h
 ·cases q with
  | false=>exact h V dS dV rfl hS hl
  |
   true =>
   have hS':SR V V.H.length V.P.length:=⟨hS.row,fun b g es e hb=>⟨(hS.wr b g es e hb).1,fun hl=>by have:=(List.getElem?_eq_some_iff.1 hb).1;omega⟩,hS.inj,hS.fr,Nat.le_refl _,hS.Jf⟩
   obtain⟨pv,V',r,g1,g3,g4,g5,g6⟩:=h V V.P.length dV rfl hS' hl
   refine⟨pv,V',r,g1,⟨g3.row,fun b g es e hb=>⟨(g3.wr b g es e hb).1,fun Eo => ?_⟩,g3.inj,g3.fr,Nat.le_trans hS.RF g4.DV,g3.Jf⟩,{ g4.toUp with eI:=fun p hp _=>g4.eI p hp fun b g es e hb Eo => ?_,Cd:=g4.Cd },g5,g6⟩
   ·rcases Nat.lt_or_ge (V'.m b) V.P.length with bD | DT
    ·obtain⟨g0,es0,w0,k1,k2,k3⟩:=g4.BB b g es e true hb bD
     have:=k3 rfl
     subst this
     rw[k2]
     exact(hS.wr _ _ _ _ k1).2 Eo
    ·exact Nat.le_trans hS.RF DT
   ·have:=(List.getElem?_eq_some_iff.1 hb).1
    have Eo:V.H.length≤b:=Eo
    omega
 ·split at h
  ·rename_i hp
   obtain⟨P',pv,r,g1,g2,g3,g4,g5⟩:=PT hS (abG:=if q=true then V.P.length else dS) hlq (G:=V.F) hS.fr (VL.pure (V:=V) (V':=bare V.F V.P) (fun b hb=>⟨hb,rfl⟩) hl hp) h
   obtain⟨k1,k2⟩:=Ey hS g2
   exact⟨pv,_,r,g1,k1,k2,g3.Dj (fun b hb=>⟨hb,rfl⟩),g5⟩
  ·split at h
   case h_2=>cases h
   rename_i kL hfz
   unfold FE tk at h
   split at h
   case h_2=>cases h
   rename_i r hr
   obtain⟨h1,h2,h3⟩:=NK hr
   split at h
   ·rename_i hfl
    have zA:=DK hS (G:=(· < V.P.length)) (fun q hq=>hS.fr q hq) hl hfz (fun i _ g es e w hb=>hS.mlt hb)
    obtain⟨P',pv,g1,g2,g3⟩:=h3 _ V.P dV _ (fun _ h=>h) zA hlq
    obtain⟨k1,k2⟩:=Ey hS g2
    exact⟨pv,_,r,g1,k1,k2,ZH g3 hfl,h⟩
   ·obtain⟨k1,k2,k3,k4,k5,k6⟩:=vI (args.flatMap (jE depth V.H)) hS
    have zA:=DK hS (G:=(V.cM (args.flatMap (jE depth V.H))).F) (fun q hq=>k2.F q hq) hl hfz k6
    rw[←k4] at zA
    obtain⟨P',pv,g1,g2,g3⟩:=h3 _ _ dV _ k1.fr zA (by rw[k4];exact hlq)
    obtain⟨j1,j2⟩:=Ey k1 g2
    rw[k4] at g1
    refine⟨pv,_,r,g1,j1,k2.trans j2,g3.Dj (fun b hb=>⟨hb,rfl⟩),?_⟩
    show K r (V.cM (args.flatMap (jE depth V.H))).H
    rw[k3]
    exact h
def Ak (lo dS:Nat) (V:View) (c:aD) (Q:VQ) (kH:Env):Prop :=
 W dS c (fun x Ls P'=>∃V' aZ,V'.P=P'∧SR V' lo dS∧Eh lo V V'∧ER V' aZ Ls∧Q x aZ V'.H) kH V.P
theorem FI {V:View} {ρ:cP} {kH:Env} (hE:ER V ρ kH) {g:Option (Nat×Bool)} {t:Bool} (h:BH g ρ=some t):zI g kH=some t:=by
 unfold BH at h
 unfold zI
 split at h
 ·exact h
 ·rename_i t' want
  have ht:=hE t'
  split at h
  ·rename_i b hb
   obtain⟨e,_⟩:=qJ ht hb
   simp only[e]
   exact h
  ·rename_i vs hb
   rw[hb] at ht
   generalize hu:kH t'=u at ht
   cases ht with
   | dL cs ps hl=>simp only[hu];exact h
  ·cases h
theorem S8 {V:View} (hS:SR V lo dS) {x y:VV} {u w:Value} (hx:VR V x u) (hy:VR V y w) (h:dJ V.H x y=true):amT u w=true:=by
 have key:∀ {z:VV} {v:Value},VR V z v→(match gR V.H z with
   | .bad=>True
   | .no=>jG v=none
   | .row i wr=>jG v=some (V.m i)∧∃g es e,V.H[i]? = some (.row g es e wr)
   | .BB i=>∀q,jG v=some q→∀b' g' es e w,V.H[b']? = some (.row g' es e w)→b'≠i→V.m b'≠q
   | .tree=>∀b,jG v=some b→V.F b):=by
  intro z v hz
  cases hz with
  | any=>simp only[gR]
  | sc v h =>
      cases v<;>first | rfl | cases h | skip
      rename_i a;cases a<;>first | rfl | cases h
  | agg=>rfl
  | dL=>rfl
  | nG k hk =>
       rcases hk with rfl | rfl
       ·intro b hb;cases hb
       ·rfl
  |
   tree es k b o c r e p hF hb ho hc he hk hl =>
   cases es with
   |
    nil=>cases k with
    | nil=>exact hk.elim
    | op=>intro b' yY;cases yY;exact hF
    | cl=>intro b' yY;cases yY;exact hF
   | cons=>intro b' yY;cases yY;exact hF
  | cK x off b o r e p hF hb ho hl=>intro b' yY;cases yY;exact hF
  |
   ref b g o n c a n' c' bD hg ha hq =>
   simp only[gR]
   cases hr:aP V.H b g with
   | none=>exact fun q h=>(by
     cases a with
     | none=>cases h
     | some a0=>cases h;exact(hq a0 rfl).2.2)
   |
    some q =>
    obtain⟨es,e,wr⟩:=q
    rw[cN] at hr
    obtain⟨rfl,rfl,rfl⟩:=ha _ _ _ hr
    exact⟨rfl,g,es,e,hr⟩
  |
   ptr b g j off a bD hg ha hq =>
   simp only[gR]
   cases hr:aP V.H b g with
   | none=>exact fun q h=>(by
     cases a with
     | none=>cases h
     | some a0=>cases h;exact(hq a0 rfl).2.2)
   |
    some q =>
    obtain⟨es,e,wr⟩:=q
    rw[cN] at hr
    have:=ha _ _ _ hr
    subst this
    exact⟨rfl,g,es,e,hr⟩
  | uG=>rfl
 have kx:=key hx
 have ky:=key hy
 unfold dJ at h
 unfold amT
 cases hbx:gR V.H x with
 | bad=>rw[hbx] at h;have h:false=true:=h;cases h
 |
  no =>
  rw[hbx] at kx
  have kx:jG u=none:=kx
  rw[kx]
 |
  BB i =>
  rw[hbx] at kx h
  have kx:∀q,jG u=some q→∀b' g' es e w,V.H[b']? = some (.row g' es e w)→b'≠i→V.m b'≠q:=kx
  cases Pz:gR V.H y with
  | bad=>rw[Pz] at h;have h:false=true:=h;cases h
  |
   no =>
   rw[Pz] at ky
   have ky:jG w=none:=ky
   rw[ky]
   cases jG u<;>rfl
  | BB j=>rw[Pz] at h;have h:false=true:=h;cases h
  | tree=>rw[Pz] at h;have h:false=true:=h;cases h
  |
   row j wj =>
   rw[Pz] at ky h
   obtain⟨k3,g2,Ym,e2,k4⟩:jG w=some (V.m j)∧∃g es e,V.H[j]? = some (.row g es e wj):=ky
   have h:(i != j)=true:=h
   simp only[bne_iff_ne,ne_eq] at h
   rw[k3]
   cases hu:jG u with
   | none=>rfl
   |
    some q =>
    simp only[bne_iff_ne,ne_eq]
    exact fun hm=>kx q hu j _ _ _ _ k4 (Ne.symm h) hm.symm
 |
  row i wi =>
  rw[hbx] at kx h
  obtain⟨k1,g1,BW,e1,k2⟩:jG u=some (V.m i)∧∃g es e,V.H[i]? = some (.row g es e wi):=kx
  cases Pz:gR V.H y with
  | bad=>rw[Pz] at h;have h:false=true:=h;cases h
  |
   no =>
   rw[Pz] at ky
   have ky:jG w=none:=ky
   rw[ky]
   cases jG u<;>rfl
  |
   BB j =>
   rw[Pz] at ky h
   have ky:∀q,jG w=some q→∀b' g' es e w,V.H[b']? = some (.row g' es e w)→b'≠j→V.m b'≠q:=ky
   have h:(i != j)=true:=h
   simp only[bne_iff_ne,ne_eq] at h
   rw[k1]
   cases hw:jG w with
   | none=>rfl
   |
    some q =>
    simp only[bne_iff_ne,ne_eq]
    exact fun hm=>ky q hw i _ _ _ _ k2 h hm
  |
   row j wj =>
   rw[Pz] at ky h
   obtain⟨k3,g2,Ym,e2,k4⟩:jG w=some (V.m j)∧∃g es e,V.H[j]? = some (.row g es e wj):=ky
   rw[k1,k3]
   have h:(i != j)=true:=h
   simp only[bne_iff_ne,ne_eq] at h ⊢
   exact fun hm=>h (hS.inj _ _ _ _ _ _ _ _ _ _ k2 k4 hm)
  |
   tree =>
   rw[Pz] at ky h
   have ky:∀b,jG w=some b→V.F b:=ky
   have h:wi=true:=h
   subst h
   cases hw:jG w with
   | none=>rw[k1]
   |
    some b =>
    rw[k1]
    simp only[bne_iff_ne,ne_eq]
    exact fun hm=>(hS.wr _ _ _ _ k2).1 (by rw[hm];exact ky b hw)
 |
  tree =>
  rw[hbx] at kx h
  have kx:∀b,jG u=some b→V.F b:=kx
  cases Pz:gR V.H y with
  | bad=>rw[Pz] at h;have h:false=true:=h;cases h
  |
   no =>
   rw[Pz] at ky
   have ky:jG w=none:=ky
   rw[ky]
   cases jG u<;>rfl
  | tree=>rw[Pz] at h;have h:false=true:=h;cases h
  | BB j=>rw[Pz] at h;have h:false=true:=h;cases h
  |
   row j wj =>
   rw[Pz] at ky h
   obtain⟨k1,g1,BW,e1,k2⟩:jG w=some (V.m j)∧∃g es e,V.H[j]? = some (.row g es e wj):=ky
   have h:wj=true:=h
   subst h
   cases hw:jG u with
   | none=>rfl
   |
    some b =>
    rw[k1]
    simp only[bne_iff_ne,ne_eq]
    exact fun hm=>(hS.wr _ _ _ _ k2).1 (by rw[←hm];exact kx b hw)
theorem Rw {V:View} (hS:SR V lo dS) {ρ:cP} {kH:Env} (hE:ER V ρ kH) {fl:Fl} {q:Bool} {op:nE} {K:VV→aA→Prop} (h:dW fl lo q op ρ V.H K):OD lo dS V (jU dS q op kH V.P) K:=by
 have other:∀ {v H'},vop fl lo op ρ V.H=some (v,H')→K v H'→OD lo dS V (jU dS q op kH V.P) K:=by
  intro v H' h1 h2
  obtain⟨pv,V',g1,g2,g3,g4,g5⟩:=Vo hS hE (q:=q) h1
  exact⟨pv,V',v,g1,g3,g4,g5,by rw[g2];exact h2⟩
 unfold dW at h
 split at h
 ·rw[VC]
  exact Fe hS (hE.evs _) h
 ·rename_i fv args
  rw[Sa]
  have hf:=hE.ev fv
  split at h
  ·rename_i f fS hfv
   rw[hfv] at hf
   generalize ev kH fv=u at hf ⊢
   cases hf with
   |
    uG f fS ps hl =>
    unfold X9
    simp only[List.nil_append]
    exact Fe hS ((hE.evs args).append hl) h
  ·cases h
 ·split at h
  ·rename_i v H' h1
   exact other h1 h
  ·cases h
theorem KZ {fl:Fl} {K:cP→aA→Prop}:∀(is:List PI) {V:View} {ρ:cP} {kH:Env},SR V lo dS→ER V ρ kH→VS fl lo is K ρ V.H →
  WS dS is (fun Ls P'=>∃V' aZ,V'.P=P'∧SR V' lo dS∧Eh lo V V'∧ER V' aZ Ls∧K aZ V'.H) kH V.P
 |
  [],V,ρ,kH,hS,hE,h=>by
  rw[aiS]
  exact⟨V,ρ,rfl,hS,Eh.refl _ _,hE,h⟩
 |
  i::is,V,ρ,kH,hS,hE,h=>by
  unfold VS at h
  rw[amX]
  unfold yZ
  split at h
  ·cases h
  ·rename_i hw
   rw[FI hE hw]
   exact⟨_,_,rfl,KZ is hS (hE.put (.dL [] [] .nil)) h⟩
  ·rename_i hw
   rw[FI hE hw]
   obtain⟨OY,h⟩:=h
   have asY:i.cf.all (AN kH)=true:=by
    rw[List.all_eq_true] at OY ⊢
    intro c hc
    exact S8 hS (hE.ev c.1) (hE.ev c.2) (OY c hc)
   simp only[asY,if_true]
   obtain⟨pv,V',v,g1,g2,g3,g4,g5⟩:=Rw hS hE h
   refine⟨pv,V'.P,?_,?_⟩
   ·unfold jU at g1
    exact g1
   ·obtain⟨UJ,Wm,k1,PB,zC,k2,k3,k4,k5,k6⟩:=KZ is g2 ((hE.mono g3.toUp).put g4) g5
    exact⟨UJ,Wm,k1,PB,zC,k2,k3,g3.trans k4,k5,k6⟩
theorem JO:∀(ts:List Nat) {V:View} {ρ aZ:cP} {kH:Env} {H':aA},SR V lo dS→ER V ρ kH→abD ts ρ V.H=some (aZ,H')→∃V',V'.P=V.P∧V'.H=H'∧SR V' lo dS∧Eh lo V V'∧ER V' aZ kH
 |
  [],V,ρ,aZ,kH,H',hS,hE,h=>by
  cases h
  exact⟨V,rfl,rfl,hS,Eh.refl _ _,hE⟩
 |
  t::ts,V,ρ,aZ,kH,H',hS,hE,h=>by
  unfold abD at h
  split at h
  case h_2=>cases h
  rename_i v hv
  obtain⟨k1,k2,k3,k4,k5,k6⟩:=vI (jE depth V.H (ρ t)) hS
  have hx:=Ka hS (G:=(V.cM (jE depth V.H (ρ t))).F) (fun q hq=>k2.F q hq) depth (ρ t) v (kH t) (hE t) hv k6
  have G6:VR (V.cM (jE depth V.H (ρ t))) v (kH t):=hx.Dj (fun b hb=>⟨hb,by rw[k4]⟩)
  rw[←k3] at h
  obtain⟨V',g1,g2,g3,g4,g5⟩:=JO ts (kH:=kH) k1 (by
   have e:=(hE.mono k2.toUp).put (d:=some t) G6
   have ee:put kH (some t) (kH t)=kH:=by
    funext k
    simp only[put]
    split
    ·rename_i hk;rw[hk]
    ·rfl
   rw[ee] at e
   exact e) h
  exact⟨V',g1.trans k4,g2,g3,k2.trans g4,g5⟩
theorem Qc {V:View} (hS:SR V lo dS) {ρ:cP} {kH:Env} (hE:ER V ρ kH) {K:cP→aA→Prop} (h:gh K ρ V.H):∃V' aZ,V'.P=V.P∧SR V' lo dS∧Eh lo V V'∧ER V' aZ kH∧K aZ V'.H:=by
 obtain⟨ts,aZ,H',h1,h2⟩:=h
 obtain⟨V',g1,g2,g3,g4,g5⟩:=JO ts hS hE h1
 exact⟨V',aZ,g1,g3,g4,g5,by rw[g2];exact h2⟩
theorem Kz {k:Nat} {es:List VV}:lH k es=true↔∀x∈es,below k x=true:=by
 induction es with
 | nil=>simp[lH]
 | cons x xs ih=>simp[lH,ih]
theorem CH {k:Nat} {es:List VV} (h:lH k es=true):lH k (es.flatMap aB)=true:=by
 rw[Kz] at h ⊢
 intro x hx
 obtain⟨y,hy,Ap⟩:=List.mem_flatMap.1 hx
 have:=h y hy
 unfold aB at Ap
 split at Ap
 ·exact Kz.1 (by simpa[below] using this) x Ap
 ·rw[List.mem_singleton] at Ap;subst Ap;exact this
theorem Rn {k:Nat} {x:VV} (h:below k x=true):lH k (aB x)=true:=by
 have:=CH (k:=k) (es:=[x]) (by simp[lH,h])
 simpa using this
def View.zW (V:View) (k:Nat):View:={ V with H:=V.H.take k }
theorem VR.zW {V:View} {k:Nat} (hk:k≤V.H.length) {x:VV} {v:Value} (h:VR V x v):PM.below k x=true→VR (V.zW k) x v:=by
 have he:∀ {b:Nat},b<k→∀y,(V.zW k).H[b]? = some y→V.H[b]? = some y:=fun TI y hy=>by
  have:(V.H.take k)[_]? = some y:=hy
  rw[List.getElem?_take,if_pos TI] at this
  exact this
 have hT:∀ {b:Nat} {y:fU},(V.zW k).H[b]? = some y→V.H[b]? = some y:=fun {b y} hy=>by
  have h:(V.H.take k)[b]? = some y:=hy
  rw[List.getElem?_take] at h
  split at h
  ·exact h
  ·cases h
 induction h using VR.rec (motive_2:=fun xs vs _=>lH k xs=true→VL (V.zW k) xs vs) with
 | any=>intro _;exact .any _
 | sc _ h=>intro _;exact .sc _ h
 | agg cs ps _ ih=>intro hb;exact .agg _ _ (ih hb)
 | dL cs ps _ ih=>intro hb;exact .dL _ _ (ih hb)
 | nG k hk=>intro _;exact .nG k hk
 | tree es k b o c r e p Sp vB ho hc he hk' _ ih=>intro hb;exact .tree es k b o c r e p Sp vB ho hc he hk' (ih (CH hb))
 | cK x off b o r e p Sp vB ho _ ih=>intro hb;exact .cK x off b o r e p Sp vB ho (ih (Rn hb))
 |
  ref b g o n c a n' c' bD hg ha hq =>
  intro hb
  have TI:b<k:=by simpa[PM.below] using hb
  exact .ref b g o n c a n' c' (by show b<(V.H.take k).length;simp;omega) (fun g' es e w hr=>hg _ _ _ _ (he TI _ hr)) (fun es e w hr=>ha _ _ _ (he TI _ hr)) fun a0 h=>⟨(hq a0 h).1,(hq a0 h).2.1,fun b' g' es e w hr=>(hq a0 h).2.2 b' g' es e w (hT hr)⟩
 |
  ptr b g j off a bD hg ha hq =>
  intro hb
  have TI:b<k:=by simpa[PM.below] using hb
  exact .ptr b g j off a (by show b<(V.H.take k).length;simp;omega) (fun g' es e w hr=>hg _ _ _ _ (he TI _ hr)) (fun es e w hr=>ha _ _ _ (he TI _ hr)) fun a0 h=>⟨(hq a0 h).1,(hq a0 h).2.1,fun b' g' es e w hr=>(hq a0 h).2.2 b' g' es e w (hT hr)⟩
 | uG f fS ps _ ih=>intro hb;exact .uG _ _ _ (ih hb)
 | nil=>exact .nil
 |
  cons x v xs vs _ _ ih RQ =>
  rename_i hb
  simp only[lH,Bool.and_eq_true] at hb
  exact .cons _ _ _ _ (ih hb.1) (RQ hb.2)
theorem VL.zW {V:View} {k:Nat} (hk:k≤V.H.length) {xs:List VV} {vs:List Value} (h:VL V xs vs) (hb:lH k xs=true):VL (V.zW k) xs vs:=by
 induction xs generalizing vs with
 | nil=>cases h;exact .nil
 |
  cons x xs ih=>cases h with
  |
   cons _ v _ vs h hs =>
   simp only[lH,Bool.and_eq_true] at hb
   exact .cons _ _ _ _ (h.zW hk hb.1) (ih hs hb.2)
theorem QW {V V':View} (hS:SR V' lo dS) {ρ:cP} {kH:Env} (hE:ER V' ρ kH) (hx:Eh lo V V') (hr:iW V.H.length (V'.H.take V.H.length)=true) :
  SR (V'.zW V.H.length) lo dS∧Eh lo V (V'.zW V.H.length)∧ER (V'.zW V.H.length) (EV V.H.length ρ) kH:=by
 have hk:=hx.len
 have get:∀ {b:Nat} {y:fU},(V'.zW V.H.length).H[b]? = some y→V'.H[b]? = some y:=by
  intro b y h
  have h:(V'.H.take V.H.length)[b]? = some y:=h
  rw[List.getElem?_take] at h
  split at h
  ·exact h
  ·cases h
 refine⟨⟨fun b g es e w hb => ?_,fun b g es e hb=>hS.wr b g es e (get hb),fun a b g es e w g' mO e' w' ha hb hm=>hS.inj a b _ _ _ _ _ _ _ _ (get ha) (get hb) hm,hS.fr,hS.RF,hS.Jf⟩,
  { F:=hx.F,P:=hx.P,len:=by show V.H.length≤(V'.H.take V.H.length).length;simp;omega,row:=fun b g es e w bD hb=>hx.row b g es e w bD (get hb),Jf:=hx.Jf,DV:=hx.DV,BB:=fun b g es e w hb hm=>hx.BB b g es e w (get hb) hm,eI:=hx.eI,Cd:=hx.Cd },fun t => ?_⟩
 ·obtain⟨r,p,h1,h2,h3⟩:=hS.row b g es e w (get hb)
  refine⟨r,p,h1,h2,h3.zW hk (CH ?_)⟩
  have:=List.all_eq_true.1 hr _ (List.mem_of_getElem? (show (V'.H.take V.H.length)[b]? = some _ from hb))
  exact this
 ·unfold EV Eg
  split
  ·rename_i hb
   exact(hE t).zW hk hb
  ·exact .any _
theorem Q2 {c:aD} {Q:Ex→Env→aE→Prop} {ρ:Env} {H:aE} (h:W dS c (akQ (fun aZ H'=>W dS (.loop c) Q aZ H') Q) ρ H):W dS (.loop c) Q ρ H:=by
 obtain⟨x,aZ,H',h1,h2⟩:=h
 unfold W
 rw[Wd,h1]
 cases x with
 |
  normal =>
  obtain⟨y,zC,H'',h3,h4⟩:=h2
  exact⟨y,zC,H'',h3,h4⟩
 | exit i=>exact⟨_,_,_,rfl,h2⟩
 | ret=>exact⟨_,_,_,rfl,h2⟩
theorem uY {fl:Fl}:∀(c:aD) {V:View} {ρ:cP} {kH:Env} {Q:VQ},SR V lo dS→ER V ρ kH→VW fl lo c Q ρ V.H→Ak lo dS V c Q kH
 |
  .skip,V,ρ,kH,Q,hS,hE,h=>by
  unfold Ak
  rw[agW]
  exact⟨V,ρ,rfl,hS,Eh.refl _ _,hE,h⟩
 |
  .exit id,V,ρ,kH,Q,hS,hE,h=>by
  unfold Ak
  rw[ahP]
  exact⟨V,ρ,rfl,hS,Eh.refl _ _,hE,h⟩
 |
  .ret,V,ρ,kH,Q,hS,hE,h=>by
  unfold Ak
  rw[alE]
  exact⟨V,ρ,rfl,hS,Eh.refl _ _,hE,h⟩
 |
  .dT ops,V,ρ,kH,Q,hS,hE,h=>by
  unfold Ak
  rw[alC]
  exact KZ ops hS hE h
 |
  .seq a b,V,ρ,kH,Q,hS,hE,h=>by
  unfold Ak
  rw[akY]
  refine(uY a hS hE h).mono ?_
  rintro x Ls P' ⟨V',aZ,rfl,g2,g3,g4,g5⟩
  cases x with
  |
   normal =>
   refine(uY b g2 g4 g5).mono ?_
   rintro y UJ Wm ⟨PB,zC,k1,k2,k3,k4,k5⟩
   exact⟨PB,zC,k1,k2,g3.trans k3,k4,k5⟩
  | exit i=>exact⟨V',aZ,rfl,g2,g3,g4,g5⟩
  | ret=>exact⟨V',aZ,rfl,g2,g3,g4,g5⟩
 |
  .cond c a b,V,ρ,kH,Q,hS,hE,h=>by
  unfold Ak
  rw[agY]
  unfold VW at h
  split at h
  ·rename_i t hc
   obtain⟨e,_⟩:=qJ (hE.ev c) hc
   refine⟨t,e,fun ht => ?_,fun ht => ?_⟩
   ·rw[if_pos ht] at h
    exact uY a hS hE h
   ·rw[if_neg (by simp[ht])] at h
    exact uY b hS hE h
  ·cases h
 |
  .block id a,V,ρ,kH,Q,hS,hE,h=>by
  unfold Ak
  rw[adP]
  refine(uY a hS hE h).mono ?_
  rintro x Ls P' ⟨V',aZ,rfl,g2,g3,g4,g5⟩
  cases x with
  | normal=>exact⟨V',aZ,rfl,g2,g3,g4,g5⟩
  |
   exit i =>
   rw[Gx]
   have g5:if i=id then Q .normal aZ V'.H else Q (.exit i) aZ V'.H:=g5
   split at g5
   ·rename_i hi
    rw[if_pos hi]
    exact⟨V',aZ,rfl,g2,g3,g4,g5⟩
   ·rename_i hi
    rw[if_neg hi]
    exact⟨V',aZ,rfl,g2,g3,g4,g5⟩
  | ret=>exact⟨V',aZ,rfl,g2,g3,g4,g5⟩
 |
  .loop a,V,ρ,kH,Q,hS,hE,h=>by
  obtain⟨n,h⟩:=h
  have key:∀n {V:View} {ρ:cP} {kH:Env},SR V lo dS→ER V ρ kH→Rc (VW fl lo a) (fun x=>gh (Q x)) n ρ V.H→Ak lo dS V (.loop a) Q kH:=by
   intro n
   induction n with
   | zero=>intro V ρ kH _ _ h;cases h
   |
    succ n ih =>
    intro V ρ kH hS hE h
    unfold Ak
    refine Q2 ?_
    refine(uY a hS hE h).mono ?_
    rintro x Ls P' ⟨V',aZ,rfl,g2,g3,g4,g5⟩
    cases x with
    |
     normal =>
     rcases g5 with g5 | ⟨g5,g6⟩
     ·refine(ih g2 g4 g5).mono ?_
      rintro y UJ Wm ⟨PB,zC,k1,k2,k3,k4,k5⟩
      exact⟨PB,zC,k1,k2,g3.trans k3,k4,k5⟩
     ·obtain⟨t1,t2,t3⟩:=QW g2 g4 g3 g5
      refine(ih t1 t3 g6).mono ?_
      rintro y UJ Wm ⟨PB,zC,k1,k2,k3,k4,k5⟩
      exact⟨PB,zC,k1,k2,t2.trans k3,k4,k5⟩
    |
     exit i =>
     obtain⟨PB,zC,k1,k2,k3,k4,k5⟩:=Qc g2 g4 g5
     exact⟨PB,zC,k1,k2,g3.trans k3,k4,k5⟩
    |
     ret =>
     obtain⟨PB,zC,k1,k2,k3,k4,k5⟩:=Qc g2 g4 g5
     exact⟨PB,zC,k1,k2,g3.trans k3,k4,k5⟩
  exact key n hS hE h
theorem wG {V:View} (hS:SR V lo dS) {ρ:cP} {kH:Env} (hE:ER V ρ kH) {res:List AX} {v:VV} (h:mF res ρ V.H=some v):∃pv,qI res kH V.P=some pv∧VR V v pv:=by
 have one:∀ {r:AX} {v:VV},CU ρ V.H r=some v→∃pv,TM kH V.P r=some pv∧VR V v pv:=by
  intro r v h
  cases r with
  | tmp t=>cases h;exact⟨_,rfl,hE t⟩
  | cell t agg size=>exact K8 hS (hE t) h
 have all:∀ {rs:List AX} {vs:List VV},oP ρ V.H rs=some vs→∃ps,BJ kH V.P rs=some ps∧VL V vs ps:=by
  intro rs
  induction rs with
  | nil=>intro vs h;cases h;exact⟨[],rfl,.nil⟩
  |
   cons r rs ih =>
   intro vs h
   unfold oP at h
   split at h
   ·rename_i v vs' h1 h2
    cases h
    obtain⟨pv,k1,k2⟩:=one h1
    obtain⟨ps,k3,k4⟩:=ih h2
    exact⟨pv::ps,by unfold BJ;rw[k1,k3],.cons _ _ _ _ k2 k4⟩
   ·cases h
 unfold mF at h
 split at h
 ·rename_i v' hv
  cases h
  obtain⟨ps,k1,k2⟩:=all hv
  cases k2 with
  |
   cons _ pv _ _ hx O0 =>
   cases O0
   exact⟨pv,by unfold qI;rw[k1],hx⟩
 ·rename_i vs fR hv
  cases h
  obtain⟨ps,k1,k2⟩:=all hv
  refine⟨.tuple ps.toArray,?_,.dL _ _ k2⟩
  unfold qI
  rw[k1]
  split
  ·rename_i pv he
   injection he with he
   subst he
   cases k2 with
   | cons x _ _ _ hx O0=>cases O0;exact absurd rfl (fR x)
  ·rename_i he
   injection he with he
   rw[he]
  ·rename_i he;cases he
 ·cases h
theorem Rf {V:View} {args:List VV} {dV:List Value} (h:VL V args dV):ER V (HR args) (Wi dV):=by
 intro t
 unfold HR Wi
 rw[List.getD_eq_getElem?_getD,List.getD_eq_getElem?_getD]
 cases hx:args[t]? with
 |
  none =>
  have:dV[t]? = none:=by
   rw[List.getElem?_eq_none_iff] at hx ⊢
   rw[h.length]
   exact hx
  rw[this]
  exact .dL [] [] .nil
 |
  some x =>
  obtain⟨v,h1,h2⟩:=h.get hx
  rw[h1]
  exact h2
theorem oO.walk {f:Nat} {pf:aV} {args:List VV} {H:aA} {K:VV→aA→Prop} (fl:Fl) (ht:gT f=some pf) (ha:args.length≤pf.ntmps) (h:VW fl lo pf.body (Aq pf.res K) (HR args) H):oO f args lo H K:=by
 intro V dS dV hH hS hl
 subst hH
 obtain⟨x,Ls,P',h1,V',aZ,rfl,g2,g3,g4,g5⟩:=uY pf.body hS (Rf hl) h
 have key:∃pv Wm,qP f dV dS V.P=some (pv,Wm)∧Wm=V'.P∧∃r,VR V' r pv∧K r V'.H:=by
  refine ZX ht (by rw[hl.length];exact ha) ?_
  refine⟨x,Ls,V'.P,h1,?_⟩
  cases x with
  | exit i=>exact g5.elim
  |
   normal =>
   simp only[Aq,Gn] at g5
   split at g5
   ·rename_i v hv
    obtain⟨pv,k2,k3⟩:=wG g2 g4 hv
    exact⟨pv,k2,rfl,v,k3,g5⟩
   ·cases g5
  |
   ret =>
   simp only[Aq,Gn] at g5
   split at g5
   ·rename_i v hv
    obtain⟨pv,k2,k3⟩:=wG g2 g4 hv
    exact⟨pv,k2,rfl,v,k3,g5⟩
   ·cases g5
 obtain⟨pv,Wm,k1,rfl,r,k2,k3⟩:=key
 exact⟨pv,V',r,k1,g2,g3,k2,k3⟩
theorem VT.walk {f:Nat} {pf:aV} {args:List VV} {r:VV} (fl:Fl) (ht:gT f=some pf) (ha:args.length≤pf.ntmps) (h:VW fl 0 pf.body (Aq pf.res fun v H=>fz depth H v=some r) (HR args) []):VT f args r:=by
 intro F P dV dS hF hl aaQ
 have hS:SR (bare F P) 0 dS:=⟨fun b g es e w hb=>by simp[bare] at hb,fun b g es e hb=>by simp[bare] at hb,fun a b g es e w g' mO e' w' ha=>by simp[bare] at ha,hF,aaQ,Nat.zero_le _⟩
 obtain⟨x,Ls,P',h1,V',aZ,rfl,g2,g3,g4,g5⟩:=uY pf.body hS (Rf hl) h
 have fin:∀ {v:VV} {pv:Value},VR V' v pv→fz depth V'.H v=some r→VR (bare (fun q=>F q∨(P.length≤q∧q<V'.P.length)) V'.P) r pv:=by
  intro v pv hv hf
  refine Ka g2 (fun q hq => ?_) depth v r pv hv hf fun i _ g es e w hr => ?_
  ·rcases g3.Cd q hq with h | h | ⟨b,g,es,e,w,h,_⟩
   ·exact .inl h
   ·exact .inr ⟨h,g2.fr q hq⟩
   ·simp[bare] at h
  ·rcases Nat.lt_or_ge (V'.m i) P.length with bD | DT
   ·obtain⟨g0,es0,w0,k1,_⟩:=g3.BB i g es e w hr bD
    simp[bare] at k1
   ·exact .inr ⟨DT,g2.mlt hr⟩
 have key:∃pv Wm,qP f dV dS P=some (pv,Wm)∧Wm=V'.P∧VR (bare (fun q=>F q∨(P.length≤q∧q<V'.P.length)) V'.P) r pv:=by
  refine ZX ht (by rw[hl.length];exact ha) ?_
  refine⟨x,Ls,V'.P,h1,?_⟩
  cases x with
  | exit i=>exact g5.elim
  |
   normal =>
   simp only[Aq,Gn] at g5
   split at g5
   ·rename_i v hv
    obtain⟨pv,k2,k3⟩:=wG g2 g4 hv
    exact⟨pv,k2,rfl,fin k3 g5⟩
   ·cases g5
  |
   ret =>
   simp only[Aq,Gn] at g5
   split at g5
   ·rename_i v hv
    obtain⟨pv,k2,k3⟩:=wG g2 g4 hv
    exact⟨pv,k2,rfl,fin k3 g5⟩
   ·cases g5
 obtain⟨pv,Wm,k1,rfl,k3⟩:=key
 refine⟨V'.P,pv,k1,?_,k3⟩
 refine⟨V'.P.drop P.length,List.ext_getElem? fun i => ?_⟩
 rcases Nat.lt_or_ge i P.length with hi | hi
 ·rw[List.getElem?_append_left hi]
  exact(g3.eI i hi fun b g es e hb=>by simp[bare] at hb).symm
 ·rw[List.getElem?_append_right hi,List.getElem?_drop,show P.length+(i-P.length)=i by omega]
end
end Go.PM
namespace Go.PM
section
variable {fl:Fl} {lo:Nat} {ρ:cP} {H:aA} {Q:VQ} {K:cP→aA→Prop} {k:VV→aA→Prop} {a b:aD} {d:Option Nat} {is:List PI} {q:Bool} {op:nE}
def PR (fl:Fl) (lo:Nat) (d:Option Nat) (is:List PI) (K:cP→aA→Prop) (ρ:cP):VV→aA→Prop:=fun v H'=>VS fl lo is K (I2 ρ d v) H'
def NL (r:Option (VV×aA)) (k:VV→aA→Prop):Prop:=match r with
 | some (v,H')=>k v H'
 | none=>False
theorem Nv {v:VV} {H':aA}:PR fl lo d is K ρ v H'=VS fl lo is K (I2 ρ d v) H':=rfl
theorem PW {v:VV}:Jb (some v) H k=k v H:=rfl
theorem ML {v:VV} {H':aA}:NL (some (v,H')) k=k v H':=rfl
theorem abU {r:VV} {K:VV→Prop}:tk (some r) K=K r:=rfl
theorem TP:VW fl lo .skip Q ρ H=Q .normal ρ H:=rfl
theorem UW {i:Nat}:VW fl lo (.exit i) Q ρ H=Q (.exit i) ρ H:=rfl
theorem YR:VW fl lo .ret Q ρ H=Q .ret ρ H:=rfl
theorem Yr {ops:List PI}:VW fl lo (.dT ops) Q ρ H=VS fl lo ops (Q .normal) ρ H:=rfl
theorem Y2:VW fl lo (.seq a b) Q ρ H=VW fl lo a (mV (VW fl lo b Q) Q) ρ H:=rfl
theorem Qj {i:Nat}:VW fl lo (.block i a) Q ρ H=VW fl lo a (Ai i Q) ρ H:=rfl
theorem Um {c:Operand} {t:Bool} (h:eG ρ c = .sc (.bool t)):VW fl lo (.cond c a b) Q ρ H=if t=true then VW fl lo a Q ρ H else VW fl lo b Q ρ H:=by
 simp only[VW,h]
theorem B6:mV K Q .normal=K:=rfl
theorem Er {i:Nat}:mV K Q (.exit i)=Q (.exit i):=rfl
theorem Fy:mV K Q .ret=Q .ret:=rfl
theorem D9 {i:Nat}:Ai i Q .normal=Q .normal:=rfl
theorem C8 {i j:Nat}:Ai i Q (.exit j) ρ H=if j=i then Q .normal ρ H else Q (.exit j) ρ H:=rfl
theorem KK {i:Nat}:Ai i Q .ret=Q .ret:=rfl
theorem Gj {res:List AX} {R:VV→aA→Prop}:Aq res R .normal ρ H=Gn R (mF res ρ H) H:=rfl
theorem Me {res:List AX} {R:VV→aA→Prop}:Aq res R .ret ρ H=Gn R (mF res ρ H) H:=rfl
theorem JF {R:VV→aA→Prop} {v:VV}:Gn R (some v) H=R v H:=rfl
theorem Qk {t:Nat}:mF [.tmp t] ρ H=some (ρ t):=rfl
theorem Qi {t u:Nat}:mF [.tmp t,.tmp u] ρ H=some (.dL [ρ t,ρ u]):=rfl
theorem KN {t u v:Nat}:mF [.tmp t,.tmp u,.tmp v] ρ H=some (.dL [ρ t,ρ u,ρ v]):=rfl
theorem MY:mF [] ρ H=some (.dL []):=rfl
theorem YM:VS fl lo [] K ρ H=K ρ H:=rfl
theorem aeR:VS fl lo (⟨d,op,none,q,[]⟩::is) K ρ H=dW fl lo q op ρ H (PR fl lo d is K ρ):=by
 simp only[VS,BH,List.all_nil,true_and]
 rfl
theorem dU {c:Operand×Operand} {cs:List (Operand×Operand)}:VS fl lo (⟨d,op,none,q,c::cs⟩::is) K ρ H=((c::cs).all (cC ρ H)=true∧dW fl lo q op ρ H (PR fl lo d is K ρ)):=by
 simp only[VS,BH]
 rfl
theorem QQ {t:Nat} {want x:Bool} {cf:List (Operand×Operand)} (h:ρ t = .sc (.bool x)):VS fl lo (⟨d,op,some (t,want),q,cf⟩::is) K ρ H =
  if (x == want)=true then (cf.all (cC ρ H)=true∧dW fl lo q op ρ H (PR fl lo d is K ρ)) else VS fl lo is K (I2 ρ d pI) H:=by
 simp only[VS,BH,h]
 cases (x == want)<;>rfl
theorem YW {t:Nat} {want:Bool} (h:ρ t = .sc (.bool want)):VS fl lo (⟨d,op,some (t,want),q,[]⟩::is) K ρ H=dW fl lo q op ρ H (PR fl lo d is K ρ):=by
 rw[QQ h]
 simp
theorem aeG {t:Nat} {want:Bool} {cf:List (Operand×Operand)} (h:ρ t = .sc (.bool (!want))):VS fl lo (⟨d,op,some (t,want),q,cf⟩::is) K ρ H=VS fl lo is K (I2 ρ d pI) H:=by
 rw[QQ h]
 cases want<;>rfl
theorem UL {c:Operand} (h:eG ρ c = .sc (.bool true)):VW fl lo (.cond c a b) Q ρ H=VW fl lo a Q ρ H:=by
 rw[Um h,if_pos rfl]
theorem QF {c:Operand} (h:eG ρ c = .sc (.bool false)):VW fl lo (.cond c a b) Q ρ H=VW fl lo b Q ρ H:=by
 rw[Um h,if_neg (by decide)]
theorem HU {t:Nat} {want:Bool} {cf:List (Operand×Operand)} (h:ρ t=pI):VS fl lo (⟨d,op,some (t,want),q,cf⟩::is) K ρ H=VS fl lo is K (I2 ρ d pI) H:=by
 simp only[VS,BH,h,pI]
theorem uX {d t:Nat} {v:VV}:I2 ρ (some d) v t=if t=d then v else ρ t:=rfl
theorem M5 {v:VV}:I2 ρ none v=ρ:=rfl
theorem TO {t:Nat}:eG ρ (.tmp t)=ρ t:=rfl
theorem Na {v:Value}:eG ρ (.const v)=inj v:=rfl
theorem Pd {f:Nat}:eG ρ (.func f) = .uG f []:=rfl
theorem UC {k:IntKind} {n:Int}:inj (.int k n) = .sc (.int k n):=rfl
theorem Pb {t:Bool}:inj (.bool t) = .sc (.bool t):=rfl
theorem TG {s:ByteArray}:inj (.string s) = .sc (.string s):=rfl
theorem UP:inj (.slice none 0 0) = .tree [] .nil:=rfl
theorem UK {cs:Array Value}:inj (.agg cs) = .agg (cs.toList.map jI):=rfl
theorem P7 {k:IntKind} {n:Int}:jI (.int k n) = .sc (.int k n):=rfl
theorem M1 {t:Bool}:jI (.bool t) = .sc (.bool t):=rfl
theorem PH {s:ByteArray}:jI (.string s) = .sc (.string s):=rfl
theorem Rp:jI (.slice none 0 0) = .tree [] .nil:=rfl
theorem Yk {x:Operand}:dW fl lo q (.mv x) ρ H k=k (eG ρ x) H:=rfl
theorem iG {r:Option VV}:(match r.map (fun v=>(v,H)) with | some (v,H')=>k v H' | none=>False)=Jb r H k:=by cases r<;>rfl
theorem O7 {c x y:Operand}:dW fl lo q (.pick c x y) ρ H k=Jb (QD (eG ρ c) (eG ρ x) (eG ρ y)) H k:=iG
theorem TD {o:BinOp} {x y:Operand}:dW fl lo q (.bin o x y) ρ H k=Jb (Gr (dF o) (eG ρ x) (eG ρ y)) H k:=iG
theorem TT {n:Bool} {x y:Operand}:dW fl lo q (.eqb n x y) ρ H k=Jb (Gr (Oy n) (eG ρ x) (eG ρ y)) H k:=iG
theorem Mf {n:Bool} {x:Operand}:dW fl lo q (.isnil n x) ρ H k=Jb (E4 n (eG ρ x) H) H k:=iG
theorem Mr {n:Bool} {ks:List CK} {x y:Operand}:dW fl lo q (.eqagg n ks x y) ρ H k=Jb (S7 n ks (eG ρ x) (eG ρ y)) H k:=iG
theorem ZB {o:UnOp} {x:Operand}:dW fl lo q (.un o x) ρ H k=Jb (KT (Y5 o) (eG ρ x)) H k:=iG
theorem Ug {o:IntKind} {x:Operand}:dW fl lo q (.cvt o x) ρ H k=Jb (KT (SN o) (eG ρ x)) H k:=iG
theorem UN {x:Operand}:dW fl lo q (.cvs x) ρ H k=Jb (KT U8 (eG ρ x)) H k:=iG
theorem UM {x:Operand} {i:Nat}:dW fl lo q (.ext x i) ρ H k=Jb (XS i (eG ρ x)) H k:=iG
theorem TN {g:Bool} {off size:Nat} {x:Operand}:dW fl lo q (.fld g off size x) ρ H k=Jb (adX g off size (eG ρ x)) H k:=iG
theorem Nq {z:List Value} {places:List (Nat×Nat)} {parts:List (Nat×Operand)}:dW fl lo q (.build z places parts) ρ H k=Jb ((yC places (z.map jI) (parts.map fun(i,x)=>(i,eG ρ x))).map .agg) H k:=by
 show (match (yC places (z.map jI) (parts.map fun(i,x)=>(i,eG ρ x))).map fun cs=>(VV.agg cs,H) with | some (v,H')=>k v H' | none=>False)=_
 cases yC places (z.map jI) (parts.map fun(i,x)=>(i,eG ρ x))<;>rfl
theorem Ty {x:Operand}:dW fl lo q (.chk x) ρ H k=Jb (Wo (eG ρ x) H) H k:=iG
theorem M9 {off:Nat} {x:Operand}:dW fl lo q (.faddr off x) ρ H k=Jb (GI off (eG ρ x) H) H k:=iG
theorem Ng {size:Nat} {x i:Operand}:dW fl lo q (.iaddr size x i) ρ H k=Jb (bJ size (eG ρ x) (eG ρ i) H) H k:=iG
theorem PD {x i:Operand}:dW fl lo q (.sidx x i) ρ H k=Jb (Gr Gb (eG ρ x) (eG ρ i)) H k:=iG
theorem Pl {x:Operand} {l h:Option Operand}:dW fl lo q (.ssub x l h) ρ H k=Jb (vA (eG ρ x) (l.map (eG ρ)) (h.map (eG ρ))) H k:=iG
theorem P6 {f:Nat} {fS:List Operand}:dW fl lo q (.mkfn f fS) ρ H k=k (.uG f (fS.map (eG ρ))) H:=rfl
theorem Tz {x:Operand}:dW fl lo q (.len x) ρ H k=Jb (pV (eG ρ x) H) H k:=iG
theorem PK {x:Operand}:dW fl lo q (.slen x) ρ H k=Jb (KT A2 (eG ρ x)) H k:=iG
theorem TV {x y:Operand}:dW fl lo q (.min x y) ρ H k=Jb (Gr Ri (eG ρ x) (eG ρ y)) H k:=iG
theorem Ur {x y:Operand}:dW fl lo q (.max x y) ρ H k=Jb (Gr Qv (eG ρ x) (eG ρ y)) H k:=iG
theorem Rs {g:Bool} {size:Nat} {p:Operand}:dW fl lo q (.load g size p) ρ H k=Jb (dN g size (eG ρ p) H) H k:=iG
theorem Uo {size:Nat} {x:Operand} {l h m:Option Operand}:dW fl lo q (.sub size x l h m) ρ H k=Jb (Fs size (eG ρ x) (l.map (eG ρ)) (h.map (eG ρ)) (m.map (eG ρ)) H) H k:=iG
theorem TA {z:List Value}:dW fl lo q (.new z) ρ H k=NL (if (z.map jI).all cI then some (.ptr H.length 0 0 0,H++[.row 0 [elemOf (z.map jI)] z.length true]) else none) k:=rfl
theorem TJ {x:Operand}:dW fl lo q (.box x) ρ H k=NL (if (aB (eG ρ x)).all cI then (if fl.bf then some (.cK (eG ρ x) 0,H) else some (.ptr H.length 0 0 0,H++[.row 0 [eG ρ x] (aB (eG ρ x)).length true])) else none) k:=rfl
theorem Ru {z:List Value} {bytes:Nat} {l c:Operand}:dW fl lo q (.make z bytes l c) ρ H k=NL (if (z.map jI).all cI then AQ z bytes (eG ρ l) (eG ρ c) H else none) k:=rfl
theorem TS {z:List Value} {n:Nat} {parts:List (Nat×Operand)}:dW fl lo q (.lit z n parts) ρ H k=NL (pT fl.lr z n (parts.map fun(i,x)=>(i,eG ρ x)) H) k:=rfl
def UE (r:Option aA) (k:VV→aA→Prop):Prop:=match r with
 | some H'=>k pI H'
 | none=>False
theorem KE {H':aA}:UE (some H') k=k pI H':=rfl
theorem M0 {r:Option aA}:(match r.map (fun H'=>(pI,H')) with | some (v,H')=>k v H' | none=>False)=UE r k:=by cases r<;>rfl
theorem Nr {size:Nat} {p v:Operand}:dW fl lo q (.store size p v) ρ H k=UE (cR lo size (eG ρ p) (eG ρ v) H) k:=M0
def alN (lo size bytes:Nat) (x:VV) (new:Option (List VV)) (H:aA) (k:VV→aA→Prop):Prop:=match new with
 | some new=>NL (fE lo size bytes x new H) k
 | none=>False
theorem MC {size bytes:Nat} {x:VV} {new:List VV}:alN lo size bytes x (some new) H k=NL (fE lo size bytes x new H) k:=rfl
theorem Tt {size bytes:Nat} {x y:Operand}:dW fl lo q (.app size bytes x y) ρ H k=alN lo size bytes (eG ρ x) (eW size (eG ρ y) H) H k:=by
 show (match (match eW size (eG ρ y) H with | some new=>fE lo size bytes (eG ρ x) new H | none=>none) with | some (v,H')=>k v H' | none=>False)=_
 cases eW size (eG ρ y) H<;>rfl
theorem Pc {size:Nat} {x y:Operand}:dW fl lo q (.copy size x y) ρ H k=NL (MU lo size (eG ρ x) (eG ρ y) H) k:=rfl
theorem Mj {z:List Value} {x:Operand}:dW fl lo q (.clear z x) ρ H k=UE (OH lo z (eG ρ x) H) k:=M0
theorem PC {f:Nat} {args:List Operand}:dW fl lo q (.call f args) ρ H k=cT f (args.map (eG ρ)) (if q then H.length else lo) H k:=rfl
noncomputable def RT (x:VV) (args:List VV) (lo:Nat) (H:aA) (k:VV→aA→Prop):Prop:=match x with
 | .uG f fS=>cT f (args++fS) lo H k
 | _=>False
theorem Bk {f:Nat} {fS args:List VV}:RT (.uG f fS) args lo H k=cT f (args++fS) lo H k:=rfl
theorem MW {fv:Operand} {args:List Operand}:dW fl lo q (.callv fv args) ρ H k=RT (eG ρ fv) (args.map (eG ρ)) (if q then H.length else lo) H k:=by
 simp only[dW,RT]
 all_goals (cases eG ρ fv<;>rfl)
theorem UQ {x:Operand}:dW fl lo q (.b2s x) ρ H k=NL (vop fl lo (.b2s x) ρ H) k:=rfl
theorem TL {f:Value→Option Value} {x:Value}:KT f (.sc x)=(f x).map .sc:=rfl
theorem TW {f:Value→Value→Option Value} {x y:Value}:Gr f (.sc x) (.sc y)=(f x y).map .sc:=rfl
theorem Qb {t:Bool} {x y:VV}:QD (.sc (.bool t)) x y=some (if t=true then x else y):=rfl
theorem Pp {vs:List VV} {i:Nat}:XS i (.dL vs)=vs[i]? := rfl
theorem MR {es:List VV} {t:TK}:pV (.tree es t) H=some (.sc (.int .i64 es.length)):=rfl
theorem fM {b g o n c:Nat} {r:List VV×Nat×Bool} (h:aP H b g=some r):pV (.ref b g o n c) H=some (.sc (.int .i64 n)):=by
 simp only[pV,h,Option.map_some]
theorem Pq {x:VV} {o off:Nat}:GI off (.cK x o) H=some (.cK x (o+off)):=rfl
theorem YC {x:VV} {o:Nat}:Wo (.cK x o) H=some (.cK x o):=rfl
theorem OF {g:Bool} {size o:Nat} {x:VV}:dN g size (.cK x o) H=dA g size x o:=rfl
theorem Oq {g:Bool} {size b gn j o:Nat} {es:List VV} {e:Nat} {w:Bool} {x:VV} (h:aP H b gn=some (es,e,w)) (hx:es[j]? = some x):dN g size (.ptr b gn j o) H=dA g size x o:=by
 simp only[dN,h,hx]
theorem Zs {size:Nat} {v:Value}:dA false size (.sc v) 0=some (.sc v):=rfl
theorem Ts {size:Nat} {es:List VV} {t:TK}:dA false size (.tree es t) 0=some (.tree es t):=rfl
theorem Yl {size b g o n c:Nat}:dA false size (.ref b g o n c) 0=some (.ref b g o n c):=rfl
theorem Y0 {size f:Nat} {fS:List VV}:dA false size (.uG f fS) 0=some (.uG f fS):=rfl
theorem YJ {size o:Nat} {cs:List VV}:dA false size (.agg cs) o=cs[o]? := rfl
theorem Z4 {size:Nat} {cs:List VV} (h:cs.length=size):dA true size (.agg cs) 0=some (.agg cs):=by
 subst h
 simp[dA,aB]
theorem ZR {size:Nat} {es:List VV} {t:TK} {kk:IntKind} {i:Int} {x:VV} (h0:0≤i) (hx:es[i.toNat]? = some x) (hs:(aB x).length=size):bJ size (.tree es t) (.sc (.int kk i)) H=some (.cK x 0):=by
 simp only[bJ,h0,hx,hs,if_true]
theorem U1 {size:Nat} {es:List VV} {t:TK} {kk:IntKind} {i:Nat} {x:VV} (hx:es[i]? = some x) (hs:(aB x).length=size):bJ size (.tree es t) (.sc (.int kk (i:Int))) H=some (.cK x 0) :=
 ZR (by omega) (by simpa using hx) hs
theorem Yf {size b g o n c:Nat} {kk:IntKind} {i:Int} {es:List VV} {w:Bool} (h:aP H b g=some (es,size,w)) (h0:0≤i) (h1:i<n):bJ size (.ref b g o n c) (.sc (.int kk i)) H=some (.ptr b g (o+i.toNat) 0):=by
 simp only[bJ,h]
 rw[if_pos ⟨trivial,h0,h1⟩]
theorem Vf {size b g o n c:Nat} {kk:IntKind} {i:Nat} {es:List VV} {w:Bool} (h:aP H b g=some (es,size,w)) (h1:i<n):bJ size (.ref b g o n c) (.sc (.int kk (i:Int))) H=some (.ptr b g (o+i) 0):=by
 rw[Yf h (by omega) (by omega),Int.toNat_natCast]
abbrev TC (f:Nat) (args:List VV) (r:VV):Prop:=∀(lo:Nat) (H:aA) (k:VV→aA→Prop),cT f args lo H k=k r H
theorem TC.of {f:Nat} {args:List VV} {r:VV} (hr:C0.contains f=false) (ha:aJ args=true) (h:vT f args=some r):TC f args r:=by
 intro lo H k
 unfold cT FE
 simp only[hr,ha,if_true,h,Bool.false_eq_true,if_false,abU]
theorem TC.walk {f:Nat} {pf:aV} {args:List VV} {r:VV} (fl:Fl) (ht:gT f=some pf) (hr:C0.contains f=false) (hn:args.length≤pf.ntmps) (ha:aJ args=true) (Sg:eQ r=true) (h:VW fl 0 pf.body (Aq pf.res fun v H=>fz depth H v=some r) (HR args) []):TC f args r :=
 TC.of hr ha (aeP ha Sg (VT.walk fl ht hn h))
theorem TC.FT {f:Nat} {args kL:List VV} {r:VV} (h:TC f kL r) (hr:C0.contains f=false) (ha':aJ kL=true) (hf:args.mapM (fz depth H)=some kL) (ha:aJ args=false):cT f args lo H k=if Ix r=true then k r H else k r (cM H (args.flatMap (jE depth H))):=by
 have e:∀K,FE f kL K=K r:=fun K=>by
  have:=h 0 [] fun r _=>K r
  unfold cT at this
  simpa only[hr,ha',if_true,Bool.false_eq_true,if_false] using this
 unfold cT
 simp only[hr,ha,hf,Bool.false_eq_true,if_false]
 rw[e]
theorem aH {n:Nat} {v:VV} (h:aM v=true):fz (n+1) H v=some v:=by
 unfold PM.fz
 rw[if_pos h]
theorem aG {v:VV} (h:aM v=true):fz depth H v=some v:=aH h
theorem mapM_pure {n:Nat}:∀ {es:List VV},aJ es=true→es.mapM (PM.fz (n+1) H)=some es
 | [],_=>rfl
 |
  x::xs,h=>by
  simp only[aJ,Bool.and_eq_true] at h
  rw[List.mapM_cons,aH h.1,mapM_pure h.2]
  rfl
theorem EB {b g n c e:Nat} {es:List VV} {w:Bool} (h:aP H b g=some (es,e,w)) (hn:n=es.length) (hc:n≤c) (hp:aJ es=true):fz depth H (.ref b g 0 n c)=some (.tree es .op):=by
 have:aM (.ref b g 0 n c)=false:=rfl
 show fz (7+1) H _=_
 unfold PM.fz
 simp only[this,h,Bool.false_eq_true,if_false]
 subst hn
 rw[if_pos ⟨by omega,hc⟩,List.drop_zero,List.take_length,mapM_pure hp]
 rfl
theorem EF {n:Nat} {v:VV} (h:aM v=true):jE n H v=[]:=by
 cases n with
 | zero=>rfl
 | succ n=>unfold jE;rw[if_pos h]
theorem BI {n:Nat}:∀ {es:List VV},aJ es=true→es.flatMap (jE n H)=[]
 | [],_=>rfl
 |
  x::xs,h=>by
  simp only[aJ,Bool.and_eq_true] at h
  rw[List.flatMap_cons,EF h.1,BI h.2]
  rfl
theorem Ms {b g n c e:Nat} {es:List VV} {w:Bool} (h:aP H b g=some (es,e,w)) (hn:n=es.length) (hp:aJ es=true):jE depth H (.ref b g 0 n c)=[b]:=by
 have:aM (.ref b g 0 n c)=false:=rfl
 show jE (7+1) H _=_
 unfold jE
 simp only[this,h,Bool.false_eq_true,if_false]
 subst hn
 rw[List.drop_zero,List.take_length,BI hp]
theorem Tr {r:Option VV} {K K':VV→Prop} (hk:∀v,K v→K' v) (h:tk r K):tk r K':=by
 cases r with
 | none=>exact h
 | some v=>exact hk _ h
theorem HV {f:Nat} {args:List VV} {k k':VV→aA→Prop} (hk:∀v H,k v H→k' v H) (h:cT f args lo H k):cT f args lo H k':=by
 unfold cT at h ⊢
 split at h
 ·rename_i h1
  rw[if_pos h1]
  exact h.mono hk
 ·rename_i h1
  rw[if_neg h1]
  split at h
  ·rename_i h2
   rw[if_pos h2]
   exact Tr (fun v=>hk v H) h
  ·rename_i h2
   rw[if_neg h2]
   split at h
   ·refine Tr (fun v hv => ?_) h
    split at hv
    ·rename_i h3;rw[if_pos h3];exact hk _ _ hv
    ·rename_i h3;rw[if_neg h3];exact hk _ _ hv
   ·cases h
theorem SX {k k':VV→aA→Prop} (hk:∀v H,k v H→k' v H) (h:dW fl lo q op ρ H k):dW fl lo q op ρ H k':=by
 unfold dW at h ⊢
 split at h
 ·exact HV hk h
 ·split at h
  ·exact HV hk h
  ·cases h
 ·split at h
  ·exact hk _ _ h
  ·cases h
theorem N7 {K K':cP→aA→Prop} (hk:∀ρ H,K ρ H→K' ρ H):∀ {is:List PI} {ρ:cP} {H:aA},VS fl lo is K ρ H→VS fl lo is K' ρ H
 | [],ρ,H,h=>hk _ _ h
 |
  i::is,ρ,H,h=>by
  unfold VS at h ⊢
  split at h
  ·cases h
  ·exact N7 hk h
  ·exact⟨h.1,SX (fun v H' hv=>N7 hk hv) h.2⟩
theorem pU {K K':cP→aA→Prop} {Q Q':VQ} (hk:∀ρ H,K ρ H→K' ρ H) (hq:∀x ρ H,Q x ρ H→Q' x ρ H):∀x ρ H,mV K Q x ρ H→mV K' Q' x ρ H
 | .normal,ρ,H,h=>hk _ _ h
 | .exit _,ρ,H,h=>hq _ _ _ h
 | .ret,ρ,H,h=>hq _ _ _ h
theorem acF {K K':cP→aA→Prop} (hk:∀ρ H,K ρ H→K' ρ H) (h:gh K ρ H):gh K' ρ H:=by
 obtain⟨ts,aZ,H',h1,h2⟩:=h
 exact⟨ts,aZ,H',h1,hk _ _ h2⟩
theorem wH:∀ {c:aD} {Q Q':VQ} {ρ:cP} {H:aA},(∀x ρ H,Q x ρ H→Q' x ρ H)→VW fl lo c Q ρ H→VW fl lo c Q' ρ H
 | .skip,_,_,_,_,hq,h=>hq _ _ _ h
 | .exit _,_,_,_,_,hq,h=>hq _ _ _ h
 | .ret,_,_,_,_,hq,h=>hq _ _ _ h
 | .dT _,_,_,_,_,hq,h=>N7 (fun ρ H=>hq .normal ρ H) h
 | .seq a b,Q,Q',_,_,hq,h=>wH (c:=a) (pU (fun ρ H h=>wH (c:=b) hq h) hq) h
 |
  .cond c a b,Q,Q',ρ,H,hq,h=>by
  unfold VW at h ⊢
  split at h
  ·split at h
   ·rename_i h1;rw[if_pos h1];exact wH (c:=a) hq h
   ·rename_i h1;rw[if_neg h1];exact wH (c:=b) hq h
  ·cases h
 |
  .block i a,Q,Q',_,_,hq,h=>by
  refine wH (c:=a) (fun x ρ H hx => ?_) h
  cases x with
  | normal=>exact hq _ _ _ hx
  | ret=>exact hq _ _ _ hx
  |
   exit j =>
   rw[C8] at hx ⊢
   split at hx
   ·rename_i h1;rw[if_pos h1];exact hq _ _ _ hx
   ·rename_i h1;rw[if_neg h1];exact hq _ _ _ hx
 |
  .loop a,Q,Q',ρ,H,hq,h=>by
  obtain⟨n,h⟩:=h
  refine⟨n,?_⟩
  induction n generalizing ρ H with
  | zero=>cases h
  |
   succ n ih =>
   refine wH (c:=a) (pU (fun ρ H h => ?_) fun x ρ H h=>acF (hq x) h) h
   rcases h with h | ⟨h1,h2⟩
   ·exact .inl (ih _ _ h)
   ·exact .inr ⟨h1,ih _ _ h2⟩
theorem afB {K:cP→aA→Prop} (h:K ρ H):gh K ρ H:=⟨[],ρ,H,rfl,h⟩
theorem O6 {α:Type} {c:aD} (I:α→cP→aA→Prop) (μ:α→Nat) (s:α) (h0:I s ρ H)
  (round:∀s ρ H,I s ρ H→VW fl lo c (mV (fun aZ H'=>∃s',μ s'<μ s∧(I s' aZ H'∨(iW H.length (H'.take H.length)=true∧I s' (EV H.length aZ) (H'.take H.length)))) (fun x=>gh (Q x))) ρ H):VW fl lo (.loop c) Q ρ H:=by
 refine⟨μ s+1,?_⟩
 have key:∀n s ρ H,μ s<n→I s ρ H→Rc (VW fl lo c) (fun x=>gh (Q x)) n ρ H:=by
  intro n
  induction n with
  | zero=>intro s ρ H h;omega
  |
   succ n ih =>
   intro s ρ H hn hI
   refine wH (pU (fun aZ H' h => ?_) fun x ρ H h=>h) (round s ρ H hI)
   obtain⟨s',h1,h2 | ⟨h2,h3⟩⟩:=h
   ·exact .inl (ih s' _ _ (by omega) h2)
   ·exact .inr ⟨h2,ih s' _ _ (by omega) h3⟩
 exact key _ s ρ H (Nat.lt_succ_self _) h0
theorem bC {α:Type} {c:aD} (I:α→cP→aA→Prop) (μ:α→Nat) (s:α) (h0:I s ρ H)
  (round:∀s ρ H,I s ρ H→VW fl lo c (mV (fun aZ H'=>∃s',μ s'<μ s∧I s' aZ H') Q) ρ H):VW fl lo (.loop c) Q ρ H :=
 O6 I μ s h0 fun s ρ H h=>wH (pU (fun _ _ ⟨s',h1,h2⟩=>⟨s',h1,.inl h2⟩) fun _ _ _ h=>afB h) (round s ρ H h)
theorem KO {α:Type} {c:aD} (I:α→cP→aA→Prop) (μ:α→Nat) (s:α) (h0:I s ρ H)
  (round:∀s ρ H,I s ρ H→VW fl lo c (mV (fun aZ H'=>∃s',μ s'<μ s∧iW H.length (H'.take H.length)=true∧I s' (EV H.length aZ) (H'.take H.length)) Q) ρ H):VW fl lo (.loop c) Q ρ H :=
 O6 I μ s h0 fun s ρ H h=>wH (pU (fun _ _ ⟨s',h1,h2⟩=>⟨s',h1,.inr h2⟩) fun _ _ _ h=>afB h) (round s ρ H h)
theorem Eu {n:Nat} {v:VV} (h:below n v=true):Eg n v=v:=by
 unfold Eg
 rw[if_pos h]
mutual
theorem ET {n:Nat} (v:VV) (h:aM v=true):below n v=true:=by
 cases v with
 | any=>rfl
 | sc=>rfl
 | agg cs=>exact mA cs h
 | dL cs=>exact mA cs h
 | tree es t=>exact mA es (Hc h).2.1
 | cK x o=>exact ET x h
 | ref=>cases h
 | ptr=>cases h
 | uG f fS=>exact mA fS h
theorem mA {n:Nat} (vs:List VV) (h:aJ vs=true):lH n vs=true:=by
 cases vs with
 | nil=>rfl
 |
  cons x xs =>
  simp only[aJ,Bool.and_eq_true] at h
  simp only[lH,ET x h.1,mA xs h.2,Bool.and_self]
end
end
end Go.PM
namespace Go.PM
def val (b:Nat):List Nat→Nat
 | []=>0
 | d::ds=>d+b*val b ds
def aC (b n:Nat):List Nat:=if h:n=0∨b<2 then [] else n % b::aC b (n / b)
termination_by n
decreasing_by exact Nat.div_lt_self (by omega) (by omega)
section
variable {b:Nat}
theorem bW:aC b 0=[]:=by rw[aC];simp
theorem jH (hb:2≤b) {n:Nat} (hn:n≠0):aC b n=n % b::aC b (n / b):=by rw[aC,dif_neg (by omega)]
theorem rJ {d:Nat} {ds:List Nat}:val b (d::ds)=d+b*val b ds:=rfl
theorem yQ (xs ys:List Nat):val b (xs++ys)=val b xs+b^xs.length*val b ys:=by
 induction xs with
 | nil=>simp[val]
 |
  cons x xs ih =>
  simp only[List.cons_append,rJ,ih,List.length_cons,Nat.pow_succ]
  rw[Nat.mul_add,Nat.mul_comm (b^xs.length) b,Nat.mul_assoc,Nat.add_assoc]
theorem val_one (d:Nat):val b [d]=d:=by simp[val]
theorem sB (xs:List Nat) (d:Nat):val b (xs++[d])=val b xs+b^xs.length*d:=by rw[yQ,val_one]
theorem qN (n:Nat):val b (List.replicate n 0)=0:=by
 induction n with
 | zero=>rfl
 | succ n ih=>simp[List.replicate_succ,val,ih]
theorem oM {xs:List Nat} (h:∀d∈xs,d<b):val b xs<b^xs.length:=by
 induction xs with
 | nil=>simp[val]
 |
  cons x xs ih =>
  have h1:=h x List.mem_cons_self
  have h2:=ih fun d hd=>h d (List.mem_cons_of_mem _ hd)
  simp only[rJ,List.length_cons,Nat.pow_succ]
  have h3:b*(val b xs+1)≤b*b^xs.length:=Nat.mul_le_mul_left _ h2
  rw[Nat.mul_add,Nat.mul_one] at h3
  rw[Nat.mul_comm (b^xs.length) b]
  omega
theorem cA (hb:2≤b) (n:Nat):val b (aC b n)=n:=by
 induction n using Nat.strongRecOn with
 |
  _ n ih =>
  by_cases h:n=0
  ·subst h;rw[bW];rfl
  ·rw[jH hb h,rJ,ih _ (Nat.div_lt_self (by omega) (by omega))]
   exact Nat.mod_add_div n b
theorem fF (hb:2≤b) (n:Nat):∀d∈aC b n,d<b:=by
 induction n using Nat.strongRecOn with
 |
  _ n ih =>
  by_cases h:n=0
  ·subst h;rw[bW];intro d hd;cases hd
  ·rw[jH hb h]
   intro d hd
   rcases List.mem_cons.1 hd with rfl | hd
   ·exact Nat.mod_lt _ (by omega)
   ·exact ih _ (Nat.div_lt_self (by omega) (by omega)) d hd
theorem lM (hb:2≤b) {n:Nat}:aC b n=[]↔n=0:=by
 constructor
 ·intro h
  have:=cA hb n
  rw[h] at this
  exact this.symm
 ·rintro rfl;exact bW
theorem Mq (hb:2≤b) (n:Nat):(aC b n).getLast? ≠ some 0:=by
 induction n using Nat.strongRecOn with
 |
  _ n ih =>
  by_cases h:n=0
  ·subst h;rw[bW];simp
  ·rw[jH hb h]
   have h1:=ih _ (Nat.div_lt_self (n:=n) (k:=b) (by omega) (by omega))
   by_cases h2:n / b=0
   ·rw[h2,bW]
    have:n<b:=by
     rcases Nat.div_eq_zero_iff.1 h2 with h | h<;>omega
    simp[Nat.mod_eq_of_lt this,h]
   ·have fR:aC b (n / b)≠[]:=fun h=>h2 ((lM hb).1 h)
    obtain⟨x,xs,hx⟩:=List.exists_cons_of_ne_nil fR
    rw[hx] at h1 ⊢
    rw[List.getLast?_cons_cons]
    exact h1
theorem Lj (hb:2≤b) {xs:List Nat} (h:∀d∈xs,d<b) (hl:xs.getLast? ≠ some 0):aC b (val b xs)=xs:=by
 induction xs with
 | nil=>exact bW
 |
  cons x xs ih =>
  have h1:=h x List.mem_cons_self
  have hr:(x+b*val b xs) % b=x:=by rw[Nat.add_mul_mod_self_left,Nat.mod_eq_of_lt h1]
  have hq:(x+b*val b xs) / b=val b xs:=by rw[Nat.add_mul_div_left _ _ (by omega),Nat.div_eq_of_lt h1,Nat.zero_add]
  cases xs with
  |
   nil =>
   have hx:x≠0:=by rintro rfl;simp at hl
   rw[val_one,jH hb hx,Nat.mod_eq_of_lt h1,Nat.div_eq_of_lt h1,bW]
  |
   cons y ys =>
   rw[List.getLast?_cons_cons] at hl
   have h2:=ih (fun d hd=>h d (List.mem_cons_of_mem _ hd)) hl
   have h3:val b (y::ys)≠0:=fun h0=>by rw[h0,bW] at h2;cases h2
   have h4:b*val b (y::ys)≠0:=Nat.mul_ne_zero (by omega) h3
   rw[rJ,jH hb (by omega),hr,hq,h2]
theorem Jh (hb:2≤b) {n:Nat} (hn:n≠0):b^((aC b n).length-1)≤n:=by
 induction n using Nat.strongRecOn with
 |
  _ n ih =>
  rw[jH hb hn]
  by_cases h2:n / b=0
  ·rw[h2,bW];simp;omega
  ·have h3:=ih _ (Nat.div_lt_self (by omega) (by omega)) h2
   have fR:aC b (n / b)≠[]:=fun h=>h2 ((lM hb).1 h)
   obtain⟨x,xs,hx⟩:=List.exists_cons_of_ne_nil fR
   rw[hx] at h3 ⊢
   simp only[List.length_cons,Nat.add_sub_cancel] at h3 ⊢
   rw[Nat.pow_succ]
   calc b^xs.length*b≤n / b*b:=Nat.mul_le_mul_right _ h3
    _≤n:=Nat.div_mul_le_self n b
theorem gK (hb:2≤b) (n:Nat):n<b^(aC b n).length:=by
 have:=oM (fF hb n)
 rwa [cA hb] at this
theorem lW (hb:2≤b) {n k:Nat} (h:n<b^k):(aC b n).length≤k:=by
 by_cases hn:n=0
 ·subst hn;rw[bW];simp
 ·have h1:=Jh hb hn
  have h2:b^((aC b n).length-1)<b^k:=Nat.lt_of_le_of_lt h1 h
  have h3:(aC b n).length-1<k:=(Nat.pow_lt_pow_iff_right (by omega)).1 h2
  have fR:aC b n≠[]:=fun h=>hn ((lM hb).1 h)
  have:=List.length_pos_iff.2 fR
  omega
theorem dR (hb:2≤b) {m n:Nat} (h:m≤n):(aC b m).length≤(aC b n).length :=
 lW hb (Nat.lt_of_le_of_lt h (gK hb n))
theorem pC (xs:List Nat) (i:Nat):val b xs=val b (xs.take i)+b^(xs.take i).length*val b (xs.drop i):=by
 rw[←yQ,List.take_append_drop]
theorem aY {xs:List Nat} {i d:Nat} (h:xs[i]? = some d):val b (xs.take (i+1))=val b (xs.take i)+b^i*d:=by
 have bD:=(List.getElem?_eq_some_iff.1 h).1
 rw[List.take_add_one,h]
 simp only[Option.toList_some]
 rw[sB,List.length_take,Nat.min_eq_left (by omega)]
theorem sJ {xs:List Nat} {i d:Nat} (h:xs[i]? = some d):val b (xs.drop i)=d+b*val b (xs.drop (i+1)):=by
 obtain⟨bD,he⟩:=List.getElem?_eq_some_iff.1 h
 rw[List.drop_eq_getElem_cons bD,he,rJ]
theorem EH {P A B O c x y s q r W:Nat} (h:A+B=O+P*c) (hs:c+x+y=s) (hr:r+W*q=s):(A+P*x)+(B+P*y)=(O+P*r)+(P*W)*q:=by grind
theorem Ip {P A B O l x y r W l':Nat} (h:A+P*l=O+B) (hd:r+y+l=x+W*l'):(A+P*x)+(P*W)*l'=(O+P*r)+(B+P*y):=by grind
theorem ZC {xs:List Nat} {i d:Nat} (h:i<xs.length):(xs.set i d).take (i+1)=xs.take i++[d]:=by
 rw[List.set_eq_take_append_cons_drop,if_pos h,List.take_append]
 simp[List.take_take,Nat.min_eq_left (by omega:i≤xs.length),Nat.min_eq_right (by omega:i≤i+1)]
theorem eJ {xs:List Nat} {i d:Nat} (h:i<xs.length):val b ((xs.set i d).take (i+1))=val b (xs.take i)+b^i*d:=by
 rw[ZC h,sB,List.length_take,Nat.min_eq_left (by omega)]
theorem lO {xs:List Nat} {i d:Nat} (h:∀x∈xs,x<b) (hd:d<b):∀x∈xs.set i d,x<b:=by
 intro x hx
 rcases List.mem_or_eq_of_mem_set hx with h1 | h1
 ·exact h x h1
 ·subst h1;exact hd
theorem jP {xs:List Nat} {i:Nat} (h:xs.length≤i):val b (xs.take i)=val b xs:=by rw[List.take_of_length_le h]
theorem Ad (hb:0<b) (n:Nat):∀x∈List.replicate n 0,x<b:=by
 intro x hx
 rw[List.eq_of_mem_replicate hx]
 exact hb
theorem WT {P x y R t:Nat} (ht:t<P) (h:x<y):t+P*(x+R)<P*(y+R):=by
 have h1:P*(x+R+1)≤P*(y+R):=Nat.mul_le_mul_left _ (by omega)
 rw[Nat.mul_add,Nat.mul_one] at h1
 omega
theorem DF {xs ys:List Nat} {i x y:Nat} (hx:∀d∈xs,d<b) (hl:xs.length=ys.length) (hi:xs[i]? = some x) (hj:ys[i]? = some y) (hd:xs.drop (i+1)=ys.drop (i+1)) (h:x<y):val b xs<val b ys:=by
 have h1:=(List.getElem?_eq_some_iff.1 hi).1
 have ht:(xs.take i).length=i:=by simp;omega
 have ht':(ys.take i).length=i:=by simp;omega
 have h2:=oM (b:=b) (xs:=xs.take i) fun d hd=>hx d (List.mem_of_mem_take hd)
 rw[ht] at h2
 rw[pC xs i,pC ys i,ht,ht',sJ hi,sJ hj,hd]
 have:=WT (R:=b*val b (ys.drop (i+1))) h2 h
 omega
theorem Rl (hb:2≤b) {m n:Nat} (h:aC b m=aC b n):m=n:=by
 have:=congrArg (val b) h
 rwa [cA hb,cA hb] at this
def fC (a b:Nat):Int:=if a<b then -1 else if a=b then 0 else 1
theorem Ds (hb:2≤b) {m n:Nat} (h:(aC b m).length<(aC b n).length):m<n:=by
 rcases Nat.lt_or_ge m n with h1 | h1
 ·exact h1
 ·have:=dR hb h1
  omega
end
end Go.PM
namespace Go.PM
abbrev VI (n:Int):VV := .sc (.int .i64 n)
abbrev VK (k:IntKind) (n:Int):VV := .sc (.int k n)
abbrev VB (t:Bool):VV := .sc (.bool t)
abbrev aL {α:Type} (f:α→VV) (xs:List α):VV := .tree (xs.map f) .op
section
variable {α:Type} {f:α→VV} {xs ys:List α} {x:α} {t:TK} {H:aA} {size i:Nat} {k:IntKind}
theorem eK:pV (.tree (xs.map f) t) H=some (VI xs.length):=by simp[pV]
theorem aI (hx:xs[i]? = some x) (hs:(aB (f x)).length=size):bJ size (.tree (xs.map f) t) (VK k (i:Int)) H=some (.cK (f x) 0) :=
 U1 (by simp[hx]) hs
theorem QY (hs:∀x,(aB (f x)).length=size):∀y∈xs.map f,(aB y).length=size:=by
 intro y hy
 obtain⟨x,_,rfl⟩:=List.mem_map.1 hy
 exact hs x
theorem eO (hp:∀x,aM (f x)=true):aJ (xs.map f)=true:=by
 rw[Ax]
 intro y hy
 obtain⟨x,_,rfl⟩:=List.mem_map.1 hy
 exact hp x
theorem abW (hp:∀x,eQ (f x)=true):pR (xs.map f)=true:=by
 rw[JT]
 intro y hy
 obtain⟨x,_,rfl⟩:=List.mem_map.1 hy
 exact hp x
theorem UD {size:Nat} (hs:∀x,(aB (f x)).length=size):uni (xs.map f)=true:=by
 cases xs with
 | nil=>rfl
 |
  cons x xs =>
  simp only[List.map_cons,uni,List.all_eq_true]
  intro y hy
  obtain⟨z,_,rfl⟩:=List.mem_map.1 hy
  simp[hs]
theorem gW {size:Nat} (hs:∀x,(aB (f x)).length=size) (hp:∀x,aM (f x)=true):aM (aL f xs)=true:=by
 simp only[aL,aM,eO hp,UD hs,decide_true,Bool.and_self]
theorem xF {size:Nat} (hs:∀x,(aB (f x)).length=size) (hp:∀x,eQ (f x)=true) (he:∀x,yH (f x)=true):eQ (aL f xs)=true:=by
 have h4:(xs.map f).all yH=true:=by
  rw[List.all_eq_true]
  intro y hy
  obtain⟨z,_,rfl⟩:=List.mem_map.1 hy
  exact he z
 simp only[aL,eQ,abW hp,UD hs,h4,decide_true,Bool.and_self]
theorem abP {es:List VV} {h:Nat} (fR:0<es.length) (hs:∀x∈es,(aB x).length=size) (hh:h≤es.length) {k2:IntKind} :
  Fs size (.tree es t) none (some (VK k2 h)) none H=some (.tree (es.take h) .op):=by
 cases es with
 | nil=>simp at fR
 |
  cons y ys =>
  have hy:=hs y List.mem_cons_self
  simp only[List.length_cons] at hh
  have e1:(0:Int)≤h∧(h:Int)≤((ys.length+1:Nat):Int):=by omega
  simp only[Fs,FB,hy,if_true,eV,e1,Int.toNat_natCast,Option.isSome_none,Bool.false_eq_true,false_and,if_false]
  simp
theorem PL (h:0<xs.length):0<(xs.map f).length:=by simpa using h
theorem Kw {b g o n c:Nat} {es:List VV} {w:Bool} {l h:Nat} (hr:aP H b g=some (es,size,w)) (hl:l≤h) (hh:h≤c) {k1 k2:IntKind} :
  Fs size (.ref b g o n c) (some (VK k1 l)) (some (VK k2 h)) none H=some (.ref b g (o+l) (h-l) (c-l)):=by
 have e1:(0:Int)≤h∧(h:Int)≤(c:Int):=by omega
 have e2:(0:Int)≤l∧(l:Int)≤(h:Int):=by omega
 simp only[Fs,FB,hr,if_true,eV,e1,e2,Int.toNat_natCast,Option.isSome_none,Bool.false_eq_true,false_and,if_false]
 simp[hl]
theorem qV {b g o n c:Nat} {es:List VV} {w:Bool} {h:Nat} (hr:aP H b g=some (es,size,w)) (hh:h≤c) {k2:IntKind} :
  Fs size (.ref b g o n c) none (some (VK k2 h)) none H=some (.ref b g o h c):=by
 have e1:(0:Int)≤h∧(h:Int)≤(c:Int):=by omega
 simp only[Fs,FB,hr,if_true,eV,e1,Int.toNat_natCast,Option.isSome_none,Bool.false_eq_true,false_and,if_false]
 simp
theorem IB {h:Nat} (hs:∀x,(aB (f x)).length=size) (fR:0<xs.length) (hh:h≤xs.length) {k2:IntKind} :
  Fs size (.tree (xs.map f) t) none (some (VK k2 h)) none H=some (aL f (xs.take h)):=by
 rw[abP (PL fR) (QY hs) (by simpa using hh)]
 simp[aL]
theorem Rk {b g e:Nat} {es:List VV} {w:Bool} {L K:aA} (h:b=L.length):aP (L ++ .row g es e w::K) b g=some (es,e,w):=by
 subst h
 simp[aP]
theorem bK {g e:Nat} {es:List VV} {w:Bool} {K:aA}:aP (.row g es e w::K) 0 g=some (es,e,w):=by simp[aP]
theorem aX {n:Nat}:(n=n+1)=False:=eq_false fun h=>by omega
theorem Yb {g g' e:Nat} {es:List VV} {w:Bool} {K:aA} (h:g'≠g):aP (.row g' es e w::K) 0 g=none:=by simp[aP,h]
theorem aR {g e:Nat} {es:List VV} {w:Bool} {K:aA}:aP (.row (g+1) es e w::K) 0 g=none:=Yb (Nat.succ_ne_self g)
theorem qZ {b g:Nat} {x:fU} {K:aA}:aP (x::K) (b+1) g=aP K b g:=by simp[aP]
theorem bB {b g o n c e:Nat} {es:List VV} {w:Bool} (h:aP H b g=some (es,e,w)) (hi:i<n):bJ e (.ref b g o n c) (VK k (i:Int)) H=some (.ptr b g (o+i) 0):=Vf h hi
theorem gA {b g j e lo:Nat} {es:List VV} {v:VV} (h:aP H b g=some (es,e,true)) (hj:j<es.length) (iC:lo≤b) (hv:(aB v).length=e) (hs:(aB v).all cI=true):cR lo e (.ptr b g j 0) v H=some (H.set b (.row g (es.set j v) e true)):=by
 obtain⟨x,hx⟩:∃x,es[j]? = some x:=⟨_,List.getElem?_eq_getElem hj⟩
 simp only[cR,h,hx]
 rw[if_pos ⟨hv,iC,hs⟩,if_pos ⟨trivial,trivial⟩]
theorem tJ {z:List Value} {bytes n:Nat} (hz:elemOf (z.map jI)=f x) (hn:n*bytes≤281474976710656) (hm:n≤9223372036854775807):AQ z bytes (VI n) (VI n) H=some (.ref H.length 0 0 n n,H++[.row 0 ((List.replicate n x).map f) z.length true]):=by
 simp only[AQ]
 rw[if_pos ⟨by omega,by omega,by omega,by omega⟩,hz]
 simp
theorem tN {ag w:Bool} {b gn e j o:Nat} (h:aP H b gn=some (xs.map f,e,w)) (hx:xs[j]? = some x):dN ag size (.ptr b gn j o) H=dA ag size (f x) o :=
 Oq h (by simp[hx])
theorem gI {b g j e lo:Nat} (h:aP H b g=some (xs.map f,e,true)) (hj:j<xs.length) (iC:lo≤b) (hv:(aB (f x)).length=e) (hs:(aB (f x)).all cI=true):cR lo e (.ptr b g j 0) (f x) H=some (H.set b (.row g ((xs.set j x).map f) e true)):=by
 rw[gA h (by simpa using hj) iC hv hs,List.map_set]
theorem Jk {b gn n c e:Nat} {es:List VV} {w:Bool} (h:aP H b gn=some (es,e,w)) (hn:n≤es.length) (hc:n≤c) (hp:aJ es=true):fz depth H (.ref b gn 0 n c)=some (.tree (es.take n) .op):=by
 have:aM (.ref b gn 0 n c)=false:=rfl
 show fz (7+1) H _=_
 unfold fz
 simp only[this,h,Bool.false_eq_true,if_false]
 have CL:aJ (es.take n)=true:=Ax.2 fun x hx=>Ax.1 hp x (List.mem_of_mem_take hx)
 rw[if_pos ⟨by omega,hc⟩,List.drop_zero,mapM_pure CL]
 rfl
theorem TC.flat {fn:Nat} {args kL:List VV} {r:VV} (h:TC fn kL r) (xI:C0.contains fn=false) (ha':aJ kL=true) (hf:args.mapM (fz depth H)=some kL) (hr:Ix r=true) :
  ∀(lo:Nat) (K:VV→aA→Prop),cT fn args lo H K=K r H:=by
 intro lo K
 cases hp:aJ args with
 |
  true =>
  have:=mapM_pure (n:=7) (H:=H) hp
  rw[show fz depth H=fz (7+1) H from rfl,this] at hf
  cases hf
  exact h lo H K
 | false=>rw[h.FT xI ha' hf hp,hr,if_pos rfl]
theorem fz1 {v v':VV} (h:fz depth H v=some v'):[v].mapM (fz depth H)=some [v']:=by rw[List.mapM_cons,h];rfl
theorem fz2 {v v' u u':VV} (h:fz depth H v=some v') (hu:fz depth H u=some u'):[v,u].mapM (fz depth H)=some [v',u']:=by rw[List.mapM_cons,h,fz1 hu];rfl
theorem fz3 {v v' u u' w w':VV} (h:fz depth H v=some v') (hu:fz depth H u=some u') (hw:fz depth H w=some w'):[v,u,w].mapM (fz depth H)=some [v',u',w']:=by rw[List.mapM_cons,h,fz2 hu hw];rfl
theorem TC.adD {fn b gn n c e size:Nat} {w:Bool} {r:VV} (h:TC fn [aL f xs] r) (hr:aP H b gn=some (xs.map f,e,w)) (hn:n=xs.length) (hc:n≤c) (hs:∀x,(aB (f x)).length=size) (hp:∀x,aM (f x)=true) (xI:C0.contains fn=false) (hf:Ix r=false) :
  ∀(lo:Nat) (K:VV→aA→Prop),cT fn [.ref b gn 0 n c] lo H K=K r (cM H [b]):=by
 intro lo K
 have e1:fz depth H (.ref b gn 0 n c)=some (aL f xs):=EB hr (by simpa using hn) hc (eO hp)
 have e2:jE depth H (.ref b gn 0 n c)=[b]:=Ms hr (by simpa using hn) (eO hp)
 have e3:[VV.ref b gn 0 n c].mapM (fz depth H)=some [aL f xs]:=by rw[List.mapM_cons,e1];rfl
 rw[h.FT xI (by simp only[aJ,gW hs hp,Bool.and_self]) e3 rfl,hf]
 simp only[Bool.false_eq_true,if_false,List.flatMap_cons,List.flatMap_nil,e2,List.append_nil]
theorem aeY {es:List VV} {e:Nat} (hp:aJ es=true):fz depth H (.tree es (.cl e))=some (.tree es .op):=by
 show fz (7+1) H _=_
 unfold fz
 have:aM (.tree es (.cl e))=false:=by simp[aM]
 simp only[this,Bool.false_eq_true,if_false,mapM_pure hp]
 rfl
theorem Xz {es:List VV} {e:Nat} (hp:aJ es=true):jE depth H (.tree es (.cl e))=[]:=by
 show jE (7+1) H _=_
 unfold jE
 have:aM (.tree es (.cl e))=false:=by simp[aM]
 simp only[this,Bool.false_eq_true,if_false,BI hp]
theorem EX:fz depth H (.tree [] .nil)=some (.tree [] .op):=by
 show fz (7+1) H _=_
 unfold fz
 have:aM (.tree [] .nil)=false:=by simp[aM]
 simp only[this,Bool.false_eq_true,if_false]
 rfl
theorem TC.args {fn:Nat} {args kL:List VV} {r:VV} (h:TC fn kL r) (xI:C0.contains fn=false) (ha':aJ kL=true) (hf:args.mapM (fz depth H)=some kL) (hi:args.flatMap (jE depth H)=[]) :
  ∀(lo:Nat) (K:VV→aA→Prop),cT fn args lo H K=K r H:=by
 intro lo K
 cases hp:aJ args with
 |
  true =>
  have:=mapM_pure (n:=7) (H:=H) hp
  rw[show fz depth H=fz (7+1) H from rfl,this] at hf
  cases hf
  exact h lo H K
 |
  false =>
  rw[h.FT xI ha' hf hp,hi]
  split<;>rfl
theorem oH {lr:Bool} {z:List Value} (hz:(z.map jI).all cI=true):pT lr z 0 [] H=some (.ref H.length 0 0 0 0,H++[.row 0 [] z.length true]):=by
 simp[pT,uF,hz]
theorem pN {z:List Value} {v:VV} (hz:(z.map jI).all cI=true) (hv:(aB v).length=z.length) (hs:(aB v).all cI=true):pT false z 1 [(0,v)] H=some (.tree [v] (.cl z.length),H):=by
 simp only[pT,uF,List.replicate_succ,List.replicate_zero,List.length_cons,List.length_nil,hv,hs,and_self,if_true,List.set_cons_zero,hz]
 simp[hs]
theorem X7 {z:List Value} {u v:VV} (hz:(z.map jI).all cI=true) (hu:(aB u).length=z.length) (hus:(aB u).all cI=true) (hv:(aB v).length=z.length) (hs:(aB v).all cI=true):pT false z 2 [(0,u),(1,v)] H=some (.tree [u,v] (.cl z.length),H):=by
 simp[pT,uF,hv,hs,hu,hus,hz,List.replicate_succ]
end
theorem wrap32 (n:Nat):IntKind.u32.wrap (n:Int)=((n % 4294967296:Nat):Int):=by rw[IntKind.wrap_u32];omega
theorem wrap_u64 (n:Int):IntKind.u64.wrap n=n % 18446744073709551616:=by simp[IntKind.wrap,IntKind.bits,IntKind.signed]
theorem fH (n:Nat) (h:n<18446744073709551616):IntKind.u64.wrap (n:Int)=(n:Int):=by rw[wrap_u64];omega
theorem wrapN {x:Int} (n:Nat) (h:x=n) (hn:n≤9223372036854775807):IntKind.i64.wrap x=(n:Int):=by subst h;exact wrap64 (by omega) (by omega)
theorem rO (n:Nat) (k:IntKind):dF .shr (.int .u64 (n:Int)) (.int k 32)=some (.int .u64 ((n / 4294967296:Nat):Int)):=by
 simp only[dF]
 have h1:¬((32:Int)<0):=by decide
 have h2:Nat.min (Int.toNat 32) IntKind.u64.bits=32:=by decide
 rw[if_neg h1,h2]
 congr 2
 rw[Int.fdiv_eq_ediv_of_nonneg _ (by decide)]
 omega
theorem DJ (n:Nat) (k:IntKind) (h:n<4294967296):dF .shl (.int .u64 (n:Int)) (.int k 32)=some (.int .u64 ((n*4294967296:Nat):Int)):=by
 simp only[dF]
 have h1:¬((32:Int)<0):=by decide
 have h2:Nat.min (Int.toNat 32) IntKind.u64.bits=32:=by decide
 rw[if_neg h1,h2]
 congr 2
 have:(n:Int)*2^32=((n*4294967296:Nat):Int):=by omega
 rw[this]
 exact fH _ (by omega)
section
variable {n k g:Nat} {K:aA} {x y:fU}
theorem Jl:aP (List.replicate n fU.dead++K) n g=aP K 0 g:=by
 unfold aP
 rw[List.getElem?_append_right (by simp)]
 simp
theorem NM:aP (List.replicate n fU.dead++K) (n+k) g=aP K k g:=by
 unfold aP
 rw[List.getElem?_append_right (by simp)]
 simp
theorem Ya:(List.replicate n fU.dead++K).set n y=List.replicate n fU.dead++K.set 0 y:=by
 rw[List.set_append_right _ _ (by simp)]
 simp
theorem agV:(List.replicate n fU.dead++K).set (n+k) y=List.replicate n fU.dead++K.set k y:=by
 rw[List.set_append_right _ _ (by simp)]
 simp
theorem aoA:(List.replicate n fU.dead++K).length=n+K.length:=by simp
theorem adK:(List.replicate n fU.dead++K).take (n+k)=List.replicate n fU.dead++K.take k:=by
 rw[List.take_append]
 simp
theorem acC:(List.replicate n fU.dead++K).take n=List.replicate n fU.dead:=by
 rw[List.take_append]
 simp
end
theorem Aw {k g e:Nat} {es:List VV} {w:Bool} {K:aA} (h:lH k es=true):iW k (.row g es e w::K)=iW k K:=by
 unfold iW
 rw[List.all_cons]
 simp only[h,Bool.true_and]
theorem Dm {k:Nat}:iW k []=true:=rfl
theorem lY {size:Nat} {v:VV} {t:TK} {H:aA} (h:(aB v).length=size) (hs:(aB v).all cI=true):eW size (.tree [v] t) H=some [v]:=by
 simp[eW,h,hs]
theorem lT {α:Type} {f:α→VV} {xs:List α} {x:α} {lo b g n e bytes:Nat} {H:aA} (h:aP H b g=some (xs.map f,e,true)) (hn:n=xs.length) (iC:lo≤b) (he:1≤e) (hb:1≤bytes) (CJ:(n+1)*bytes≤140737488355328) :
  fE lo e bytes (.ref b g 0 n n) [f x] H=some (.ref b (g+1) 0 (n+1) (n+1),H.set b (.row (g+1) ((xs++[x]).map f) e true)):=by
 subst hn
 simp only[fE,h,List.length_cons,List.length_nil,Nat.zero_add]
 rw[if_pos ⟨hb,he⟩,if_pos ⟨trivial,iC,by simp⟩,if_neg (by omega),if_pos CJ,List.drop_zero,List.take_of_length_le (by simp)]
 simp
section
variable {H:aA} {b g o n c j lo size:Nat} {neg ag:Bool} {k:IntKind} {i:Int} {v:VV}
theorem jB:dN ag size (.ptr b g j o) H=(match aP H b g with
 |
  some (es,_,_)=>match es[j]? with
  | some x=>dA ag size x o
  | none=>none
 | none=>none):=rfl
theorem H0:cR lo size (.ptr b g j o) v H=(match aP H b g with
 |
  some (es,e,true)=>match es[j]? with
  |
   some x =>
   if (aB v).length=size∧lo≤b∧(aB v).all cI then
    if o=0∧size=e then some (H.set b (.row g (es.set j v) e true))
    else if 2≤e∧o+size≤e then some (H.set b (.row g (es.set j (.agg (cS (aB x) o (aB v)))) e true))
    else none
   else none
  | none=>none
 | _=>none):=rfl
theorem MV:pV (.ref b g o n c) H=(aP H b g).map fun _ => .sc (.int .i64 n):=rfl
theorem C5:GI size (.ptr b g j o) H=(aP H b g).map fun _ => .ptr b g j (o+size):=rfl
theorem MM:Wo (.ptr b g j o) H=(aP H b g).map fun _ => .ptr b g j o:=rfl
theorem HL:E4 neg (.ref b g o n c) H=(aP H b g).map fun _ => .sc (.bool (false != neg)):=rfl
theorem Js:E4 neg (.tree [] .nil) H=some (.sc (.bool (true != neg))):=rfl
theorem Iq {x:VV} {xs:List VV} {t:TK}:E4 neg (.tree (x::xs) t) H=some (.sc (.bool (false != neg))):=rfl
theorem HS:bJ size (.ref b g o n c) (.sc (.int k i)) H=(match aP H b g with
 | some (_,e,_)=>if e=size∧0≤i∧i<n then some (.ptr b g (o+i.toNat) 0) else none
 | none=>none):=rfl
end
theorem FJ {v:Value}:isAny (.sc v)=false:=rfl
theorem BD {es:List VV} {t:TK}:isAny (.tree es t)=false:=rfl
theorem Dw {b g o n c:Nat}:isAny (.ref b g o n c)=false:=rfl
theorem DD {cs:List VV}:isAny (.agg cs)=false:=rfl
theorem MQ {f:Nat} {cs:List VV}:isAny (.uG f cs)=false:=rfl
theorem xS {x:VV}:elemOf [x]=x:=rfl
theorem Bv {x y:VV} {cs:List VV}:elemOf (x::y::cs) = .agg (x::y::cs):=rfl
theorem eU {k t:Nat} {ρ:cP}:EV k ρ t=Eg k (ρ t):=rfl
theorem Fi {k:Nat} {v:Value}:Eg k (.sc v) = .sc v:=rfl
theorem oC {k:Nat} {v:VV} (h:aM v=true):Eg k v=v:=Eu (ET v h)
theorem A1 {k b g o n c:Nat} (h:b<k):Eg k (.ref b g o n c) = .ref b g o n c:=Eu (by simp[below,h])
theorem QM {v:Value}:cI (.sc v)=true:=rfl
theorem Ju {es:List VV} {t:TK}:cI (.tree es t)=true:=rfl
theorem Nd {b g o n c:Nat}:cI (.ref b g o n c)=true:=rfl
theorem MD {b g o n:Nat}:cI (.ptr b g o n)=true:=rfl
theorem J7 {x:VV} {o:Nat}:cI (.cK x o)=true:=rfl
theorem M4 {f:Nat} {cs:List VV}:cI (.uG f cs)=true:=rfl
theorem Np {v:Value}:aB (.sc v)=[.sc v]:=rfl
theorem J0 {cs:List VV}:aB (.agg cs)=cs:=rfl
theorem HO {es:List VV} {t:TK}:aB (.tree es t)=[.tree es t]:=rfl
theorem JM {b g o n c:Nat}:aB (.ref b g o n c)=[.ref b g o n c]:=rfl
theorem Qw {k k':IntKind} {n:Int}:SN k (.int k' n)=some (.int k (k.wrap n)):=rfl
theorem Nf {args:List VV} {t:Nat}:HR args t=args.getD t pI:=rfl
theorem alU {n:Nat}:LT n = .tmp n:=rfl
theorem aoM {n:Int}:LI n = .const (.int .i64 n):=rfl
theorem alV:LG = .const (.bool true):=rfl
theorem anP:LF = .const (.bool false):=rfl
theorem aoQ {n:Nat}:LL n = .load false 1 (.tmp n):=rfl
theorem aoB {n:Nat}:LK n = .load true 3 (.tmp n):=rfl
theorem alW {n k:Nat}:LX n k = .ext (.tmp n) k:=rfl
theorem amJ {k n:Nat}:LA k n = .faddr k (.tmp n):=rfl
theorem anT {d:Nat} {p:nE}:LO d p=⟨some d,p,none,false,[]⟩:=rfl
theorem anZ {d:Nat} {p:nE}:LQ d p=⟨some d,p,none,true,[]⟩:=rfl
theorem anV {p:nE}:LN p=⟨none,p,none,false,[]⟩:=rfl
theorem akS {d s:Nat}:LM d s=⟨some d,.mv (.tmp s),none,false,[]⟩:=rfl
theorem anX {g d:Nat} {p:nE}:LY g d p=⟨some d,p,some (g,true),false,[]⟩:=rfl
theorem aoJ {g d:Nat} {p:nE}:LZ g d p=⟨some d,p,some (g,false),false,[]⟩:=rfl
theorem amR {l:List PI} {c:aD}:LS l c = .seq (.dT l) c:=rfl
theorem VX:type_of% (
 And.intro @Y2<|And.intro @Yr<|And.intro @Qj<|And.intro @TP<|And.intro @UW<|And.intro @YR<|And.intro @UL <|
 And.intro @QF<|And.intro @B6<|And.intro @Er<|And.intro @Fy<|And.intro @D9<|And.intro @C8 <|
 And.intro @KK<|And.intro @Gj<|And.intro @Me<|And.intro @JF<|And.intro @Qk<|And.intro @Qi <|
 And.intro @KN<|And.intro @MY<|And.intro @YM<|And.intro @aeR<|And.intro @YW<|And.intro @aeG<|And.intro @HU <|
 And.intro @Yk<|And.intro @O7<|And.intro @TD<|And.intro @TT<|And.intro @Mf<|And.intro @Mr<|And.intro @ZB <|
 And.intro @Ug<|And.intro @UN<|And.intro @UM<|And.intro @TN<|And.intro @Nq<|And.intro @Ty<|And.intro @M9 <|
 And.intro @Ng<|And.intro @PD<|And.intro @Pl<|And.intro @P6<|And.intro @Tz<|And.intro @PK<|And.intro @TV <|
 And.intro @Ur<|And.intro @Rs<|And.intro @Uo<|And.intro @TA<|And.intro @TJ<|And.intro @Ru<|And.intro @TS <|
 And.intro @Nr<|And.intro @Tt<|And.intro @Pc<|And.intro @Mj<|And.intro @PC<|And.intro @MW <|
 And.intro @Bk<|And.intro @Nv<|And.intro @PW<|And.intro @ML<|And.intro @KE<|And.intro @MC <|
 And.intro @uX<|And.intro @M5<|And.intro @TO<|And.intro @Na<|And.intro @Pd<|And.intro @UC<|And.intro @Pb <|
 And.intro @TG<|And.intro @UP<|And.intro @UK<|And.intro @P7<|And.intro @M1<|And.intro @PH<|And.intro @Rp <|
 And.intro @TL<|And.intro @TW<|And.intro @Qb<|And.intro @Pp<|And.intro @MR<|And.intro @Pq<|And.intro @YC <|
 And.intro @OF<|And.intro @Zs<|And.intro @Ts<|And.intro @Yl<|And.intro @Y0<|And.intro @YJ<|And.intro @Z4 <|
 And.intro @List.length_map.{0,0}<|And.intro @List.all_cons.{0}<|And.intro @List.all_nil.{0}<|And.intro @QM<|And.intro @Bool.and_self <|
 And.intro @Bool.and_true<|And.intro @Qw<|And.intro @T2<|And.intro @TQ<|And.intro @Qg<|And.intro @Rm <|
 And.intro @P0<|And.intro @Qq<|And.intro @Qo<|And.intro @Ro<|And.intro @QJ<|And.intro @Q8<|And.intro @P5 <|
 And.intro @T8<|And.intro @T6<|And.intro @Value.bool.injEq<|And.intro @decide_eq_true_eq<|And.intro @decide_eq_false_iff_not <|
 And.intro @Bool.not_true<|And.intro @Bool.not_false<|And.intro @decide_true<|And.intro @decide_false<|And.intro @Bool.not_eq_true' <|
 And.intro @Bool.not_eq_false'<|And.intro @Bool.false_eq_true<|And.intro @false_and<|And.intro @and_false<|And.intro @Option.map_some.{0,0} <|
 And.intro @Option.map_none.{0,0}<|And.intro @if_true.{1}<|And.intro @if_false.{1}<|And.intro @List.map_cons.{0,0}<|And.intro @List.map_nil.{0,0} <|
 And.intro @List.cons_append.{0}<|And.intro @List.nil_append.{0}<|And.intro @and_true<|And.intro @true_and<|And.intro @Nat.zero_add <|
 And.intro @Nat.add_zero<|And.intro @List.length_cons.{0}<|And.intro @List.length_nil.{0}<|And.intro @Nf<|And.intro @List.getD_cons_zero.{0} <|
 And.intro @List.getD_cons_succ.{0}<|And.intro @List.getD_nil.{0}<|And.intro @VV.sc.injEq<|And.intro @List.getElem?_cons_zero.{0} <|
 And.intro @List.getElem?_cons_succ.{0}<|And.intro @Ju<|And.intro @Nd<|And.intro @MD<|And.intro @J7 <|
 And.intro @M4<|And.intro @Np<|And.intro @J0<|And.intro @HO<|And.intro @JM<|And.intro @alU<|And.intro @aoM <|
 And.intro @alV<|And.intro @anP<|And.intro @aoQ<|And.intro @aoB<|And.intro @alW<|And.intro @amJ<|And.intro @anT<|And.intro @anZ <|
 And.intro @anV<|And.intro @akS<|And.intro @anX<|And.intro @aoJ <| @amR) :=
 And.intro @Y2<|And.intro @Yr<|And.intro @Qj<|And.intro @TP<|And.intro @UW<|And.intro @YR<|And.intro @UL <|
 And.intro @QF<|And.intro @B6<|And.intro @Er<|And.intro @Fy<|And.intro @D9<|And.intro @C8 <|
 And.intro @KK<|And.intro @Gj<|And.intro @Me<|And.intro @JF<|And.intro @Qk<|And.intro @Qi <|
 And.intro @KN<|And.intro @MY<|And.intro @YM<|And.intro @aeR<|And.intro @YW<|And.intro @aeG<|And.intro @HU <|
 And.intro @Yk<|And.intro @O7<|And.intro @TD<|And.intro @TT<|And.intro @Mf<|And.intro @Mr<|And.intro @ZB <|
 And.intro @Ug<|And.intro @UN<|And.intro @UM<|And.intro @TN<|And.intro @Nq<|And.intro @Ty<|And.intro @M9 <|
 And.intro @Ng<|And.intro @PD<|And.intro @Pl<|And.intro @P6<|And.intro @Tz<|And.intro @PK<|And.intro @TV <|
 And.intro @Ur<|And.intro @Rs<|And.intro @Uo<|And.intro @TA<|And.intro @TJ<|And.intro @Ru<|And.intro @TS <|
 And.intro @Nr<|And.intro @Tt<|And.intro @Pc<|And.intro @Mj<|And.intro @PC<|And.intro @MW <|
 And.intro @Bk<|And.intro @Nv<|And.intro @PW<|And.intro @ML<|And.intro @KE<|And.intro @MC <|
 And.intro @uX<|And.intro @M5<|And.intro @TO<|And.intro @Na<|And.intro @Pd<|And.intro @UC<|And.intro @Pb <|
 And.intro @TG<|And.intro @UP<|And.intro @UK<|And.intro @P7<|And.intro @M1<|And.intro @PH<|And.intro @Rp <|
 And.intro @TL<|And.intro @TW<|And.intro @Qb<|And.intro @Pp<|And.intro @MR<|And.intro @Pq<|And.intro @YC <|
 And.intro @OF<|And.intro @Zs<|And.intro @Ts<|And.intro @Yl<|And.intro @Y0<|And.intro @YJ<|And.intro @Z4 <|
 And.intro @List.length_map.{0,0}<|And.intro @List.all_cons.{0}<|And.intro @List.all_nil.{0}<|And.intro @QM<|And.intro @Bool.and_self <|
 And.intro @Bool.and_true<|And.intro @Qw<|And.intro @T2<|And.intro @TQ<|And.intro @Qg<|And.intro @Rm <|
 And.intro @P0<|And.intro @Qq<|And.intro @Qo<|And.intro @Ro<|And.intro @QJ<|And.intro @Q8<|And.intro @P5 <|
 And.intro @T8<|And.intro @T6<|And.intro @Value.bool.injEq<|And.intro @decide_eq_true_eq<|And.intro @decide_eq_false_iff_not <|
 And.intro @Bool.not_true<|And.intro @Bool.not_false<|And.intro @decide_true<|And.intro @decide_false<|And.intro @Bool.not_eq_true' <|
 And.intro @Bool.not_eq_false'<|And.intro @Bool.false_eq_true<|And.intro @false_and<|And.intro @and_false<|And.intro @Option.map_some.{0,0} <|
 And.intro @Option.map_none.{0,0}<|And.intro @if_true.{1}<|And.intro @if_false.{1}<|And.intro @List.map_cons.{0,0}<|And.intro @List.map_nil.{0,0} <|
 And.intro @List.cons_append.{0}<|And.intro @List.nil_append.{0}<|And.intro @and_true<|And.intro @true_and<|And.intro @Nat.zero_add <|
 And.intro @Nat.add_zero<|And.intro @List.length_cons.{0}<|And.intro @List.length_nil.{0}<|And.intro @Nf<|And.intro @List.getD_cons_zero.{0} <|
 And.intro @List.getD_cons_succ.{0}<|And.intro @List.getD_nil.{0}<|And.intro @VV.sc.injEq<|And.intro @List.getElem?_cons_zero.{0} <|
 And.intro @List.getElem?_cons_succ.{0}<|And.intro @Ju<|And.intro @Nd<|And.intro @MD<|And.intro @J7 <|
 And.intro @M4<|And.intro @Np<|And.intro @J0<|And.intro @HO<|And.intro @JM<|And.intro @alU<|And.intro @aoM <|
 And.intro @alV<|And.intro @anP<|And.intro @aoQ<|And.intro @aoB<|And.intro @alW<|And.intro @amJ<|And.intro @anT<|And.intro @anZ <|
 And.intro @anV<|And.intro @akS<|And.intro @anX<|And.intro @aoJ <| @amR
theorem fD:type_of% (
 And.intro @jB<|And.intro @H0<|And.intro @HS<|And.intro @MV<|And.intro @C5<|And.intro @MM <|
 And.intro @HL<|And.intro @Js<|And.intro @Iq<|And.intro @bK<|And.intro @qZ<|And.intro @List.set_cons_zero.{0} <|
 And.intro @List.set_cons_succ.{0}<|And.intro @xS<|And.intro @Bv<|And.intro @mF.eq_1<|And.intro @oP.eq_1 <|
 And.intro @oP.eq_2<|And.intro @CU.eq_1<|And.intro @CU.eq_2<|And.intro @yC.eq_1<|And.intro @yC.eq_2<|And.intro @FJ <|
 And.intro @BD<|And.intro @Dw<|And.intro @DD<|And.intro @MQ<|And.intro @List.take_zero.{0} <|
 And.intro @List.take_succ_cons.{0}<|And.intro @List.take_nil.{0}<|And.intro @List.drop_zero.{0}<|And.intro @List.drop_succ_cons.{0} <|
 And.intro @List.drop_nil.{0}<|And.intro @List.append_nil.{0}<|And.intro @Nat.le_refl<|And.intro @cS.eq_1<|And.intro @Int.toNat_natCast <|
 And.intro @eq_self.{1}<|And.intro @ge_iff_le.{0} <| @Bool.and_eq_true) :=
 And.intro @jB<|And.intro @H0<|And.intro @HS<|And.intro @MV<|And.intro @C5<|And.intro @MM <|
 And.intro @HL<|And.intro @Js<|And.intro @Iq<|And.intro @bK<|And.intro @qZ<|And.intro @List.set_cons_zero.{0} <|
 And.intro @List.set_cons_succ.{0}<|And.intro @xS<|And.intro @Bv<|And.intro @mF.eq_1<|And.intro @oP.eq_1 <|
 And.intro @oP.eq_2<|And.intro @CU.eq_1<|And.intro @CU.eq_2<|And.intro @yC.eq_1<|And.intro @yC.eq_2<|And.intro @FJ <|
 And.intro @BD<|And.intro @Dw<|And.intro @DD<|And.intro @MQ<|And.intro @List.take_zero.{0} <|
 And.intro @List.take_succ_cons.{0}<|And.intro @List.take_nil.{0}<|And.intro @List.drop_zero.{0}<|And.intro @List.drop_succ_cons.{0} <|
 And.intro @List.drop_nil.{0}<|And.intro @List.append_nil.{0}<|And.intro @Nat.le_refl<|And.intro @cS.eq_1<|And.intro @Int.toNat_natCast <|
 And.intro @eq_self.{1}<|And.intro @ge_iff_le.{0} <| @Bool.and_eq_true
end Go.PM
namespace Go.PM
theorem TC.vt {f:Nat} {args:List VV} {r:VV} (h:TC f args r) (xI:C0.contains f=false) (hp:aJ args=true):VT f args r:=by
 have h1:=h 0 [] fun x _=>x=r
 unfold cT at h1
 simp only[xI,hp,Bool.false_eq_true,if_false,if_true] at h1
 have h2:FE f args fun x=>x=r:=by rw[h1];trivial
 unfold FE tk at h2
 split at h2
 ·rename_i x hx
  rw[←h2]
  exact(NK hx).2.2
 ·exact h2.elim
theorem TC.yes {f:Nat} {args:List VV} {dV:List Value} {H:aE} (h:TC f args (.sc (.bool true))) (xI:C0.contains f=false) (hp:aJ args=true) (hl:VL (bare (· < H.length) H) args dV) :
  ∃v H',qP f dV H.length H=some (v,H')∧v = .bool true:=by
 obtain⟨P',pv,h1,_,h2⟩:=h.vt xI hp (· < H.length) H dV H.length (fun _ h=>h) hl (Nat.le_refl _)
 cases h2
 exact⟨_,P',h1,rfl⟩
theorem VR.grow {H L:aE} {x:VV} {v:Value} (h:VR (bare (· < H.length) H) x v):VR (bare (· < (H++L).length) (H++L)) x v :=
 h.Dj fun b hb=>⟨by show b<_;rw[List.length_append];omega,List.getElem?_append_left hb⟩
end Go.PM
namespace Go.PM
mutual
def qQ (n:Nat):VV→Bool
 | .any=>false
 | .sc v=>nF v
 | .agg cs=>yF n cs
 | .dL vs=>yF n vs
 | .tree es k=>es.isEmpty&&decide (k = .nil)
 | .cK _ _=>false
 | .ref b _ _ _ _=>decide (n≤b)
 | .ptr b _ _ _=>decide (n≤b)
 | .uG _ _=>false
def yF (n:Nat):List VV→Bool
 | []=>true
 | x::xs=>qQ n x&&yF n xs
end
theorem wX {n:Nat} {es:List VV}:yF n es=true↔∀x∈es,qQ n x=true:=by
 induction es with
 | nil=>simp[yF]
 | cons x xs ih=>simp[yF,ih]
theorem U2 {n:Nat} {es:List VV} (h:yF n es=true):yF n (es.flatMap aB)=true:=by
 rw[wX] at h ⊢
 intro x hx
 obtain⟨y,hy,Ap⟩:=List.mem_flatMap.1 hx
 have:=h y hy
 unfold aB at Ap
 split at Ap
 ·exact wX.1 (by simpa[qQ] using this) x Ap
 ·rw[List.mem_singleton] at Ap;subst Ap;exact this
def kQ (n:Nat) (L:aA):Bool:=L.all fun
 | .row _ es _ _=>yF n es
 | .dead=>true
theorem VR.own {V V':View} {k0:Nat} (O4:∀q,V.base≤q∧q<V.P.length→V'.base≤q∧q<V'.P.length∧∀b' g' es e w,b'<k0→V'.H[b']? = some (.row g' es e w)→V'.m b'≠q) (hl:V.H.length≤V'.H.length) (hH:∀b,k0≤b→V'.H[b]? = V.H[b]?) (hm:∀b,k0≤b→V'.m b=V.m b) {x:VV} {v:Value} (h:VR V x v):qQ k0 x=true→VR V' x v:=by
 induction h using VR.rec (motive_2:=fun xs vs _=>yF k0 xs=true→VL V' xs vs) with
 | any=>intro hx;cases hx
 | sc _ h=>intro _;exact .sc _ h
 | agg cs ps _ ih=>intro hx;exact .agg _ _ (ih hx)
 | dL cs ps _ ih=>intro hx;exact .dL _ _ (ih hx)
 | nG k hk=>intro _;exact .nG k hk
 |
  tree es k b o c r e p hF hb ho hc he hk _ _ =>
  intro hx
  simp only[qQ,Bool.and_eq_true,decide_eq_true_eq] at hx
  obtain⟨_,rfl⟩:=hx
  exact hk.elim
 | cK=>intro hx;cases hx
 |
  ref b g o n c a n' c' bD hg ha hq =>
  intro hx
  have hb:k0≤b:=by simpa[qQ] using hx
  exact .ref b g o n c a n' c' (Nat.lt_of_lt_of_le bD hl) (fun g' es e w hr=>hg g' es e w (by rw[←hH b hb];exact hr)) (fun es e w hr=>by rw[hm b hb];exact ha es e w (by rw[←hH b hb];exact hr)) fun a0 h=>by
   obtain⟨q1,q2,q3⟩:=hq a0 h
   obtain⟨q4,q5,q6⟩:=O4 _ ⟨q1,q2⟩
   refine⟨q4,q5,fun b' g' es e w hr fR => ?_⟩
   rcases Nat.lt_or_ge b' k0 with Jv | DT
   ·exact q6 b' g' es e w Jv hr
   ·rw[hm b' DT]
    exact q3 b' g' es e w (by rw[←hH b' DT];exact hr) fR
 |
  ptr b g j off a bD hg ha hq =>
  intro hx
  have hb:k0≤b:=by simpa[qQ] using hx
  exact .ptr b g j off a (Nat.lt_of_lt_of_le bD hl) (fun g' es e w hr=>hg g' es e w (by rw[←hH b hb];exact hr)) (fun es e w hr=>by rw[hm b hb];exact ha es e w (by rw[←hH b hb];exact hr)) fun a0 h=>by
   obtain⟨q1,q2,q3⟩:=hq a0 h
   obtain⟨q4,q5,q6⟩:=O4 _ ⟨q1,q2⟩
   refine⟨q4,q5,fun b' g' es e w hr fR => ?_⟩
   rcases Nat.lt_or_ge b' k0 with Jv | DT
   ·exact q6 b' g' es e w Jv hr
   ·rw[hm b' DT]
    exact q3 b' g' es e w (by rw[←hH b' DT];exact hr) fR
 | uG=>intro hx;cases hx
 | nil=>exact .nil
 |
  cons x v xs vs _ _ ih RQ =>
  rename_i hx
  simp only[yF,Bool.and_eq_true] at hx
  exact .cons _ _ _ _ (ih hx.1) (RQ hx.2)
theorem VL.own {V V':View} {n:Nat} (O4:∀q,V.base≤q∧q<V.P.length→V'.base≤q∧q<V'.P.length∧∀b' g' es e w,b'<n→V'.H[b']? = some (.row g' es e w)→V'.m b'≠q) (hl:V.H.length≤V'.H.length) (hH:∀b,n≤b→V'.H[b]? = V.H[b]?) (hm:∀b,n≤b→V'.m b=V.m b) {xs:List VV} {vs:List Value} (h:VL V xs vs) (hx:yF n xs=true):VL V' xs vs:=by
 induction xs generalizing vs with
 | nil=>cases h;exact .nil
 |
  cons x xs ih=>cases h with
  |
   cons _ v _ vs h hs =>
   simp only[yF,Bool.and_eq_true] at hx
   exact .cons _ _ _ _ (h.own O4 hl hH hm hx.1) (ih hs hx.2)
theorem VL.Dj {V':View} {G:Nat→Prop} {P:aE} {xs:List VV} {vs:List Value} (hF:∀b,G b→V'.F b∧V'.P[b]? = P[b]?) (h:VL (bare G P) xs vs):VL V' xs vs:=by
 induction xs generalizing vs with
 | nil=>cases h;exact .nil
 |
  cons x xs ih=>cases h with
  | cons _ v _ vs h hs=>exact .cons _ _ _ _ (h.Dj hF) (ih hs)
def FC (f:Nat) (args:List VV) (R:Nat→VV→aA→Prop):Prop :=
 ∀n,oO f args n (List.replicate n .dead) fun r H'=>∃L,H'=List.replicate n .dead++L∧qQ n r=true∧kQ n L=true∧R n r L
theorem FC.walk {f:Nat} {pf:aV} {args:List VV} {R:Nat→VV→aA→Prop} (fl:Fl) (ht:gT f=some pf) (hn:args.length≤pf.ntmps)
  (h:∀n,VW fl n pf.body (Aq pf.res fun r H'=>∃L,H'=List.replicate n .dead++L∧qQ n r=true∧kQ n L=true∧R n r L) (HR args) (List.replicate n .dead)):FC f args R :=
 fun n=>oO.walk fl ht hn (h n)
theorem FC.raw {f:Nat} {args kL:List VV} {R:Nat→VV→aA→Prop} {H:aA} {lo:Nat} (h:FC f kL R) (hf:args.mapM (fz depth H)=some kL):oO f args lo H fun r H'=>∃L,H'=H++L∧R H.length r L∧qQ H.length r=true∧kQ H.length L=true:=by
 intro V dS dV hH hS hl
 have h1:=h H.length
 let V0:View:={ m:=V.m,F:=(· < V.P.length),H:=List.replicate H.length .dead,P:=V.P,base:=V.P.length }
 have Kt:∀(b g:Nat) (es:List VV) (e:Nat) (w:Bool),V0.H[b]? ≠ some (.row g es e w):=by
  intro b g es e w hb
  have:=List.eq_of_mem_replicate (List.mem_of_getElem? hb)
  cases this
 have hS0:SR V0 H.length dS:=⟨fun b g es e w hb=>absurd hb (Kt _ _ _ _ _),fun b g es e hb=>absurd hb (Kt _ _ _ _ _),fun a b g es e w _ _ _ _ ha=>absurd ha (Kt _ _ _ _ _),fun b hb=>hb,hS.RF,Nat.le_refl _⟩
 have zX:VL V0 kL dV:=by
  have:=DK hS (G:=(· < V.P.length)) (fun q hq=>hS.fr q hq) hl (by rw[hH];exact hf) (fun i _ g es e w hb=>hS.mlt hb)
  exact VL.Dj (V':=V0) (fun b hb=>⟨hb,rfl⟩) this
 obtain⟨pv,V1,r,k1,k3,k4,k5,L,k2,h2,h3,hR⟩:=h1 V0 dS dV rfl hS0 zX
 have Uh:∀b g es e w,V1.H[b]? = some (.row g es e w)→V.P.length≤V1.m b:=by
  intro b g es e w hb
  rcases Nat.lt_or_ge (V1.m b) V.P.length with bD | DT
  ·obtain⟨g0,es0,w0,j1,_⟩:=k4.BB b g es e w hb bD
   exact absurd j1 (Kt _ _ _ _ _)
  ·exact DT
 have anK:V1.H.length=H.length+(L).length:=by rw[k2];simp
 have Ck:∀q,q<V.P.length→V1.P[q]? = V.P[q]? := fun q hq=>k4.eI q hq fun b g es e hb=>absurd hb (Kt _ _ _ _ _)
 let V2:View:={ m:=fun b=>if b<H.length then V.m b else V1.m b,F:=V.F,H:=H++L,P:=V1.P,base:=V.base }
 have abR:∀b,H.length≤b→V2.H[b]? = V1.H[b]? := fun b hb=>by
  show (H++L)[b]? = _
  rw[k2,List.getElem?_append_right hb,List.getElem?_append_right (by simpa using hb),List.length_replicate]
 have mL:∀b,H.length≤b→V2.m b=V1.m b:=fun b hb=>by
  show (if b<H.length then V.m b else V1.m b)=_
  rw[if_neg (by omega)]
 have adI:∀b,b<H.length→V2.H[b]? = V.H[b]? := fun b hb=>by
  show (H++L)[b]? = _
  rw[List.getElem?_append_left hb,hH]
 have mS:∀b,b<H.length→V2.m b=V.m b:=fun b hb=>by
  show (if b<H.length then V.m b else V1.m b)=_
  rw[if_pos hb]
 have hU:Up V V2:=⟨fun _ h=>h,fun b hb=>Ck b (hS.fr b hb),by show V.H.length≤(H++L).length;rw[hH];simp,fun b g es e w bD hb=>⟨g,es,w,by rw[←adI b (by rw[←hH];exact bD)];exact hb,Nat.le_refl _,fun _=>mS b (by rw[←hH];exact bD)⟩,rfl,k4.DV,fun b g es e w hb hm=>by
   rcases Nat.lt_or_ge b H.length with h | h
   ·exact⟨g,es,w,by rw[←adI b h];exact hb,mS b h,id⟩
   ·rw[mL b h] at hm
    have:=Uh b g es e w (by rw[←abR b h];exact hb)
    omega⟩
 have Uy:∀ {b g es e w},V2.H[b]? = some (.row g es e w)→(b<H.length∧V.H[b]? = some (.row g es e w))∨(H.length≤b∧V1.H[b]? = some (.row g es e w)):=by
  intro b g es e w hb
  rcases Nat.lt_or_ge b H.length with h | h
  ·exact .inl ⟨h,by rw[←adI b h];exact hb⟩
  ·exact .inr ⟨h,by rw[←abR b h];exact hb⟩
 have aeW:V1.H.length≤V2.H.length:=by show _≤(H++L).length;rw[anK];simp
 have anR:∀ {b g es e w},H.length≤b→V1.H[b]? = some (.row g es e w)→yF H.length es=true:=by
  intro b g es e w hb hr
  rw[k2,List.getElem?_append_right (by simpa using hb)] at hr
  exact List.all_eq_true.1 h3 _ (List.mem_of_getElem? hr)
 have O4:∀q,V1.base≤q∧q<V1.P.length→V2.base≤q∧q<V2.P.length∧∀b' g' es e w,b'<H.length→V2.H[b']? = some (.row g' es e w)→V2.m b'≠q:=by
  intro q hq
  have Ao:V.P.length≤q:=by have:=k4.Jf;rw[this] at hq;exact hq.1
  refine⟨Nat.le_trans hS.Jf Ao,hq.2,fun b' g' es e w bD hr hm => ?_⟩
  rw[mS b' bD] at hm
  have:=hS.mlt (by rw[←adI b' bD];exact hr)
  omega
 refine⟨pv,V2,r,k1,⟨fun b g es e w hb => ?_,fun b g es e hb => ?_,fun a b g es e w g' mO e' w' ha hb hm => ?_,fun b hb => ?_,?_,Nat.le_trans hS.Jf k4.DV⟩,{ hU with eI:=fun q hq _=>Ck q hq,Cd:=fun q hq => .inl hq },?_,L,rfl,hR,h2,h3⟩
 ·rcases Uy hb with⟨h,hb⟩ | ⟨h,hb⟩
  ·obtain⟨r,p,j1,j2,j3⟩:=hS.row b g es e w hb
   exact⟨r,p,by rw[mS b h];exact(Ck _ (hS.mlt hb)).trans j1,j2,j3.mono hU⟩
  ·obtain⟨r,p,j1,j2,j3⟩:=k3.row b g es e w hb
   exact⟨r,p,by rw[mL b h];exact j1,j2,j3.own O4 aeW (fun b hb=>abR b hb) (fun b hb=>mL b hb) (U2 (anR h hb))⟩
 ·rcases Uy hb with⟨h,hb⟩ | ⟨h,hb⟩
  ·rw[mS b h]
   exact hS.wr b g es e hb
  ·rw[mL b h]
   have:=Uh b g es e true hb
   exact⟨fun hF=>by have:=hS.fr _ hF;omega,fun _=>Nat.le_trans hS.RF this⟩
 ·rcases Uy ha with⟨h,ha⟩ | ⟨h,ha⟩<;>rcases Uy hb with⟨h',hb⟩ | ⟨h',hb⟩
  ·rw[mS a h,mS b h'] at hm
   exact hS.inj a b _ _ _ _ _ _ _ _ ha hb hm
  ·rw[mS a h,mL b h'] at hm
   have:=Uh b _ _ _ _ hb
   have:=hS.mlt ha
   omega
  ·rw[mL a h,mS b h'] at hm
   have:=Uh a _ _ _ _ ha
   have:=hS.mlt hb
   omega
  ·rw[mL a h,mL b h'] at hm
   exact k3.inj a b _ _ _ _ _ _ _ _ ha hb hm
 ·exact Nat.lt_of_lt_of_le (hS.fr b hb) k4.DV
 ·exact Nat.le_trans hS.RF k4.DV
 ·exact k5.own O4 aeW (fun b hb=>abR b hb) (fun b hb=>mL b hb) h2
theorem kI {f:Nat} {args:List VV} {lo:Nat} {H:aA} {K:VV→aA→Prop} (xI:C0.contains f=true) (h:oO f args lo H K):cT f args lo H K:=by
 unfold cT
 rw[if_pos xI]
 exact h
theorem FC.call {f:Nat} {args kL:List VV} {R:Nat→VV→aA→Prop} {H:aA} {lo:Nat} {K:VV→aA→Prop} (h:FC f kL R) (xI:C0.contains f=true) (hf:args.mapM (fz depth H)=some kL) (hk:∀r L,R H.length r L→K r (H++L)):cT f args lo H K :=
 kI xI ((h.raw hf).mono fun r H' ⟨L,h1,h2,_⟩=>by subst h1;exact hk r L h2)
theorem FC.anD {f:Nat} {args kL:List VV} {R:Nat→VV→aA→Prop} {H:aA} {lo:Nat} {K:VV→aA→Prop} (h:FC f kL R) (xI:C0.contains f=true) (hf:args.mapM (fz depth H)=some kL) (hk:∀r L,R H.length r L→qQ H.length r=true→kQ H.length L=true→K r (H++L)):cT f args lo H K :=
 kI xI ((h.raw hf).mono fun r H' ⟨L,h1,h2,h3,h4⟩=>by subst h1;exact hk r L h2 h3 h4)
def QB (H K:aA):Prop:=K.length=H.length∧∀(b g:Nat) (es:List VV) (e:Nat) (w:Bool),K[b]? = some (.row g es e w)→H[b]? = some (.row g es e w)
theorem VR.kill {V:View} {K:aA} (hK:QB V.H K) {x:VV} {v:Value} (h:VR V x v):VR { V with H:=K } x v:=by
 induction h using VR.rec (motive_2:=fun xs vs _=>VL { V with H:=K } xs vs) with
 | any=>exact .any _
 | sc _ h=>exact .sc _ h
 | agg cs ps _ ih=>exact .agg _ _ ih
 | dL cs ps _ ih=>exact .dL _ _ ih
 | nG k hk=>exact .nG k hk
 | tree es k b o c r e p hF hb ho hc he hk _ ih=>exact .tree es k b o c r e p hF hb ho hc he hk ih
 | cK x off b o r e p hF hb ho _ ih=>exact .cK x off b o r e p hF hb ho ih
 |
  ref b g o n c a n' c' bD hg ha hq =>
  exact .ref b g o n c a n' c' (by show b<K.length;rw[hK.1];exact bD) (fun g' es e w hr=>hg g' es e w (hK.2 _ _ _ _ _ hr)) (fun es e w hr=>ha es e w (hK.2 _ _ _ _ _ hr)) fun a0 h=>⟨(hq a0 h).1,(hq a0 h).2.1,fun b' g' es e w hr=>(hq a0 h).2.2 b' g' es e w (hK.2 _ _ _ _ _ hr)⟩
 |
  ptr b g j off a bD hg ha hq =>
  exact .ptr b g j off a (by show b<K.length;rw[hK.1];exact bD) (fun g' es e w hr=>hg g' es e w (hK.2 _ _ _ _ _ hr)) (fun es e w hr=>ha es e w (hK.2 _ _ _ _ _ hr)) fun a0 h=>⟨(hq a0 h).1,(hq a0 h).2.1,fun b' g' es e w hr=>(hq a0 h).2.2 b' g' es e w (hK.2 _ _ _ _ _ hr)⟩
 | uG f fS ps _ ih=>exact .uG _ _ _ ih
 | nil=>exact .nil
 | cons x v xs vs _ _ ih RQ=>exact .cons _ _ _ _ ih RQ
theorem VL.kill {V:View} {K:aA} (hK:QB V.H K) {xs:List VV} {vs:List Value} (h:VL V xs vs):VL { V with H:=K } xs vs:=by
 induction xs generalizing vs with
 | nil=>cases h;exact .nil
 |
  cons x xs ih=>cases h with
  | cons _ v _ vs h hs=>exact .cons _ _ _ _ (h.kill hK) (ih hs)
theorem oO.kill {f:Nat} {args:List VV} {lo:Nat} {H:aA} {P P':VV→aA→Prop} (h:oO f args lo H P) (hk:∀v H',P v H'→∃K,QB H' K∧P' v K):oO f args lo H P':=by
 intro V dS dV hH hS hl
 obtain⟨pv,V',v,h1,h2,h3,h4,h5⟩:=h V dS dV hH hS hl
 obtain⟨K,hK,h6⟩:=hk _ _ h5
 refine⟨pv,{ V' with H:=K },v,h1,⟨fun b g es e w hb => ?_,fun b g es e hb=>h2.wr b g es e (hK.2 _ _ _ _ _ hb),fun a b g es e w g' mO e' w' ha hb hm=>h2.inj a b _ _ _ _ _ _ _ _ (hK.2 _ _ _ _ _ ha) (hK.2 _ _ _ _ _ hb) hm,h2.fr,h2.RF,h2.Jf⟩,
  { F:=h3.F,P:=h3.P,len:=by show V.H.length≤K.length;rw[hK.1];exact h3.len,row:=fun b g es e w bD hb=>h3.row b g es e w bD (hK.2 _ _ _ _ _ hb),Jf:=h3.Jf,DV:=h3.DV,BB:=fun b g es e w hb hm=>h3.BB b g es e w (hK.2 _ _ _ _ _ hb) hm,eI:=h3.eI,Cd:=h3.Cd },h4.kill hK,h6⟩
 obtain⟨r,p,j1,j2,j3⟩:=h2.row b g es e w (hK.2 _ _ _ _ _ hb)
 exact⟨r,p,j1,j2,j3.kill hK⟩
theorem FC.anQ {f:Nat} {pf:aV} {args:List VV} {R:Nat→VV→aA→Prop} (fl:Fl) (ht:gT f=some pf) (hn:args.length≤pf.ntmps)
  (h:∀n,VW fl n pf.body (Aq pf.res fun r H'=>∃L,QB H' (List.replicate n .dead++L)∧qQ n r=true∧kQ n L=true∧R n r L) (HR args) (List.replicate n .dead)):FC f args R :=
 fun n=>(oO.walk fl ht hn (h n)).kill fun _ _ ⟨L,h1,h2,h3,h4⟩=>⟨_,h1,L,rfl,h2,h3,h4⟩
end Go.PM
namespace Go.PM
open Go.ChangeShapes Go.WideShapes Go.ChangeAt Go.RowKit
open Go.Proofs
def tZ (W:World):Prop:=∃(rb:Nat) (arr:Array Value) (e:TypeId) (fz:Nat×Nat),W.heap[rb]? = some (.cells arr e fz)
structure Br (m m':cZ) (H L:aE) (W:World) (cs E3:List Value) (vs:List VV):Prop where
 inn:In m' (H++L) W
 ext:∀b l,m b=some l→m' b=some l
 len:E3.length=cs.length
 rv:∀i,i<cs.length→RV m' (E3.getD i Go.undef) (cs.getD i Go.undef)
 sc:∀v∈E3,PM.gS v=true
 tree:VL (bare (· < (H++L).length) (H++L)) vs E3
def En {T:Type} (sT:TypeId×Value→T) (P:Program) (W:World) (t:TypeId) (k:Nat) (S:List VV→Prop):Prop :=
 ∀fuel cs y,DataW.trod sT P W 0 (fun _=>true) true fuel t cs=some y→∀(m:cZ) (H:aE),In m H W→cs.length=k∧∃m' L E3 vs,Br m m' H L W cs E3 vs∧S vs
theorem VL.grow {H L:aE} {xs:List VV} {vs:List Value} (h:VL (bare (· < H.length) H) xs vs):VL (bare (· < (H++L).length) (H++L)) xs vs :=
 h.Dj fun b hb=>⟨by show b<_;rw[List.length_append];omega,List.getElem?_append_left hb⟩
theorem VL.app {V:View} {xs ys:List VV} {vs ws:List Value} (h:VL V xs vs) (h':VL V ys ws):VL V (xs++ys) (vs++ws):=by
 induction xs generalizing vs with
 | nil=>cases h;exact h'
 |
  cons x xs ih=>cases h with
  | cons _ v _ vs h hs=>exact .cons _ _ _ _ h (ih hs)
theorem GL {cs ds:List Value} {i:Nat} (h:i<cs.length):(cs++ds).getD i Go.undef=cs.getD i Go.undef:=by
 simp only[List.getD_eq_getElem?_getD,List.getElem?_append_left h]
theorem EU {cs ds:List Value} {i:Nat} (h:cs.length≤i):(cs++ds).getD i Go.undef=ds.getD (i-cs.length) Go.undef:=by
 simp only[List.getD_eq_getElem?_getD,List.getElem?_append_right h]
theorem Br.both {m m1 m2:cZ} {H L1 L2:aE} {W:World} {cs E3 Ae amY:List Value} {vs vs':List VV} (h:Br m m1 H L1 W cs E3 vs) (h':Br m1 m2 (H++L1) L2 W Ae amY vs'):Br m m2 H (L1++L2) W (cs++Ae) (E3++amY) (vs++vs'):=by
 refine⟨by rw[←List.append_assoc];exact h'.inn,fun b l hb=>h'.ext _ _ (h.ext _ _ hb),by simp[h.len,h'.len],fun i hi => ?_,fun v hv => ?_,?_⟩
 ·rcases Nat.lt_or_ge i cs.length with bD | DT
  ·rw[GL bD,GL (by rw[h.len];exact bD)]
   exact(h.rv i bD).mono h'.ext
  ·rw[EU DT,EU (by rw[h.len];exact DT),h.len]
   exact h'.rv _ (by rw[List.length_append] at hi;omega)
 ·rcases List.mem_append.1 hv with hv | hv
  ·exact h.sc v hv
  ·exact h'.sc v hv
 ·rw[←List.append_assoc]
  exact h.tree.grow.app h'.tree
theorem Br.none {m:cZ} {H:aE} {W:World} (hI:In m H W):Br m m H [] W [] [] [] :=
 ⟨by rw[List.append_nil];exact hI,fun _ _ h=>h,rfl,fun i hi=>absurd hi (Nat.not_lt_zero _),fun v hv=>(by cases hv),.nil⟩
theorem NF {T:Type} {sT:TypeId×Value→T} {P:Program} {W:World} {t:TypeId} (ht:P.underlying t=some .string):En sT P W t 1 (fun vs=>∃s:ByteArray,s.size≤maxLen∧vs=[.sc (.string s)]):=by
 intro fuel cs y h m H hI
 obtain⟨s,rfl,_,hs⟩:=DataW.trod_string ht h
 refine⟨rfl,m,[],[.string s],[.sc (.string s)],⟨by rw[List.append_nil];exact hI,fun _ _ h=>h,rfl,fun i hi => ?_,fun v hv => ?_,.cons _ _ _ _ (.sc _ rfl) .nil⟩,s,hs,rfl⟩
 ·have:i=0:=by simpa using hi
  subst this
  exact .str s
 ·rw[List.mem_singleton] at hv
  subst hv
  rfl
theorem Kx {T:Type} {sT:TypeId×Value→T} {P:Program} {W:World} {e:TypeId} {fL:Nat} {S:List VV→Prop} (ho:En sT P W e fL S):∀(RI:List (List Value)),(∀cs∈RI,∃fuel y,DataW.trod sT P W 0 (fun _=>true) true fuel e cs=some y)→∀(m:cZ) (H:aE),In m H W →
  ∃(m':cZ) (L:aE) (E3:List Value) (gs:List (List VV)),Br m m' H L W RI.flatten E3 gs.flatten∧gs.length=RI.length∧(∀g∈gs,S g)∧∀cs∈RI,cs.length=fL
 | [],_,m,H,hI=>⟨m,[],[],[],Br.none hI,rfl,fun g hg=>(by cases hg),fun cs KM=>(by cases KM)⟩
 |
  cs::RI,h,m,H,hI=>by
  obtain⟨fuel,y,hy⟩:=h cs List.mem_cons_self
  obtain⟨hl,m1,L1,arZ,g,h1,hS⟩:=ho fuel cs y hy m H hI
  obtain⟨m2,L2,auW,gs,h2,h3,h4,h5⟩:=Kx ho RI (fun cs KM=>h cs (List.mem_cons_of_mem _ KM)) m1 (H++L1) h1.inn
  refine⟨m2,L1++L2,arZ++auW,g::gs,?_,by simp[h3],fun g' Zv => ?_,fun Ae agP => ?_⟩
  ·rw[List.flatten_cons,List.flatten_cons]
   exact h1.both h2
  ·rcases List.mem_cons.1 Zv with rfl | Zv
   ·exact hS
   ·exact h4 _ Zv
  ·rcases List.mem_cons.1 agP with rfl | agP
   ·exact hl
   ·exact h5 _ agP
theorem CA {α:Type} {k:Nat}:∀ {xss:List (List α)},(∀xs∈xss,xs.length=k)→xss.flatten.length=xss.length*k
 | [],_=>by simp
 |
  xs::xss,h=>by
  rw[List.flatten_cons,List.length_append,h xs List.mem_cons_self,CA fun y hy=>h y (List.mem_cons_of_mem _ hy),List.length_cons,Nat.succ_mul,Nat.add_comm]
theorem Gk {α:Type} {k:Nat}:∀ {xss:List (List α)} (n:Nat),(∀xs∈xss,xs.length=k)→xss.flatten.take (n*k)=(xss.take n).flatten
 | [],n,_=>by simp
 | xs::xss,0,_=>by simp
 |
  xs::xss,n+1,h=>by
  have hl:=h xs List.mem_cons_self
  rw[List.flatten_cons,List.take_succ_cons,List.flatten_cons,←Gk n fun y hy=>h y (List.mem_cons_of_mem _ hy),show (n+1)*k=xs.length+n*k by rw[hl,Nat.succ_mul,Nat.add_comm],List.take_length_add_append]
theorem Ou {k:Nat} (hk:1≤k) {RI:List (List Value)} (h:∀cs∈RI,cs.length=k) {i:Nat} (hi:i<RI.length*k):∃cs,RI[i / k]? = some cs∧RI.flatten.getD i Go.undef=cs.getD (i % k) Go.undef:=by
 induction RI generalizing i with
 | nil=>simp at hi
 |
  cons cs RI ih =>
  have hl:=h cs List.mem_cons_self
  rw[List.flatten_cons]
  rcases Nat.lt_or_ge i k with bD | DT
  ·refine⟨cs,by rw[Nat.div_eq_of_lt bD];rfl,?_⟩
   rw[GL (by omega),Nat.mod_eq_of_lt bD]
  ·obtain⟨c',h1,h2⟩:=ih (fun y hy=>h y (List.mem_cons_of_mem _ hy)) (i:=i-k) (by rw[List.length_cons,Nat.succ_mul] at hi;omega)
   have e1:i / k=(i-k) / k+1:=by rw[Nat.div_eq_sub_div (by omega) DT]
   have e2:i % k=(i-k) % k:=by rw[Nat.mod_eq_sub_mod DT]
   exact⟨c',by rw[e1];exact h1,by rw[EU (by omega),hl,h2,e2]⟩
theorem HM {T:Type} {sT:TypeId×Value→T} {α:Type} {f:α→VV} {Y3:α→Prop} {P:Program} {W:World} {t e:TypeId} {fL:Nat} (ht:P.underlying t=some (.slice e)) (asA:P.cellsOf e=fL) (pos:1≤fL) (hB:tZ W)
  (hf:∀x,(aB (f x)).length=fL) (ho:En sT P W e fL fun g=>∃x:α,Y3 x∧g=aB (f x)):En sT P W t 1 fun vs=>∃xs:List α,xs.length≤maxLen∧(∀x∈xs,Y3 x)∧vs=[aL f xs]:=by
 intro fuel cs y h m H hI
 rcases DataW.trod_slice ht h with⟨rfl,_⟩ | ⟨a,n,c,elems,rest,k,_,rfl,_,_,W5,hmx,hlen,hE,hR,_⟩
 ·refine⟨rfl,m,[],[.slice none 0 0],[.tree [] .op],⟨by rw[List.append_nil];exact hI,fun _ _ h=>h,rfl,fun i hi => ?_,fun v hv => ?_,.cons _ _ _ _ (.nG _ (.inl rfl)) .nil⟩,[],Nat.zero_le _,fun x hx=>(by cases hx),rfl⟩
  ·have:i=0:=by simpa using hi
   subst this
   exact .Ky
  ·rw[List.mem_singleton] at hv
   subst hv
   rfl
 ·obtain⟨FX,hR⟩:=hR rfl
  have T9:∀i,i<c→∃cs,W.cells? 0 (a.add (i*fL)) fL=some cs∧∃fuel y,DataW.trod sT P W 0 (fun _=>true) true fuel e cs=some y:=by
   intro i hi
   have key:∃y,(W.cells? 0 (a.add (i*P.cellsOf e)) (P.cellsOf e)).bind (DataW.trod sT P W 0 (fun _=>true) true k e)=some y:=by
    rcases Nat.lt_or_ge i n with cQ | cQ
    ·exact⟨elems[i]'(by omega),by rw[hE i cQ];exact List.getElem?_eq_getElem _⟩
    ·have:=hR (i-n) (by omega)
     rw[show n+(i-n)=i by omega] at this
     exact⟨rest[i-n]'(by omega),by rw[this];exact List.getElem?_eq_getElem _⟩
   obtain⟨y,hy⟩:=key
   rw[Option.bind_eq_some_iff,asA] at hy
   obtain⟨cs,h1,h2⟩:=hy
   exact⟨cs,h1,k,y,h2⟩
  obtain⟨RI,kX,KM⟩:=Uz (fun i cs=>W.cells? 0 (a.add (i*fL)) fL=some cs∧∃fuel y,DataW.trod sT P W 0 (fun _=>true) true fuel e cs=some y) c T9
  obtain⟨m1,L1,E3,gs,hO,YQ,hgS,agG⟩:=Kx ho RI (fun cs hc=>by
   obtain⟨i,hi⟩:=List.getElem?_of_mem hc
   exact(KM i cs hi).2) m H hI
  obtain⟨xs,hxg,O0⟩:∃xs:List α,(∀x∈xs,Y3 x)∧gs=xs.map fun x=>aB (f x):=by
   clear hO YQ
   induction gs with
   | nil=>exact⟨[],fun x hx=>(by cases hx),rfl⟩
   |
    cons g gs ih =>
    obtain⟨xs,h1,h2⟩:=ih fun g hg=>hgS g (List.mem_cons_of_mem _ hg)
    obtain⟨x,h3,h4⟩:=hgS g List.mem_cons_self
    exact⟨x::xs,fun y hy=>by
     rcases List.mem_cons.1 hy with rfl | hy
     ·exact h3
     ·exact h1 y hy,by rw[List.map_cons,←h2,h4]⟩
  have hxl:xs.length=c:=by rw[←kX,←YQ,O0,List.length_map]
  have Lr:E3.length=c*fL:=by rw[hO.len,CA agG,kX]
  obtain⟨rb,base,arr,e',fz,aoP,KR,Ao⟩:∃(rb base:Nat) (arr:Array Value) (e':TypeId) (fz:Nat×Nat),W.heap[rb]? = some (.cells arr e' fz)∧(c=0→base=0)∧(c≠0→a=⟨rb,base,none⟩):=by
   by_cases h0:c=0
   ·obtain⟨rb,arr,e',fz,hb⟩:=hB
    exact⟨rb,0,arr,e',fz,hb,fun _=>rfl,fun h=>absurd h0 h⟩
   ·obtain⟨cs,h1,_⟩:=T9 0 (by omega)
    have h2:=(World.cells?_some h1).2
    have h3:=h2.2 0 (by omega)
    rw[List.getElem?_eq_getElem (by omega)] at h3
    have:(a.add (0*fL)).add 0=a:=by simp[Addr.add]
    rw[this] at h3
    unfold World.cell? at h3
    split at h3
    ·rename_i arr e' fz hb
     split at h3
     ·cases h3
     ·rename_i Q5
      refine⟨a.block,a.off,arr,e',fz,hb,fun h=>absurd h h0,fun _ => ?_⟩
      obtain⟨b,o,sp⟩:=a
      cases sp with
      | none=>rfl
      | some x=>simp at Q5
    ·cases h3
  have O2:∀i,i<c*fL→W.cell? ⟨rb,base+i,none⟩=some (RI.flatten.getD i Go.undef):=by
   intro i hi
   obtain⟨cs,h1,h2⟩:=Ou pos agG (i:=i) (by rw[kX];exact hi)
   have h0:c≠0:=by intro h0;rw[h0] at hi;simp at hi
   have ha:=Ao h0
   have h3:=(World.cells?_some (KM _ _ h1).1).2
   have hr:i % fL<fL:=Nat.mod_lt _ pos
   have h4:=h3.2 (i % fL) hr
   have Lv:∀o k:Nat,(⟨rb,o,none⟩:Addr).add k=⟨rb,o+k,none⟩:=by
    intro o k
    unfold Addr.add
    split
    ·rename_i h0;subst h0;rfl
    ·rfl
   have aiL:i / fL*fL+i % fL=i:=by rw[Nat.mul_comm];exact Nat.div_add_mod i fL
   rw[ha,Lv,Lv,Nat.add_assoc,aiL] at h4
   rw[h2,List.getD_eq_getElem?_getD,h4]
   have bD:i % fL<cs.length:=by rw[h3.1];exact hr
   rw[List.getElem?_eq_getElem bD]
   rfl
  have xB:base+E3.length≤arr.size:=by
   rw[Lr]
   by_cases h0:c=0
   ·rw[KR h0,h0];simp
   ·have Kc:1≤c*fL:=Nat.mul_pos (by omega) pos
    have h3:=O2 (c*fL-1) (by omega)
    unfold World.cell? at h3
    simp only[aoP,Option.isSome_none,Bool.false_eq_true,if_false] at h3
    have:=(Array.getElem?_eq_some_iff.1 h3).1
    omega
  have Lv:=hO.inn.add (fL:=fL) (cs:=E3) (base:=base) aoP xB (fun i hi=>by
   rw[Lr] at hi
   refine⟨_,O2 i hi,(hO.rv i (by rw[CA agG,kX];exact hi)).mono (tL (hO.inn.PG (Nat.le_refl _))),?_⟩
   rw[List.getD_eq_getElem?_getD,List.getElem?_eq_getElem (by rw[Lr];exact hi)]
   exact hO.sc _ (List.getElem_mem _))
  refine⟨rfl,_,L1++[.row E3 fL false],[.slice (some ⟨(H++L1).length,0,none⟩) n c],[aL f (xs.take n)],⟨by rw[←List.append_assoc];exact Lv,fun b l hb=>tL (hO.inn.PG (Nat.le_refl _)) _ _ (hO.ext b l hb),rfl,fun i hi => ?_,fun v hv => ?_,?_⟩,xs.take n,by rw[List.length_take];omega,fun x hx=>hxg x (List.mem_of_mem_take hx),rfl⟩
  ·have:i=0:=by simpa using hi
   subst this
   refine .slice (H++L1).length 0 n c _ _ c (bT _ _ _) W5 (Nat.le_refl _) (fun _=>rfl) ?_
   by_cases h0:c=0
   ·exact .inl h0
   ·exact .inr ⟨by simpa using Ao h0,by simpa[Lr] using xB⟩
  ·rw[List.mem_singleton] at hv
   subst hv
   rfl
  ·rw[←List.append_assoc]
   refine .cons _ _ _ _ ?_ .nil
   have hl:(xs.take n).length=n:=by rw[List.length_take];omega
   have D3:∀g∈gs,g.length=fL:=fun g hg=>by
    obtain⟨x,_,rfl⟩:=hgS g hg
    exact hf x
   have key:=hO.tree.grow (L:=[LU.row E3 fL false])
   have key:=key.take (n*fL)
   rw[Gk n D3,O0,←List.map_take] at key
   have:=VR.tree (V:=bare (· < (H++L1++[LU.row E3 fL false]).length) (H++L1++[LU.row E3 fL false])) ((xs.take n).map f) .op (H++L1).length 0 c E3 fL false (by show (H++L1).length<_;simp) (by show (H++L1++[LU.row E3 fL false])[(H++L1).length]? = _;rw[List.getElem?_append_right (Nat.le_refl _),Nat.sub_self];rfl)
    (by rw[List.length_map,hl,Lr];simp only[Nat.zero_add];exact Nat.mul_le_mul_right _ W5) (by rw[List.length_map,hl];exact W5) (fun y hy=>by
     obtain⟨x,_,rfl⟩:=List.mem_map.1 hy
     exact hf x) trivial (by rw[List.length_map,hl,List.drop_zero,List.flatMap_map,List.flatMap_def];exact key)
   rw[List.length_map,hl] at this
   exact this
end Go.PM
namespace Go.PM
def nL:aD:=(.seq (LS [LM 11 5,LM 12 0,LO 13 (.len (LT 12)),LO 14 (.bin .lss (LT 11) (LT 13))] (.cond (LT 14) .skip (.exit 0))) (.seq (.block 1 (LS [LM 17 0,LM 18 5,LO 19 (.iaddr 1 (LT 17) (LT 18)),LO 20 (LL 19),LM 21 1,LM 22 5,LO 23 (.iaddr 1 (LT 21) (LT 22)),LO 24 (LL 23),LO 25 (.bin .neq (LT 20) (LT 24))] (.cond (LT 25) (LS [LO 4 (.mv LF)] .ret) .skip))) (.dT [LM 15 5,LO 16 (.bin .add (LT 15) (LI 1)),LM 5 16])))
def tR:aD:=(LS [LO 4 (.mv LF)] (.seq (LS [LM 6 0,LO 7 (.len (LT 6)),LM 8 1,LO 9 (.len (LT 8)),LO 10 (.bin .neq (LT 7) (LT 9))] (.cond (LT 10) (LS [LO 4 (.mv LF)] .ret) .skip)) (.seq (LS [LO 5 (.mv (LI 0))] (.block 0 (.loop nL))) (LS [LO 4 (.mv LG)] .ret))))
def xX:aV:=⟨26,[(.tmp 4)],tR⟩
theorem Gz:gT 54=some xX:=by kernel_rfl
def nI:aD:=(.seq (LS [LM 12 5,LM 13 0,LO 14 (.len (LT 13)),LO 15 (.bin .lss (LT 12) (LT 14))] (.cond (LT 15) .skip (.exit 0))) (.seq (.block 1 (LS [LM 18 1,LM 19 0,LM 20 5,LO 21 (.iaddr 1 (LT 19) (LT 20)),LO 22 (LL 21),LO 23 (.slen (LT 22)),LO 24 (.bin .sub (LT 18) (LT 23)),LM 1 24] (LS [LM 25 1,LO 26 (.bin .lss (LT 25) (LI 0))] (.cond (LT 26) (LS [LO 4 (.mv (LI (-1)))] .ret) .skip)))) (.dT [LM 16 5,LO 17 (.bin .add (LT 16) (LI 1)),LM 5 17])))
def tF:aD:=(LS [LO 4 (.mv (LI 0))] (LS [LM 6 1,LM 7 0,LO 8 (.len (LT 7)),LO 9 (.bin .sub (LT 6) (LT 8)),LM 1 9] (.seq (LS [LM 10 1,LO 11 (.bin .lss (LT 10) (LI 0))] (.cond (LT 11) (LS [LO 4 (.mv (LI (-1)))] .ret) .skip)) (.seq (LS [LO 5 (.mv (LI 0))] (.block 0 (.loop nI))) (LS [LM 27 1,LM 4 27] .ret)))))
def xJ:aV:=⟨28,[(.tmp 4)],tF⟩
theorem Hx:gT 41=some xJ:=by kernel_rfl
def nJ:aD:=(.seq (LS [LM 21 6,LM 22 0,LO 23 (.len (LT 22)),LO 24 (.bin .lss (LT 21) (LT 23))] (.cond (LT 24) .skip (.exit 0))) (.seq (.block 1 (.dT [LM 27 5,LM 28 6,LM 29 0,LM 30 6,LO 31 (.iaddr 1 (LT 29) (LT 30)),LO 32 (LL 31),LO 33 (.iaddr 1 (LT 27) (LT 28)),LN (.store 1 (LT 33) (LT 32))])) (.dT [LM 25 6,LO 26 (.bin .add (LT 25) (LI 1)),LM 6 26])))
def nK:aD:=(.seq (LS [LM 36 7,LM 37 5,LO 38 (.len (LT 37)),LO 39 (.bin .lss (LT 36) (LT 38))] (.cond (LT 39) .skip (.exit 2))) (.seq (.block 3 (.dT [LM 42 5,LM 43 7,LO 44 (.iaddr 1 (LT 42) (LT 43)),LN (.store 1 (LT 44) (.const (.string ⟨#[126,115,112,97,114,101,126]⟩)))])) (.dT [LM 40 7,LO 41 (.bin .add (LT 40) (LI 1)),LM 7 41])))
def oR:aD:=(LS [LO 4 (.mv (.const (.slice none 0 0)))] (.seq (LS [LM 8 1,LM 9 8,LY 9 10 (.mv (LT 0)),LY 9 11 (.len (LT 10)),LY 9 12 (.bin .eql (LT 11) (LI 0)),LO 13 (.pick (LT 9) (LT 12) LF)] (.cond (LT 13) (LS [LO 4 (.mv (.const (.slice none 0 0)))] .ret) .skip)) (LS [LM 14 0,LO 15 (.len (LT 14)),LM 16 0,LO 17 (.len (LT 16)),LO 18 (.call 118 [(LT 17)]),LO 19 (.bin .add (LT 15) (LT 18)),LO 20 (.make [(.string ⟨#[]⟩)] 16 (LT 19) (LT 19)),LM 5 20] (.seq (LS [LO 6 (.mv (LI 0))] (.block 0 (.loop nJ))) (.seq (LS [LM 34 0,LO 35 (.len (LT 34)),LM 7 35] (.block 2 (.loop nK))) (LS [LM 45 5,LM 46 0,LO 47 (.len (LT 46)),LO 48 (.sub 1 (LT 45) none (some (LT 47)) none),LM 4 48] .ret))))))
def sO:aV:=⟨49,[(.tmp 4)],oR⟩
theorem G4:gT 43=some sO:=by kernel_rfl
def uU:aD:=(LS [LO 4 (.mv LF)] (LS [LM 6 1,LO 7 (.len (LT 6)),LM 8 1,LO 9 (.len (LT 8)),LO 10 (.call 118 [(LT 9)]),LO 11 (.bin .add (LT 7) (LT 10)),LM 5 11] (LS [LM 12 0,LO 13 (.len (LT 12)),LM 14 1,LO 15 (.len (LT 14)),LO 16 (.bin .eql (LT 13) (LT 15)),LM 17 16,LY 17 18 (.mv (LT 0)),LY 17 19 (.mv (LT 5)),LY 17 20 (.sub 1 (LT 18) none (some (LT 19)) none),LY 17 21 (.mv (LT 1)),LY 17 22 (.mv (LT 5)),LY 17 23 (.sub 1 (LT 21) none (some (LT 22)) none),⟨(some 24),(.call 54 [(LT 20),(LT 23)]),(some (17,true)),true,[]⟩,LO 25 (.pick (LT 17) (LT 24) LF),LM 4 25] .ret)))
def yG:aV:=⟨26,[(.tmp 4)],uU⟩
theorem Di:gT 45=some yG:=by kernel_rfl
def xY:aD:=(LS [LO 2 (.box (LT 0)),LO 4 (.mv (LI 0))] (LS [LO 5 (LA 0 2),LO 6 (LL 5),LM 7 1,LO 8 (.call 65 [(LT 6),(LT 7)]),LM 1 8] (.seq (LS [LM 9 1,LO 10 (.bin .lss (LT 9) (LI 0))] (.cond (LT 10) (LS [LO 4 (.mv (LI (-1)))] .ret) .skip)) (LS [LM 11 1,LM 4 11] .ret))))
def Bx:aV:=⟨12,[(.tmp 4)],xY⟩
theorem K1:gT 58=some Bx:=by kernel_rfl
def Dh:aD:=(LS [LO 2 (.box (LT 0)),LO 4 (.new [(.slice none 0 0)])] (LS [LO 5 (.new [(.slice none 0 0)])] (LS [LO 6 (LA 0 2),LO 7 (LL 6),LM 8 1,LO 9 (.call 67 [(LT 7),(LT 8)]),LO 10 (LA 0 5),LN (.store 1 (LT 10) (LT 9))] (LS [LO 11 (.load true 1 (LT 5)),LN (.store 1 (LT 4) (LT 11))] .ret))))
def Gd:aV:=⟨12,[(.cell 4 true 1)],Dh⟩
theorem Jt:gT 60=some Gd:=by kernel_rfl
def xW:aD:=(LS [LO 2 (.box (LT 0)),LO 3 (.box (LT 1)),LO 4 (.mv LF)] (.seq (LS [LO 5 (LA 0 2),LO 6 (LL 5),LO 7 (LA 0 3),LO 8 (LL 7),LO 9 (.call 70 [(LT 6),(LT 8)]),LO 10 (.un .not (LT 9))] (.cond (LT 10) (LS [LO 4 (.mv LF)] .ret) .skip)) (LS [LO 4 (.mv LG)] .ret)))
def AH:aV:=⟨11,[(.tmp 4)],xW⟩
theorem EC:gT 62=some AH:=by kernel_rfl
def mK:aD:=(.seq (LS [LM 12 5,LM 13 0,LO 14 (.len (LT 13)),LO 15 (.bin .lss (LT 12) (LT 14))] (.cond (LT 15) .skip (.exit 0))) (.seq (.block 1 (LS [LM 18 0,LM 19 5,LO 20 (.iaddr 1 (LT 18) (LT 19)),LO 21 (LL 20),LM 22 1,LO 23 (.call 41 [(LT 21),(LT 22)]),LM 1 23] (LS [LM 24 1,LO 25 (.bin .lss (LT 24) (LI 0))] (.cond (LT 25) (LS [LO 4 (.mv (LI (-1)))] .ret) .skip)))) (.dT [LM 16 5,LO 17 (.bin .add (LT 16) (LI 1)),LM 5 17])))
def sD:aD:=(LS [LO 4 (.mv (LI 0))] (LS [LM 6 1,LM 7 0,LO 8 (.len (LT 7)),LO 9 (.bin .sub (LT 6) (LT 8)),LM 1 9] (.seq (LS [LM 10 1,LO 11 (.bin .lss (LT 10) (LI 0))] (.cond (LT 11) (LS [LO 4 (.mv (LI (-1)))] .ret) .skip)) (.seq (LS [LO 5 (.mv (LI 0))] (.block 0 (.loop mK))) (LS [LM 26 1,LM 4 26] .ret)))))
def vG:aV:=⟨27,[(.tmp 4)],sD⟩
theorem FO:gT 65=some vG:=by kernel_rfl
def mC:aD:=(.seq (LS [LM 21 6,LM 22 0,LO 23 (.len (LT 22)),LO 24 (.bin .lss (LT 21) (LT 23))] (.cond (LT 24) .skip (.exit 0))) (.seq (.block 1 (.dT [LM 27 5,LM 28 6,LM 29 0,LM 30 6,LO 31 (.iaddr 1 (LT 29) (LT 30)),LO 32 (LL 31),LM 33 1,LO 34 (.call 43 [(LT 32),(LT 33)]),LO 35 (.iaddr 1 (LT 27) (LT 28)),LN (.store 1 (LT 35) (LT 34))])) (.dT [LM 25 6,LO 26 (.bin .add (LT 25) (LI 1)),LM 6 26])))
def mB:aD:=(.seq (LS [LM 38 7,LM 39 5,LO 40 (.len (LT 39)),LO 41 (.bin .lss (LT 38) (LT 40))] (.cond (LT 41) .skip (.exit 2))) (.seq (.block 3 (.dT [LM 44 5,LM 45 7,LO 46 (.lit [(.string ⟨#[]⟩)] 1 [(0,(.const (.string ⟨#[126,115,112,97,114,101,126]⟩)))]),LO 47 (.iaddr 1 (LT 44) (LT 45)),LN (.store 1 (LT 47) (LT 46))])) (.dT [LM 42 7,LO 43 (.bin .add (LT 42) (LI 1)),LM 7 43])))
def nT:aD:=(LS [LO 4 (.mv (.const (.slice none 0 0)))] (.seq (LS [LM 8 1,LM 9 8,LY 9 10 (.mv (LT 0)),LY 9 11 (.len (LT 10)),LY 9 12 (.bin .eql (LT 11) (LI 0)),LO 13 (.pick (LT 9) (LT 12) LF)] (.cond (LT 13) (LS [LO 4 (.mv (.const (.slice none 0 0)))] .ret) .skip)) (LS [LM 14 0,LO 15 (.len (LT 14)),LM 16 0,LO 17 (.len (LT 16)),LO 18 (.call 118 [(LT 17)]),LO 19 (.bin .add (LT 15) (LT 18)),LO 20 (.make [(.slice none 0 0)] 24 (LT 19) (LT 19)),LM 5 20] (.seq (LS [LO 6 (.mv (LI 0))] (.block 0 (.loop mC))) (.seq (LS [LM 36 0,LO 37 (.len (LT 36)),LM 7 37] (.block 2 (.loop mB))) (LS [LM 48 5,LM 49 0,LO 50 (.len (LT 49)),LO 51 (.sub 1 (LT 48) none (some (LT 50)) none),LM 4 51] .ret))))))
def qE:aV:=⟨52,[(.tmp 4)],nT⟩
theorem Ge:gT 67=some qE:=by kernel_rfl
def mU:aD:=(.seq (LS [LM 18 6,LM 19 1,LO 20 (.len (LT 19)),LO 21 (.bin .lss (LT 18) (LT 20))] (.cond (LT 21) .skip (.exit 0))) (.seq (.block 1 (LS [LM 24 0,LM 25 6,LO 26 (.iaddr 1 (LT 24) (LT 25)),LO 27 (LL 26),LM 28 1,LM 29 6,LO 30 (.iaddr 1 (LT 28) (LT 29)),LO 31 (LL 30),LQ 32 (.call 45 [(LT 27),(LT 31)]),LO 33 (.un .not (LT 32))] (.cond (LT 33) (LS [LO 4 (.mv LF)] .ret) .skip))) (.dT [LM 22 6,LO 23 (.bin .add (LT 22) (LI 1)),LM 6 23])))
def sX:aD:=(LS [LO 4 (.mv LF)] (LS [LM 7 1,LO 8 (.len (LT 7)),LM 9 1,LO 10 (.len (LT 9)),LO 11 (.call 118 [(LT 10)]),LO 12 (.bin .add (LT 8) (LT 11)),LM 5 12] (.seq (LS [LM 13 0,LO 14 (.len (LT 13)),LM 15 1,LO 16 (.len (LT 15)),LO 17 (.bin .neq (LT 14) (LT 16))] (.cond (LT 17) (LS [LO 4 (.mv LF)] .ret) .skip)) (.seq (LS [LO 6 (.mv (LI 0))] (.block 0 (.loop mU))) (LS [LM 34 0,LM 35 1,LO 36 (.len (LT 35)),LM 37 5,LO 38 (.sub 1 (LT 34) (some (LT 36)) (some (LT 37)) none),LM 39 1,LM 40 1,LO 41 (.len (LT 40)),LM 42 5,LO 43 (.sub 1 (LT 39) (some (LT 41)) (some (LT 42)) none),LQ 44 (.call 82 [(LT 38),(LT 43)]),LM 4 44] .ret)))))
def vN:aV:=⟨45,[(.tmp 4)],sX⟩
theorem Ci:gT 70=some vN:=by kernel_rfl
def nR:aD:=(LS [LO 2 (.mv (LI 0))] (.seq (LS [LM 3 0,LO 4 (.bin .rem (LT 3) (LI 6)),LO 5 (.bin .eql (LT 4) (LI 5))] (.cond (LT 5) (LS [LO 2 (.mv (LI 0))] .ret) .skip)) (.seq (LS [LM 6 0,LO 7 (.bin .rem (LT 6) (LI 3)),LO 8 (.bin .eql (LT 7) (LI 0))] (.cond (LT 8) (LS [LO 2 (.mv (LI 1))] .ret) .skip)) (LS [LM 9 0,LM 2 9] .ret))))
def qB:aV:=⟨10,[(.tmp 2)],nR⟩
theorem FK:gT 118=some qB:=by kernel_rfl
def mE:aD:=(.seq (LS [LM 11 5,LM 12 0,LO 13 (.len (LT 12)),LO 14 (.bin .lss (LT 11) (LT 13))] (.cond (LT 14) .skip (.exit 0))) (.seq (.block 1 (LS [LM 17 0,LM 18 5,LO 19 (.iaddr 1 (LT 17) (LT 18)),LO 20 (LL 19),LM 21 1,LM 22 5,LO 23 (.iaddr 1 (LT 21) (LT 22)),LO 24 (LL 23),LQ 25 (.call 54 [(LT 20),(LT 24)]),LO 26 (.un .not (LT 25))] (.cond (LT 26) (LS [LO 4 (.mv LF)] .ret) .skip))) (.dT [LM 15 5,LO 16 (.bin .add (LT 15) (LI 1)),LM 5 16])))
def rI:aD:=(LS [LO 4 (.mv LF)] (.seq (LS [LM 6 0,LO 7 (.len (LT 6)),LM 8 1,LO 9 (.len (LT 8)),LO 10 (.bin .neq (LT 7) (LT 9))] (.cond (LT 10) (LS [LO 4 (.mv LF)] .ret) .skip)) (.seq (LS [LO 5 (.mv (LI 0))] (.block 0 (.loop mE))) (LS [LO 4 (.mv LG)] .ret))))
def vM:aV:=⟨27,[(.tmp 4)],rI⟩
theorem Fu:gT 82=some vM:=by kernel_rfl
end Go.PM