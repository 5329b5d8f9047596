/- Texts of a claim, in one: part 5. -/
import Derived.KernelRfl
import Derived.Laws.Strings
import Derived.Test.YtjmflicajplclaaGreatDoorKTd
set_option linter.unusedSimpArgs false
set_option linter.unusedVariables false
namespace Go.PM
def VT (f:Nat) (args:List VV) (r:VV):Prop :=
 ∀(F:Nat→Prop) (P:aE) (eE:List Value) (eI:Nat),(∀b,F b→b<P.length)→VL (bare F P) args eE→eI≤P.length →
  ∃P' pv,qT f eE eI P=some (pv,P')∧P <+: P'∧VR (bare (fun q=>F q∨(P.length≤q∧q<P'.length)) P') r pv
def PZ (lo eI:Nat) (V:View) (r:Option (Value×aE)) (K:VV→aA→Prop):Prop :=
 ∃pv V' v,r=some (pv,V'.P)∧SR V' lo eI∧EE lo V V'∧VR V' v pv∧K v V'.H
def gV (f:Nat) (args:List VV) (lo:Nat) (H:aA) (K:VV→aA→Prop):Prop :=
 ∀(V:View) (eI:Nat) (eE:List Value),V.H=H→SR V lo eI→VL V args eE→PZ lo eI V (qT f eE eI V.P) K
theorem gV.mono {f:Nat} {args:List VV} {lo:Nat} {H:aA} {K K':VV→aA→Prop} (hk:∀v H,K v H→K' v H) (h:gV f args lo H K):gV f args lo H K':=by
 intro V eI eE hH hS hl
 obtain⟨pv,V',v,h1,h2,h3,h4,h5⟩:=h V eI eE hH hS hl
 exact⟨pv,V',v,h1,h2,h3,h4,hk _ _ h5⟩
theorem VT.uniq {f:Nat} {args:List VV} {r r':VV} (h:VT f args r) (h':VT f args r') (ha:aM args=true) (hr:gJ r=true) (Eu:gJ r'=true):r=r':=by
 obtain⟨P,ps,_,hl⟩:=OK args ha []
 obtain⟨P',pv,h1,_,h2⟩:=h (· < P.length) P ps 0 (fun _ h=>h) hl (Nat.zero_le _)
 obtain⟨Yu,pv',h3,_,h4⟩:=h' (· < P.length) P ps 0 (fun _ h=>h) hl (Nat.zero_le _)
 rw[h1] at h3
 injection h3 with h3
 injection h3 with h3 h5
 subst h3 h5
 exact h2.uniq h4 hr Eu
open Classical in
noncomputable def vT (f:Nat) (args:List VV):Option VV:=if h:∃r,aM args=true∧gJ r=true∧VT f args r then some (Classical.choose h) else none
theorem P4 {f:Nat} {args:List VV} {r:VV} (h:vT f args=some r):aM args=true∧gJ r=true∧VT f args r:=by
 unfold vT at h
 split at h
 ·rename_i hx
  cases h
  exact Classical.choose_spec hx
 ·cases h
theorem ajF {f:Nat} {args:List VV} {r:VV} (ha:aM args=true) (hr:gJ r=true) (h:VT f args r):vT f args=some r:=by
 have hx:∃r,aM args=true∧gJ r=true∧VT f args r:=⟨r,ha,hr,h⟩
 unfold vT
 rw[dif_pos hx]
 obtain⟨_,h2,h3⟩:=Classical.choose_spec hx
 rw[h3.uniq h ha h2 hr]
def tk (r:Option VV) (K:VV→Prop):Prop:=match r with
 | some r=>K r
 | none=>False
noncomputable def Hb (f:Nat) (args:List VV) (K:VV→Prop):Prop:=tk (vT f args) K
noncomputable def cS (f:Nat) (args:List VV) (lo:Nat) (H:aA) (K:VV→aA→Prop):Prop :=
 if Cy.contains f=true then gV f args lo H K
 else if aM args=true then Hb f args fun r=>K r H
 else match args.mapM (fz depth H) with
  | some iI=>Hb f iI fun r=>if K5 r=true then K r H else K r (dA H (args.flatMap (hJ depth H)))
  | none=>False
noncomputable def eG (fl:Fl) (lo:Nat) (q:Bool) (op:nK) (ρ:dM) (H:aA) (K:VV→aA→Prop):Prop :=
 match op with
 | .call f args=>cS f (args.map (eH ρ)) (if q then H.length else lo) H K
 |
  .callv fv args=>match eH ρ fv with
  | .uP f fT=>cS f (args.map (eH ρ)++fT) (if q then H.length else lo) H K
  | _=>False
 |
  o=>match vop fl lo o ρ H with
  | some (v,H')=>K v H'
  | none=>False
noncomputable def VS (fl:Fl) (lo:Nat):List PI→(dM→aA→Prop)→dM→aA→Prop
 | [],K,ρ,H=>K ρ H
 |
  i::is,K,ρ,H=>match Bk i.g ρ with
  | none=>False
  | some false=>VS fl lo is K (J7 ρ i.dst pL) H
  | some true=>i.cf.all (tD ρ H)=true∧eG fl lo i.quiet i.op ρ H fun v H'=>VS fl lo is K (J7 ρ i.dst v) H'
def ahC:List Nat→dM→aA→Option (dM×aA)
 | [],ρ,H=>some (ρ,H)
 |
  t::ts,ρ,H=>match fz depth H (ρ t) with
  | some v=>ahC ts (J7 ρ (some t) v) (dA H (hJ depth H (ρ t)))
  | none=>none
def Kt (r:Option VV) (H:aA) (K:VV→aA→Prop):Prop:=match r with
 | some v=>K v H
 | none=>False
def gh (K:dM→aA→Prop) (ρ:dM) (H:aA):Prop:=∃ts bI H',ahC ts ρ H=some (bI,H')∧K bI H'
def kL (k:Nat) (H:aA):Bool:=H.all fun
 | .row _ es _ _=>lK k es
 | .dead=>true
def H9 (k:Nat) (ρ:dM):dM:=fun t=>I6 k (ρ t)
abbrev VQ:=Ex→dM→aA→Prop
def mZ (K:dM→aA→Prop) (Q:VQ):VQ
 | .normal=>K
 | x=>Q x
def Ai (id:Nat) (Q:VQ):VQ
 | .exit SM=>fun ρ H=>if SM=id then Q .normal ρ H else Q (.exit SM) ρ H
 | x=>Q x
def Ra (body:VQ→dM→aA→Prop) (Q:VQ):Nat→dM→aA→Prop
 | 0,_,_=>False
 | n+1,ρ,H=>body (mZ (fun bI H'=>Ra body Q n bI H'∨(kL H.length (H'.take H.length)=true∧Ra body Q n (H9 H.length bI) (H'.take H.length))) Q) ρ H
noncomputable def VW (fl:Fl) (lo:Nat):aD→VQ→dM→aA→Prop
 | .skip,Q,ρ,H=>Q .normal ρ H
 | .dC ops,Q,ρ,H=>VS fl lo ops (Q .normal) ρ H
 | .seq a b,Q,ρ,H=>VW fl lo a (mZ (VW fl lo b Q) Q) ρ H
 |
  .cond c a b,Q,ρ,H=>match eH ρ c with
  | .sc (.bool t)=>if t=true then VW fl lo a Q ρ H else VW fl lo b Q ρ H
  | _=>False
 | .block id a,Q,ρ,H=>VW fl lo a (Ai id Q) ρ H
 | .loop a,Q,ρ,H=>∃n,Ra (VW fl lo a) (fun x=>gh (Q x)) n ρ H
 | .exit id,Q,ρ,H=>Q (.exit id) ρ H
 | .ret,Q,ρ,H=>Q .ret ρ H
def EY (ρ:dM) (H:aA):Bd→Option VV
 | .tmp t=>some (ρ t)
 | .cell t agg size=>bT agg size (ρ t) H
def qG (ρ:dM) (H:aA):List Bd→Option (List VV)
 | []=>some []
 |
  r::rs=>match EY ρ H r,qG ρ H rs with
  | some v,some vs=>some (v::vs)
  | _,_=>none
def nM (res:List Bd) (ρ:dM) (H:aA):Option VV :=
 match qG ρ H res with
 | some [v]=>some v
 | some vs=>some (.dT vs)
 | none=>none
def Gn (R:VV→aA→Prop):Option VV→aA→Prop
 | some v,H=>R v H
 | none,_=>False
def AY (res:List Bd) (R:VV→aA→Prop):VQ
 | .exit _,_,_=>False
 | .normal,ρ,H=>Gn R (nM res ρ H) H
 | .ret,ρ,H=>Gn R (nM res ρ H) H
def Jm (args:List VV):dM:=fun k=>args.getD k pL
section
variable {lo eI:Nat}
theorem Fh {V:View} (hS:SR V lo eI) {P':aE} (hp:V.P <+: P'):SR { V with P:=P',F:=fun q=>V.F q∨(V.P.length≤q∧q<P'.length) } lo eI∧EE lo V { V with P:=P',F:=fun q=>V.F q∨(V.P.length≤q∧q<P'.length) }:=by
 obtain⟨L,rfl⟩:=hp
 have hU:Up V { V with P:=V.P++L,F:=fun q=>V.F q∨(V.P.length≤q∧q<(V.P++L).length) }:=⟨fun _ h => .inl h,fun b hb=>List.getElem?_append_left (hS.fr b hb),Nat.le_refl _,fun b g es e w _ h=>⟨g,es,w,h,Nat.le_refl _,fun _=>rfl⟩,rfl,by simp,fun b g es e w hb _=>⟨g,es,w,hb,rfl,id⟩⟩
 refine⟨⟨fun b g es e w hb => ?_,fun b g es e hb=>⟨fun hF => ?_,(hS.wr b g es e hb).2⟩,hS.inj,fun b hb => ?_,by have:=hS.To;simp;omega,by have:=hS.Kd;simp;omega⟩,{ hU with cJ:=fun q hq _=>List.getElem?_append_left hq,Cw:=fun q hq => ?_ }⟩
 ·obtain⟨r,p,h1,h2,h3⟩:=hS.row b g es e w hb
  exact⟨r,p,by rw[←h1];exact List.getElem?_append_left (hS.mlt hb),h2,h3.mono hU⟩
 ·rcases hF with hF | hF
  ·exact(hS.wr b g es e hb).1 hF
  ·have h1:=hS.mlt hb
   have h2:V.P.length≤V.m b:=hF.1
   omega
 ·rcases hb with hb | hb
  ·have:=hS.fr b hb
   simp;omega
  ·exact hb.2
 ·rcases hq with hq | hq
  ·exact .inl hq
  ·exact .inr (.inl hq.1)
theorem Zj {V V':View} {x:VV} {v:Value} (h:VR V x v):K5 x=true→VR V' x v:=by
 induction h using VR.rec (motive_2:=fun xs vs _=>SS xs=true→VL V' xs vs) with
 | sc _ h=>intro _;exact .sc _ h
 | agg cs ps _ ih=>intro hx;exact .agg _ _ (ih hx)
 | dT cs ps _ ih=>intro hx;exact .dT _ _ (ih hx)
 | any=>intro hx;cases hx
 | pA=>intro hx;cases hx
 | tree=>intro hx;cases hx
 | cN=>intro hx;cases hx
 | ref=>intro hx;cases hx
 | ptr=>intro hx;cases hx
 | uP=>intro hx;cases hx
 | nil=>exact .nil
 |
  cons x v xs vs _ _ ih Vf =>
  rename_i hx
  simp only[SS,Bool.and_eq_true] at hx
  exact .cons _ _ _ _ (ih hx.1) (Vf hx.2)
theorem VR.CZ {V':View} {G:Nat→Prop} {P:aE} {x:VV} {v:Value} (hF:∀b,G b→V'.F b∧V'.P[b]? = P[b]?) (h:VR (bare G P) x v):VR V' x v:=by
 induction h using VR.rec (motive_2:=fun xs vs _=>VL V' xs vs) with
 | any=>exact .any _
 | sc _ h=>exact .sc _ h
 | agg cs ps _ ih=>exact .agg _ _ ih
 | dT cs ps _ ih=>exact .dT _ _ ih
 | pA k hk=>exact .pA k hk
 | tree es k b o c r e p Tx hb ho hc he hk _ ih=>exact .tree es k b o c r e p (hF _ Tx).1 (by rw[(hF _ Tx).2];exact hb) ho hc he hk ih
 | cN x off b o r e p Tx hb ho _ ih=>exact .cN x off b o r e p (hF _ Tx).1 (by rw[(hF _ Tx).2];exact hb) ho ih
 | ref b g o n c a n' c' bF hg ha hq=>exact absurd bF (Nat.not_lt_zero _)
 | ptr b g j off a bF hg ha hq=>exact absurd bF (Nat.not_lt_zero _)
 | uP f fT ps _ ih=>exact .uP _ _ _ ih
 | nil=>exact .nil
 | cons x v xs vs _ _ ih Vf=>exact .cons _ _ _ _ ih Vf
theorem QW {V:View} (hS:SR V lo eI) {f afM:Nat} (agX:afM≤V.P.length) {args:List VV} {eE:List Value} {G:Nat→Prop} (hG:∀b,G b→b<V.P.length) (hl:VL (bare G V.P) args eE) {K:VV→Prop} (h:Hb f args K) :
  ∃P' pv r,qT f eE afM V.P=some (pv,P')∧V.P <+: P'∧VR (bare (fun q=>G q∨(V.P.length≤q∧q<P'.length)) P') r pv∧aN r=true∧K r:=by
 unfold Hb tk at h
 split at h
 ·rename_i r hr
  obtain⟨h1,h2,h3⟩:=P4 hr
  obtain⟨P',pv,h4,h5,h6⟩:=h3 G V.P eE afM hG hl agX
  exact⟨P',pv,r,h4,h5,h6,SW r h2,h⟩
 ·cases h
theorem Gi {V:View} (hS:SR V lo eI) {f:Nat} {args:List VV} {eE:List Value} (hl:VL V args eE) {q:Bool} {K:VV→aA→Prop} (h:cS f args (if q then V.H.length else lo) V.H K):PZ lo eI V (qT f eE (if q then V.P.length else eI) V.P) K:=by
 have hlq:(if q=true then V.P.length else eI)≤V.P.length:=by split;exact Nat.le_refl _;exact hS.To
 unfold cS at h
 split at h
 ·cases q with
  | false=>exact h V eI eE rfl hS hl
  |
   true =>
   have hS':SR V V.H.length V.P.length:=⟨hS.row,fun b g es e hb=>⟨(hS.wr b g es e hb).1,fun hl=>by have:=(List.getElem?_eq_some_iff.1 hb).1;omega⟩,hS.inj,hS.fr,Nat.le_refl _,hS.Kd⟩
   obtain⟨pv,V',r,g1,g3,g4,g5,g6⟩:=h V V.P.length eE rfl hS' hl
   refine⟨pv,V',r,g1,⟨g3.row,fun b g es e hb=>⟨(g3.wr b g es e hb).1,fun Ep => ?_⟩,g3.inj,g3.fr,Nat.le_trans hS.To g4.Ek,g3.Kd⟩,{ g4.toUp with cJ:=fun p hp _=>g4.cJ p hp fun b g es e hb Ep => ?_,Cw:=g4.Cw },g5,g6⟩
   ·rcases Nat.lt_or_ge (V'.m b) V.P.length with bF | EN
    ·obtain⟨g0,es0,w0,k1,k2,k3⟩:=g4.Bj b g es e true hb bF
     have:=k3 rfl
     subst this
     rw[k2]
     exact(hS.wr _ _ _ _ k1).2 Ep
    ·exact Nat.le_trans hS.To EN
   ·have:=(List.getElem?_eq_some_iff.1 hb).1
    have Ep:V.H.length≤b:=Ep
    omega
 ·split at h
  ·rename_i hp
   obtain⟨P',pv,r,g1,g2,g3,g4,g5⟩:=QW hS (afM:=if q=true then V.P.length else eI) hlq (G:=V.F) hS.fr (VL.pure (V:=V) (V':=bare V.F V.P) (fun b hb=>⟨hb,rfl⟩) hl hp) h
   obtain⟨k1,k2⟩:=Fh hS g2
   exact⟨pv,_,r,g1,k1,k2,g3.CZ (fun b hb=>⟨hb,rfl⟩),g5⟩
  ·split at h
   case h_2=>cases h
   rename_i iI T8
   unfold Hb tk at h
   split at h
   case h_2=>cases h
   rename_i r hr
   obtain⟨h1,h2,h3⟩:=P4 hr
   split at h
   ·rename_i hfl
    have BV:=D4 hS (G:=(· < V.P.length)) (fun q hq=>hS.fr q hq) hl T8 (fun i _ g es e w hb=>hS.mlt hb)
    obtain⟨P',pv,g1,g2,g3⟩:=h3 _ V.P eE _ (fun _ h=>h) BV hlq
    obtain⟨k1,k2⟩:=Fh hS g2
    exact⟨pv,_,r,g1,k1,k2,Zj g3 hfl,h⟩
   ·obtain⟨k1,k2,k3,k4,k5,k6⟩:=vI (args.flatMap (hJ depth V.H)) hS
    have BV:=D4 hS (G:=(V.dA (args.flatMap (hJ depth V.H))).F) (fun q hq=>k2.F q hq) hl T8 k6
    rw[←k4] at BV
    obtain⟨P',pv,g1,g2,g3⟩:=h3 _ _ eE _ k1.fr BV (by rw[k4];exact hlq)
    obtain⟨j1,j2⟩:=Fh k1 g2
    rw[k4] at g1
    refine⟨pv,_,r,g1,j1,k2.trans j2,g3.CZ (fun b hb=>⟨hb,rfl⟩),?_⟩
    show K r (V.dA (args.flatMap (hJ depth V.H))).H
    rw[k3]
    exact h
def zY (lo eI:Nat) (V:View) (c:aD) (Q:VQ) (kG:Env):Prop :=
 W eI c (fun x M5 P'=>∃V' bI,V'.P=P'∧SR V' lo eI∧EE lo V V'∧ER V' bI M5∧Q x bI V'.H) kG V.P
theorem F8 {V:View} {ρ:dM} {kG:Env} (hE:ER V ρ kG) {g:Option (Nat×Bool)} {t:Bool} (h:Bk g ρ=some t):zP g kG=some t:=by
 unfold Bk at h
 unfold zP
 split at h
 ·exact h
 ·rename_i t' want
  have ht:=hE t'
  split at h
  ·rename_i b hb
   obtain⟨e,_⟩:=qV ht hb
   simp only[e]
   exact h
  ·rename_i vs hb
   rw[hb] at ht
   generalize hu:kG t'=u at ht
   cases ht with
   | dT cs ps hl=>simp only[hu];exact h
  ·cases h
theorem Ul {V:View} (hS:SR V lo eI) {x y:VV} {u w:Value} (hx:VR V x u) (hy:VR V y w) (h:AZ V.H x y=true):asJ u w=true:=by
 have key:∀ {z:VV} {v:Value},VR V z v→(match AO V.H z with
   | .bad=>True
   | .no=>iX v=none
   | .row i wr=>iX v=some (V.m i)∧∃g es e,V.H[i]? = some (.row g es e wr)
   | .Bj i=>∀q,iX v=some q→∀b' g' es e w,V.H[b']? = some (.row g' es e w)→b'≠i→V.m b'≠q
   | .tree=>∀b,iX v=some b→V.F b):=by
  intro z v hz
  cases hz with
  | any=>simp only[AO]
  | sc v h =>
      cases v<;>first | rfl | cases h | skip
      rename_i a;cases a<;>first | rfl | cases h
  | agg=>rfl
  | dT=>rfl
  | pA k hk =>
       rcases hk with rfl | rfl
       ·intro b hb;cases hb
       ·rfl
  |
   tree es k b o c r e p hF hb ho hc he hk hl =>
   cases es with
   |
    nil=>cases k with
    | nil=>exact hk.elim
    | op=>intro b' uC;cases uC;exact hF
    | cl=>intro b' uC;cases uC;exact hF
   | cons=>intro b' uC;cases uC;exact hF
  | cN x off b o r e p hF hb ho hl=>intro b' uC;cases uC;exact hF
  |
   ref b g o n c a n' c' bF hg ha hq =>
   simp only[AO]
   cases hr:aI V.H b g with
   | none=>exact fun q h=>(by
     cases a with
     | none=>cases h
     | some a0=>cases h;exact(hq a0 rfl).2.2)
   |
    some q =>
    obtain⟨es,e,wr⟩:=q
    rw[cG] at hr
    obtain⟨rfl,rfl,rfl⟩:=ha _ _ _ hr
    exact⟨rfl,g,es,e,hr⟩
  |
   ptr b g j off a bF hg ha hq =>
   simp only[AO]
   cases hr:aI V.H b g with
   | none=>exact fun q h=>(by
     cases a with
     | none=>cases h
     | some a0=>cases h;exact(hq a0 rfl).2.2)
   |
    some q =>
    obtain⟨es,e,wr⟩:=q
    rw[cG] at hr
    have:=ha _ _ _ hr
    subst this
    exact⟨rfl,g,es,e,hr⟩
  | uP=>rfl
 have kx:=key hx
 have ky:=key hy
 unfold AZ at h
 unfold asJ
 cases hbx:AO V.H x with
 | bad=>rw[hbx] at h;have h:false=true:=h;cases h
 |
  no =>
  rw[hbx] at kx
  have kx:iX u=none:=kx
  rw[kx]
 |
  Bj i =>
  rw[hbx] at kx h
  have kx:∀q,iX u=some q→∀b' g' es e w,V.H[b']? = some (.row g' es e w)→b'≠i→V.m b'≠q:=kx
  cases QG:AO V.H y with
  | bad=>rw[QG] at h;have h:false=true:=h;cases h
  |
   no =>
   rw[QG] at ky
   have ky:iX w=none:=ky
   rw[ky]
   cases iX u<;>rfl
  | Bj j=>rw[QG] at h;have h:false=true:=h;cases h
  | tree=>rw[QG] at h;have h:false=true:=h;cases h
  |
   row j wj =>
   rw[QG] at ky h
   obtain⟨k3,g2,es2,e2,k4⟩:iX w=some (V.m j)∧∃g es e,V.H[j]? = some (.row g es e wj):=ky
   have h:(i != j)=true:=h
   simp only[bne_iff_ne,ne_eq] at h
   rw[k3]
   cases hu:iX u with
   | none=>rfl
   |
    some q =>
    simp only[bne_iff_ne,ne_eq]
    exact fun hm=>kx q hu j _ _ _ _ k4 (Ne.symm h) hm.symm
 |
  row i wi =>
  rw[hbx] at kx h
  obtain⟨k1,g1,Ck,e1,k2⟩:iX u=some (V.m i)∧∃g es e,V.H[i]? = some (.row g es e wi):=kx
  cases QG:AO V.H y with
  | bad=>rw[QG] at h;have h:false=true:=h;cases h
  |
   no =>
   rw[QG] at ky
   have ky:iX w=none:=ky
   rw[ky]
   cases iX u<;>rfl
  |
   Bj j =>
   rw[QG] at ky h
   have ky:∀q,iX w=some q→∀b' g' es e w,V.H[b']? = some (.row g' es e w)→b'≠j→V.m b'≠q:=ky
   have h:(i != j)=true:=h
   simp only[bne_iff_ne,ne_eq] at h
   rw[k1]
   cases hw:iX w with
   | none=>rfl
   |
    some q =>
    simp only[bne_iff_ne,ne_eq]
    exact fun hm=>ky q hw i _ _ _ _ k2 h hm
  |
   row j wj =>
   rw[QG] at ky h
   obtain⟨k3,g2,es2,e2,k4⟩:iX w=some (V.m j)∧∃g es e,V.H[j]? = some (.row g es e wj):=ky
   rw[k1,k3]
   have h:(i != j)=true:=h
   simp only[bne_iff_ne,ne_eq] at h ⊢
   exact fun hm=>h (hS.inj _ _ _ _ _ _ _ _ _ _ k2 k4 hm)
  |
   tree =>
   rw[QG] at ky h
   have ky:∀b,iX w=some b→V.F b:=ky
   have h:wi=true:=h
   subst h
   cases hw:iX w with
   | none=>rw[k1]
   |
    some b =>
    rw[k1]
    simp only[bne_iff_ne,ne_eq]
    exact fun hm=>(hS.wr _ _ _ _ k2).1 (by rw[hm];exact ky b hw)
 |
  tree =>
  rw[hbx] at kx h
  have kx:∀b,iX u=some b→V.F b:=kx
  cases QG:AO V.H y with
  | bad=>rw[QG] at h;have h:false=true:=h;cases h
  |
   no =>
   rw[QG] at ky
   have ky:iX w=none:=ky
   rw[ky]
   cases iX u<;>rfl
  | tree=>rw[QG] at h;have h:false=true:=h;cases h
  | Bj j=>rw[QG] at h;have h:false=true:=h;cases h
  |
   row j wj =>
   rw[QG] at ky h
   obtain⟨k1,g1,Ck,e1,k2⟩:iX w=some (V.m j)∧∃g es e,V.H[j]? = some (.row g es e wj):=ky
   have h:wj=true:=h
   subst h
   cases hw:iX u with
   | none=>rfl
   |
    some b =>
    rw[k1]
    simp only[bne_iff_ne,ne_eq]
    exact fun hm=>(hS.wr _ _ _ _ k2).1 (by rw[←hm];exact kx b hw)
theorem Sb {V:View} (hS:SR V lo eI) {ρ:dM} {kG:Env} (hE:ER V ρ kG) {fl:Fl} {q:Bool} {op:nK} {K:VV→aA→Prop} (h:eG fl lo q op ρ V.H K):PZ lo eI V (jV eI q op kG V.P) K:=by
 have other:∀ {v H'},vop fl lo op ρ V.H=some (v,H')→K v H'→PZ lo eI V (jV eI q op kG V.P) K:=by
  intro v H' h1 h2
  obtain⟨pv,V',g1,g2,g3,g4,g5⟩:=XC hS hE (q:=q) h1
  exact⟨pv,V',v,g1,g3,g4,g5,by rw[g2];exact h2⟩
 unfold eG at h
 split at h
 ·rw[Yz]
  exact Gi hS (hE.evs _) h
 ·rename_i fv args
  rw[TX]
  have hf:=hE.ev fv
  split at h
  ·rename_i f fT hfv
   rw[hfv] at hf
   generalize ev kG fv=u at hf ⊢
   cases hf with
   |
    uP f fT ps hl =>
    unfold aaS
    simp only[List.nil_append]
    exact Gi hS ((hE.evs args).append hl) h
  ·cases h
 ·split at h
  ·rename_i v H' h1
   exact other h1 h
  ·cases h
theorem Mg {fl:Fl} {K:dM→aA→Prop}:∀(is:List PI) {V:View} {ρ:dM} {kG:Env},SR V lo eI→ER V ρ kG→VS fl lo is K ρ V.H →
  WS eI is (fun M5 P'=>∃V' bI,V'.P=P'∧SR V' lo eI∧EE lo V V'∧ER V' bI M5∧K bI V'.H) kG V.P
 |
  [],V,ρ,kG,hS,hE,h=>by
  rw[aoU]
  exact⟨V,ρ,rfl,hS,EE.refl _ _,hE,h⟩
 |
  i::is,V,ρ,kG,hS,hE,h=>by
  unfold VS at h
  rw[arI]
  unfold yR
  split at h
  ·cases h
  ·rename_i hw
   rw[F8 hE hw]
   exact⟨_,_,rfl,Mg is hS (hE.put (.dT [] [] .nil)) h⟩
  ·rename_i hw
   rw[F8 hE hw]
   obtain⟨Qv,h⟩:=h
   have awG:i.cf.all (AR kG)=true:=by
    rw[List.all_eq_true] at Qv ⊢
    intro c hc
    exact Ul hS (hE.ev c.1) (hE.ev c.2) (Qv c hc)
   simp only[awG,if_true]
   obtain⟨pv,V',v,g1,g2,g3,g4,g5⟩:=Sb hS hE h
   refine⟨pv,V'.P,?_,?_⟩
   ·unfold jV at g1
    exact g1
   ·obtain⟨WK,Yu,k1,SY,Em,k2,k3,k4,k5,k6⟩:=Mg is g2 ((hE.mono g3.toUp).put g4) g5
    exact⟨WK,Yu,k1,SY,Em,k2,k3,g3.trans k4,k5,k6⟩
theorem MJ:∀(ts:List Nat) {V:View} {ρ bI:dM} {kG:Env} {H':aA},SR V lo eI→ER V ρ kG→ahC ts ρ V.H=some (bI,H')→∃V',V'.P=V.P∧V'.H=H'∧SR V' lo eI∧EE lo V V'∧ER V' bI kG
 |
  [],V,ρ,bI,kG,H',hS,hE,h=>by
  cases h
  exact⟨V,rfl,rfl,hS,EE.refl _ _,hE⟩
 |
  t::ts,V,ρ,bI,kG,H',hS,hE,h=>by
  unfold ahC at h
  split at h
  case h_2=>cases h
  rename_i v hv
  obtain⟨k1,k2,k3,k4,k5,k6⟩:=vI (hJ depth V.H (ρ t)) hS
  have hx:=Mu hS (G:=(V.dA (hJ depth V.H (ρ t))).F) (fun q hq=>k2.F q hq) depth (ρ t) v (kG t) (hE t) hv k6
  have U8:VR (V.dA (hJ depth V.H (ρ t))) v (kG t):=hx.CZ (fun b hb=>⟨hb,by rw[k4]⟩)
  rw[←k3] at h
  obtain⟨V',g1,g2,g3,g4,g5⟩:=MJ ts (kG:=kG) k1 (by
   have e:=(hE.mono k2.toUp).put (d:=some t) U8
   have ee:put kG (some t) (kG t)=kG:=by
    funext k
    simp only[put]
    split
    ·rename_i hk;rw[hk]
    ·rfl
   rw[ee] at e
   exact e) h
  exact⟨V',g1.trans k4,g2,g3,k2.trans g4,g5⟩
theorem QZ {V:View} (hS:SR V lo eI) {ρ:dM} {kG:Env} (hE:ER V ρ kG) {K:dM→aA→Prop} (h:gh K ρ V.H):∃V' bI,V'.P=V.P∧SR V' lo eI∧EE lo V V'∧ER V' bI kG∧K bI V'.H:=by
 obtain⟨ts,bI,H',h1,h2⟩:=h
 obtain⟨V',g1,g2,g3,g4,g5⟩:=MJ ts hS hE h1
 exact⟨V',bI,g1,g3,g4,g5,by rw[g2];exact h2⟩
theorem Lp {k:Nat} {es:List VV}:lK k es=true↔∀x∈es,below k x=true:=by
 induction es with
 | nil=>simp[lK]
 | cons x xs ih=>simp[lK,ih]
theorem Dq {k:Nat} {es:List VV} (h:lK k es=true):lK k (es.flatMap aB)=true:=by
 rw[Lp] at h ⊢
 intro x hx
 obtain⟨y,hy,An⟩:=List.mem_flatMap.1 hx
 have:=h y hy
 unfold aB at An
 split at An
 ·exact Lp.1 (by simpa[below] using this) x An
 ·rw[List.mem_singleton] at An;subst An;exact this
theorem SN {k:Nat} {x:VV} (h:below k x=true):lK k (aB x)=true:=by
 have:=Dq (k:=k) (es:=[x]) (by simp[lK,h])
 simpa using this
def View.zS (V:View) (k:Nat):View:={ V with H:=V.H.take k }
theorem VR.zS {V:View} {k:Nat} (hk:k≤V.H.length) {x:VV} {v:Value} (h:VR V x v):PM.below k x=true→VR (V.zS k) x v:=by
 have he:∀ {b:Nat},b<k→∀y,(V.zS k).H[b]? = some y→V.H[b]? = some y:=fun VO y hy=>by
  have:(V.H.take k)[_]? = some y:=hy
  rw[List.getElem?_take,if_pos VO] at this
  exact this
 have hT:∀ {b:Nat} {y:cO},(V.zS k).H[b]? = some y→V.H[b]? = some y:=fun {b y} hy=>by
  have h:(V.H.take k)[b]? = some y:=hy
  rw[List.getElem?_take] at h
  split at h
  ·exact h
  ·cases h
 induction h using VR.rec (motive_2:=fun xs vs _=>lK k xs=true→VL (V.zS k) xs vs) with
 | any=>intro _;exact .any _
 | sc _ h=>intro _;exact .sc _ h
 | agg cs ps _ ih=>intro hb;exact .agg _ _ (ih hb)
 | dT cs ps _ ih=>intro hb;exact .dT _ _ (ih hb)
 | pA k hk=>intro _;exact .pA k hk
 | tree es k b o c r e p Tx uB ho hc he hk' _ ih=>intro hb;exact .tree es k b o c r e p Tx uB ho hc he hk' (ih (Dq hb))
 | cN x off b o r e p Tx uB ho _ ih=>intro hb;exact .cN x off b o r e p Tx uB ho (ih (SN hb))
 |
  ref b g o n c a n' c' bF hg ha hq =>
  intro hb
  have VO:b<k:=by simpa[PM.below] using hb
  exact .ref b g o n c a n' c' (by show b<(V.H.take k).length;simp;omega) (fun g' es e w hr=>hg _ _ _ _ (he VO _ hr)) (fun es e w hr=>ha _ _ _ (he VO _ hr)) fun a0 h=>⟨(hq a0 h).1,(hq a0 h).2.1,fun b' g' es e w hr=>(hq a0 h).2.2 b' g' es e w (hT hr)⟩
 |
  ptr b g j off a bF hg ha hq =>
  intro hb
  have VO:b<k:=by simpa[PM.below] using hb
  exact .ptr b g j off a (by show b<(V.H.take k).length;simp;omega) (fun g' es e w hr=>hg _ _ _ _ (he VO _ hr)) (fun es e w hr=>ha _ _ _ (he VO _ hr)) fun a0 h=>⟨(hq a0 h).1,(hq a0 h).2.1,fun b' g' es e w hr=>(hq a0 h).2.2 b' g' es e w (hT hr)⟩
 | uP f fT ps _ ih=>intro hb;exact .uP _ _ _ (ih hb)
 | nil=>exact .nil
 |
  cons x v xs vs _ _ ih Vf =>
  rename_i hb
  simp only[lK,Bool.and_eq_true] at hb
  exact .cons _ _ _ _ (ih hb.1) (Vf hb.2)
theorem VL.zS {V:View} {k:Nat} (hk:k≤V.H.length) {xs:List VV} {vs:List Value} (h:VL V xs vs) (hb:lK k xs=true):VL (V.zS k) xs vs:=by
 induction xs generalizing vs with
 | nil=>cases h;exact .nil
 |
  cons x xs ih=>cases h with
  |
   cons _ v _ vs h hs =>
   simp only[lK,Bool.and_eq_true] at hb
   exact .cons _ _ _ _ (h.zS hk hb.1) (ih hs hb.2)
theorem Q2 {V V':View} (hS:SR V' lo eI) {ρ:dM} {kG:Env} (hE:ER V' ρ kG) (hx:EE lo V V') (hr:kL V.H.length (V'.H.take V.H.length)=true) :
  SR (V'.zS V.H.length) lo eI∧EE lo V (V'.zS V.H.length)∧ER (V'.zS V.H.length) (H9 V.H.length ρ) kG:=by
 have hk:=hx.len
 have get:∀ {b:Nat} {y:cO},(V'.zS V.H.length).H[b]? = some y→V'.H[b]? = some y:=by
  intro b y h
  have h:(V'.H.take V.H.length)[b]? = some y:=h
  rw[List.getElem?_take] at h
  split at h
  ·exact h
  ·cases h
 refine⟨⟨fun b g es e w hb => ?_,fun b g es e hb=>hS.wr b g es e (get hb),fun a b g es e w g' mT e' w' ha hb hm=>hS.inj a b _ _ _ _ _ _ _ _ (get ha) (get hb) hm,hS.fr,hS.To,hS.Kd⟩,
  { F:=hx.F,P:=hx.P,len:=by show V.H.length≤(V'.H.take V.H.length).length;simp;omega,row:=fun b g es e w bF hb=>hx.row b g es e w bF (get hb),Kd:=hx.Kd,Ek:=hx.Ek,Bj:=fun b g es e w hb hm=>hx.Bj b g es e w (get hb) hm,cJ:=hx.cJ,Cw:=hx.Cw },fun t => ?_⟩
 ·obtain⟨r,p,h1,h2,h3⟩:=hS.row b g es e w (get hb)
  refine⟨r,p,h1,h2,h3.zS hk (Dq ?_)⟩
  have:=List.all_eq_true.1 hr _ (List.mem_of_getElem? (show (V'.H.take V.H.length)[b]? = some _ from hb))
  exact this
 ·unfold H9 I6
  split
  ·rename_i hb
   exact(hE t).zS hk hb
  ·exact .any _
theorem R7 {c:aD} {Q:Ex→Env→aE→Prop} {ρ:Env} {H:aE} (h:W eI c (atQ (fun bI H'=>W eI (.loop c) Q bI H') Q) ρ H):W eI (.loop c) Q ρ H:=by
 obtain⟨x,bI,H',h1,h2⟩:=h
 unfold W
 rw[Yh,h1]
 cases x with
 |
  normal =>
  obtain⟨y,Em,H'',h3,h4⟩:=h2
  exact⟨y,Em,H'',h3,h4⟩
 | exit i=>exact⟨_,_,_,rfl,h2⟩
 | ret=>exact⟨_,_,_,rfl,h2⟩
theorem uT {fl:Fl}:∀(c:aD) {V:View} {ρ:dM} {kG:Env} {Q:VQ},SR V lo eI→ER V ρ kG→VW fl lo c Q ρ V.H→zY lo eI V c Q kG
 |
  .skip,V,ρ,kG,Q,hS,hE,h=>by
  unfold zY
  rw[alO]
  exact⟨V,ρ,rfl,hS,EE.refl _ _,hE,h⟩
 |
  .exit id,V,ρ,kG,Q,hS,hE,h=>by
  unfold zY
  rw[amE]
  exact⟨V,ρ,rfl,hS,EE.refl _ _,hE,h⟩
 |
  .ret,V,ρ,kG,Q,hS,hE,h=>by
  unfold zY
  rw[atK]
  exact⟨V,ρ,rfl,hS,EE.refl _ _,hE,h⟩
 |
  .dC ops,V,ρ,kG,Q,hS,hE,h=>by
  unfold zY
  rw[arQ]
  exact Mg ops hS hE h
 |
  .seq a b,V,ρ,kG,Q,hS,hE,h=>by
  unfold zY
  rw[arW]
  refine(uT a hS hE h).mono ?_
  rintro x M5 P' ⟨V',bI,rfl,g2,g3,g4,g5⟩
  cases x with
  |
   normal =>
   refine(uT b g2 g4 g5).mono ?_
   rintro y WK Yu ⟨SY,Em,k1,k2,k3,k4,k5⟩
   exact⟨SY,Em,k1,k2,g3.trans k3,k4,k5⟩
  | exit i=>exact⟨V',bI,rfl,g2,g3,g4,g5⟩
  | ret=>exact⟨V',bI,rfl,g2,g3,g4,g5⟩
 |
  .cond c a b,V,ρ,kG,Q,hS,hE,h=>by
  unfold zY
  rw[aoS]
  unfold VW at h
  split at h
  ·rename_i t hc
   obtain⟨e,_⟩:=qV (hE.ev c) hc
   refine⟨t,e,fun ht => ?_,fun ht => ?_⟩
   ·rw[if_pos ht] at h
    exact uT a hS hE h
   ·rw[if_neg (by simp[ht])] at h
    exact uT b hS hE h
  ·cases h
 |
  .block id a,V,ρ,kG,Q,hS,hE,h=>by
  unfold zY
  rw[ahM]
  refine(uT a hS hE h).mono ?_
  rintro x M5 P' ⟨V',bI,rfl,g2,g3,g4,g5⟩
  cases x with
  | normal=>exact⟨V',bI,rfl,g2,g3,g4,g5⟩
  |
   exit i =>
   rw[Ib]
   have g5:if i=id then Q .normal bI V'.H else Q (.exit i) bI V'.H:=g5
   split at g5
   ·rename_i hi
    rw[if_pos hi]
    exact⟨V',bI,rfl,g2,g3,g4,g5⟩
   ·rename_i hi
    rw[if_neg hi]
    exact⟨V',bI,rfl,g2,g3,g4,g5⟩
  | ret=>exact⟨V',bI,rfl,g2,g3,g4,g5⟩
 |
  .loop a,V,ρ,kG,Q,hS,hE,h=>by
  obtain⟨n,h⟩:=h
  have key:∀n {V:View} {ρ:dM} {kG:Env},SR V lo eI→ER V ρ kG→Ra (VW fl lo a) (fun x=>gh (Q x)) n ρ V.H→zY lo eI V (.loop a) Q kG:=by
   intro n
   induction n with
   | zero=>intro V ρ kG _ _ h;cases h
   |
    succ n ih =>
    intro V ρ kG hS hE h
    unfold zY
    refine R7 ?_
    refine(uT a hS hE h).mono ?_
    rintro x M5 P' ⟨V',bI,rfl,g2,g3,g4,g5⟩
    cases x with
    |
     normal =>
     rcases g5 with g5 | ⟨g5,g6⟩
     ·refine(ih g2 g4 g5).mono ?_
      rintro y WK Yu ⟨SY,Em,k1,k2,k3,k4,k5⟩
      exact⟨SY,Em,k1,k2,g3.trans k3,k4,k5⟩
     ·obtain⟨t1,t2,t3⟩:=Q2 g2 g4 g3 g5
      refine(ih t1 t3 g6).mono ?_
      rintro y WK Yu ⟨SY,Em,k1,k2,k3,k4,k5⟩
      exact⟨SY,Em,k1,k2,t2.trans k3,k4,k5⟩
    |
     exit i =>
     obtain⟨SY,Em,k1,k2,k3,k4,k5⟩:=QZ g2 g4 g5
     exact⟨SY,Em,k1,k2,g3.trans k3,k4,k5⟩
    |
     ret =>
     obtain⟨SY,Em,k1,k2,k3,k4,k5⟩:=QZ g2 g4 g5
     exact⟨SY,Em,k1,k2,g3.trans k3,k4,k5⟩
  exact key n hS hE h
theorem wE {V:View} (hS:SR V lo eI) {ρ:dM} {kG:Env} (hE:ER V ρ kG) {res:List Bd} {v:VV} (h:nM res ρ V.H=some v):∃pv,qH res kG V.P=some pv∧VR V v pv:=by
 have one:∀ {r:Bd} {v:VV},EY ρ V.H r=some v→∃pv,Vz kG V.P r=some pv∧VR V v pv:=by
  intro r v h
  cases r with
  | tmp t=>cases h;exact⟨_,rfl,hE t⟩
  | cell t agg size=>exact Ly hS (hE t) h
 have all:∀ {rs:List Bd} {vs:List VV},qG ρ V.H rs=some vs→∃ps,BB kG V.P rs=some ps∧VL V vs ps:=by
  intro rs
  induction rs with
  | nil=>intro vs h;cases h;exact⟨[],rfl,.nil⟩
  |
   cons r rs ih =>
   intro vs h
   unfold qG at h
   split at h
   ·rename_i v vs' h1 h2
    cases h
    obtain⟨pv,k1,k2⟩:=one h1
    obtain⟨ps,k3,k4⟩:=ih h2
    exact⟨pv::ps,by unfold BB;rw[k1,k3],.cons _ _ _ _ k2 k4⟩
   ·cases h
 unfold nM at h
 split at h
 ·rename_i v' hv
  cases h
  obtain⟨ps,k1,k2⟩:=all hv
  cases k2 with
  |
   cons _ pv _ _ hx PV =>
   cases PV
   exact⟨pv,by unfold qH;rw[k1],hx⟩
 ·rename_i vs fC hv
  cases h
  obtain⟨ps,k1,k2⟩:=all hv
  refine⟨.tuple ps.toArray,?_,.dT _ _ k2⟩
  unfold qH
  rw[k1]
  split
  ·rename_i pv he
   injection he with he
   subst he
   cases k2 with
   | cons x _ _ _ hx PV=>cases PV;exact absurd rfl (fC x)
  ·rename_i he
   injection he with he
   rw[he]
  ·rename_i he;cases he
 ·cases h
theorem Rw {V:View} {args:List VV} {eE:List Value} (h:VL V args eE):ER V (Jm args) (XL eE):=by
 intro t
 unfold Jm XL
 rw[List.getD_eq_getElem?_getD,List.getD_eq_getElem?_getD]
 cases hx:args[t]? with
 |
  none =>
  have:eE[t]? = none:=by
   rw[List.getElem?_eq_none_iff] at hx ⊢
   rw[h.length]
   exact hx
  rw[this]
  exact .dT [] [] .nil
 |
  some x =>
  obtain⟨v,h1,h2⟩:=h.get hx
  rw[h1]
  exact h2
theorem gV.walk {f:Nat} {pf:aR} {args:List VV} {H:aA} {K:VV→aA→Prop} (fl:Fl) (ht:fR f=some pf) (ha:args.length≤pf.ntmps) (h:VW fl lo pf.body (AY pf.res K) (Jm args) H):gV f args lo H K:=by
 intro V eI eE hH hS hl
 subst hH
 obtain⟨x,M5,P',h1,V',bI,rfl,g2,g3,g4,g5⟩:=uT pf.body hS (Rw hl) h
 have key:∃pv Yu,qT f eE eI V.P=some (pv,Yu)∧Yu=V'.P∧∃r,VR V' r pv∧K r V'.H:=by
  refine acR ht (by rw[hl.length];exact ha) ?_
  refine⟨x,M5,V'.P,h1,?_⟩
  cases x with
  | exit i=>exact g5.elim
  |
   normal =>
   simp only[AY,Gn] at g5
   split at g5
   ·rename_i v hv
    obtain⟨pv,k2,k3⟩:=wE g2 g4 hv
    exact⟨pv,k2,rfl,v,k3,g5⟩
   ·cases g5
  |
   ret =>
   simp only[AY,Gn] at g5
   split at g5
   ·rename_i v hv
    obtain⟨pv,k2,k3⟩:=wE g2 g4 hv
    exact⟨pv,k2,rfl,v,k3,g5⟩
   ·cases g5
 obtain⟨pv,Yu,k1,rfl,r,k2,k3⟩:=key
 exact⟨pv,V',r,k1,g2,g3,k2,k3⟩
theorem VT.walk {f:Nat} {pf:aR} {args:List VV} {r:VV} (fl:Fl) (ht:fR f=some pf) (ha:args.length≤pf.ntmps) (h:VW fl 0 pf.body (AY pf.res fun v H=>fz depth H v=some r) (Jm args) []):VT f args r:=by
 intro F P eE eI hF hl agX
 have hS:SR (bare F P) 0 eI:=⟨fun b g es e w hb=>by simp[bare] at hb,fun b g es e hb=>by simp[bare] at hb,fun a b g es e w g' mT e' w' ha=>by simp[bare] at ha,hF,agX,Nat.zero_le _⟩
 obtain⟨x,M5,P',h1,V',bI,rfl,g2,g3,g4,g5⟩:=uT pf.body hS (Rw hl) h
 have fin:∀ {v:VV} {pv:Value},VR V' v pv→fz depth V'.H v=some r→VR (bare (fun q=>F q∨(P.length≤q∧q<V'.P.length)) V'.P) r pv:=by
  intro v pv hv hf
  refine Mu g2 (fun q hq => ?_) depth v r pv hv hf fun i _ g es e w hr => ?_
  ·rcases g3.Cw q hq with h | h | ⟨b,g,es,e,w,h,_⟩
   ·exact .inl h
   ·exact .inr ⟨h,g2.fr q hq⟩
   ·simp[bare] at h
  ·rcases Nat.lt_or_ge (V'.m i) P.length with bF | EN
   ·obtain⟨g0,es0,w0,k1,_⟩:=g3.Bj i g es e w hr bF
    simp[bare] at k1
   ·exact .inr ⟨EN,g2.mlt hr⟩
 have key:∃pv Yu,qT f eE eI P=some (pv,Yu)∧Yu=V'.P∧VR (bare (fun q=>F q∨(P.length≤q∧q<V'.P.length)) V'.P) r pv:=by
  refine acR ht (by rw[hl.length];exact ha) ?_
  refine⟨x,M5,V'.P,h1,?_⟩
  cases x with
  | exit i=>exact g5.elim
  |
   normal =>
   simp only[AY,Gn] at g5
   split at g5
   ·rename_i v hv
    obtain⟨pv,k2,k3⟩:=wE g2 g4 hv
    exact⟨pv,k2,rfl,fin k3 g5⟩
   ·cases g5
  |
   ret =>
   simp only[AY,Gn] at g5
   split at g5
   ·rename_i v hv
    obtain⟨pv,k2,k3⟩:=wE g2 g4 hv
    exact⟨pv,k2,rfl,fin k3 g5⟩
   ·cases g5
 obtain⟨pv,Yu,k1,rfl,k3⟩:=key
 refine⟨V'.P,pv,k1,?_,k3⟩
 refine⟨V'.P.drop P.length,List.ext_getElem? fun i => ?_⟩
 rcases Nat.lt_or_ge i P.length with hi | hi
 ·rw[List.getElem?_append_left hi]
  exact(g3.cJ i hi fun b g es e hb=>by simp[bare] at hb).symm
 ·rw[List.getElem?_append_right hi,List.getElem?_drop,show P.length+(i-P.length)=i by omega]
end
end Go.PM
namespace Go.PM
section
variable {fl:Fl} {lo:Nat} {ρ:dM} {H:aA} {Q:VQ} {K:dM→aA→Prop} {k:VV→aA→Prop} {a b:aD} {d:Option Nat} {is:List PI} {q:Bool} {op:nK}
def QQ (fl:Fl) (lo:Nat) (d:Option Nat) (is:List PI) (K:dM→aA→Prop) (ρ:dM):VV→aA→Prop:=fun v H'=>VS fl lo is K (J7 ρ d v) H'
def PO (r:Option (VV×aA)) (k:VV→aA→Prop):Prop:=match r with
 | some (v,H')=>k v H'
 | none=>False
theorem Ow {v:VV} {H':aA}:QQ fl lo d is K ρ v H'=VS fl lo is K (J7 ρ d v) H':=rfl
theorem S6 {v:VV}:Kt (some v) H k=k v H:=rfl
theorem O4 {v:VV} {H':aA}:PO (some (v,H')) k=k v H':=rfl
theorem aiN {r:VV} {K:VV→Prop}:tk (some r) K=K r:=rfl
theorem VF:VW fl lo .skip Q ρ H=Q .normal ρ H:=rfl
theorem Wv {i:Nat}:VW fl lo (.exit i) Q ρ H=Q (.exit i) ρ H:=rfl
theorem Z8:VW fl lo .ret Q ρ H=Q .ret ρ H:=rfl
theorem ZQ {ops:List PI}:VW fl lo (.dC ops) Q ρ H=VS fl lo ops (Q .normal) ρ H:=rfl
theorem acF:VW fl lo (.seq a b) Q ρ H=VW fl lo a (mZ (VW fl lo b Q) Q) ρ H:=rfl
theorem Rs {i:Nat}:VW fl lo (.block i a) Q ρ H=VW fl lo a (Ai i Q) ρ H:=rfl
theorem Wr {c:Operand} {t:Bool} (h:eH ρ c = .sc (.bool t)):VW fl lo (.cond c a b) Q ρ H=if t=true then VW fl lo a Q ρ H else VW fl lo b Q ρ H:=by
 simp only[VW,h]
theorem Ci:mZ K Q .normal=K:=rfl
theorem Ey {i:Nat}:mZ K Q (.exit i)=Q (.exit i):=rfl
theorem G7:mZ K Q .ret=Q .ret:=rfl
theorem EX {i:Nat}:Ai i Q .normal=Q .normal:=rfl
theorem Df {i j:Nat}:Ai i Q (.exit j) ρ H=if j=i then Q .normal ρ H else Q (.exit j) ρ H:=rfl
theorem L6 {i:Nat}:Ai i Q .ret=Q .ret:=rfl
theorem FU {res:List Bd} {R:VV→aA→Prop}:AY res R .normal ρ H=Gn R (nM res ρ H) H:=rfl
theorem OD {res:List Bd} {R:VV→aA→Prop}:AY res R .ret ρ H=Gn R (nM res ρ H) H:=rfl
theorem MK {R:VV→aA→Prop} {v:VV}:Gn R (some v) H=R v H:=rfl
theorem RC {t:Nat}:nM [.tmp t] ρ H=some (ρ t):=rfl
theorem Su {t u:Nat}:nM [.tmp t,.tmp u] ρ H=some (.dT [ρ t,ρ u]):=rfl
theorem Mi {t u v:Nat}:nM [.tmp t,.tmp u,.tmp v] ρ H=some (.dT [ρ t,ρ u,ρ v]):=rfl
theorem OQ:nM [] ρ H=some (.dT []):=rfl
theorem Z3:VS fl lo [] K ρ H=K ρ H:=rfl
theorem akH:VS fl lo (⟨d,op,none,q,[]⟩::is) K ρ H=eG fl lo q op ρ H (QQ fl lo d is K ρ):=by
 simp only[VS,Bk,List.all_nil,true_and]
 rfl
theorem Eo {c:Operand×Operand} {cs:List (Operand×Operand)}:VS fl lo (⟨d,op,none,q,c::cs⟩::is) K ρ H=((c::cs).all (tD ρ H)=true∧eG fl lo q op ρ H (QQ fl lo d is K ρ)):=by
 simp only[VS,Bk]
 rfl
theorem RE {t:Nat} {want x:Bool} {cf:List (Operand×Operand)} (h:ρ t = .sc (.bool x)):VS fl lo (⟨d,op,some (t,want),q,cf⟩::is) K ρ H =
  if (x == want)=true then (cf.all (tD ρ H)=true∧eG fl lo q op ρ H (QQ fl lo d is K ρ)) else VS fl lo is K (J7 ρ d pL) H:=by
 simp only[VS,Bk,h]
 cases (x == want)<;>rfl
theorem Zc {t:Nat} {want:Bool} (h:ρ t = .sc (.bool want)):VS fl lo (⟨d,op,some (t,want),q,[]⟩::is) K ρ H=eG fl lo q op ρ H (QQ fl lo d is K ρ):=by
 rw[RE h]
 simp
theorem ajY {t:Nat} {want:Bool} {cf:List (Operand×Operand)} (h:ρ t = .sc (.bool (!want))):VS fl lo (⟨d,op,some (t,want),q,cf⟩::is) K ρ H=VS fl lo is K (J7 ρ d pL) H:=by
 rw[RE h]
 cases want<;>rfl
theorem Wl {c:Operand} (h:eH ρ c = .sc (.bool true)):VW fl lo (.cond c a b) Q ρ H=VW fl lo a Q ρ H:=by
 rw[Wr h,if_pos rfl]
theorem QH {c:Operand} (h:eH ρ c = .sc (.bool false)):VW fl lo (.cond c a b) Q ρ H=VW fl lo b Q ρ H:=by
 rw[Wr h,if_neg (by decide)]
theorem I7 {t:Nat} {want:Bool} {cf:List (Operand×Operand)} (h:ρ t=pL):VS fl lo (⟨d,op,some (t,want),q,cf⟩::is) K ρ H=VS fl lo is K (J7 ρ d pL) H:=by
 simp only[VS,Bk,h,pL]
theorem uS {d t:Nat} {v:VV}:J7 ρ (some d) v t=if t=d then v else ρ t:=rfl
theorem Ox {v:VV}:J7 ρ none v=ρ:=rfl
theorem Wz {t:Nat}:eH ρ (.tmp t)=ρ t:=rfl
theorem Od {v:Value}:eH ρ (.const v)=inj v:=rfl
theorem Ry {f:Nat}:eH ρ (.func f) = .uP f []:=rfl
theorem WG {k:IntKind} {n:Int}:inj (.int k n) = .sc (.int k n):=rfl
theorem R3 {t:Bool}:inj (.bool t) = .sc (.bool t):=rfl
theorem Ws {s:ByteArray}:inj (.string s) = .sc (.string s):=rfl
theorem VJ:inj (.slice none 0 0) = .tree [] .nil:=rfl
theorem V3 {cs:Array Value}:inj (.agg cs) = .agg (cs.toList.map jB):=rfl
theorem Sd {k:IntKind} {n:Int}:jB (.int k n) = .sc (.int k n):=rfl
theorem N5 {t:Bool}:jB (.bool t) = .sc (.bool t):=rfl
theorem R2 {s:ByteArray}:jB (.string s) = .sc (.string s):=rfl
theorem RM:jB (.slice none 0 0) = .tree [] .nil:=rfl
theorem adD {x:Operand}:eG fl lo q (.mv x) ρ H k=k (eH ρ x) H:=rfl
theorem iA {r:Option VV}:(match r.map (fun v=>(v,H)) with | some (v,H')=>k v H' | none=>False)=Kt r H k:=by cases r<;>rfl
theorem RB {c x y:Operand}:eG fl lo q (.pick c x y) ρ H k=Kt (Rm (eH ρ c) (eH ρ x) (eH ρ y)) H k:=iA
theorem Vx {o:BinOp} {x y:Operand}:eG fl lo q (.bin o x y) ρ H k=Kt (IJ (dI o) (eH ρ x) (eH ρ y)) H k:=iA
theorem WQ {n:Bool} {x y:Operand}:eG fl lo q (.eqb n x y) ρ H k=Kt (IJ (Nx n) (eH ρ x) (eH ρ y)) H k:=iA
theorem OO {n:Bool} {x:Operand}:eG fl lo q (.isnil n x) ρ H k=Kt (Fk n (eH ρ x) H) H k:=iA
theorem OI {n:Bool} {ks:List CK} {x y:Operand}:eG fl lo q (.eqagg n ks x y) ρ H k=Kt (T4 n ks (eH ρ x) (eH ρ y)) H k:=iA
theorem ZS {o:UnOp} {x:Operand}:eG fl lo q (.un o x) ρ H k=Kt (MN (pun o) (eH ρ x)) H k:=iA
theorem VY {o:IntKind} {x:Operand}:eG fl lo q (.cvt o x) ρ H k=Kt (MN (UA o) (eH ρ x)) H k:=iA
theorem WD {x:Operand}:eG fl lo q (.cvs x) ρ H k=Kt (MN XS (eH ρ x)) H k:=iA
theorem VD {x:Operand} {i:Nat}:eG fl lo q (.ext x i) ρ H k=Kt (aeM i (eH ρ x)) H k:=iA
theorem VM {g:Bool} {off size:Nat} {x:Operand}:eG fl lo q (.fld g off size x) ρ H k=Kt (ahY g off size (eH ρ x)) H k:=iA
theorem NT {z:List Value} {places:List (Nat×Nat)} {parts:List (Nat×Operand)}:eG fl lo q (.build z places parts) ρ H k=Kt ((xQ places (z.map jB) (parts.map fun(i,x)=>(i,eH ρ x))).map .agg) H k:=by
 show (match (xQ places (z.map jB) (parts.map fun(i,x)=>(i,eH ρ x))).map fun cs=>(VV.agg cs,H) with | some (v,H')=>k v H' | none=>False)=_
 cases xQ places (z.map jB) (parts.map fun(i,x)=>(i,eH ρ x))<;>rfl
theorem WZ {x:Operand}:eG fl lo q (.chk x) ρ H k=Kt (W2 (eH ρ x) H) H k:=iA
theorem O2 {off:Nat} {x:Operand}:eG fl lo q (.faddr off x) ρ H k=Kt (Ik off (eH ρ x) H) H k:=iA
theorem N7 {size:Nat} {x i:Operand}:eG fl lo q (.iaddr size x i) ρ H k=Kt (bK size (eH ρ x) (eH ρ i) H) H k:=iA
theorem Q0 {x i:Operand}:eG fl lo q (.sidx x i) ρ H k=Kt (IJ FX (eH ρ x) (eH ρ i)) H k:=iA
theorem Sk {x:Operand} {l h:Option Operand}:eG fl lo q (.ssub x l h) ρ H k=Kt (uU (eH ρ x) (l.map (eH ρ)) (h.map (eH ρ))) H k:=iA
theorem RF {f:Nat} {fT:List Operand}:eG fl lo q (.mkfn f fT) ρ H k=k (.uP f (fT.map (eH ρ))) H:=rfl
theorem WA {x:Operand}:eG fl lo q (.len x) ρ H k=Kt (oI (eH ρ x) H) H k:=iA
theorem QS {x:Operand}:eG fl lo q (.slen x) ρ H k=Kt (MN yU (eH ρ x)) H k:=iA
theorem Vq {x y:Operand}:eG fl lo q (.min x y) ρ H k=Kt (IJ Sh (eH ρ x) (eH ρ y)) H k:=iA
theorem WU {x y:Operand}:eG fl lo q (.max x y) ρ H k=Kt (IJ SA (eH ρ x) (eH ρ y)) H k:=iA
theorem Sa {g:Bool} {size:Nat} {p:Operand}:eG fl lo q (.load g size p) ρ H k=Kt (bT g size (eH ρ p) H) H k:=iA
theorem Vl {size:Nat} {x:Operand} {l h m:Option Operand}:eG fl lo q (.sub size x l h m) ρ H k=Kt (FP size (eH ρ x) (l.map (eH ρ)) (h.map (eH ρ)) (m.map (eH ρ)) H) H k:=iA
theorem WT {z:List Value}:eG fl lo q (.new z) ρ H k=PO (if (z.map jB).all bP then some (.ptr H.length 0 0 0,H++[.row 0 [elemOf (z.map jB)] z.length true]) else none) k:=rfl
theorem Ww {x:Operand}:eG fl lo q (.box x) ρ H k=PO (if (aB (eH ρ x)).all bP then (if fl.bf then some (.cN (eH ρ x) 0,H) else some (.ptr H.length 0 0 0,H++[.row 0 [eH ρ x] (aB (eH ρ x)).length true])) else none) k:=rfl
theorem RN {z:List Value} {bytes:Nat} {l c:Operand}:eG fl lo q (.make z bytes l c) ρ H k=PO (if (z.map jB).all bP then Ay z bytes (eH ρ l) (eH ρ c) H else none) k:=rfl
theorem W0 {z:List Value} {n:Nat} {parts:List (Nat×Operand)}:eG fl lo q (.lit z n parts) ρ H k=PO (jC fl.lr z n (parts.map fun(i,x)=>(i,eH ρ x)) H) k:=rfl
def Vu (r:Option aA) (k:VV→aA→Prop):Prop:=match r with
 | some H'=>k pL H'
 | none=>False
theorem LJ {H':aA}:Vu (some H') k=k pL H':=rfl
theorem O5 {r:Option aA}:(match r.map (fun H'=>(pL,H')) with | some (v,H')=>k v H' | none=>False)=Vu r k:=by cases r<;>rfl
theorem O1 {size:Nat} {p v:Operand}:eG fl lo q (.store size p v) ρ H k=Vu (bR lo size (eH ρ p) (eH ρ v) H) k:=O5
def atE (lo size bytes:Nat) (x:VV) (new:Option (List VV)) (H:aA) (k:VV→aA→Prop):Prop:=match new with
 | some new=>PO (eW lo size bytes x new H) k
 | none=>False
theorem O3 {size bytes:Nat} {x:VV} {new:List VV}:atE lo size bytes x (some new) H k=PO (eW lo size bytes x new H) k:=rfl
theorem WJ {size bytes:Nat} {x y:Operand}:eG fl lo q (.app size bytes x y) ρ H k=atE lo size bytes (eH ρ x) (cU size (eH ρ y) H) H k:=by
 show (match (match cU size (eH ρ y) H with | some new=>eW lo size bytes (eH ρ x) new H | none=>none) with | some (v,H')=>k v H' | none=>False)=_
 cases cU size (eH ρ y) H<;>rfl
theorem Q5 {size:Nat} {x y:Operand}:eG fl lo q (.copy size x y) ρ H k=PO (IZ lo size (eH ρ x) (eH ρ y) H) k:=rfl
theorem OZ {z:List Value} {x:Operand}:eG fl lo q (.clear z x) ρ H k=Vu (PH lo z (eH ρ x) H) k:=O5
theorem QE {f:Nat} {args:List Operand}:eG fl lo q (.call f args) ρ H k=cS f (args.map (eH ρ)) (if q then H.length else lo) H k:=rfl
noncomputable def TU (x:VV) (args:List VV) (lo:Nat) (H:aA) (k:VV→aA→Prop):Prop:=match x with
 | .uP f fT=>cS f (args++fT) lo H k
 | _=>False
theorem LU {f:Nat} {fT args:List VV}:TU (.uP f fT) args lo H k=cS f (args++fT) lo H k:=rfl
theorem Oq {fv:Operand} {args:List Operand}:eG fl lo q (.callv fv args) ρ H k=TU (eH ρ fv) (args.map (eH ρ)) (if q then H.length else lo) H k:=by
 simp only[eG,TU]
 all_goals (cases eH ρ fv<;>rfl)
theorem PN {x:Operand}:eG fl lo q (.b2s x) ρ H k=PO (vop fl lo (.b2s x) ρ H) k:=rfl
theorem Vp {f:Value→Option Value} {x:Value}:MN f (.sc x)=(f x).map .sc:=rfl
theorem WI {f:Value→Value→Option Value} {x y:Value}:IJ f (.sc x) (.sc y)=(f x y).map .sc:=rfl
theorem RT {t:Bool} {x y:VV}:Rm (.sc (.bool t)) x y=some (if t=true then x else y):=rfl
theorem S7 {vs:List VV} {i:Nat}:aeM i (.dT vs)=vs[i]? := rfl
theorem O7 {es:List VV} {t:TK}:oI (.tree es t) H=some (.sc (.int .i64 es.length)):=rfl
theorem fQ {b g o n c:Nat} {r:List VV×Nat×Bool} (h:aI H b g=some r):oI (.ref b g o n c) H=some (.sc (.int .i64 n)):=by
 simp only[oI,h,Option.map_some]
theorem QN {x:VV} {o off:Nat}:Ik off (.cN x o) H=some (.cN x (o+off)):=rfl
theorem Z6 {x:VV} {o:Nat}:W2 (.cN x o) H=some (.cN x o):=rfl
theorem Kb {g:Bool} {size o:Nat} {x:VV}:bT g size (.cN x o) H=dD g size x o:=rfl
theorem Pd {g:Bool} {size b gn j o:Nat} {es:List VV} {e:Nat} {w:Bool} {x:VV} (h:aI H b gn=some (es,e,w)) (hx:es[j]? = some x):bT g size (.ptr b gn j o) H=dD g size x o:=by
 simp only[bT,h,hx]
theorem aeK {size:Nat} {v:Value}:dD false size (.sc v) 0=some (.sc v):=rfl
theorem Wu {size:Nat} {es:List VV} {t:TK}:dD false size (.tree es t) 0=some (.tree es t):=rfl
theorem adF {size b g o n c:Nat}:dD false size (.ref b g o n c) 0=some (.ref b g o n c):=rfl
theorem acO {size f:Nat} {fT:List VV}:dD false size (.uP f fT) 0=some (.uP f fT):=rfl
theorem Qj {size o:Nat} {cs:List VV}:dD false size (.agg cs) o=cs[o]? := rfl
theorem ZM {size:Nat} {cs:List VV} (h:cs.length=size):dD true size (.agg cs) 0=some (.agg cs):=by
 subst h
 simp[dD,aB]
theorem aeA {size:Nat} {es:List VV} {t:TK} {kk:IntKind} {i:Int} {x:VV} (h0:0≤i) (hx:es[i.toNat]? = some x) (hs:(aB x).length=size):bK size (.tree es t) (.sc (.int kk i)) H=some (.cN x 0):=by
 simp only[bK,h0,hx,hs,if_true]
theorem YP {size:Nat} {es:List VV} {t:TK} {kk:IntKind} {i:Nat} {x:VV} (hx:es[i]? = some x) (hs:(aB x).length=size):bK size (.tree es t) (.sc (.int kk (i:Int))) H=some (.cN x 0) :=
 aeA (by omega) (by simpa using hx) hs
theorem ZZ {size b g o n c:Nat} {kk:IntKind} {i:Int} {es:List VV} {w:Bool} (h:aI H b g=some (es,size,w)) (h0:0≤i) (h1:i<n):bK size (.ref b g o n c) (.sc (.int kk i)) H=some (.ptr b g (o+i.toNat) 0):=by
 simp only[bK,h]
 rw[if_pos ⟨trivial,h0,h1⟩]
theorem Xf {size b g o n c:Nat} {kk:IntKind} {i:Nat} {es:List VV} {w:Bool} (h:aI H b g=some (es,size,w)) (h1:i<n):bK size (.ref b g o n c) (.sc (.int kk (i:Int))) H=some (.ptr b g (o+i) 0):=by
 rw[ZZ h (by omega) (by omega),Int.toNat_natCast]
abbrev TC (f:Nat) (args:List VV) (r:VV):Prop:=∀(lo:Nat) (H:aA) (k:VV→aA→Prop),cS f args lo H k=k r H
theorem TC.of {f:Nat} {args:List VV} {r:VV} (hr:Cy.contains f=false) (ha:aM args=true) (h:vT f args=some r):TC f args r:=by
 intro lo H k
 unfold cS Hb
 simp only[hr,ha,if_true,h,Bool.false_eq_true,if_false,aiN]
theorem TC.walk {f:Nat} {pf:aR} {args:List VV} {r:VV} (fl:Fl) (ht:fR f=some pf) (hr:Cy.contains f=false) (hn:args.length≤pf.ntmps) (ha:aM args=true) (Ug:gJ r=true) (h:VW fl 0 pf.body (AY pf.res fun v H=>fz depth H v=some r) (Jm args) []):TC f args r :=
 TC.of hr ha (ajF ha Ug (VT.walk fl ht hn h))
theorem TC.Dr {f:Nat} {args iI:List VV} {r:VV} (h:TC f iI r) (hr:Cy.contains f=false) (ha':aM iI=true) (hf:args.mapM (fz depth H)=some iI) (ha:aM args=false):cS f args lo H k=if K5 r=true then k r H else k r (dA H (args.flatMap (hJ depth H))):=by
 have e:∀K,Hb f iI K=K r:=fun K=>by
  have:=h 0 [] fun r _=>K r
  unfold cS at this
  simpa only[hr,ha',if_true,Bool.false_eq_true,if_false] using this
 unfold cS
 simp only[hr,ha,hf,Bool.false_eq_true,if_false]
 rw[e]
theorem aJ {n:Nat} {v:VV} (h:aN v=true):fz (n+1) H v=some v:=by
 unfold PM.fz
 rw[if_pos h]
theorem aF {v:VV} (h:aN v=true):fz depth H v=some v:=aJ h
theorem mapM_pure {n:Nat}:∀ {es:List VV},aM es=true→es.mapM (PM.fz (n+1) H)=some es
 | [],_=>rfl
 |
  x::xs,h=>by
  simp only[aM,Bool.and_eq_true] at h
  rw[List.mapM_cons,aJ h.1,mapM_pure h.2]
  rfl
theorem MU {b g n c e:Nat} {es:List VV} {w:Bool} (h:aI H b g=some (es,e,w)) (hn:n=es.length) (hc:n≤c) (hp:aM es=true):fz depth H (.ref b g 0 n c)=some (.tree es .op):=by
 have:aN (.ref b g 0 n c)=false:=rfl
 show fz (7+1) H _=_
 unfold PM.fz
 simp only[this,h,Bool.false_eq_true,if_false]
 subst hn
 rw[if_pos ⟨by omega,hc⟩,List.drop_zero,List.take_length,mapM_pure hp]
 rfl
theorem Fv {n:Nat} {v:VV} (h:aN v=true):hJ n H v=[]:=by
 cases n with
 | zero=>rfl
 | succ n=>unfold hJ;rw[if_pos h]
theorem wI {n:Nat}:∀ {es:List VV},aM es=true→es.flatMap (hJ n H)=[]
 | [],_=>rfl
 |
  x::xs,h=>by
  simp only[aM,Bool.and_eq_true] at h
  rw[List.flatMap_cons,Fv h.1,wI h.2]
  rfl
theorem Oy {b g n c e:Nat} {es:List VV} {w:Bool} (h:aI H b g=some (es,e,w)) (hn:n=es.length) (hp:aM es=true):hJ depth H (.ref b g 0 n c)=[b]:=by
 have:aN (.ref b g 0 n c)=false:=rfl
 show hJ (7+1) H _=_
 unfold hJ
 simp only[this,h,Bool.false_eq_true,if_false]
 subst hn
 rw[List.drop_zero,List.take_length,wI hp]
theorem VE {r:Option VV} {K K':VV→Prop} (hk:∀v,K v→K' v) (h:tk r K):tk r K':=by
 cases r with
 | none=>exact h
 | some v=>exact hk _ h
theorem IW {f:Nat} {args:List VV} {k k':VV→aA→Prop} (hk:∀v H,k v H→k' v H) (h:cS f args lo H k):cS f args lo H k':=by
 unfold cS at h ⊢
 split at h
 ·rename_i h1
  rw[if_pos h1]
  exact h.mono hk
 ·rename_i h1
  rw[if_neg h1]
  split at h
  ·rename_i h2
   rw[if_pos h2]
   exact VE (fun v=>hk v H) h
  ·rename_i h2
   rw[if_neg h2]
   split at h
   ·refine VE (fun v hv => ?_) h
    split at hv
    ·rename_i h3;rw[if_pos h3];exact hk _ _ hv
    ·rename_i h3;rw[if_neg h3];exact hk _ _ hv
   ·cases h
theorem TQ {k k':VV→aA→Prop} (hk:∀v H,k v H→k' v H) (h:eG fl lo q op ρ H k):eG fl lo q op ρ H k':=by
 unfold eG at h ⊢
 split at h
 ·exact IW hk h
 ·split at h
  ·exact IW hk h
  ·cases h
 ·split at h
  ·exact hk _ _ h
  ·cases h
theorem PW {K K':dM→aA→Prop} (hk:∀ρ H,K ρ H→K' ρ H):∀ {is:List PI} {ρ:dM} {H:aA},VS fl lo is K ρ H→VS fl lo is K' ρ H
 | [],ρ,H,h=>hk _ _ h
 |
  i::is,ρ,H,h=>by
  unfold VS at h ⊢
  split at h
  ·cases h
  ·exact PW hk h
  ·exact⟨h.1,TQ (fun v H' hv=>PW hk hv) h.2⟩
theorem pT {K K':dM→aA→Prop} {Q Q':VQ} (hk:∀ρ H,K ρ H→K' ρ H) (hq:∀x ρ H,Q x ρ H→Q' x ρ H):∀x ρ H,mZ K Q x ρ H→mZ K' Q' x ρ H
 | .normal,ρ,H,h=>hk _ _ h
 | .exit _,ρ,H,h=>hq _ _ _ h
 | .ret,ρ,H,h=>hq _ _ _ h
theorem agL {K K':dM→aA→Prop} (hk:∀ρ H,K ρ H→K' ρ H) (h:gh K ρ H):gh K' ρ H:=by
 obtain⟨ts,bI,H',h1,h2⟩:=h
 exact⟨ts,bI,H',h1,hk _ _ h2⟩
theorem wJ:∀ {c:aD} {Q Q':VQ} {ρ:dM} {H:aA},(∀x ρ H,Q x ρ H→Q' x ρ H)→VW fl lo c Q ρ H→VW fl lo c Q' ρ H
 | .skip,_,_,_,_,hq,h=>hq _ _ _ h
 | .exit _,_,_,_,_,hq,h=>hq _ _ _ h
 | .ret,_,_,_,_,hq,h=>hq _ _ _ h
 | .dC _,_,_,_,_,hq,h=>PW (fun ρ H=>hq .normal ρ H) h
 | .seq a b,Q,Q',_,_,hq,h=>wJ (c:=a) (pT (fun ρ H h=>wJ (c:=b) hq h) hq) h
 |
  .cond c a b,Q,Q',ρ,H,hq,h=>by
  unfold VW at h ⊢
  split at h
  ·split at h
   ·rename_i h1;rw[if_pos h1];exact wJ (c:=a) hq h
   ·rename_i h1;rw[if_neg h1];exact wJ (c:=b) hq h
  ·cases h
 |
  .block i a,Q,Q',_,_,hq,h=>by
  refine wJ (c:=a) (fun x ρ H hx => ?_) h
  cases x with
  | normal=>exact hq _ _ _ hx
  | ret=>exact hq _ _ _ hx
  |
   exit j =>
   rw[Df] at hx ⊢
   split at hx
   ·rename_i h1;rw[if_pos h1];exact hq _ _ _ hx
   ·rename_i h1;rw[if_neg h1];exact hq _ _ _ hx
 |
  .loop a,Q,Q',ρ,H,hq,h=>by
  obtain⟨n,h⟩:=h
  refine⟨n,?_⟩
  induction n generalizing ρ H with
  | zero=>cases h
  |
   succ n ih =>
   refine wJ (c:=a) (pT (fun ρ H h => ?_) fun x ρ H h=>agL (hq x) h) h
   rcases h with h | ⟨h1,h2⟩
   ·exact .inl (ih _ _ h)
   ·exact .inr ⟨h1,ih _ _ h2⟩
theorem aiW {K:dM→aA→Prop} (h:K ρ H):gh K ρ H:=⟨[],ρ,H,rfl,h⟩
theorem SB {α:Type} {c:aD} (I:α→dM→aA→Prop) (μ:α→Nat) (s:α) (h0:I s ρ H)
  (round:∀s ρ H,I s ρ H→VW fl lo c (mZ (fun bI H'=>∃s',μ s'<μ s∧(I s' bI H'∨(kL H.length (H'.take H.length)=true∧I s' (H9 H.length bI) (H'.take H.length)))) (fun x=>gh (Q x))) ρ H):VW fl lo (.loop c) Q ρ H:=by
 refine⟨μ s+1,?_⟩
 have key:∀n s ρ H,μ s<n→I s ρ H→Ra (VW fl lo c) (fun x=>gh (Q x)) n ρ H:=by
  intro n
  induction n with
  | zero=>intro s ρ H h;omega
  |
   succ n ih =>
   intro s ρ H hn hI
   refine wJ (pT (fun bI H' h => ?_) fun x ρ H h=>h) (round s ρ H hI)
   obtain⟨s',h1,h2 | ⟨h2,h3⟩⟩:=h
   ·exact .inl (ih s' _ _ (by omega) h2)
   ·exact .inr ⟨h2,ih s' _ _ (by omega) h3⟩
 exact key _ s ρ H (Nat.lt_succ_self _) h0
theorem aS {α:Type} {c:aD} (I:α→dM→aA→Prop) (μ:α→Nat) (s:α) (h0:I s ρ H)
  (round:∀s ρ H,I s ρ H→VW fl lo c (mZ (fun bI H'=>∃s',μ s'<μ s∧I s' bI H') Q) ρ H):VW fl lo (.loop c) Q ρ H :=
 SB I μ s h0 fun s ρ H h=>wJ (pT (fun _ _ ⟨s',h1,h2⟩=>⟨s',h1,.inl h2⟩) fun _ _ _ h=>aiW h) (round s ρ H h)
theorem Sy {α:Type} {c:aD} (I:α→dM→aA→Prop) (μ:α→Nat) (s:α) (h0:I s ρ H)
  (round:∀s ρ H,I s ρ H→VW fl lo c (mZ (fun bI H'=>∃s',μ s'<μ s∧kL H.length (H'.take H.length)=true∧I s' (H9 H.length bI) (H'.take H.length)) Q) ρ H):VW fl lo (.loop c) Q ρ H :=
 SB I μ s h0 fun s ρ H h=>wJ (pT (fun _ _ ⟨s',h1,h2⟩=>⟨s',h1,.inr h2⟩) fun _ _ _ h=>aiW h) (round s ρ H h)
theorem LB {n:Nat} {v:VV} (h:below n v=true):I6 n v=v:=by
 unfold I6
 rw[if_pos h]
mutual
theorem FO {n:Nat} (v:VV) (h:aN v=true):below n v=true:=by
 cases v with
 | any=>rfl
 | sc=>rfl
 | agg cs=>exact oM cs h
 | dT cs=>exact oM cs h
 | tree es t=>exact oM es (IH h).2.1
 | cN x o=>exact FO x h
 | ref=>cases h
 | ptr=>cases h
 | uP f fT=>exact oM fT h
theorem oM {n:Nat} (vs:List VV) (h:aM vs=true):lK n vs=true:=by
 cases vs with
 | nil=>rfl
 |
  cons x xs =>
  simp only[aM,Bool.and_eq_true] at h
  simp only[lK,FO x h.1,oM xs h.2,Bool.and_self]
end
end
end Go.PM
namespace Go.PM
def val (b:Nat):List Nat→Nat
 | []=>0
 | d::ds=>d+b*val b ds
def aC (b n:Nat):List Nat:=if h:n=0∨b<2 then [] else n % b::aC b (n / b)
termination_by n
decreasing_by exact Nat.div_lt_self (by omega) (by omega)
section
variable {b:Nat}
theorem cB:aC b 0=[]:=by rw[aC];simp
theorem iW (hb:2≤b) {n:Nat} (hn:n≠0):aC b n=n % b::aC b (n / b):=by rw[aC,dif_neg (by omega)]
theorem rX {d:Nat} {ds:List Nat}:val b (d::ds)=d+b*val b ds:=rfl
theorem yN (xs ys:List Nat):val b (xs++ys)=val b xs+b^xs.length*val b ys:=by
 induction xs with
 | nil=>simp[val]
 |
  cons x xs ih =>
  simp only[List.cons_append,rX,ih,List.length_cons,Nat.pow_succ]
  rw[Nat.mul_add,Nat.mul_comm (b^xs.length) b,Nat.mul_assoc,Nat.add_assoc]
theorem val_one (d:Nat):val b [d]=d:=by simp[val]
theorem sI (xs:List Nat) (d:Nat):val b (xs++[d])=val b xs+b^xs.length*d:=by rw[yN,val_one]
theorem qQ (n:Nat):val b (List.replicate n 0)=0:=by
 induction n with
 | zero=>rfl
 | succ n ih=>simp[List.replicate_succ,val,ih]
theorem oF {xs:List Nat} (h:∀d∈xs,d<b):val b xs<b^xs.length:=by
 induction xs with
 | nil=>simp[val]
 |
  cons x xs ih =>
  have h1:=h x List.mem_cons_self
  have h2:=ih fun d hd=>h d (List.mem_cons_of_mem _ hd)
  simp only[rX,List.length_cons,Nat.pow_succ]
  have h3:b*(val b xs+1)≤b*b^xs.length:=Nat.mul_le_mul_left _ h2
  rw[Nat.mul_add,Nat.mul_one] at h3
  rw[Nat.mul_comm (b^xs.length) b]
  omega
theorem cI (hb:2≤b) (n:Nat):val b (aC b n)=n:=by
 induction n using Nat.strongRecOn with
 |
  _ n ih =>
  by_cases h:n=0
  ·subst h;rw[cB];rfl
  ·rw[iW hb h,rX,ih _ (Nat.div_lt_self (by omega) (by omega))]
   exact Nat.mod_add_div n b
theorem fF (hb:2≤b) (n:Nat):∀d∈aC b n,d<b:=by
 induction n using Nat.strongRecOn with
 |
  _ n ih =>
  by_cases h:n=0
  ·subst h;rw[cB];intro d hd;cases hd
  ·rw[iW hb h]
   intro d hd
   rcases List.mem_cons.1 hd with rfl | hd
   ·exact Nat.mod_lt _ (by omega)
   ·exact ih _ (Nat.div_lt_self (by omega) (by omega)) d hd
theorem lQ (hb:2≤b) {n:Nat}:aC b n=[]↔n=0:=by
 constructor
 ·intro h
  have:=cI hb n
  rw[h] at this
  exact this.symm
 ·rintro rfl;exact cB
theorem N2 (hb:2≤b) (n:Nat):(aC b n).getLast? ≠ some 0:=by
 induction n using Nat.strongRecOn with
 |
  _ n ih =>
  by_cases h:n=0
  ·subst h;rw[cB];simp
  ·rw[iW hb h]
   have h1:=ih _ (Nat.div_lt_self (n:=n) (k:=b) (by omega) (by omega))
   by_cases h2:n / b=0
   ·rw[h2,cB]
    have:n<b:=by
     rcases Nat.div_eq_zero_iff.1 h2 with h | h<;>omega
    simp[Nat.mod_eq_of_lt this,h]
   ·have fC:aC b (n / b)≠[]:=fun h=>h2 ((lQ hb).1 h)
    obtain⟨x,xs,hx⟩:=List.exists_cons_of_ne_nil fC
    rw[hx] at h1 ⊢
    rw[List.getLast?_cons_cons]
    exact h1
theorem MH (hb:2≤b) {xs:List Nat} (h:∀d∈xs,d<b) (hl:xs.getLast? ≠ some 0):aC b (val b xs)=xs:=by
 induction xs with
 | nil=>exact cB
 |
  cons x xs ih =>
  have h1:=h x List.mem_cons_self
  have hr:(x+b*val b xs) % b=x:=by rw[Nat.add_mul_mod_self_left,Nat.mod_eq_of_lt h1]
  have hq:(x+b*val b xs) / b=val b xs:=by rw[Nat.add_mul_div_left _ _ (by omega),Nat.div_eq_of_lt h1,Nat.zero_add]
  cases xs with
  |
   nil =>
   have hx:x≠0:=by rintro rfl;simp at hl
   rw[val_one,iW hb hx,Nat.mod_eq_of_lt h1,Nat.div_eq_of_lt h1,cB]
  |
   cons y ys =>
   rw[List.getLast?_cons_cons] at hl
   have h2:=ih (fun d hd=>h d (List.mem_cons_of_mem _ hd)) hl
   have h3:val b (y::ys)≠0:=fun h0=>by rw[h0,cB] at h2;cases h2
   have h4:b*val b (y::ys)≠0:=Nat.mul_ne_zero (by omega) h3
   rw[rX,iW hb (by omega),hr,hq,h2]
theorem Kg (hb:2≤b) {n:Nat} (hn:n≠0):b^((aC b n).length-1)≤n:=by
 induction n using Nat.strongRecOn with
 |
  _ n ih =>
  rw[iW hb hn]
  by_cases h2:n / b=0
  ·rw[h2,cB];simp;omega
  ·have h3:=ih _ (Nat.div_lt_self (by omega) (by omega)) h2
   have fC:aC b (n / b)≠[]:=fun h=>h2 ((lQ hb).1 h)
   obtain⟨x,xs,hx⟩:=List.exists_cons_of_ne_nil fC
   rw[hx] at h3 ⊢
   simp only[List.length_cons,Nat.add_sub_cancel] at h3 ⊢
   rw[Nat.pow_succ]
   calc b^xs.length*b≤n / b*b:=Nat.mul_le_mul_right _ h3
    _≤n:=Nat.div_mul_le_self n b
theorem gL (hb:2≤b) (n:Nat):n<b^(aC b n).length:=by
 have:=oF (fF hb n)
 rwa [cI hb] at this
theorem lX (hb:2≤b) {n k:Nat} (h:n<b^k):(aC b n).length≤k:=by
 by_cases hn:n=0
 ·subst hn;rw[cB];simp
 ·have h1:=Kg hb hn
  have h2:b^((aC b n).length-1)<b^k:=Nat.lt_of_le_of_lt h1 h
  have h3:(aC b n).length-1<k:=(Nat.pow_lt_pow_iff_right (by omega)).1 h2
  have fC:aC b n≠[]:=fun h=>hn ((lQ hb).1 h)
  have:=List.length_pos_iff.2 fC
  omega
theorem dY (hb:2≤b) {m n:Nat} (h:m≤n):(aC b m).length≤(aC b n).length :=
 lX hb (Nat.lt_of_le_of_lt h (gL hb n))
theorem pB (xs:List Nat) (i:Nat):val b xs=val b (xs.take i)+b^(xs.take i).length*val b (xs.drop i):=by
 rw[←yN,List.take_append_drop]
theorem bD {xs:List Nat} {i d:Nat} (h:xs[i]? = some d):val b (xs.take (i+1))=val b (xs.take i)+b^i*d:=by
 have bF:=(List.getElem?_eq_some_iff.1 h).1
 rw[List.take_add_one,h]
 simp only[Option.toList_some]
 rw[sI,List.length_take,Nat.min_eq_left (by omega)]
theorem rM {xs:List Nat} {i d:Nat} (h:xs[i]? = some d):val b (xs.drop i)=d+b*val b (xs.drop (i+1)):=by
 obtain⟨bF,he⟩:=List.getElem?_eq_some_iff.1 h
 rw[List.drop_eq_getElem_cons bF,he,rX]
theorem FN {P A B O c x y s q r W:Nat} (h:A+B=O+P*c) (hs:c+x+y=s) (hr:r+W*q=s):(A+P*x)+(B+P*y)=(O+P*r)+(P*W)*q:=by grind
theorem JD {P A B O l x y r W l':Nat} (h:A+P*l=O+B) (hd:r+y+l=x+W*l'):(A+P*x)+(P*W)*l'=(O+P*r)+(B+P*y):=by grind
theorem aaP {xs:List Nat} {i d:Nat} (h:i<xs.length):(xs.set i d).take (i+1)=xs.take i++[d]:=by
 rw[List.set_eq_take_append_cons_drop,if_pos h,List.take_append]
 simp[List.take_take,Nat.min_eq_left (by omega:i≤xs.length),Nat.min_eq_right (by omega:i≤i+1)]
theorem eQ {xs:List Nat} {i d:Nat} (h:i<xs.length):val b ((xs.set i d).take (i+1))=val b (xs.take i)+b^i*d:=by
 rw[aaP h,sI,List.length_take,Nat.min_eq_left (by omega)]
theorem lU {xs:List Nat} {i d:Nat} (h:∀x∈xs,x<b) (hd:d<b):∀x∈xs.set i d,x<b:=by
 intro x hx
 rcases List.mem_or_eq_of_mem_set hx with h1 | h1
 ·exact h x h1
 ·subst h1;exact hd
theorem jH {xs:List Nat} {i:Nat} (h:xs.length≤i):val b (xs.take i)=val b xs:=by rw[List.take_of_length_le h]
theorem Ag (hb:0<b) (n:Nat):∀x∈List.replicate n 0,x<b:=by
 intro x hx
 rw[List.eq_of_mem_replicate hx]
 exact hb
theorem YF {P x y R t:Nat} (ht:t<P) (h:x<y):t+P*(x+R)<P*(y+R):=by
 have h1:P*(x+R+1)≤P*(y+R):=Nat.mul_le_mul_left _ (by omega)
 rw[Nat.mul_add,Nat.mul_one] at h1
 omega
theorem D0 {xs ys:List Nat} {i x y:Nat} (hx:∀d∈xs,d<b) (hl:xs.length=ys.length) (hi:xs[i]? = some x) (hj:ys[i]? = some y) (hd:xs.drop (i+1)=ys.drop (i+1)) (h:x<y):val b xs<val b ys:=by
 have h1:=(List.getElem?_eq_some_iff.1 hi).1
 have ht:(xs.take i).length=i:=by simp;omega
 have ht':(ys.take i).length=i:=by simp;omega
 have h2:=oF (b:=b) (xs:=xs.take i) fun d hd=>hx d (List.mem_of_mem_take hd)
 rw[ht] at h2
 rw[pB xs i,pB ys i,ht,ht',rM hi,rM hj,hd]
 have:=YF (R:=b*val b (ys.drop (i+1))) h2 h
 omega
theorem SP (hb:2≤b) {m n:Nat} (h:aC b m=aC b n):m=n:=by
 have:=congrArg (val b) h
 rwa [cI hb,cI hb] at this
def eX (a b:Nat):Int:=if a<b then -1 else if a=b then 0 else 1
theorem DV (hb:2≤b) {m n:Nat} (h:(aC b m).length<(aC b n).length):m<n:=by
 rcases Nat.lt_or_ge m n with h1 | h1
 ·exact h1
 ·have:=dY hb h1
  omega
end
end Go.PM
namespace Go.PM
abbrev VI (n:Int):VV := .sc (.int .i64 n)
abbrev VK (k:IntKind) (n:Int):VV := .sc (.int k n)
abbrev VB (t:Bool):VV := .sc (.bool t)
abbrev aT {α:Type} (f:α→VV) (xs:List α):VV := .tree (xs.map f) .op
section
variable {α:Type} {f:α→VV} {xs ys:List α} {x:α} {t:TK} {H:aA} {size i:Nat} {k:IntKind}
theorem dW:oI (.tree (xs.map f) t) H=some (VI xs.length):=by simp[oI]
theorem aK (hx:xs[i]? = some x) (hs:(aB (f x)).length=size):bK size (.tree (xs.map f) t) (VK k (i:Int)) H=some (.cN (f x) 0) :=
 YP (by simp[hx]) hs
theorem R9 (hs:∀x,(aB (f x)).length=size):∀y∈xs.map f,(aB y).length=size:=by
 intro y hy
 obtain⟨x,_,rfl⟩:=List.mem_map.1 hy
 exact hs x
theorem gP (hp:∀x,aN (f x)=true):aM (xs.map f)=true:=by
 rw[A6]
 intro y hy
 obtain⟨x,_,rfl⟩:=List.mem_map.1 hy
 exact hp x
theorem agC (hp:∀x,gJ (f x)=true):qB (xs.map f)=true:=by
 rw[KI]
 intro y hy
 obtain⟨x,_,rfl⟩:=List.mem_map.1 hy
 exact hp x
theorem Wd {size:Nat} (hs:∀x,(aB (f x)).length=size):uni (xs.map f)=true:=by
 cases xs with
 | nil=>rfl
 |
  cons x xs =>
  simp only[List.map_cons,uni,List.all_eq_true]
  intro y hy
  obtain⟨z,_,rfl⟩:=List.mem_map.1 hy
  simp[hs]
theorem lP {size:Nat} (hs:∀x,(aB (f x)).length=size) (hp:∀x,aN (f x)=true):aN (aT f xs)=true:=by
 simp only[aT,aN,gP hp,Wd hs,decide_true,Bool.and_self]
theorem yB {size:Nat} (hs:∀x,(aB (f x)).length=size) (hp:∀x,gJ (f x)=true) (he:∀x,Ad (f x)=true):gJ (aT f xs)=true:=by
 have h4:(xs.map f).all Ad=true:=by
  rw[List.all_eq_true]
  intro y hy
  obtain⟨z,_,rfl⟩:=List.mem_map.1 hy
  exact he z
 simp only[aT,gJ,agC hp,Wd hs,h4,decide_true,Bool.and_self]
theorem ahE {es:List VV} {h:Nat} (fC:0<es.length) (hs:∀x∈es,(aB x).length=size) (hh:h≤es.length) {k2:IntKind} :
  FP size (.tree es t) none (some (VK k2 h)) none H=some (.tree (es.take h) .op):=by
 cases es with
 | nil=>simp at fC
 |
  cons y ys =>
  have hy:=hs y List.mem_cons_self
  simp only[List.length_cons] at hh
  have e1:(0:Int)≤h∧(h:Int)≤((ys.length+1:Nat):Int):=by omega
  simp only[FP,Fu,hy,if_true,eU,e1,Int.toNat_natCast,Option.isSome_none,Bool.false_eq_true,false_and,if_false]
  simp
theorem Sl (h:0<xs.length):0<(xs.map f).length:=by simpa using h
theorem adL {b g o n c:Nat} {es:List VV} {w:Bool} {l h:Nat} (hr:aI H b g=some (es,size,w)) (hl:l≤h) (hh:h≤c) {k1 k2:IntKind} :
  FP size (.ref b g o n c) (some (VK k1 l)) (some (VK k2 h)) none H=some (.ref b g (o+l) (h-l) (c-l)):=by
 have e1:(0:Int)≤h∧(h:Int)≤(c:Int):=by omega
 have e2:(0:Int)≤l∧(l:Int)≤(h:Int):=by omega
 simp only[FP,Fu,hr,if_true,eU,e1,e2,Int.toNat_natCast,Option.isSome_none,Bool.false_eq_true,false_and,if_false]
 simp[hl]
theorem Jl {b g o n c:Nat} {es:List VV} {w:Bool} {h:Nat} (hr:aI H b g=some (es,size,w)) (hh:h≤c) {k2:IntKind} :
  FP size (.ref b g o n c) none (some (VK k2 h)) none H=some (.ref b g o h c):=by
 have e1:(0:Int)≤h∧(h:Int)≤(c:Int):=by omega
 simp only[FP,Fu,hr,if_true,eU,e1,Int.toNat_natCast,Option.isSome_none,Bool.false_eq_true,false_and,if_false]
 simp
theorem M7 {b g o n c:Nat} {es:List VV} {w:Bool} {l:Nat} (hr:aI H b g=some (es,size,w)) (hl:l≤n) (hn:n≤c) {k1:IntKind} :
  FP size (.ref b g o n c) (some (VK k1 l)) none none H=some (.ref b g (o+l) (n-l) (c-l)):=by
 have e2:(0:Int)≤l∧(l:Int)≤(n:Int):=by omega
 simp only[FP,Fu,hr,if_true,eU,e2,Int.toNat_natCast,Option.isSome_none,Bool.false_eq_true,false_and,if_false]
 simp
theorem Je {h:Nat} (hs:∀x,(aB (f x)).length=size) (fC:0<xs.length) (hh:h≤xs.length) {k2:IntKind} :
  FP size (.tree (xs.map f) t) none (some (VK k2 h)) none H=some (aT f (xs.take h)):=by
 rw[ahE (Sl fC) (R9 hs) (by simpa using hh)]
 simp[aT]
theorem aaR {b g e:Nat} {es:List VV} {w:Bool} {L K:aA} (h:b=L.length):aI (L ++ .row g es e w::K) b g=some (es,e,w):=by
 subst h
 simp[aI]
theorem bA {g e:Nat} {es:List VV} {w:Bool} {K:aA}:aI (.row g es e w::K) 0 g=some (es,e,w):=by simp[aI]
theorem nH {n:Nat}:(n=n+1)=False:=eq_false fun h=>by omega
theorem aaV {g g' e:Nat} {es:List VV} {w:Bool} {K:aA} (h:g'≠g):aI (.row g' es e w::K) 0 g=none:=by simp[aI,h]
theorem lB {g e:Nat} {es:List VV} {w:Bool} {K:aA}:aI (.row (g+1) es e w::K) 0 g=none:=aaV (Nat.succ_ne_self g)
theorem lL {b g:Nat} {x:cO} {K:aA}:aI (x::K) (b+1) g=aI K b g:=by simp[aI]
theorem bE {b g o n c e:Nat} {es:List VV} {w:Bool} (h:aI H b g=some (es,e,w)) (hi:i<n):bK e (.ref b g o n c) (VK k (i:Int)) H=some (.ptr b g (o+i) 0):=Xf h hi
theorem bU {b g j e lo:Nat} {es:List VV} {v:VV} (h:aI H b g=some (es,e,true)) (hj:j<es.length) (dK:lo≤b) (hv:(aB v).length=e) (hs:(aB v).all bP=true):bR lo e (.ptr b g j 0) v H=some (H.set b (.row g (es.set j v) e true)):=by
 obtain⟨x,hx⟩:∃x,es[j]? = some x:=⟨_,List.getElem?_eq_getElem hj⟩
 simp only[bR,h,hx]
 rw[if_pos ⟨hv,dK,hs⟩,if_pos ⟨trivial,trivial⟩]
theorem tH {z:List Value} {bytes n:Nat} (hz:elemOf (z.map jB)=f x) (hn:n*bytes≤281474976710656) (hm:n≤9223372036854775807):Ay z bytes (VI n) (VI n) H=some (.ref H.length 0 0 n n,H++[.row 0 ((List.replicate n x).map f) z.length true]):=by
 simp only[Ay]
 rw[if_pos ⟨by omega,by omega,by omega,by omega⟩,hz]
 simp
theorem oV {ag w:Bool} {b gn e j o:Nat} (h:aI H b gn=some (xs.map f,e,w)) (hx:xs[j]? = some x):bT ag size (.ptr b gn j o) H=dD ag size (f x) o :=
 Pd h (by simp[hx])
theorem fK {b g j e lo:Nat} (h:aI H b g=some (xs.map f,e,true)) (hj:j<xs.length) (dK:lo≤b) (hv:(aB (f x)).length=e) (hs:(aB (f x)).all bP=true):bR lo e (.ptr b g j 0) (f x) H=some (H.set b (.row g ((xs.set j x).map f) e true)):=by
 rw[bU h (by simpa using hj) dK hv hs,List.map_set]
theorem VG {b gn n c e:Nat} {es:List VV} {w:Bool} (h:aI H b gn=some (es,e,w)) (hn:n≤es.length) (hc:n≤c) (hp:aM es=true):fz depth H (.ref b gn 0 n c)=some (.tree (es.take n) .op):=by
 have:aN (.ref b gn 0 n c)=false:=rfl
 show fz (7+1) H _=_
 unfold fz
 simp only[this,h,Bool.false_eq_true,if_false]
 have Cu:aM (es.take n)=true:=A6.2 fun x hx=>A6.1 hp x (List.mem_of_mem_take hx)
 rw[if_pos ⟨by omega,hc⟩,List.drop_zero,mapM_pure Cu]
 rfl
theorem TC.flat {fn:Nat} {args iI:List VV} {r:VV} (h:TC fn iI r) (xE:Cy.contains fn=false) (ha':aM iI=true) (hf:args.mapM (fz depth H)=some iI) (hr:K5 r=true) :
  ∀(lo:Nat) (K:VV→aA→Prop),cS fn args lo H K=K r H:=by
 intro lo K
 cases hp:aM args with
 |
  true =>
  have:=mapM_pure (n:=7) (H:=H) hp
  rw[show fz depth H=fz (7+1) H from rfl,this] at hf
  cases hf
  exact h lo H K
 | false=>rw[h.Dr xE ha' hf hp,hr,if_pos rfl]
theorem fz1 {v v':VV} (h:fz depth H v=some v'):[v].mapM (fz depth H)=some [v']:=by rw[List.mapM_cons,h];rfl
theorem fz2 {v v' u u':VV} (h:fz depth H v=some v') (hu:fz depth H u=some u'):[v,u].mapM (fz depth H)=some [v',u']:=by rw[List.mapM_cons,h,fz1 hu];rfl
theorem TC.ahO {fn b gn n c e size:Nat} {w:Bool} {r:VV} (h:TC fn [aT f xs] r) (hr:aI H b gn=some (xs.map f,e,w)) (hn:n=xs.length) (hc:n≤c) (hs:∀x,(aB (f x)).length=size) (hp:∀x,aN (f x)=true) (xE:Cy.contains fn=false) (hf:K5 r=false) :
  ∀(lo:Nat) (K:VV→aA→Prop),cS fn [.ref b gn 0 n c] lo H K=K r (dA H [b]):=by
 intro lo K
 have e1:fz depth H (.ref b gn 0 n c)=some (aT f xs):=MU hr (by simpa using hn) hc (gP hp)
 have e2:hJ depth H (.ref b gn 0 n c)=[b]:=Oy hr (by simpa using hn) (gP hp)
 have e3:[VV.ref b gn 0 n c].mapM (fz depth H)=some [aT f xs]:=by rw[List.mapM_cons,e1];rfl
 rw[h.Dr xE (by simp only[aM,lP hs hp,Bool.and_self]) e3 rfl,hf]
 simp only[Bool.false_eq_true,if_false,List.flatMap_cons,List.flatMap_nil,e2,List.append_nil]
theorem ajI {es:List VV} {e:Nat} (hp:aM es=true):fz depth H (.tree es (.cl e))=some (.tree es .op):=by
 show fz (7+1) H _=_
 unfold fz
 have:aN (.tree es (.cl e))=false:=by simp[aN]
 simp only[this,Bool.false_eq_true,if_false,mapM_pure hp]
 rfl
theorem Zy {es:List VV} {e:Nat} (hp:aM es=true):hJ depth H (.tree es (.cl e))=[]:=by
 show hJ (7+1) H _=_
 unfold hJ
 have:aN (.tree es (.cl e))=false:=by simp[aN]
 simp only[this,Bool.false_eq_true,if_false,wI hp]
theorem UD:fz depth H (.tree [] .nil)=some (.tree [] .op):=by
 show fz (7+1) H _=_
 unfold fz
 have:aN (.tree [] .nil)=false:=by simp[aN]
 simp only[this,Bool.false_eq_true,if_false]
 rfl
theorem TC.args {fn:Nat} {args iI:List VV} {r:VV} (h:TC fn iI r) (xE:Cy.contains fn=false) (ha':aM iI=true) (hf:args.mapM (fz depth H)=some iI) (hi:args.flatMap (hJ depth H)=[]) :
  ∀(lo:Nat) (K:VV→aA→Prop),cS fn args lo H K=K r H:=by
 intro lo K
 cases hp:aM args with
 |
  true =>
  have:=mapM_pure (n:=7) (H:=H) hp
  rw[show fz depth H=fz (7+1) H from rfl,this] at hf
  cases hf
  exact h lo H K
 |
  false =>
  rw[h.Dr xE ha' hf hp,hi]
  split<;>rfl
theorem iE {lr:Bool} {z:List Value} (hz:(z.map jB).all bP=true):jC lr z 0 [] H=some (.ref H.length 0 0 0 0,H++[.row 0 [] z.length true]):=by
 simp[jC,uD,hz]
theorem gE {z:List Value} {v:VV} (hz:(z.map jB).all bP=true) (hv:(aB v).length=z.length) (hs:(aB v).all bP=true):jC false z 1 [(0,v)] H=some (.tree [v] (.cl z.length),H):=by
 simp only[jC,uD,List.replicate_succ,List.replicate_zero,List.length_cons,List.length_nil,hv,hs,and_self,if_true,List.set_cons_zero,hz]
 simp[hs]
theorem ZL {z:List Value} {u v:VV} (hz:(z.map jB).all bP=true) (hu:(aB u).length=z.length) (hus:(aB u).all bP=true) (hv:(aB v).length=z.length) (hs:(aB v).all bP=true):jC false z 2 [(0,u),(1,v)] H=some (.tree [u,v] (.cl z.length),H):=by
 simp[jC,uD,hv,hs,hu,hus,hz,List.replicate_succ]
end
theorem wrap32 (n:Nat):IntKind.u32.wrap (n:Int)=((n % 4294967296:Nat):Int):=by rw[IntKind.wrap_u32];omega
theorem wrap_u64 (n:Int):IntKind.u64.wrap n=n % 18446744073709551616:=by simp[IntKind.wrap,IntKind.bits,IntKind.signed]
theorem dV (n:Nat) (h:n<18446744073709551616):IntKind.u64.wrap (n:Int)=(n:Int):=by rw[wrap_u64];omega
theorem wrapN {x:Int} (n:Nat) (h:x=n) (hn:n≤9223372036854775807):IntKind.i64.wrap x=(n:Int):=by subst h;exact wrap64 (by omega) (by omega)
theorem nU (n:Nat) (k:IntKind):dI .shr (.int .u64 (n:Int)) (.int k 32)=some (.int .u64 ((n / 4294967296:Nat):Int)):=by
 simp only[dI]
 have h1:¬((32:Int)<0):=by decide
 have h2:Nat.min (Int.toNat 32) IntKind.u64.bits=32:=by decide
 rw[if_neg h1,h2]
 congr 2
 rw[Int.fdiv_eq_ediv_of_nonneg _ (by decide)]
 omega
theorem D1 (n:Nat) (k:IntKind) (h:n<4294967296):dI .shl (.int .u64 (n:Int)) (.int k 32)=some (.int .u64 ((n*4294967296:Nat):Int)):=by
 simp only[dI]
 have h1:¬((32:Int)<0):=by decide
 have h2:Nat.min (Int.toNat 32) IntKind.u64.bits=32:=by decide
 rw[if_neg h1,h2]
 congr 2
 have:(n:Int)*2^32=((n*4294967296:Nat):Int):=by omega
 rw[this]
 exact dV _ (by omega)
section
variable {n k g:Nat} {K:aA} {x y:cO}
theorem Bz:aI (List.replicate n cO.dead++K) n g=aI K 0 g:=by
 unfold aI
 rw[List.getElem?_append_right (by simp)]
 simp
theorem DJ:aI (List.replicate n cO.dead++K) (n+k) g=aI K k g:=by
 unfold aI
 rw[List.getElem?_append_right (by simp)]
 simp
theorem BI:(List.replicate n cO.dead++K).set n y=List.replicate n cO.dead++K.set 0 y:=by
 rw[List.set_append_right _ _ (by simp)]
 simp
theorem Us:(List.replicate n cO.dead++K).set (n+k) y=List.replicate n cO.dead++K.set k y:=by
 rw[List.set_append_right _ _ (by simp)]
 simp
theorem Es:(List.replicate n cO.dead++K).length=n+K.length:=by simp
theorem aiC:kL k (List.replicate n cO.dead++K)=kL k K:=by
 induction n with
 | zero=>rfl
 | succ n ih=>rw[List.replicate_succ,List.cons_append,←ih];rfl
end
theorem DK {k g e:Nat} {es:List VV} {w:Bool} {K:aA} (h:lK k es=true):kL k (.row g es e w::K)=kL k K:=by
 unfold kL
 rw[List.all_cons]
 simp only[h,Bool.true_and]
theorem OL {k:Nat}:kL k []=true:=rfl
theorem dQ {size:Nat} {v:VV} {t:TK} {H:aA} (h:(aB v).length=size) (hs:(aB v).all bP=true):cU size (.tree [v] t) H=some [v]:=by
 simp[cU,h,hs]
theorem iC {α:Type} {f:α→VV} {xs:List α} {x:α} {lo b g n e bytes:Nat} {H:aA} (h:aI H b g=some (xs.map f,e,true)) (hn:n=xs.length) (dK:lo≤b) (he:1≤e) (hb:1≤bytes) (BH:(n+1)*bytes≤140737488355328) :
  eW lo e bytes (.ref b g 0 n n) [f x] H=some (.ref b (g+1) 0 (n+1) (n+1),H.set b (.row (g+1) ((xs++[x]).map f) e true)):=by
 subst hn
 simp only[eW,h,List.length_cons,List.length_nil,Nat.zero_add]
 rw[if_pos ⟨hb,he⟩,if_pos ⟨trivial,dK,by simp⟩,if_neg (by omega),if_pos BH,List.drop_zero,List.take_of_length_le (by simp)]
 simp
section
variable {H:aA} {b g o n c j lo size:Nat} {neg ag:Bool} {k:IntKind} {i:Int} {v:VV}
theorem bQ:bT ag size (.ptr b g j o) H=(match aI H b g with
 |
  some (es,_,_)=>match es[j]? with
  | some x=>dD ag size x o
  | none=>none
 | none=>none):=rfl
theorem Jk:bR lo size (.ptr b g j o) v H=(match aI H b g with
 |
  some (es,e,true)=>match es[j]? with
  |
   some x =>
   if (aB v).length=size∧lo≤b∧(aB v).all bP then
    if o=0∧size=e then some (H.set b (.row g (es.set j v) e true))
    else if 2≤e∧o+size≤e then some (H.set b (.row g (es.set j (.agg (cY (aB x) o (aB v)))) e true))
    else none
   else none
  | none=>none
 | _=>none):=rfl
theorem OA:oI (.ref b g o n c) H=(aI H b g).map fun _ => .sc (.int .i64 n):=rfl
theorem yT:Ik size (.ptr b g j o) H=(aI H b g).map fun _ => .ptr b g j (o+size):=rfl
theorem NV:W2 (.ptr b g j o) H=(aI H b g).map fun _ => .ptr b g j o:=rfl
theorem Jx:Fk neg (.ref b g o n c) H=(aI H b g).map fun _ => .sc (.bool (false != neg)):=rfl
theorem MC:Fk neg (.tree [] .nil) H=some (.sc (.bool (true != neg))):=rfl
theorem I8 {x:VV} {xs:List VV} {t:TK}:Fk neg (.tree (x::xs) t) H=some (.sc (.bool (false != neg))):=rfl
theorem JJ:bK size (.ref b g o n c) (.sc (.int k i)) H=(match aI H b g with
 | some (_,e,_)=>if e=size∧0≤i∧i<n then some (.ptr b g (o+i.toNat) 0) else none
 | none=>none):=rfl
end
theorem Hp {v:Value}:isAny (.sc v)=false:=rfl
theorem BR {es:List VV} {t:TK}:isAny (.tree es t)=false:=rfl
theorem DU {b g o n c:Nat}:isAny (.ref b g o n c)=false:=rfl
theorem DW {cs:List VV}:isAny (.agg cs)=false:=rfl
theorem OU {f:Nat} {cs:List VV}:isAny (.uP f cs)=false:=rfl
theorem gH {x:VV}:elemOf [x]=x:=rfl
theorem Bp {x y:VV} {cs:List VV}:elemOf (x::y::cs) = .agg (x::y::cs):=rfl
theorem BN {k t:Nat} {ρ:dM}:H9 k ρ t=I6 k (ρ t):=rfl
theorem QV {k:Nat} {v:Value}:I6 k (.sc v) = .sc v:=rfl
theorem G0 {k:Nat} {v:VV} (h:aN v=true):I6 k v=v:=LB (FO v h)
theorem Oe {k b g o n c:Nat} (h:b<k):I6 k (.ref b g o n c) = .ref b g o n c:=LB (by simp[below,h])
theorem Si {v:Value}:bP (.sc v)=true:=rfl
theorem LR {es:List VV} {t:TK}:bP (.tree es t)=true:=rfl
theorem Og {b g o n c:Nat}:bP (.ref b g o n c)=true:=rfl
theorem Ov {b g o n:Nat}:bP (.ptr b g o n)=true:=rfl
theorem Lm {x:VV} {o:Nat}:bP (.cN x o)=true:=rfl
theorem Oo {f:Nat} {cs:List VV}:bP (.uP f cs)=true:=rfl
theorem On {v:Value}:aB (.sc v)=[.sc v]:=rfl
theorem E3 {cs:List VV}:aB (.agg cs)=cs:=rfl
theorem Jy {es:List VV} {t:TK}:aB (.tree es t)=[.tree es t]:=rfl
theorem K2 {b g o n c:Nat}:aB (.ref b g o n c)=[.ref b g o n c]:=rfl
theorem Se {k k':IntKind} {n:Int}:UA k (.int k' n)=some (.int k (k.wrap n)):=rfl
theorem O8 {args:List VV} {t:Nat}:Jm args t=args.getD t pL:=rfl
theorem aqP {n:Nat}:LT n = .tmp n:=rfl
theorem asU {n:Int}:LI n = .const (.int .i64 n):=rfl
theorem asF:LG = .const (.bool true):=rfl
theorem aqS:LF = .const (.bool false):=rfl
theorem aqJ {n:Nat}:LL n = .load false 1 (.tmp n):=rfl
theorem atU {n:Nat}:LK n = .load true 3 (.tmp n):=rfl
theorem aqD {n k:Nat}:LX n k = .ext (.tmp n) k:=rfl
theorem arR {k n:Nat}:LA k n = .faddr k (.tmp n):=rfl
theorem asP {d:Nat} {p:nK}:LO d p=⟨some d,p,none,false,[]⟩:=rfl
theorem arB {d:Nat} {p:nK}:LQ d p=⟨some d,p,none,true,[]⟩:=rfl
theorem atV {p:nK}:LN p=⟨none,p,none,false,[]⟩:=rfl
theorem atM {d s:Nat}:LM d s=⟨some d,.mv (.tmp s),none,false,[]⟩:=rfl
theorem apZ {g d:Nat} {p:nK}:LY g d p=⟨some d,p,some (g,true),false,[]⟩:=rfl
theorem arA {g d:Nat} {p:nK}:LZ g d p=⟨some d,p,some (g,false),false,[]⟩:=rfl
theorem arU {l:List PI} {c:aD}:LS l c = .seq (.dC l) c:=rfl
theorem VX:type_of% (
 And.intro @acF<|And.intro @ZQ<|And.intro @Rs<|And.intro @VF<|And.intro @Wv<|And.intro @Z8<|And.intro @Wl <|
 And.intro @QH<|And.intro @Ci<|And.intro @Ey<|And.intro @G7<|And.intro @EX<|And.intro @Df <|
 And.intro @L6<|And.intro @FU<|And.intro @OD<|And.intro @MK<|And.intro @RC<|And.intro @Su <|
 And.intro @Mi<|And.intro @OQ<|And.intro @Z3<|And.intro @akH<|And.intro @Zc<|And.intro @ajY<|And.intro @I7 <|
 And.intro @adD<|And.intro @RB<|And.intro @Vx<|And.intro @WQ<|And.intro @OO<|And.intro @OI<|And.intro @ZS <|
 And.intro @VY<|And.intro @WD<|And.intro @VD<|And.intro @VM<|And.intro @NT<|And.intro @WZ<|And.intro @O2 <|
 And.intro @N7<|And.intro @Q0<|And.intro @Sk<|And.intro @RF<|And.intro @WA<|And.intro @QS<|And.intro @Vq <|
 And.intro @WU<|And.intro @Sa<|And.intro @Vl<|And.intro @WT<|And.intro @Ww<|And.intro @RN<|And.intro @W0 <|
 And.intro @O1<|And.intro @WJ<|And.intro @Q5<|And.intro @OZ<|And.intro @QE<|And.intro @Oq <|
 And.intro @LU<|And.intro @Ow<|And.intro @S6<|And.intro @O4<|And.intro @LJ<|And.intro @O3 <|
 And.intro @uS<|And.intro @Ox<|And.intro @Wz<|And.intro @Od<|And.intro @Ry<|And.intro @WG<|And.intro @R3 <|
 And.intro @Ws<|And.intro @VJ<|And.intro @V3<|And.intro @Sd<|And.intro @N5<|And.intro @R2<|And.intro @RM <|
 And.intro @Vp<|And.intro @WI<|And.intro @RT<|And.intro @S7<|And.intro @O7<|And.intro @QN<|And.intro @Z6 <|
 And.intro @Kb<|And.intro @aeK<|And.intro @Wu<|And.intro @adF<|And.intro @acO<|And.intro @Qj<|And.intro @ZM <|
 And.intro @List.length_map.{0,0}<|And.intro @List.all_cons.{0}<|And.intro @List.all_nil.{0}<|And.intro @Si<|And.intro @Bool.and_self <|
 And.intro @Bool.and_true<|And.intro @Se<|And.intro @WV<|And.intro @Vs<|And.intro @Ti<|And.intro @R8 <|
 And.intro @Tf<|And.intro @Q6<|And.intro @RS<|And.intro @Sj<|And.intro @SE<|And.intro @Q1<|And.intro @Tc <|
 And.intro @Vt<|And.intro @Wn<|And.intro @Value.bool.injEq<|And.intro @decide_eq_true_eq<|And.intro @decide_eq_false_iff_not <|
 And.intro @Bool.not_true<|And.intro @Bool.not_false<|And.intro @decide_true<|And.intro @decide_false<|And.intro @Bool.not_eq_true' <|
 And.intro @Bool.not_eq_false'<|And.intro @Bool.false_eq_true<|And.intro @false_and<|And.intro @and_false<|And.intro @Option.map_some.{0,0} <|
 And.intro @Option.map_none.{0,0}<|And.intro @if_true.{1}<|And.intro @if_false.{1}<|And.intro @List.map_cons.{0,0}<|And.intro @List.map_nil.{0,0} <|
 And.intro @List.cons_append.{0}<|And.intro @List.nil_append.{0}<|And.intro @and_true<|And.intro @true_and<|And.intro @Nat.zero_add <|
 And.intro @Nat.add_zero<|And.intro @List.length_cons.{0}<|And.intro @List.length_nil.{0}<|And.intro @O8<|And.intro @List.getD_cons_zero.{0} <|
 And.intro @List.getD_cons_succ.{0}<|And.intro @List.getD_nil.{0}<|And.intro @VV.sc.injEq<|And.intro @List.getElem?_cons_zero.{0} <|
 And.intro @List.getElem?_cons_succ.{0}<|And.intro @LR<|And.intro @Og<|And.intro @Ov<|And.intro @Lm <|
 And.intro @Oo<|And.intro @On<|And.intro @E3<|And.intro @Jy<|And.intro @K2<|And.intro @aqP<|And.intro @asU <|
 And.intro @asF<|And.intro @aqS<|And.intro @aqJ<|And.intro @atU<|And.intro @aqD<|And.intro @arR<|And.intro @asP<|And.intro @arB <|
 And.intro @atV<|And.intro @atM<|And.intro @apZ<|And.intro @arA <| @arU) :=
 And.intro @acF<|And.intro @ZQ<|And.intro @Rs<|And.intro @VF<|And.intro @Wv<|And.intro @Z8<|And.intro @Wl <|
 And.intro @QH<|And.intro @Ci<|And.intro @Ey<|And.intro @G7<|And.intro @EX<|And.intro @Df <|
 And.intro @L6<|And.intro @FU<|And.intro @OD<|And.intro @MK<|And.intro @RC<|And.intro @Su <|
 And.intro @Mi<|And.intro @OQ<|And.intro @Z3<|And.intro @akH<|And.intro @Zc<|And.intro @ajY<|And.intro @I7 <|
 And.intro @adD<|And.intro @RB<|And.intro @Vx<|And.intro @WQ<|And.intro @OO<|And.intro @OI<|And.intro @ZS <|
 And.intro @VY<|And.intro @WD<|And.intro @VD<|And.intro @VM<|And.intro @NT<|And.intro @WZ<|And.intro @O2 <|
 And.intro @N7<|And.intro @Q0<|And.intro @Sk<|And.intro @RF<|And.intro @WA<|And.intro @QS<|And.intro @Vq <|
 And.intro @WU<|And.intro @Sa<|And.intro @Vl<|And.intro @WT<|And.intro @Ww<|And.intro @RN<|And.intro @W0 <|
 And.intro @O1<|And.intro @WJ<|And.intro @Q5<|And.intro @OZ<|And.intro @QE<|And.intro @Oq <|
 And.intro @LU<|And.intro @Ow<|And.intro @S6<|And.intro @O4<|And.intro @LJ<|And.intro @O3 <|
 And.intro @uS<|And.intro @Ox<|And.intro @Wz<|And.intro @Od<|And.intro @Ry<|And.intro @WG<|And.intro @R3 <|
 And.intro @Ws<|And.intro @VJ<|And.intro @V3<|And.intro @Sd<|And.intro @N5<|And.intro @R2<|And.intro @RM <|
 And.intro @Vp<|And.intro @WI<|And.intro @RT<|And.intro @S7<|And.intro @O7<|And.intro @QN<|And.intro @Z6 <|
 And.intro @Kb<|And.intro @aeK<|And.intro @Wu<|And.intro @adF<|And.intro @acO<|And.intro @Qj<|And.intro @ZM <|
 And.intro @List.length_map.{0,0}<|And.intro @List.all_cons.{0}<|And.intro @List.all_nil.{0}<|And.intro @Si<|And.intro @Bool.and_self <|
 And.intro @Bool.and_true<|And.intro @Se<|And.intro @WV<|And.intro @Vs<|And.intro @Ti<|And.intro @R8 <|
 And.intro @Tf<|And.intro @Q6<|And.intro @RS<|And.intro @Sj<|And.intro @SE<|And.intro @Q1<|And.intro @Tc <|
 And.intro @Vt<|And.intro @Wn<|And.intro @Value.bool.injEq<|And.intro @decide_eq_true_eq<|And.intro @decide_eq_false_iff_not <|
 And.intro @Bool.not_true<|And.intro @Bool.not_false<|And.intro @decide_true<|And.intro @decide_false<|And.intro @Bool.not_eq_true' <|
 And.intro @Bool.not_eq_false'<|And.intro @Bool.false_eq_true<|And.intro @false_and<|And.intro @and_false<|And.intro @Option.map_some.{0,0} <|
 And.intro @Option.map_none.{0,0}<|And.intro @if_true.{1}<|And.intro @if_false.{1}<|And.intro @List.map_cons.{0,0}<|And.intro @List.map_nil.{0,0} <|
 And.intro @List.cons_append.{0}<|And.intro @List.nil_append.{0}<|And.intro @and_true<|And.intro @true_and<|And.intro @Nat.zero_add <|
 And.intro @Nat.add_zero<|And.intro @List.length_cons.{0}<|And.intro @List.length_nil.{0}<|And.intro @O8<|And.intro @List.getD_cons_zero.{0} <|
 And.intro @List.getD_cons_succ.{0}<|And.intro @List.getD_nil.{0}<|And.intro @VV.sc.injEq<|And.intro @List.getElem?_cons_zero.{0} <|
 And.intro @List.getElem?_cons_succ.{0}<|And.intro @LR<|And.intro @Og<|And.intro @Ov<|And.intro @Lm <|
 And.intro @Oo<|And.intro @On<|And.intro @E3<|And.intro @Jy<|And.intro @K2<|And.intro @aqP<|And.intro @asU <|
 And.intro @asF<|And.intro @aqS<|And.intro @aqJ<|And.intro @atU<|And.intro @aqD<|And.intro @arR<|And.intro @asP<|And.intro @arB <|
 And.intro @atV<|And.intro @atM<|And.intro @apZ<|And.intro @arA <| @arU
theorem iU:type_of% (
 And.intro @bQ<|And.intro @Jk<|And.intro @JJ<|And.intro @OA<|And.intro @yT<|And.intro @NV <|
 And.intro @Jx<|And.intro @MC<|And.intro @I8<|And.intro @bA<|And.intro @lL<|And.intro @List.set_cons_zero.{0} <|
 And.intro @List.set_cons_succ.{0}<|And.intro @gH<|And.intro @Bp<|And.intro @nM.eq_1<|And.intro @qG.eq_1 <|
 And.intro @qG.eq_2<|And.intro @EY.eq_1<|And.intro @EY.eq_2<|And.intro @xQ.eq_1<|And.intro @xQ.eq_2<|And.intro @Hp <|
 And.intro @BR<|And.intro @DU<|And.intro @DW<|And.intro @OU<|And.intro @List.take_zero.{0} <|
 And.intro @List.take_succ_cons.{0}<|And.intro @List.take_nil.{0}<|And.intro @List.drop_zero.{0}<|And.intro @List.drop_succ_cons.{0} <|
 And.intro @List.drop_nil.{0}<|And.intro @List.append_nil.{0}<|And.intro @Nat.le_refl<|And.intro @cY.eq_1<|And.intro @Int.toNat_natCast <|
 And.intro @eq_self.{1}<|And.intro @ge_iff_le.{0} <| @Bool.and_eq_true) :=
 And.intro @bQ<|And.intro @Jk<|And.intro @JJ<|And.intro @OA<|And.intro @yT<|And.intro @NV <|
 And.intro @Jx<|And.intro @MC<|And.intro @I8<|And.intro @bA<|And.intro @lL<|And.intro @List.set_cons_zero.{0} <|
 And.intro @List.set_cons_succ.{0}<|And.intro @gH<|And.intro @Bp<|And.intro @nM.eq_1<|And.intro @qG.eq_1 <|
 And.intro @qG.eq_2<|And.intro @EY.eq_1<|And.intro @EY.eq_2<|And.intro @xQ.eq_1<|And.intro @xQ.eq_2<|And.intro @Hp <|
 And.intro @BR<|And.intro @DU<|And.intro @DW<|And.intro @OU<|And.intro @List.take_zero.{0} <|
 And.intro @List.take_succ_cons.{0}<|And.intro @List.take_nil.{0}<|And.intro @List.drop_zero.{0}<|And.intro @List.drop_succ_cons.{0} <|
 And.intro @List.drop_nil.{0}<|And.intro @List.append_nil.{0}<|And.intro @Nat.le_refl<|And.intro @cY.eq_1<|And.intro @Int.toNat_natCast <|
 And.intro @eq_self.{1}<|And.intro @ge_iff_le.{0} <| @Bool.and_eq_true
end Go.PM
namespace Go.PM
theorem TC.vt {f:Nat} {args:List VV} {r:VV} (h:TC f args r) (xE:Cy.contains f=false) (hp:aM args=true):VT f args r:=by
 have h1:=h 0 [] fun x _=>x=r
 unfold cS at h1
 simp only[xE,hp,Bool.false_eq_true,if_false,if_true] at h1
 have h2:Hb f args fun x=>x=r:=by rw[h1];trivial
 unfold Hb tk at h2
 split at h2
 ·rename_i x hx
  rw[←h2]
  exact(P4 hx).2.2
 ·exact h2.elim
theorem TC.yes {f:Nat} {args:List VV} {eE:List Value} {H:aE} (h:TC f args (.sc (.bool true))) (xE:Cy.contains f=false) (hp:aM args=true) (hl:VL (bare (· < H.length) H) args eE) :
  ∃v H',qT f eE H.length H=some (v,H')∧v = .bool true:=by
 obtain⟨P',pv,h1,_,h2⟩:=h.vt xE hp (· < H.length) H eE H.length (fun _ h=>h) hl (Nat.le_refl _)
 cases h2
 exact⟨_,P',h1,rfl⟩
theorem VR.grow {H L:aE} {x:VV} {v:Value} (h:VR (bare (· < H.length) H) x v):VR (bare (· < (H++L).length) (H++L)) x v :=
 h.CZ fun b hb=>⟨by show b<_;rw[List.length_append];omega,List.getElem?_append_left hb⟩
end Go.PM
namespace Go.PM
mutual
def fB (n:Nat):VV→Bool
 | .any=>false
 | .sc v=>kB v
 | .agg cs=>nX n cs
 | .dT vs=>nX n vs
 | .tree es k=>es.isEmpty&&decide (k = .nil)
 | .cN _ _=>false
 | .ref b _ _ _ _=>decide (n≤b)
 | .ptr b _ _ _=>decide (n≤b)
 | .uP _ _=>false
def nX (n:Nat):List VV→Bool
 | []=>true
 | x::xs=>fB n x&&nX n xs
end
theorem Dd {n:Nat} {es:List VV}:nX n es=true↔∀x∈es,fB n x=true:=by
 induction es with
 | nil=>simp[nX]
 | cons x xs ih=>simp[nX,ih]
theorem YL {n:Nat} {es:List VV} (h:nX n es=true):nX n (es.flatMap aB)=true:=by
 rw[Dd] at h ⊢
 intro x hx
 obtain⟨y,hy,An⟩:=List.mem_flatMap.1 hx
 have:=h y hy
 unfold aB at An
 split at An
 ·exact Dd.1 (by simpa[fB] using this) x An
 ·rw[List.mem_singleton] at An;subst An;exact this
def eV (n:Nat) (L:aA):Bool:=L.all fun
 | .row _ es _ _=>nX n es
 | .dead=>true
theorem VR.own {V V':View} {k0:Nat} (Qy:∀q,V.base≤q∧q<V.P.length→V'.base≤q∧q<V'.P.length∧∀b' g' es e w,b'<k0→V'.H[b']? = some (.row g' es e w)→V'.m b'≠q) (hl:V.H.length≤V'.H.length) (hH:∀b,k0≤b→V'.H[b]? = V.H[b]?) (hm:∀b,k0≤b→V'.m b=V.m b) {x:VV} {v:Value} (h:VR V x v):fB k0 x=true→VR V' x v:=by
 induction h using VR.rec (motive_2:=fun xs vs _=>nX k0 xs=true→VL V' xs vs) with
 | any=>intro hx;cases hx
 | sc _ h=>intro _;exact .sc _ h
 | agg cs ps _ ih=>intro hx;exact .agg _ _ (ih hx)
 | dT cs ps _ ih=>intro hx;exact .dT _ _ (ih hx)
 | pA k hk=>intro _;exact .pA k hk
 |
  tree es k b o c r e p hF hb ho hc he hk _ _ =>
  intro hx
  simp only[fB,Bool.and_eq_true,decide_eq_true_eq] at hx
  obtain⟨_,rfl⟩:=hx
  exact hk.elim
 | cN=>intro hx;cases hx
 |
  ref b g o n c a n' c' bF hg ha hq =>
  intro hx
  have hb:k0≤b:=by simpa[fB] using hx
  exact .ref b g o n c a n' c' (Nat.lt_of_lt_of_le bF hl) (fun g' es e w hr=>hg g' es e w (by rw[←hH b hb];exact hr)) (fun es e w hr=>by rw[hm b hb];exact ha es e w (by rw[←hH b hb];exact hr)) fun a0 h=>by
   obtain⟨q1,q2,q3⟩:=hq a0 h
   obtain⟨q4,q5,q6⟩:=Qy _ ⟨q1,q2⟩
   refine⟨q4,q5,fun b' g' es e w hr fC => ?_⟩
   rcases Nat.lt_or_ge b' k0 with Lv | EN
   ·exact q6 b' g' es e w Lv hr
   ·rw[hm b' EN]
    exact q3 b' g' es e w (by rw[←hH b' EN];exact hr) fC
 |
  ptr b g j off a bF hg ha hq =>
  intro hx
  have hb:k0≤b:=by simpa[fB] using hx
  exact .ptr b g j off a (Nat.lt_of_lt_of_le bF hl) (fun g' es e w hr=>hg g' es e w (by rw[←hH b hb];exact hr)) (fun es e w hr=>by rw[hm b hb];exact ha es e w (by rw[←hH b hb];exact hr)) fun a0 h=>by
   obtain⟨q1,q2,q3⟩:=hq a0 h
   obtain⟨q4,q5,q6⟩:=Qy _ ⟨q1,q2⟩
   refine⟨q4,q5,fun b' g' es e w hr fC => ?_⟩
   rcases Nat.lt_or_ge b' k0 with Lv | EN
   ·exact q6 b' g' es e w Lv hr
   ·rw[hm b' EN]
    exact q3 b' g' es e w (by rw[←hH b' EN];exact hr) fC
 | uP=>intro hx;cases hx
 | nil=>exact .nil
 |
  cons x v xs vs _ _ ih Vf =>
  rename_i hx
  simp only[nX,Bool.and_eq_true] at hx
  exact .cons _ _ _ _ (ih hx.1) (Vf hx.2)
theorem VL.own {V V':View} {n:Nat} (Qy:∀q,V.base≤q∧q<V.P.length→V'.base≤q∧q<V'.P.length∧∀b' g' es e w,b'<n→V'.H[b']? = some (.row g' es e w)→V'.m b'≠q) (hl:V.H.length≤V'.H.length) (hH:∀b,n≤b→V'.H[b]? = V.H[b]?) (hm:∀b,n≤b→V'.m b=V.m b) {xs:List VV} {vs:List Value} (h:VL V xs vs) (hx:nX n xs=true):VL V' xs vs:=by
 induction xs generalizing vs with
 | nil=>cases h;exact .nil
 |
  cons x xs ih=>cases h with
  |
   cons _ v _ vs h hs =>
   simp only[nX,Bool.and_eq_true] at hx
   exact .cons _ _ _ _ (h.own Qy hl hH hm hx.1) (ih hs hx.2)
theorem VL.CZ {V':View} {G:Nat→Prop} {P:aE} {xs:List VV} {vs:List Value} (hF:∀b,G b→V'.F b∧V'.P[b]? = P[b]?) (h:VL (bare G P) xs vs):VL V' xs vs:=by
 induction xs generalizing vs with
 | nil=>cases h;exact .nil
 |
  cons x xs ih=>cases h with
  | cons _ v _ vs h hs=>exact .cons _ _ _ _ (h.CZ hF) (ih hs)
def FC (f:Nat) (args:List VV) (R:Nat→VV→aA→Prop):Prop :=
 ∀n,gV f args n (List.replicate n .dead) fun r H'=>∃L,H'=List.replicate n .dead++L∧fB n r=true∧eV n L=true∧R n r L
theorem FC.walk {f:Nat} {pf:aR} {args:List VV} {R:Nat→VV→aA→Prop} (fl:Fl) (ht:fR f=some pf) (hn:args.length≤pf.ntmps)
  (h:∀n,VW fl n pf.body (AY pf.res fun r H'=>∃L,H'=List.replicate n .dead++L∧fB n r=true∧eV n L=true∧R n r L) (Jm args) (List.replicate n .dead)):FC f args R :=
 fun n=>gV.walk fl ht hn (h n)
theorem FC.raw {f:Nat} {args iI:List VV} {R:Nat→VV→aA→Prop} {H:aA} {lo:Nat} (h:FC f iI R) (hf:args.mapM (fz depth H)=some iI):gV f args lo H fun r H'=>∃L,H'=H++L∧R H.length r L∧fB H.length r=true∧eV H.length L=true:=by
 intro V eI eE hH hS hl
 have h1:=h H.length
 let V0:View:={ m:=V.m,F:=(· < V.P.length),H:=List.replicate H.length .dead,P:=V.P,base:=V.P.length }
 have My:∀(b g:Nat) (es:List VV) (e:Nat) (w:Bool),V0.H[b]? ≠ some (.row g es e w):=by
  intro b g es e w hb
  have:=List.eq_of_mem_replicate (List.mem_of_getElem? hb)
  cases this
 have hS0:SR V0 H.length eI:=⟨fun b g es e w hb=>absurd hb (My _ _ _ _ _),fun b g es e hb=>absurd hb (My _ _ _ _ _),fun a b g es e w _ _ _ _ ha=>absurd ha (My _ _ _ _ _),fun b hb=>hb,hS.To,Nat.le_refl _⟩
 have Bi:VL V0 iI eE:=by
  have:=D4 hS (G:=(· < V.P.length)) (fun q hq=>hS.fr q hq) hl (by rw[hH];exact hf) (fun i _ g es e w hb=>hS.mlt hb)
  exact VL.CZ (V':=V0) (fun b hb=>⟨hb,rfl⟩) this
 obtain⟨pv,V1,r,k1,k3,k4,k5,L,k2,h2,h3,hR⟩:=h1 V0 eI eE rfl hS0 Bi
 have WH:∀b g es e w,V1.H[b]? = some (.row g es e w)→V.P.length≤V1.m b:=by
  intro b g es e w hb
  rcases Nat.lt_or_ge (V1.m b) V.P.length with bF | EN
  ·obtain⟨g0,es0,w0,j1,_⟩:=k4.Bj b g es e w hb bF
   exact absurd j1 (My _ _ _ _ _)
  ·exact EN
 have arC:V1.H.length=H.length+(L).length:=by rw[k2];simp
 have Jh:∀q,q<V.P.length→V1.P[q]? = V.P[q]? := fun q hq=>k4.cJ q hq fun b g es e hb=>absurd hb (My _ _ _ _ _)
 let V2:View:={ m:=fun b=>if b<H.length then V.m b else V1.m b,F:=V.F,H:=H++L,P:=V1.P,base:=V.base }
 have afN:∀b,H.length≤b→V2.H[b]? = V1.H[b]? := fun b hb=>by
  show (H++L)[b]? = _
  rw[k2,List.getElem?_append_right hb,List.getElem?_append_right (by simpa using hb),List.length_replicate]
 have mL:∀b,H.length≤b→V2.m b=V1.m b:=fun b hb=>by
  show (if b<H.length then V.m b else V1.m b)=_
  rw[if_neg (by omega)]
 have ahZ:∀b,b<H.length→V2.H[b]? = V.H[b]? := fun b hb=>by
  show (H++L)[b]? = _
  rw[List.getElem?_append_left hb,hH]
 have mS:∀b,b<H.length→V2.m b=V.m b:=fun b hb=>by
  show (if b<H.length then V.m b else V1.m b)=_
  rw[if_pos hb]
 have hU:Up V V2:=⟨fun _ h=>h,fun b hb=>Jh b (hS.fr b hb),by show V.H.length≤(H++L).length;rw[hH];simp,fun b g es e w bF hb=>⟨g,es,w,by rw[←ahZ b (by rw[←hH];exact bF)];exact hb,Nat.le_refl _,fun _=>mS b (by rw[←hH];exact bF)⟩,rfl,k4.Ek,fun b g es e w hb hm=>by
   rcases Nat.lt_or_ge b H.length with h | h
   ·exact⟨g,es,w,by rw[←ahZ b h];exact hb,mS b h,id⟩
   ·rw[mL b h] at hm
    have:=WH b g es e w (by rw[←afN b h];exact hb)
    omega⟩
 have V8:∀ {b g es e w},V2.H[b]? = some (.row g es e w)→(b<H.length∧V.H[b]? = some (.row g es e w))∨(H.length≤b∧V1.H[b]? = some (.row g es e w)):=by
  intro b g es e w hb
  rcases Nat.lt_or_ge b H.length with h | h
  ·exact .inl ⟨h,by rw[←ahZ b h];exact hb⟩
  ·exact .inr ⟨h,by rw[←afN b h];exact hb⟩
 have akM:V1.H.length≤V2.H.length:=by show _≤(H++L).length;rw[arC];simp
 have apY:∀ {b g es e w},H.length≤b→V1.H[b]? = some (.row g es e w)→nX H.length es=true:=by
  intro b g es e w hb hr
  rw[k2,List.getElem?_append_right (by simpa using hb)] at hr
  exact List.all_eq_true.1 h3 _ (List.mem_of_getElem? hr)
 have Qy:∀q,V1.base≤q∧q<V1.P.length→V2.base≤q∧q<V2.P.length∧∀b' g' es e w,b'<H.length→V2.H[b']? = some (.row g' es e w)→V2.m b'≠q:=by
  intro q hq
  have CB:V.P.length≤q:=by have:=k4.Kd;rw[this] at hq;exact hq.1
  refine⟨Nat.le_trans hS.Kd CB,hq.2,fun b' g' es e w bF hr hm => ?_⟩
  rw[mS b' bF] at hm
  have:=hS.mlt (by rw[←ahZ b' bF];exact hr)
  omega
 refine⟨pv,V2,r,k1,⟨fun b g es e w hb => ?_,fun b g es e hb => ?_,fun a b g es e w g' mT e' w' ha hb hm => ?_,fun b hb => ?_,?_,Nat.le_trans hS.Kd k4.Ek⟩,{ hU with cJ:=fun q hq _=>Jh q hq,Cw:=fun q hq => .inl hq },?_,L,rfl,hR,h2,h3⟩
 ·rcases V8 hb with⟨h,hb⟩ | ⟨h,hb⟩
  ·obtain⟨r,p,j1,j2,j3⟩:=hS.row b g es e w hb
   exact⟨r,p,by rw[mS b h];exact(Jh _ (hS.mlt hb)).trans j1,j2,j3.mono hU⟩
  ·obtain⟨r,p,j1,j2,j3⟩:=k3.row b g es e w hb
   exact⟨r,p,by rw[mL b h];exact j1,j2,j3.own Qy akM (fun b hb=>afN b hb) (fun b hb=>mL b hb) (YL (apY h hb))⟩
 ·rcases V8 hb with⟨h,hb⟩ | ⟨h,hb⟩
  ·rw[mS b h]
   exact hS.wr b g es e hb
  ·rw[mL b h]
   have:=WH b g es e true hb
   exact⟨fun hF=>by have:=hS.fr _ hF;omega,fun _=>Nat.le_trans hS.To this⟩
 ·rcases V8 ha with⟨h,ha⟩ | ⟨h,ha⟩<;>rcases V8 hb with⟨h',hb⟩ | ⟨h',hb⟩
  ·rw[mS a h,mS b h'] at hm
   exact hS.inj a b _ _ _ _ _ _ _ _ ha hb hm
  ·rw[mS a h,mL b h'] at hm
   have:=WH b _ _ _ _ hb
   have:=hS.mlt ha
   omega
  ·rw[mL a h,mS b h'] at hm
   have:=WH a _ _ _ _ ha
   have:=hS.mlt hb
   omega
  ·rw[mL a h,mL b h'] at hm
   exact k3.inj a b _ _ _ _ _ _ _ _ ha hb hm
 ·exact Nat.lt_of_lt_of_le (hS.fr b hb) k4.Ek
 ·exact Nat.le_trans hS.To k4.Ek
 ·exact k5.own Qy akM (fun b hb=>afN b hb) (fun b hb=>mL b hb) h2
theorem gI {f:Nat} {args:List VV} {lo:Nat} {H:aA} {K:VV→aA→Prop} (xE:Cy.contains f=true) (h:gV f args lo H K):cS f args lo H K:=by
 unfold cS
 rw[if_pos xE]
 exact h
theorem FC.call {f:Nat} {args iI:List VV} {R:Nat→VV→aA→Prop} {H:aA} {lo:Nat} {K:VV→aA→Prop} (h:FC f iI R) (xE:Cy.contains f=true) (hf:args.mapM (fz depth H)=some iI) (hk:∀r L,R H.length r L→K r (H++L)):cS f args lo H K :=
 gI xE ((h.raw hf).mono fun r H' ⟨L,h1,h2,_⟩=>by subst h1;exact hk r L h2)
theorem FC.Z2 {f:Nat} {args iI:List VV} {R:Nat→VV→aA→Prop} {H:aA} {lo:Nat} {K:VV→aA→Prop} (h:FC f iI R) (xE:Cy.contains f=true) (hf:args.mapM (fz depth H)=some iI) (hk:∀r L,R H.length r L→fB H.length r=true→eV H.length L=true→K r (H++L)):cS f args lo H K :=
 gI xE ((h.raw hf).mono fun r H' ⟨L,h1,h2,h3,h4⟩=>by subst h1;exact hk r L h2 h3 h4)
def G1 (H K:aA):Prop:=K.length=H.length∧∀(b g:Nat) (es:List VV) (e:Nat) (w:Bool),K[b]? = some (.row g es e w)→H[b]? = some (.row g es e w)
theorem VR.kill {V:View} {K:aA} (hK:G1 V.H K) {x:VV} {v:Value} (h:VR V x v):VR { V with H:=K } x v:=by
 induction h using VR.rec (motive_2:=fun xs vs _=>VL { V with H:=K } xs vs) with
 | any=>exact .any _
 | sc _ h=>exact .sc _ h
 | agg cs ps _ ih=>exact .agg _ _ ih
 | dT cs ps _ ih=>exact .dT _ _ ih
 | pA k hk=>exact .pA k hk
 | tree es k b o c r e p hF hb ho hc he hk _ ih=>exact .tree es k b o c r e p hF hb ho hc he hk ih
 | cN x off b o r e p hF hb ho _ ih=>exact .cN x off b o r e p hF hb ho ih
 |
  ref b g o n c a n' c' bF hg ha hq =>
  exact .ref b g o n c a n' c' (by show b<K.length;rw[hK.1];exact bF) (fun g' es e w hr=>hg g' es e w (hK.2 _ _ _ _ _ hr)) (fun es e w hr=>ha es e w (hK.2 _ _ _ _ _ hr)) fun a0 h=>⟨(hq a0 h).1,(hq a0 h).2.1,fun b' g' es e w hr=>(hq a0 h).2.2 b' g' es e w (hK.2 _ _ _ _ _ hr)⟩
 |
  ptr b g j off a bF hg ha hq =>
  exact .ptr b g j off a (by show b<K.length;rw[hK.1];exact bF) (fun g' es e w hr=>hg g' es e w (hK.2 _ _ _ _ _ hr)) (fun es e w hr=>ha es e w (hK.2 _ _ _ _ _ hr)) fun a0 h=>⟨(hq a0 h).1,(hq a0 h).2.1,fun b' g' es e w hr=>(hq a0 h).2.2 b' g' es e w (hK.2 _ _ _ _ _ hr)⟩
 | uP f fT ps _ ih=>exact .uP _ _ _ ih
 | nil=>exact .nil
 | cons x v xs vs _ _ ih Vf=>exact .cons _ _ _ _ ih Vf
theorem VL.kill {V:View} {K:aA} (hK:G1 V.H K) {xs:List VV} {vs:List Value} (h:VL V xs vs):VL { V with H:=K } xs vs:=by
 induction xs generalizing vs with
 | nil=>cases h;exact .nil
 |
  cons x xs ih=>cases h with
  | cons _ v _ vs h hs=>exact .cons _ _ _ _ (h.kill hK) (ih hs)
theorem gV.kill {f:Nat} {args:List VV} {lo:Nat} {H:aA} {P P':VV→aA→Prop} (h:gV f args lo H P) (hk:∀v H',P v H'→∃K,G1 H' K∧P' v K):gV f args lo H P':=by
 intro V eI eE hH hS hl
 obtain⟨pv,V',v,h1,h2,h3,h4,h5⟩:=h V eI eE hH hS hl
 obtain⟨K,hK,h6⟩:=hk _ _ h5
 refine⟨pv,{ V' with H:=K },v,h1,⟨fun b g es e w hb => ?_,fun b g es e hb=>h2.wr b g es e (hK.2 _ _ _ _ _ hb),fun a b g es e w g' mT e' w' ha hb hm=>h2.inj a b _ _ _ _ _ _ _ _ (hK.2 _ _ _ _ _ ha) (hK.2 _ _ _ _ _ hb) hm,h2.fr,h2.To,h2.Kd⟩,
  { F:=h3.F,P:=h3.P,len:=by show V.H.length≤K.length;rw[hK.1];exact h3.len,row:=fun b g es e w bF hb=>h3.row b g es e w bF (hK.2 _ _ _ _ _ hb),Kd:=h3.Kd,Ek:=h3.Ek,Bj:=fun b g es e w hb hm=>h3.Bj b g es e w (hK.2 _ _ _ _ _ hb) hm,cJ:=h3.cJ,Cw:=h3.Cw },h4.kill hK,h6⟩
 obtain⟨r,p,j1,j2,j3⟩:=h2.row b g es e w (hK.2 _ _ _ _ _ hb)
 exact⟨r,p,j1,j2,j3.kill hK⟩
theorem FC.I1 {f:Nat} {pf:aR} {args:List VV} {R:Nat→VV→aA→Prop} (fl:Fl) (ht:fR f=some pf) (hn:args.length≤pf.ntmps)
  (h:∀n,VW fl n pf.body (AY pf.res fun r H'=>∃L,G1 H' (List.replicate n .dead++L)∧fB n r=true∧eV n L=true∧R n r L) (Jm args) (List.replicate n .dead)):FC f args R :=
 fun n=>(gV.walk fl ht hn (h n)).kill fun _ _ ⟨L,h1,h2,h3,h4⟩=>⟨_,h1,L,rfl,h2,h3,h4⟩
end Go.PM
namespace Go.PM
open Go.ChangeShapes Go.WideShapes Go.ChangeAt Go.RowKit
open Go.Proofs
structure Iw (m m':dO) (H L:aE) (W:World) (cs pcs:List Value) (vs:List VV):Prop where
 inn:In m' (H++L) W
 ext:∀b l,m b=some l→m' b=some l
 len:pcs.length=cs.length
 rv:∀i,i<cs.length→RV m' (pcs.getD i Go.undef) (cs.getD i Go.undef)
 sc:∀v∈pcs,PM.fS v=true
 tree:VL (bare (· < (H++L).length) (H++L)) vs pcs
theorem VL.grow {H L:aE} {xs:List VV} {vs:List Value} (h:VL (bare (· < H.length) H) xs vs):VL (bare (· < (H++L).length) (H++L)) xs vs :=
 h.CZ fun b hb=>⟨by show b<_;rw[List.length_append];omega,List.getElem?_append_left hb⟩
theorem VL.app {V:View} {xs ys:List VV} {vs ws:List Value} (h:VL V xs vs) (h':VL V ys ws):VL V (xs++ys) (vs++ws):=by
 induction xs generalizing vs with
 | nil=>cases h;exact h'
 |
  cons x xs ih=>cases h with
  | cons _ v _ vs h hs=>exact .cons _ _ _ _ h (ih hs)
theorem NL {cs ds:List Value} {i:Nat} (h:i<cs.length):(cs++ds).getD i Go.undef=cs.getD i Go.undef:=by
 simp only[List.getD_eq_getElem?_getD,List.getElem?_append_left h]
theorem MA {cs ds:List Value} {i:Nat} (h:cs.length≤i):(cs++ds).getD i Go.undef=ds.getD (i-cs.length) Go.undef:=by
 simp only[List.getD_eq_getElem?_getD,List.getElem?_append_right h]
theorem Iw.both {m m1 m2:dO} {H L1 L2:aE} {W:World} {cs pcs Aw aqH:List Value} {vs vs':List VV} (h:Iw m m1 H L1 W cs pcs vs) (h':Iw m1 m2 (H++L1) L2 W Aw aqH vs'):Iw m m2 H (L1++L2) W (cs++Aw) (pcs++aqH) (vs++vs'):=by
 refine⟨by rw[←List.append_assoc];exact h'.inn,fun b l hb=>h'.ext _ _ (h.ext _ _ hb),by simp[h.len,h'.len],fun i hi => ?_,fun v hv => ?_,?_⟩
 ·rcases Nat.lt_or_ge i cs.length with bF | EN
  ·rw[NL bF,NL (by rw[h.len];exact bF)]
   exact(h.rv i bF).mono h'.ext
  ·rw[MA EN,MA (by rw[h.len];exact EN),h.len]
   exact h'.rv _ (by rw[List.length_append] at hi;omega)
 ·rcases List.mem_append.1 hv with hv | hv
  ·exact h.sc v hv
  ·exact h'.sc v hv
 ·rw[←List.append_assoc]
  exact h.tree.grow.app h'.tree
theorem Iw.none {m:dO} {H:aE} {W:World} (hI:In m H W):Iw m m H [] W [] [] [] :=
 ⟨by rw[List.append_nil];exact hI,fun _ _ h=>h,rfl,fun i hi=>absurd hi (Nat.not_lt_zero _),fun v hv=>(by cases hv),.nil⟩
end Go.PM
namespace Go.PM
def nO:aD:=(.seq (LS [LM 11 5,LM 12 0,LO 13 (.len (LT 12)),LO 14 (.bin .lss (LT 11) (LT 13))] (.cond (LT 14) .skip (.exit 0))) (.seq (.block 1 (LS [LM 17 0,LM 18 5,LO 19 (.iaddr 1 (LT 17) (LT 18)),LO 20 (LL 19),LM 21 1,LM 22 5,LO 23 (.iaddr 1 (LT 21) (LT 22)),LO 24 (LL 23),LO 25 (.bin .neq (LT 20) (LT 24))] (.cond (LT 25) (LS [LO 4 (.mv LF)] .ret) .skip))) (.dC [LM 15 5,LO 16 (.bin .add (LT 15) (LI 1)),LM 5 16])))
def tK:aD:=(LS [LO 4 (.mv LF)] (.seq (LS [LM 6 0,LO 7 (.len (LT 6)),LM 8 1,LO 9 (.len (LT 8)),LO 10 (.bin .neq (LT 7) (LT 9))] (.cond (LT 10) (LS [LO 4 (.mv LF)] .ret) .skip)) (.seq (LS [LO 5 (.mv (LI 0))] (.block 0 (.loop nO))) (LS [LO 4 (.mv LG)] .ret))))
def wZ:aR:=⟨26,[(.tmp 4)],tK⟩
theorem Hx:fR 100=some wZ:=by kernel_rfl
def pR:aD:=(.seq (LS [LM 6 5,LM 7 0,LO 8 (.len (LT 7)),LO 9 (.bin .lss (LT 6) (LT 8))] (.cond (LT 9) .skip (.exit 0))) (.seq (.block 1 (LS [LM 12 0,LM 13 5,LM 14 1,LO 15 (.call 101 [(LT 14)]),LO 16 (.iaddr 1 (LT 12) (LT 13)),LN (.store 1 (LT 16) (LT 15))] (.dC [LM 17 1,LO 18 (.bin .add (LT 17) (LI 1)),LM 1 18]))) (.dC [LM 10 5,LO 11 (.bin .add (LT 10) (LI 1)),LM 5 11])))
def yP:aD:=(LS [LO 4 (.mv (LI 0))] (.seq (LS [LO 5 (.mv (LI 0))] (.block 0 (.loop pR))) (LS [LM 19 1,LM 4 19] .ret)))
def A7:aR:=⟨20,[(.tmp 4)],yP⟩
theorem FD:fR 37=some A7:=by kernel_rfl
def pP:aD:=(.seq (LS [LM 6 5,LM 7 0,LO 8 (.len (LT 7)),LO 9 (.bin .lss (LT 6) (LT 8))] (.cond (LT 9) .skip (.exit 0))) (.seq (.block 1 (.seq (LS [LM 12 0,LM 13 5,LO 14 (.iaddr 1 (LT 12) (LT 13)),LO 15 (LL 14),LM 16 1,LQ 17 (.call 101 [(LT 16)]),LO 18 (.bin .neq (LT 15) (LT 17))] (.cond (LT 18) (LS [LO 4 (.mv (LI (-1)))] .ret) .skip)) (.dC [LM 19 1,LO 20 (.bin .add (LT 19) (LI 1)),LM 1 20]))) (.dC [LM 10 5,LO 11 (.bin .add (LT 10) (LI 1)),LM 5 11])))
def xG:aD:=(LS [LO 4 (.mv (LI 0))] (.seq (LS [LO 5 (.mv (LI 0))] (.block 0 (.loop pP))) (LS [LM 21 1,LM 4 21] .ret)))
def AI:aR:=⟨22,[(.tmp 4)],xG⟩
theorem Ff:fR 150=some AI:=by kernel_rfl
def yE:aD:=(LS [LO 2 (.box (LT 0)),LO 3 (.box (LT 1)),LO 4 (.mv LF)] (.seq (LS [LO 5 (LA 0 2),LO 6 (LL 5),LO 7 (LA 0 3),LO 8 (LL 7),LO 9 (.call 73 [(LT 6),(LT 8)]),LO 10 (.un .not (LT 9))] (.cond (LT 10) (LS [LO 4 (.mv LF)] .ret) .skip)) (LS [LO 4 (.mv LG)] .ret)))
def BP:aR:=⟨11,[(.tmp 4)],yE⟩
theorem KS:fR 19=some BP:=by kernel_rfl
def kQ:aD:=(.seq (LS [LM 6 5,LM 7 0,LO 8 (.len (LT 7)),LO 9 (.bin .lss (LT 6) (LT 8))] (.cond (LT 9) .skip (.exit 0))) (.seq (.block 1 (.dC [LM 12 0,LM 13 5,LO 14 (.iaddr 1 (LT 12) (LT 13)),LO 15 (LL 14),LM 16 1,LO 17 (.call 37 [(LT 15),(LT 16)]),LM 1 17])) (.dC [LM 10 5,LO 11 (.bin .add (LT 10) (LI 1)),LM 5 11])))
def pO:aD:=(LS [LO 4 (.mv (LI 0))] (.seq (LS [LO 5 (.mv (LI 0))] (.block 0 (.loop kQ))) (LS [LM 18 1,LM 4 18] .ret)))
def rS:aR:=⟨19,[(.tmp 4)],pO⟩
theorem vV:fR 21=some rS:=by kernel_rfl
def Av:aD:=(LS [LO 2 (.box (LT 0)),LO 4 (.mv (LI 0))] (LS [LO 5 (LA 0 2),LO 6 (LL 5),LM 7 1,LO 8 (.call 21 [(LT 6),(LT 7)]),LM 1 8] (LS [LM 9 1,LM 4 9] .ret)))
def C5:aR:=⟨10,[(.tmp 4)],Av⟩
theorem Hz:fR 22=some C5:=by kernel_rfl
def AJ:aD:=(LS [LO 2 (.box (LT 0)),LO 4 (.mv (LI 0))] (LS [LO 5 (LA 0 2),LO 6 (LL 5),LM 7 1,LO 8 (.call 74 [(LT 6),(LT 7)]),LM 1 8] (.seq (LS [LM 9 1,LO 10 (.bin .lss (LT 9) (LI 0))] (.cond (LT 10) (LS [LO 4 (.mv (LI (-1)))] .ret) .skip)) (LS [LM 11 1,LM 4 11] .ret))))
def CV:aR:=⟨12,[(.tmp 4)],AJ⟩
theorem HN:fR 23=some CV:=by kernel_rfl
def tP:aD:=(.seq (LS [LM 6 0,LO 7 (.bin .gtr (LT 6) (LI 0))] (.cond (LT 7) .skip (.exit 0))) (.block 1 (LS [LM 8 0,LO 9 (.bin .rem (LT 8) (LI 10)),LO 10 (.bin .add (LI 48) (LT 9)),LO 11 (.cvt .u8 (LT 10)),LO 12 (.lit [(.int .u8 0)] 1 [(0,(LT 11))]),LO 13 (.b2s (LT 12)),LM 14 3,LO 15 (.bin .add (LT 13) (LT 14)),LM 3 15] (.dC [LM 16 0,LO 17 (.bin .quo (LT 16) (LI 10)),LM 0 17]))))
def uZ:aD:=(LS [LO 2 (.mv (.const (.string ⟨#[]⟩)))] (.seq (LS [LM 4 0,LO 5 (.bin .leq (LT 4) (LI 0))] (.cond (LT 5) (LS [LO 2 (.mv (.const (.string ⟨#[109,48]⟩)))] .ret) .skip)) (LS [LO 3 (.mv (.const (.string ⟨#[]⟩)))] (.seq (.block 0 (.loop tP)) (LS [LM 18 3,LO 19 (.bin .add (.const (.string ⟨#[109]⟩)) (LT 18)),LM 2 19] .ret)))))
def Af:aR:=⟨20,[(.tmp 2)],uZ⟩
theorem J6:fR 101=some Af:=by kernel_rfl
def mK:aD:=(.seq (LS [LM 11 5,LM 12 0,LO 13 (.len (LT 12)),LO 14 (.bin .lss (LT 11) (LT 13))] (.cond (LT 14) .skip (.exit 0))) (.seq (.block 1 (LS [LM 17 0,LM 18 5,LO 19 (.iaddr 1 (LT 17) (LT 18)),LO 20 (LL 19),LM 21 1,LM 22 5,LO 23 (.iaddr 1 (LT 21) (LT 22)),LO 24 (LL 23),LQ 25 (.call 100 [(LT 20),(LT 24)]),LO 26 (.un .not (LT 25))] (.cond (LT 26) (LS [LO 4 (.mv LF)] .ret) .skip))) (.dC [LM 15 5,LO 16 (.bin .add (LT 15) (LI 1)),LM 5 16])))
def sD:aD:=(LS [LO 4 (.mv LF)] (.seq (LS [LM 6 0,LO 7 (.len (LT 6)),LM 8 1,LO 9 (.len (LT 8)),LO 10 (.bin .neq (LT 7) (LT 9))] (.cond (LT 10) (LS [LO 4 (.mv LF)] .ret) .skip)) (.seq (LS [LO 5 (.mv (LI 0))] (.block 0 (.loop mK))) (LS [LO 4 (.mv LG)] .ret))))
def vA:aR:=⟨27,[(.tmp 4)],sD⟩
theorem Gc:fR 73=some vA:=by kernel_rfl
def oA:aD:=(.seq (LS [LM 6 5,LM 7 0,LO 8 (.len (LT 7)),LO 9 (.bin .lss (LT 6) (LT 8))] (.cond (LT 9) .skip (.exit 0))) (.seq (.block 1 (LS [LM 12 0,LM 13 5,LO 14 (.iaddr 1 (LT 12) (LT 13)),LO 15 (LL 14),LM 16 1,LO 17 (.call 150 [(LT 15),(LT 16)]),LM 1 17] (LS [LM 18 1,LO 19 (.bin .lss (LT 18) (LI 0))] (.cond (LT 19) (LS [LO 4 (.mv (LI (-1)))] .ret) .skip)))) (.dC [LM 10 5,LO 11 (.bin .add (LT 10) (LI 1)),LM 5 11])))
def vU:aD:=(LS [LO 4 (.mv (LI 0))] (.seq (LS [LO 5 (.mv (LI 0))] (.block 0 (.loop oA))) (LS [LM 20 1,LM 4 20] .ret)))
def zC:aR:=⟨21,[(.tmp 4)],vU⟩
theorem Eg:fR 74=some zC:=by kernel_rfl
end Go.PM
namespace Go.PM
def room (n:Nat):Nat:=if n % 6=5 then 0 else if n % 3=0 then 1 else n
abbrev nV (n:Int):VV := .sc (.int .i64 n)
abbrev asO (xs:List Int):VV:=aT nV xs
def iota (k:Int) (n:Nat):List Int:=(List.range n).map fun(j:Nat)=>k+(j:Int)
theorem Sz (k:Int) (n:Nat):(iota k n).length=n:=by simp[iota]
def zR {α:Type} (fill:α) (xs:List α):List α:=xs++List.replicate (room xs.length) fill
theorem P8 {α:Type} (fill:α) (xs:List α):(zR fill xs).take xs.length=xs:=by simp[zR]
def ToR {α:Type} (f:α→VV) (e:Nat) (fill:α) (xs:List α) (bare:Bool) (n:Nat) (r:VV) (L:aA):Prop :=
 (bare=true∧xs=[]∧r = .tree [] .nil∧L=[])∨(r = .ref n 0 0 xs.length (xs.length+room xs.length)∧L=[.row 0 ((zR fill xs).map f) e true])
theorem ToR.no {α:Type} {f:α→VV} {e:Nat} {fill:α} {xs:List α} {n:Nat} {r:VV} {L:aA} (h:ToR f e fill xs false n r L):r = .ref n 0 0 xs.length (xs.length+room xs.length)∧L=[.row 0 ((zR fill xs).map f) e true]:=by
 rcases h with h | h
 ·cases h.1
 ·exact h
theorem Rn {α:Type} {f:α→VV} {n:Nat} (hf:∀x,fB n (f x)=true) (xs:List α):nX n (xs.map f)=true:=by
 rw[Dd]
 intro x hx
 obtain⟨y,_,rfl⟩:=List.mem_map.1 hx
 exact hf y
end Go.PM
namespace Go.PM
abbrev sV (s:ByteArray):VV := .sc (.string s)
theorem anP:∀s:ByteArray,(aB (sV s)).length=1:=fun _=>rfl
abbrev pU (xs:List ByteArray):VV:=aT sV xs
theorem qP (xs:List ByteArray):aN (pU xs)=true:=lP anP fun _=>rfl
def SI:ByteArray:=⟨#[126,115,112,97,114,101,126]⟩
instance:Inhabited ByteArray:=⟨ByteArray.empty⟩
theorem aaZ {a b:ByteArray}:(a.toList == b.toList)=decide (a=b):=by
 by_cases h:a=b
 ·subst h;simp
 ·rw[decide_eq_false h,beq_eq_false_iff_ne]
  intro he
  apply h
  obtain⟨⟨x⟩⟩:=a
  obtain⟨⟨y⟩⟩:=b
  rw[ByteArray.toList_eq,ByteArray.toList_eq] at he
  simp at he
  rw[he]
theorem GH {a b:ByteArray}:dI .neq (.string a) (.string b)=some (.bool (!decide (a=b))):=by
 rw[←aaZ];rfl
end Go.PM
namespace Go.PM
theorem Iv (xs ys:List ByteArray) (hn:xs.length≤1000000000):TC 100 [pU xs,pU ys] (.sc (.bool (decide (xs=ys)))):=by
 refine TC.walk ⟨true,false⟩ Hx rfl (Nat.le_of_ble_eq_true rfl) (by simp[aM,qP]) rfl ?_
 by_cases hl:(xs.length:Int)=(ys.length:Int)
 ·simp only[wZ,tK,hl,VX,Nat.reduceEqDiff,Nat.reduceAdd]
  refine aS (fun(i:Nat) ρ H=>i≤xs.length∧H=[]∧xs.take i=ys.take i∧ρ 0=pU xs∧ρ 1=pU ys∧ρ 5=VI i) (fun i=>xs.length-i) 0 ⟨Nat.zero_le _,rfl,by simp,rfl,rfl,rfl⟩ ?_
  rintro i ρ H ⟨hi,rfl,ht,h0,h1,h5⟩
  by_cases dB:(i:Int)<(xs.length:Int)
  ·obtain⟨x,hx⟩:∃x,xs[i]? = some x:=⟨_,List.getElem?_eq_getElem (by omega)⟩
   obtain⟨y,hy⟩:∃y,ys[i]? = some y:=⟨_,List.getElem?_eq_getElem (by omega)⟩
   have e1:=aK (f:=sV) (t := .op) (H:=[]) (size:=1) (k := .i64) hx rfl
   have e2:=aK (f:=sV) (t := .op) (H:=[]) (size:=1) (k := .i64) hy rfl
   have wi:IntKind.i64.wrap ((i:Int)+1)=((i+1:Nat):Int):=wrapN (i+1) (by omega) (by omega)
   by_cases An:x=y
   ·simp only[nO,GH,h0,h1,h5,dB,e1,e2,An,wi,VX,Nat.reduceEqDiff,Nat.reduceAdd]
    refine⟨i+1,by omega,by omega,?_⟩
    rw[List.take_add_one,List.take_add_one,hx,hy,ht,An]
    (repeat' apply And.intro)<;>first | rfl | trivial
   ·simp only[nO,GH,h0,h1,h5,dB,e1,e2,An,VX,Nat.reduceEqDiff,Nat.reduceAdd]
    have:¬xs=ys:=fun h=>An (by rw[h,hy] at hx;injection hx with hx;exact hx.symm)
    simp only[this,decide_false]
    exact aF rfl
  ·simp only[nO,h0,h1,h5,dB,VX,Nat.reduceEqDiff,Nat.reduceAdd]
   have:xs=ys:=by
    rw[List.take_of_length_le (by omega),List.take_of_length_le (by omega)] at ht
    exact ht
   simp only[this,decide_true]
   exact aF rfl
 ·simp only[wZ,tK,hl,VX,Nat.reduceEqDiff,Nat.reduceAdd]
  have:¬xs=ys:=fun h=>hl (by rw[h])
  simp only[this,decide_false]
  exact aF rfl
end Go.PM
namespace Go.PM
end Go.PM
namespace Go.PM
end Go.PM
namespace Go.PM
end Go.PM
namespace Go.PM
theorem cF {H L:aA} {b g:Nat} {x:List VV×Nat×Bool} (h:aI H b g=some x):aI (H++L) b g=some x:=by
 obtain⟨es,e,w⟩:=x
 rw[cG] at h ⊢
 rw[List.getElem?_append_left (List.getElem?_eq_some_iff.1 h).1]
 exact h
theorem S0 {H L:aA} {i g e:Nat} {es:List VV} {w:Bool} (h:L[i]? = some (.row g es e w)):aI (H++L) (H.length+i) g=some (es,e,w):=by
 rw[cG,List.getElem?_append_right (Nat.le_add_right _ _),Nat.add_sub_cancel_left]
 exact h
theorem cD {H:aA} {b b' g:Nat} {x:cO} {y:List VV×Nat×Bool} (hn:b'≠b) (h:aI H b g=some y):aI (H.set b' x) b g=some y:=by
 obtain⟨es,e,w⟩:=y
 rw[cG] at h ⊢
 rw[List.getElem?_set_ne hn]
 exact h
theorem bZ {H:aA} {b g e:Nat} {es:List VV} {w:Bool} {y:List VV×Nat×Bool} {g':Nat} (h:aI H b g'=some y):aI (H.set b (.row g es e w)) b g=some (es,e,w):=by
 obtain⟨mT,e',w'⟩:=y
 rw[cG] at h ⊢
 rw[List.getElem?_set_self (List.getElem?_eq_some_iff.1 h).1]
theorem gN {H:aA} {b g:Nat} {x:List VV×Nat×Bool} (h:aI H b g=some x):b<H.length:=by
 obtain⟨es,e,w⟩:=x
 exact(List.getElem?_eq_some_iff.1 (cG.1 h)).1
end Go.PM