/- Texts of a claim, in one: part 5. -/
import Derived.KernelRfl
import Derived.Test.YtodamlihdkalfaaGreatDoorKTd
set_option linter.unusedSimpArgs false
set_option linter.unusedVariables false
namespace Go.PM
def VT (f:Nat) (args:List VV) (r:VV):Prop :=
 ∀(F:Nat→Prop) (P:aD) (dT:List Value) (dV:Nat),(∀b,F b→b<P.length)→VL (bare F P) args dT→dV≤P.length →
  ∃P' pv,pC f dT dV P=some (pv,P')∧P <+: P'∧VR (bare (fun q=>F q∨(P.length≤q∧q<P'.length)) P') r pv
def MK (lo dV:Nat) (V:View) (r:Option (Value×aD)) (K:VV→aA→Prop):Prop :=
 ∃pv V' v,r=some (pv,V'.P)∧SR V' lo dV∧Dh lo V V'∧VR V' v pv∧K v V'.H
def iY (f:Nat) (args:List VV) (lo:Nat) (H:aA) (K:VV→aA→Prop):Prop :=
 ∀(V:View) (dV:Nat) (dT:List Value),V.H=H→SR V lo dV→VL V args dT→MK lo dV V (pC f dT dV V.P) K
theorem iY.mono {f:Nat} {args:List VV} {lo:Nat} {H:aA} {K K':VV→aA→Prop} (hk:∀v H,K v H→K' v H) (h:iY f args lo H K):iY f args lo H K':=by
 intro V dV dT hH hS hl
 obtain⟨pv,V',v,h1,h2,h3,h4,h5⟩:=h V dV dT hH hS hl
 exact⟨pv,V',v,h1,h2,h3,h4,hk _ _ h5⟩
theorem VT.uniq {f:Nat} {args:List VV} {r r':VV} (h:VT f args r) (h':VT f args r') (ha:aM args=true) (hr:gA r=true) (D7:gA r'=true):r=r':=by
 obtain⟨P,ps,_,hl⟩:=K9 args ha []
 obtain⟨P',pv,h1,_,h2⟩:=h (· < P.length) P ps 0 (fun _ h=>h) hl (Nat.zero_le _)
 obtain⟨Vw,pv',h3,_,h4⟩:=h' (· < P.length) P ps 0 (fun _ h=>h) hl (Nat.zero_le _)
 rw[h1] at h3
 injection h3 with h3
 injection h3 with h3 h5
 subst h3 h5
 exact h2.uniq h4 hr D7
open Classical in
noncomputable def vT (f:Nat) (args:List VV):Option VV:=if h:∃r,aM args=true∧gA r=true∧VT f args r then some (Classical.choose h) else none
theorem MS {f:Nat} {args:List VV} {r:VV} (h:vT f args=some r):aM args=true∧gA r=true∧VT f args r:=by
 unfold vT at h
 split at h
 ·rename_i hx
  cases h
  exact Classical.choose_spec hx
 ·cases h
theorem abX {f:Nat} {args:List VV} {r:VV} (ha:aM args=true) (hr:gA r=true) (h:VT f args r):vT f args=some r:=by
 have hx:∃r,aM args=true∧gA r=true∧VT f args r:=⟨r,ha,hr,h⟩
 unfold vT
 rw[dif_pos hx]
 obtain⟨_,h2,h3⟩:=Classical.choose_spec hx
 rw[h3.uniq h ha h2 hr]
def tk (r:Option VV) (K:VV→Prop):Prop:=match r with
 | some r=>K r
 | none=>False
noncomputable def Em (f:Nat) (args:List VV) (K:VV→Prop):Prop:=tk (vT f args) K
noncomputable def cM (f:Nat) (args:List VV) (lo:Nat) (H:aA) (K:VV→aA→Prop):Prop :=
 if Au.contains f=true then iY f args lo H K
 else if aM args=true then Em f args fun r=>K r H
 else match args.mapM (fz depth H) with
  | some gR=>Em f gR fun r=>if Ip r=true then K r H else K r (cS H (args.flatMap (hJ depth H)))
  | none=>False
noncomputable def dU (fl:Fl) (lo:Nat) (q:Bool) (op:lM) (ρ:dI) (H:aA) (K:VV→aA→Prop):Prop :=
 match op with
 | .call f args=>cM f (args.map (dW ρ)) (if q then H.length else lo) H K
 |
  .callv fv args=>match dW ρ fv with
  | .sU f fE=>cM f (args.map (dW ρ)++fE) (if q then H.length else lo) H K
  | _=>False
 |
  o=>match vop fl lo o ρ H with
  | some (v,H')=>K v H'
  | none=>False
noncomputable def VS (fl:Fl) (lo:Nat):List PI→(dI→aA→Prop)→dI→aA→Prop
 | [],K,ρ,H=>K ρ H
 |
  i::is,K,ρ,H=>match AG i.g ρ with
  | none=>False
  | some false=>VS fl lo is K (HB ρ i.dst nS) H
  | some true=>i.cf.all (sR ρ H)=true∧dU fl lo i.quiet i.op ρ H fun v H'=>VS fl lo is K (HB ρ i.dst v) H'
def ZJ:List Nat→dI→aA→Option (dI×aA)
 | [],ρ,H=>some (ρ,H)
 |
  t::ts,ρ,H=>match fz depth H (ρ t) with
  | some v=>ZJ ts (HB ρ (some t) v) (cS H (hJ depth H (ρ t)))
  | none=>none
def Ie (r:Option VV) (H:aA) (K:VV→aA→Prop):Prop:=match r with
 | some v=>K v H
 | none=>False
def gh (K:dI→aA→Prop) (ρ:dI) (H:aA):Prop:=∃ts aS H',ZJ ts ρ H=some (aS,H')∧K aS H'
def iL (k:Nat) (H:aA):Bool:=H.all fun
 | .row _ es _ _=>kH k es
 | .dead=>true
def Gc (k:Nat) (ρ:dI):dI:=fun t=>GC k (ρ t)
abbrev VQ:=Ex→dI→aA→Prop
def lC (K:dI→aA→Prop) (Q:VQ):VQ
 | .normal=>K
 | x=>Q x
def xY (id:Nat) (Q:VQ):VQ
 | .exit OA=>fun ρ H=>if OA=id then Q .normal ρ H else Q (.exit OA) ρ H
 | x=>Q x
def P8 (body:VQ→dI→aA→Prop) (Q:VQ):Nat→dI→aA→Prop
 | 0,_,_=>False
 | n+1,ρ,H=>body (lC (fun aS H'=>P8 body Q n aS H'∨(iL H.length (H'.take H.length)=true∧P8 body Q n (Gc H.length aS) (H'.take H.length))) Q) ρ H
noncomputable def VW (fl:Fl) (lo:Nat):aE→VQ→dI→aA→Prop
 | .skip,Q,ρ,H=>Q .normal ρ H
 | .eG ops,Q,ρ,H=>VS fl lo ops (Q .normal) ρ H
 | .seq a b,Q,ρ,H=>VW fl lo a (lC (VW fl lo b Q) Q) ρ H
 |
  .cond c a b,Q,ρ,H=>match dW ρ c with
  | .sc (.bool t)=>if t=true then VW fl lo a Q ρ H else VW fl lo b Q ρ H
  | _=>False
 | .block id a,Q,ρ,H=>VW fl lo a (xY id Q) ρ H
 | .loop a,Q,ρ,H=>∃n,P8 (VW fl lo a) (fun x=>gh (Q x)) n ρ H
 | .exit id,Q,ρ,H=>Q (.exit id) ρ H
 | .ret,Q,ρ,H=>Q .ret ρ H
def Dl (ρ:dI) (H:aA):yZ→Option VV
 | .tmp t=>some (ρ t)
 | .cell t agg size=>cQ agg size (ρ t) H
def oL (ρ:dI) (H:aA):List yZ→Option (List VV)
 | []=>some []
 |
  r::rs=>match Dl ρ H r,oL ρ H rs with
  | some v,some vs=>some (v::vs)
  | _,_=>none
def lQ (res:List yZ) (ρ:dI) (H:aA):Option VV :=
 match oL ρ H res with
 | some [v]=>some v
 | some vs=>some (.dS vs)
 | none=>none
def Fh (R:VV→aA→Prop):Option VV→aA→Prop
 | some v,H=>R v H
 | none,_=>False
def zW (res:List yZ) (R:VV→aA→Prop):VQ
 | .exit _,_,_=>False
 | .normal,ρ,H=>Fh R (lQ res ρ H) H
 | .ret,ρ,H=>Fh R (lQ res ρ H) H
def G4 (args:List VV):dI:=fun k=>args.getD k nS
section
variable {lo dV:Nat}
theorem DI {V:View} (hS:SR V lo dV) {P':aD} (hp:V.P <+: P'):SR { V with P:=P',F:=fun q=>V.F q∨(V.P.length≤q∧q<P'.length) } lo dV∧Dh lo V { V with P:=P',F:=fun q=>V.F q∨(V.P.length≤q∧q<P'.length) }:=by
 obtain⟨L,rfl⟩:=hp
 have hU:Up V { V with P:=V.P++L,F:=fun q=>V.F q∨(V.P.length≤q∧q<(V.P++L).length) }:=⟨fun _ h => .inl h,fun b hb=>List.getElem?_append_left (hS.fr b hb),Nat.le_refl _,fun b g es e w _ h=>⟨g,es,w,h,Nat.le_refl _,fun _=>rfl⟩,rfl,by simp,fun b g es e w hb _=>⟨g,es,w,hb,rfl,id⟩⟩
 refine⟨⟨fun b g es e w hb => ?_,fun b g es e hb=>⟨fun hF => ?_,(hS.wr b g es e hb).2⟩,hS.inj,fun b hb => ?_,by have:=hS.QC;simp;omega,by have:=hS.H8;simp;omega⟩,{ hU with bO:=fun q hq _=>List.getElem?_append_left hq,Bb:=fun q hq => ?_ }⟩
 ·obtain⟨r,p,h1,h2,h3⟩:=hS.row b g es e w hb
  exact⟨r,p,by rw[←h1];exact List.getElem?_append_left (hS.mlt hb),h2,h3.mono hU⟩
 ·rcases hF with hF | hF
  ·exact(hS.wr b g es e hb).1 hF
  ·have h1:=hS.mlt hb
   have h2:V.P.length≤V.m b:=hF.1
   omega
 ·rcases hb with hb | hb
  ·have:=hS.fr b hb
   simp;omega
  ·exact hb.2
 ·rcases hq with hq | hq
  ·exact .inl hq
  ·exact .inr (.inl hq.1)
theorem Wk {V V':View} {x:VV} {v:Value} (h:VR V x v):Ip x=true→VR V' x v:=by
 induction h using VR.rec (motive_2:=fun xs vs _=>Qe xs=true→VL V' xs vs) with
 | sc _ h=>intro _;exact .sc _ h
 | agg cs ps _ ih=>intro hx;exact .agg _ _ (ih hx)
 | dS cs ps _ ih=>intro hx;exact .dS _ _ (ih hx)
 | any=>intro hx;cases hx
 | mD=>intro hx;cases hx
 | tree=>intro hx;cases hx
 | dA=>intro hx;cases hx
 | ref=>intro hx;cases hx
 | ptr=>intro hx;cases hx
 | sU=>intro hx;cases hx
 | nil=>exact .nil
 |
  cons x v xs vs _ _ ih RP =>
  rename_i hx
  simp only[Qe,Bool.and_eq_true] at hx
  exact .cons _ _ _ _ (ih hx.1) (RP hx.2)
theorem VR.BO {V':View} {G:Nat→Prop} {P:aD} {x:VV} {v:Value} (hF:∀b,G b→V'.F b∧V'.P[b]? = P[b]?) (h:VR (bare G P) x v):VR V' x v:=by
 induction h using VR.rec (motive_2:=fun xs vs _=>VL V' xs vs) with
 | any=>exact .any _
 | sc _ h=>exact .sc _ h
 | agg cs ps _ ih=>exact .agg _ _ ih
 | dS cs ps _ ih=>exact .dS _ _ ih
 | mD k hk=>exact .mD k hk
 | tree es k b o c r e p Ru hb ho hc he hk _ ih=>exact .tree es k b o c r e p (hF _ Ru).1 (by rw[(hF _ Ru).2];exact hb) ho hc he hk ih
 | dA x off b o r e p Ru hb ho _ ih=>exact .dA x off b o r e p (hF _ Ru).1 (by rw[(hF _ Ru).2];exact hb) ho ih
 | ref b g o n c a n' c' aU hg ha hq=>exact absurd aU (Nat.not_lt_zero _)
 | ptr b g j off a aU hg ha hq=>exact absurd aU (Nat.not_lt_zero _)
 | sU f fE ps _ ih=>exact .sU _ _ _ ih
 | nil=>exact .nil
 | cons x v xs vs _ _ ih RP=>exact .cons _ _ _ _ ih RP
theorem P7 {V:View} (hS:SR V lo dV) {f aaH:Nat} (abP:aaH≤V.P.length) {args:List VV} {dT:List Value} {G:Nat→Prop} (hG:∀b,G b→b<V.P.length) (hl:VL (bare G V.P) args dT) {K:VV→Prop} (h:Em f args K) :
  ∃P' pv r,pC f dT aaH V.P=some (pv,P')∧V.P <+: P'∧VR (bare (fun q=>G q∨(V.P.length≤q∧q<P'.length)) P') r pv∧aN r=true∧K r:=by
 unfold Em tk at h
 split at h
 ·rename_i r hr
  obtain⟨h1,h2,h3⟩:=MS hr
  obtain⟨P',pv,h4,h5,h6⟩:=h3 G V.P dT aaH hG hl abP
  exact⟨P',pv,r,h4,h5,h6,PL r h2,h⟩
 ·cases h
theorem D8 {V:View} (hS:SR V lo dV) {f:Nat} {args:List VV} {dT:List Value} (hl:VL V args dT) {q:Bool} {K:VV→aA→Prop} (h:cM f args (if q then V.H.length else lo) V.H K):MK lo dV V (pC f dT (if q then V.P.length else dV) V.P) K:=by
 have hlq:(if q=true then V.P.length else dV)≤V.P.length:=by split;exact Nat.le_refl _;exact hS.QC
 unfold cM at h
 split at h
 ·cases q with
  | false=>exact h V dV dT rfl hS hl
  |
   true =>
   have hS':SR V V.H.length V.P.length:=⟨hS.row,fun b g es e hb=>⟨(hS.wr b g es e hb).1,fun hl=>by have:=(List.getElem?_eq_some_iff.1 hb).1;omega⟩,hS.inj,hS.fr,Nat.le_refl _,hS.H8⟩
   obtain⟨pv,V',r,g1,g3,g4,g5,g6⟩:=h V V.P.length dT rfl hS' hl
   refine⟨pv,V',r,g1,⟨g3.row,fun b g es e hb=>⟨(g3.wr b g es e hb).1,fun Da => ?_⟩,g3.inj,g3.fr,Nat.le_trans hS.QC g4.CU,g3.H8⟩,{ g4.toUp with bO:=fun p hp _=>g4.bO p hp fun b g es e hb Da => ?_,Bb:=g4.Bb },g5,g6⟩
   ·rcases Nat.lt_or_ge (V'.m b) V.P.length with aU | Cb
    ·obtain⟨g0,es0,w0,k1,k2,k3⟩:=g4.Ah b g es e true hb aU
     have:=k3 rfl
     subst this
     rw[k2]
     exact(hS.wr _ _ _ _ k1).2 Da
    ·exact Nat.le_trans hS.QC Cb
   ·have:=(List.getElem?_eq_some_iff.1 hb).1
    have Da:V.H.length≤b:=Da
    omega
 ·split at h
  ·rename_i hp
   obtain⟨P',pv,r,g1,g2,g3,g4,g5⟩:=P7 hS (aaH:=if q=true then V.P.length else dV) hlq (G:=V.F) hS.fr (VL.pure (V:=V) (V':=bare V.F V.P) (fun b hb=>⟨hb,rfl⟩) hl hp) h
   obtain⟨k1,k2⟩:=DI hS g2
   exact⟨pv,_,r,g1,k1,k2,g3.BO (fun b hb=>⟨hb,rfl⟩),g5⟩
  ·split at h
   case h_2=>cases h
   rename_i gR Z5
   unfold Em tk at h
   split at h
   case h_2=>cases h
   rename_i r hr
   obtain⟨h1,h2,h3⟩:=MS hr
   split at h
   ·rename_i hfl
    have A7:=Ct hS (G:=(· < V.P.length)) (fun q hq=>hS.fr q hq) hl Z5 (fun i _ g es e w hb=>hS.mlt hb)
    obtain⟨P',pv,g1,g2,g3⟩:=h3 _ V.P dT _ (fun _ h=>h) A7 hlq
    obtain⟨k1,k2⟩:=DI hS g2
    exact⟨pv,_,r,g1,k1,k2,Wk g3 hfl,h⟩
   ·obtain⟨k1,k2,k3,k4,k5,k6⟩:=sQ (args.flatMap (hJ depth V.H)) hS
    have A7:=Ct hS (G:=(V.cS (args.flatMap (hJ depth V.H))).F) (fun q hq=>k2.F q hq) hl Z5 k6
    rw[←k4] at A7
    obtain⟨P',pv,g1,g2,g3⟩:=h3 _ _ dT _ k1.fr A7 (by rw[k4];exact hlq)
    obtain⟨j1,j2⟩:=DI k1 g2
    rw[k4] at g1
    refine⟨pv,_,r,g1,j1,k2.trans j2,g3.BO (fun b hb=>⟨hb,rfl⟩),?_⟩
    show K r (V.cS (args.flatMap (hJ depth V.H))).H
    rw[k3]
    exact h
def yA (lo dV:Nat) (V:View) (c:aE) (Q:VQ) (jI:Env):Prop :=
 W dV c (fun x Kr P'=>∃V' aS,V'.P=P'∧SR V' lo dV∧Dh lo V V'∧ER V' aS Kr∧Q x aS V'.H) jI V.P
theorem EP {V:View} {ρ:dI} {jI:Env} (hE:ER V ρ jI) {g:Option (Nat×Bool)} {t:Bool} (h:AG g ρ=some t):xH g jI=some t:=by
 unfold AG at h
 unfold xH
 split at h
 ·exact h
 ·rename_i t' want
  have ht:=hE t'
  split at h
  ·rename_i b hb
   obtain⟨e,_⟩:=pA ht hb
   simp only[e]
   exact h
  ·rename_i vs hb
   rw[hb] at ht
   generalize hu:jI t'=u at ht
   cases ht with
   | dS cs ps hl=>simp only[hu];exact h
  ·cases h
theorem R0 {V:View} (hS:SR V lo dV) {x y:VV} {u w:Value} (hx:VR V x u) (hy:VR V y w) (h:zJ V.H x y=true):ajF u w=true:=by
 have key:∀ {z:VV} {v:Value},VR V z v→(match As V.H z with
   | .bad=>True
   | .no=>iA v=none
   | .row i wr=>iA v=some (V.m i)∧∃g es e,V.H[i]? = some (.row g es e wr)
   | .Ah i=>∀q,iA v=some q→∀b' g' es e w,V.H[b']? = some (.row g' es e w)→b'≠i→V.m b'≠q
   | .tree=>∀b,iA v=some b→V.F b):=by
  intro z v hz
  cases hz with
  | any=>simp only[As]
  | sc v h =>
      cases v<;>first | rfl | cases h | skip
      rename_i a;cases a<;>first | rfl | cases h
  | agg=>rfl
  | dS=>rfl
  | mD k hk =>
       rcases hk with rfl | rfl
       ·intro b hb;cases hb
       ·rfl
  |
   tree es k b o c r e p hF hb ho hc he hk hl =>
   cases es with
   |
    nil=>cases k with
    | nil=>exact hk.elim
    | op=>intro b' oC;cases oC;exact hF
    | cl=>intro b' oC;cases oC;exact hF
   | cons=>intro b' oC;cases oC;exact hF
  | dA x off b o r e p hF hb ho hl=>intro b' oC;cases oC;exact hF
  |
   ref b g o n c a n' c' aU hg ha hq =>
   simp only[As]
   cases hr:aF V.H b g with
   | none=>exact fun q h=>(by
     cases a with
     | none=>cases h
     | some a0=>cases h;exact(hq a0 rfl).2.2)
   |
    some q =>
    obtain⟨es,e,wr⟩:=q
    rw[cD] at hr
    obtain⟨rfl,rfl,rfl⟩:=ha _ _ _ hr
    exact⟨rfl,g,es,e,hr⟩
  |
   ptr b g j off a aU hg ha hq =>
   simp only[As]
   cases hr:aF V.H b g with
   | none=>exact fun q h=>(by
     cases a with
     | none=>cases h
     | some a0=>cases h;exact(hq a0 rfl).2.2)
   |
    some q =>
    obtain⟨es,e,wr⟩:=q
    rw[cD] at hr
    have:=ha _ _ _ hr
    subst this
    exact⟨rfl,g,es,e,hr⟩
  | sU=>rfl
 have kx:=key hx
 have ky:=key hy
 unfold zJ at h
 unfold ajF
 cases hbx:As V.H x with
 | bad=>rw[hbx] at h;have h:false=true:=h;cases h
 |
  no =>
  rw[hbx] at kx
  have kx:iA u=none:=kx
  rw[kx]
 |
  Ah i =>
  rw[hbx] at kx h
  have kx:∀q,iA u=some q→∀b' g' es e w,V.H[b']? = some (.row g' es e w)→b'≠i→V.m b'≠q:=kx
  cases PW:As V.H y with
  | bad=>rw[PW] at h;have h:false=true:=h;cases h
  |
   no =>
   rw[PW] at ky
   have ky:iA w=none:=ky
   rw[ky]
   cases iA u<;>rfl
  | Ah j=>rw[PW] at h;have h:false=true:=h;cases h
  | tree=>rw[PW] at h;have h:false=true:=h;cases h
  |
   row j wj =>
   rw[PW] at ky h
   obtain⟨k3,g2,Yx,e2,k4⟩:iA w=some (V.m j)∧∃g es e,V.H[j]? = some (.row g es e wj):=ky
   have h:(i != j)=true:=h
   simp only[bne_iff_ne,ne_eq] at h
   rw[k3]
   cases hu:iA u with
   | none=>rfl
   |
    some q =>
    simp only[bne_iff_ne,ne_eq]
    exact fun hm=>kx q hu j _ _ _ _ k4 (Ne.symm h) hm.symm
 |
  row i wi =>
  rw[hbx] at kx h
  obtain⟨k1,g1,AP,e1,k2⟩:iA u=some (V.m i)∧∃g es e,V.H[i]? = some (.row g es e wi):=kx
  cases PW:As V.H y with
  | bad=>rw[PW] at h;have h:false=true:=h;cases h
  |
   no =>
   rw[PW] at ky
   have ky:iA w=none:=ky
   rw[ky]
   cases iA u<;>rfl
  |
   Ah j =>
   rw[PW] at ky h
   have ky:∀q,iA w=some q→∀b' g' es e w,V.H[b']? = some (.row g' es e w)→b'≠j→V.m b'≠q:=ky
   have h:(i != j)=true:=h
   simp only[bne_iff_ne,ne_eq] at h
   rw[k1]
   cases hw:iA w with
   | none=>rfl
   |
    some q =>
    simp only[bne_iff_ne,ne_eq]
    exact fun hm=>ky q hw i _ _ _ _ k2 h hm
  |
   row j wj =>
   rw[PW] at ky h
   obtain⟨k3,g2,Yx,e2,k4⟩:iA w=some (V.m j)∧∃g es e,V.H[j]? = some (.row g es e wj):=ky
   rw[k1,k3]
   have h:(i != j)=true:=h
   simp only[bne_iff_ne,ne_eq] at h ⊢
   exact fun hm=>h (hS.inj _ _ _ _ _ _ _ _ _ _ k2 k4 hm)
  |
   tree =>
   rw[PW] at ky h
   have ky:∀b,iA w=some b→V.F b:=ky
   have h:wi=true:=h
   subst h
   cases hw:iA w with
   | none=>rw[k1]
   |
    some b =>
    rw[k1]
    simp only[bne_iff_ne,ne_eq]
    exact fun hm=>(hS.wr _ _ _ _ k2).1 (by rw[hm];exact ky b hw)
 |
  tree =>
  rw[hbx] at kx h
  have kx:∀b,iA u=some b→V.F b:=kx
  cases PW:As V.H y with
  | bad=>rw[PW] at h;have h:false=true:=h;cases h
  |
   no =>
   rw[PW] at ky
   have ky:iA w=none:=ky
   rw[ky]
   cases iA u<;>rfl
  | tree=>rw[PW] at h;have h:false=true:=h;cases h
  | Ah j=>rw[PW] at h;have h:false=true:=h;cases h
  |
   row j wj =>
   rw[PW] at ky h
   obtain⟨k1,g1,AP,e1,k2⟩:iA w=some (V.m j)∧∃g es e,V.H[j]? = some (.row g es e wj):=ky
   have h:wj=true:=h
   subst h
   cases hw:iA u with
   | none=>rfl
   |
    some b =>
    rw[k1]
    simp only[bne_iff_ne,ne_eq]
    exact fun hm=>(hS.wr _ _ _ _ k2).1 (by rw[←hm];exact kx b hw)
theorem Ps {V:View} (hS:SR V lo dV) {ρ:dI} {jI:Env} (hE:ER V ρ jI) {fl:Fl} {q:Bool} {op:lM} {K:VV→aA→Prop} (h:dU fl lo q op ρ V.H K):MK lo dV V (iR dV q op jI V.P) K:=by
 have other:∀ {v H'},vop fl lo op ρ V.H=some (v,H')→K v H'→MK lo dV V (iR dV q op jI V.P) K:=by
  intro v H' h1 h2
  obtain⟨pv,V',g1,g2,g3,g4,g5⟩:=VJ hS hE (q:=q) h1
  exact⟨pv,V',v,g1,g3,g4,g5,by rw[g2];exact h2⟩
 unfold dU at h
 split at h
 ·rw[Uj]
  exact D8 hS (hE.evs _) h
 ·rename_i fv args
  rw[Rt]
  have hf:=hE.ev fv
  split at h
  ·rename_i f fE hfv
   rw[hfv] at hf
   generalize ev jI fv=u at hf ⊢
   cases hf with
   |
    sU f fE ps hl =>
    unfold WX
    simp only[List.nil_append]
    exact D8 hS ((hE.evs args).append hl) h
  ·cases h
 ·split at h
  ·rename_i v H' h1
   exact other h1 h
  ·cases h
theorem IG {fl:Fl} {K:dI→aA→Prop}:∀(is:List PI) {V:View} {ρ:dI} {jI:Env},SR V lo dV→ER V ρ jI→VS fl lo is K ρ V.H →
  WS dV is (fun Kr P'=>∃V' aS,V'.P=P'∧SR V' lo dV∧Dh lo V V'∧ER V' aS Kr∧K aS V'.H) jI V.P
 |
  [],V,ρ,jI,hS,hE,h=>by
  rw[afP]
  exact⟨V,ρ,rfl,hS,Dh.refl _ _,hE,h⟩
 |
  i::is,V,ρ,jI,hS,hE,h=>by
  unfold VS at h
  rw[ajG]
  unfold wV
  split at h
  ·cases h
  ·rename_i hw
   rw[EP hE hw]
   exact⟨_,_,rfl,IG is hS (hE.put (.dS [] [] .nil)) h⟩
  ·rename_i hw
   rw[EP hE hw]
   obtain⟨NO,h⟩:=h
   have asX:i.cf.all (yM jI)=true:=by
    rw[List.all_eq_true] at NO ⊢
    intro c hc
    exact R0 hS (hE.ev c.1) (hE.ev c.2) (NO c hc)
   simp only[asX,if_true]
   obtain⟨pv,V',v,g1,g2,g3,g4,g5⟩:=Ps hS hE h
   refine⟨pv,V'.P,?_,?_⟩
   ·unfold iR at g1
    exact g1
   ·obtain⟨SV,Vw,k1,PG,zQ,k2,k3,k4,k5,k6⟩:=IG is g2 ((hE.mono g3.toUp).put g4) g5
    exact⟨SV,Vw,k1,PG,zQ,k2,k3,g3.trans k4,k5,k6⟩
theorem IZ:∀(ts:List Nat) {V:View} {ρ aS:dI} {jI:Env} {H':aA},SR V lo dV→ER V ρ jI→ZJ ts ρ V.H=some (aS,H')→∃V',V'.P=V.P∧V'.H=H'∧SR V' lo dV∧Dh lo V V'∧ER V' aS jI
 |
  [],V,ρ,aS,jI,H',hS,hE,h=>by
  cases h
  exact⟨V,rfl,rfl,hS,Dh.refl _ _,hE⟩
 |
  t::ts,V,ρ,aS,jI,H',hS,hE,h=>by
  unfold ZJ at h
  split at h
  case h_2=>cases h
  rename_i v hv
  obtain⟨k1,k2,k3,k4,k5,k6⟩:=sQ (hJ depth V.H (ρ t)) hS
  have hx:=JG hS (G:=(V.cS (hJ depth V.H (ρ t))).F) (fun q hq=>k2.F q hq) depth (ρ t) v (jI t) (hE t) hv k6
  have Oa:VR (V.cS (hJ depth V.H (ρ t))) v (jI t):=hx.BO (fun b hb=>⟨hb,by rw[k4]⟩)
  rw[←k3] at h
  obtain⟨V',g1,g2,g3,g4,g5⟩:=IZ ts (jI:=jI) k1 (by
   have e:=(hE.mono k2.toUp).put (d:=some t) Oa
   have ee:put jI (some t) (jI t)=jI:=by
    funext k
    simp only[put]
    split
    ·rename_i hk;rw[hk]
    ·rfl
   rw[ee] at e
   exact e) h
  exact⟨V',g1.trans k4,g2,g3,k2.trans g4,g5⟩
theorem P9 {V:View} (hS:SR V lo dV) {ρ:dI} {jI:Env} (hE:ER V ρ jI) {K:dI→aA→Prop} (h:gh K ρ V.H):∃V' aS,V'.P=V.P∧SR V' lo dV∧Dh lo V V'∧ER V' aS jI∧K aS V'.H:=by
 obtain⟨ts,aS,H',h1,h2⟩:=h
 obtain⟨V',g1,g2,g3,g4,g5⟩:=IZ ts hS hE h1
 exact⟨V',aS,g1,g3,g4,g5,by rw[g2];exact h2⟩
theorem ID {k:Nat} {es:List VV}:kH k es=true↔∀x∈es,below k x=true:=by
 induction es with
 | nil=>simp[kH]
 | cons x xs ih=>simp[kH,ih]
theorem BA {k:Nat} {es:List VV} (h:kH k es=true):kH k (es.flatMap aB)=true:=by
 rw[ID] at h ⊢
 intro x hx
 obtain⟨y,hy,zE⟩:=List.mem_flatMap.1 hx
 have:=h y hy
 unfold aB at zE
 split at zE
 ·exact ID.1 (by simpa[below] using this) x zE
 ·rw[List.mem_singleton] at zE;subst zE;exact this
theorem PQ {k:Nat} {x:VV} (h:below k x=true):kH k (aB x)=true:=by
 have:=BA (k:=k) (es:=[x]) (by simp[kH,h])
 simpa using this
def View.wZ (V:View) (k:Nat):View:={ V with H:=V.H.take k }
theorem VR.wZ {V:View} {k:Nat} (hk:k≤V.H.length) {x:VV} {v:Value} (h:VR V x v):PM.below k x=true→VR (V.wZ k) x v:=by
 have he:∀ {b:Nat},b<k→∀y,(V.wZ k).H[b]? = some y→V.H[b]? = some y:=fun Tw y hy=>by
  have:(V.H.take k)[_]? = some y:=hy
  rw[List.getElem?_take,if_pos Tw] at this
  exact this
 have hT:∀ {b:Nat} {y:bM},(V.wZ k).H[b]? = some y→V.H[b]? = some y:=fun {b y} hy=>by
  have h:(V.H.take k)[b]? = some y:=hy
  rw[List.getElem?_take] at h
  split at h
  ·exact h
  ·cases h
 induction h using VR.rec (motive_2:=fun xs vs _=>kH k xs=true→VL (V.wZ k) xs vs) with
 | any=>intro _;exact .any _
 | sc _ h=>intro _;exact .sc _ h
 | agg cs ps _ ih=>intro hb;exact .agg _ _ (ih hb)
 | dS cs ps _ ih=>intro hb;exact .dS _ _ (ih hb)
 | mD k hk=>intro _;exact .mD k hk
 | tree es k b o c r e p Ru wQ ho hc he V4 _ ih=>intro hb;exact .tree es k b o c r e p Ru wQ ho hc he V4 (ih (BA hb))
 | dA x off b o r e p Ru wQ ho _ ih=>intro hb;exact .dA x off b o r e p Ru wQ ho (ih (PQ hb))
 |
  ref b g o n c a n' c' aU hg ha hq =>
  intro hb
  have Tw:b<k:=by simpa[PM.below] using hb
  exact .ref b g o n c a n' c' (by show b<(V.H.take k).length;simp;omega) (fun g' es e w hr=>hg _ _ _ _ (he Tw _ hr)) (fun es e w hr=>ha _ _ _ (he Tw _ hr)) fun a0 h=>⟨(hq a0 h).1,(hq a0 h).2.1,fun b' g' es e w hr=>(hq a0 h).2.2 b' g' es e w (hT hr)⟩
 |
  ptr b g j off a aU hg ha hq =>
  intro hb
  have Tw:b<k:=by simpa[PM.below] using hb
  exact .ptr b g j off a (by show b<(V.H.take k).length;simp;omega) (fun g' es e w hr=>hg _ _ _ _ (he Tw _ hr)) (fun es e w hr=>ha _ _ _ (he Tw _ hr)) fun a0 h=>⟨(hq a0 h).1,(hq a0 h).2.1,fun b' g' es e w hr=>(hq a0 h).2.2 b' g' es e w (hT hr)⟩
 | sU f fE ps _ ih=>intro hb;exact .sU _ _ _ (ih hb)
 | nil=>exact .nil
 |
  cons x v xs vs _ _ ih RP =>
  rename_i hb
  simp only[kH,Bool.and_eq_true] at hb
  exact .cons _ _ _ _ (ih hb.1) (RP hb.2)
theorem VL.wZ {V:View} {k:Nat} (hk:k≤V.H.length) {xs:List VV} {vs:List Value} (h:VL V xs vs) (hb:kH k xs=true):VL (V.wZ k) xs vs:=by
 induction xs generalizing vs with
 | nil=>cases h;exact .nil
 |
  cons x xs ih=>cases h with
  |
   cons _ v _ vs h hs =>
   simp only[kH,Bool.and_eq_true] at hb
   exact .cons _ _ _ _ (h.wZ hk hb.1) (ih hs hb.2)
theorem Qn {V V':View} (hS:SR V' lo dV) {ρ:dI} {jI:Env} (hE:ER V' ρ jI) (hx:Dh lo V V') (hr:iL V.H.length (V'.H.take V.H.length)=true) :
  SR (V'.wZ V.H.length) lo dV∧Dh lo V (V'.wZ V.H.length)∧ER (V'.wZ V.H.length) (Gc V.H.length ρ) jI:=by
 have hk:=hx.len
 have get:∀ {b:Nat} {y:bM},(V'.wZ V.H.length).H[b]? = some y→V'.H[b]? = some y:=by
  intro b y h
  have h:(V'.H.take V.H.length)[b]? = some y:=h
  rw[List.getElem?_take] at h
  split at h
  ·exact h
  ·cases h
 refine⟨⟨fun b g es e w hb => ?_,fun b g es e hb=>hS.wr b g es e (get hb),fun a b g es e w g' lA e' w' ha hb hm=>hS.inj a b _ _ _ _ _ _ _ _ (get ha) (get hb) hm,hS.fr,hS.QC,hS.H8⟩,
  { F:=hx.F,P:=hx.P,len:=by show V.H.length≤(V'.H.take V.H.length).length;simp;omega,row:=fun b g es e w aU hb=>hx.row b g es e w aU (get hb),H8:=hx.H8,CU:=hx.CU,Ah:=fun b g es e w hb hm=>hx.Ah b g es e w (get hb) hm,bO:=hx.bO,Bb:=hx.Bb },fun t => ?_⟩
 ·obtain⟨r,p,h1,h2,h3⟩:=hS.row b g es e w (get hb)
  refine⟨r,p,h1,h2,h3.wZ hk (BA ?_)⟩
  have:=List.all_eq_true.1 hr _ (List.mem_of_getElem? (show (V'.H.take V.H.length)[b]? = some _ from hb))
  exact this
 ·unfold Gc GC
  split
  ·rename_i hb
   exact(hE t).wZ hk hb
  ·exact .any _
theorem On {c:aE} {Q:Ex→Env→aD→Prop} {ρ:Env} {H:aD} (h:W dV c (alX (fun aS H'=>W dV (.loop c) Q aS H') Q) ρ H):W dV (.loop c) Q ρ H:=by
 obtain⟨x,aS,H',h1,h2⟩:=h
 unfold W
 rw[T6,h1]
 cases x with
 |
  normal =>
  obtain⟨y,zQ,H'',h3,h4⟩:=h2
  exact⟨y,zQ,H'',h3,h4⟩
 | exit i=>exact⟨_,_,_,rfl,h2⟩
 | ret=>exact⟨_,_,_,rfl,h2⟩
theorem sG {fl:Fl}:∀(c:aE) {V:View} {ρ:dI} {jI:Env} {Q:VQ},SR V lo dV→ER V ρ jI→VW fl lo c Q ρ V.H→yA lo dV V c Q jI
 |
  .skip,V,ρ,jI,Q,hS,hE,h=>by
  unfold yA
  rw[afT]
  exact⟨V,ρ,rfl,hS,Dh.refl _ _,hE,h⟩
 |
  .exit id,V,ρ,jI,Q,hS,hE,h=>by
  unfold yA
  rw[adY]
  exact⟨V,ρ,rfl,hS,Dh.refl _ _,hE,h⟩
 |
  .ret,V,ρ,jI,Q,hS,hE,h=>by
  unfold yA
  rw[amD]
  exact⟨V,ρ,rfl,hS,Dh.refl _ _,hE,h⟩
 |
  .eG ops,V,ρ,jI,Q,hS,hE,h=>by
  unfold yA
  rw[alM]
  exact IG ops hS hE h
 |
  .seq a b,V,ρ,jI,Q,hS,hE,h=>by
  unfold yA
  rw[ajD]
  refine(sG a hS hE h).mono ?_
  rintro x Kr P' ⟨V',aS,rfl,g2,g3,g4,g5⟩
  cases x with
  |
   normal =>
   refine(sG b g2 g4 g5).mono ?_
   rintro y SV Vw ⟨PG,zQ,k1,k2,k3,k4,k5⟩
   exact⟨PG,zQ,k1,k2,g3.trans k3,k4,k5⟩
  | exit i=>exact⟨V',aS,rfl,g2,g3,g4,g5⟩
  | ret=>exact⟨V',aS,rfl,g2,g3,g4,g5⟩
 |
  .cond c a b,V,ρ,jI,Q,hS,hE,h=>by
  unfold yA
  rw[adZ]
  unfold VW at h
  split at h
  ·rename_i t hc
   obtain⟨e,_⟩:=pA (hE.ev c) hc
   refine⟨t,e,fun ht => ?_,fun ht => ?_⟩
   ·rw[if_pos ht] at h
    exact sG a hS hE h
   ·rw[if_neg (by simp[ht])] at h
    exact sG b hS hE h
  ·cases h
 |
  .block id a,V,ρ,jI,Q,hS,hE,h=>by
  unfold yA
  rw[abI]
  refine(sG a hS hE h).mono ?_
  rintro x Kr P' ⟨V',aS,rfl,g2,g3,g4,g5⟩
  cases x with
  | normal=>exact⟨V',aS,rfl,g2,g3,g4,g5⟩
  |
   exit i =>
   rw[Fy]
   have g5:if i=id then Q .normal aS V'.H else Q (.exit i) aS V'.H:=g5
   split at g5
   ·rename_i hi
    rw[if_pos hi]
    exact⟨V',aS,rfl,g2,g3,g4,g5⟩
   ·rename_i hi
    rw[if_neg hi]
    exact⟨V',aS,rfl,g2,g3,g4,g5⟩
  | ret=>exact⟨V',aS,rfl,g2,g3,g4,g5⟩
 |
  .loop a,V,ρ,jI,Q,hS,hE,h=>by
  obtain⟨n,h⟩:=h
  have key:∀n {V:View} {ρ:dI} {jI:Env},SR V lo dV→ER V ρ jI→P8 (VW fl lo a) (fun x=>gh (Q x)) n ρ V.H→yA lo dV V (.loop a) Q jI:=by
   intro n
   induction n with
   | zero=>intro V ρ jI _ _ h;cases h
   |
    succ n ih =>
    intro V ρ jI hS hE h
    unfold yA
    refine On ?_
    refine(sG a hS hE h).mono ?_
    rintro x Kr P' ⟨V',aS,rfl,g2,g3,g4,g5⟩
    cases x with
    |
     normal =>
     rcases g5 with g5 | ⟨g5,g6⟩
     ·refine(ih g2 g4 g5).mono ?_
      rintro y SV Vw ⟨PG,zQ,k1,k2,k3,k4,k5⟩
      exact⟨PG,zQ,k1,k2,g3.trans k3,k4,k5⟩
     ·obtain⟨t1,t2,t3⟩:=Qn g2 g4 g3 g5
      refine(ih t1 t3 g6).mono ?_
      rintro y SV Vw ⟨PG,zQ,k1,k2,k3,k4,k5⟩
      exact⟨PG,zQ,k1,k2,t2.trans k3,k4,k5⟩
    |
     exit i =>
     obtain⟨PG,zQ,k1,k2,k3,k4,k5⟩:=P9 g2 g4 g5
     exact⟨PG,zQ,k1,k2,g3.trans k3,k4,k5⟩
    |
     ret =>
     obtain⟨PG,zQ,k1,k2,k3,k4,k5⟩:=P9 g2 g4 g5
     exact⟨PG,zQ,k1,k2,g3.trans k3,k4,k5⟩
  exact key n hS hE h
theorem tR {V:View} (hS:SR V lo dV) {ρ:dI} {jI:Env} (hE:ER V ρ jI) {res:List yZ} {v:VV} (h:lQ res ρ V.H=some v):∃pv,oM res jI V.P=some pv∧VR V v pv:=by
 have one:∀ {r:yZ} {v:VV},Dl ρ V.H r=some v→∃pv,SO jI V.P r=some pv∧VR V v pv:=by
  intro r v h
  cases r with
  | tmp t=>cases h;exact⟨_,rfl,hE t⟩
  | cell t agg size=>exact J5 hS (hE t) h
 have all:∀ {rs:List yZ} {vs:List VV},oL ρ V.H rs=some vs→∃ps,Ae jI V.P rs=some ps∧VL V vs ps:=by
  intro rs
  induction rs with
  | nil=>intro vs h;cases h;exact⟨[],rfl,.nil⟩
  |
   cons r rs ih =>
   intro vs h
   unfold oL at h
   split at h
   ·rename_i v vs' h1 h2
    cases h
    obtain⟨pv,k1,k2⟩:=one h1
    obtain⟨ps,k3,k4⟩:=ih h2
    exact⟨pv::ps,by unfold Ae;rw[k1,k3],.cons _ _ _ _ k2 k4⟩
   ·cases h
 unfold lQ at h
 split at h
 ·rename_i v' hv
  cases h
  obtain⟨ps,k1,k2⟩:=all hv
  cases k2 with
  |
   cons _ pv _ _ hx NJ =>
   cases NJ
   exact⟨pv,by unfold oM;rw[k1],hx⟩
 ·rename_i vs eV hv
  cases h
  obtain⟨ps,k1,k2⟩:=all hv
  refine⟨.tuple ps.toArray,?_,.dS _ _ k2⟩
  unfold oM
  rw[k1]
  split
  ·rename_i pv he
   injection he with he
   subst he
   cases k2 with
   | cons x _ _ _ hx NJ=>cases NJ;exact absurd rfl (eV x)
  ·rename_i he
   injection he with he
   rw[he]
  ·rename_i he;cases he
 ·cases h
theorem OH {V:View} {args:List VV} {dT:List Value} (h:VL V args dT):ER V (G4 args) (VF dT):=by
 intro t
 unfold G4 VF
 rw[List.getD_eq_getElem?_getD,List.getD_eq_getElem?_getD]
 cases hx:args[t]? with
 |
  none =>
  have:dT[t]? = none:=by
   rw[List.getElem?_eq_none_iff] at hx ⊢
   rw[h.length]
   exact hx
  rw[this]
  exact .dS [] [] .nil
 |
  some x =>
  obtain⟨v,h1,h2⟩:=h.get hx
  rw[h1]
  exact h2
theorem iY.walk {f:Nat} {pf:aT} {args:List VV} {H:aA} {K:VV→aA→Prop} (fl:Fl) (ht:hC f=some pf) (ha:args.length≤pf.ntmps) (h:VW fl lo pf.body (zW pf.res K) (G4 args) H):iY f args lo H K:=by
 intro V dV dT hH hS hl
 subst hH
 obtain⟨x,Kr,P',h1,V',aS,rfl,g2,g3,g4,g5⟩:=sG pf.body hS (OH hl) h
 have key:∃pv Vw,pC f dT dV V.P=some (pv,Vw)∧Vw=V'.P∧∃r,VR V' r pv∧K r V'.H:=by
  refine XS ht (by rw[hl.length];exact ha) ?_
  refine⟨x,Kr,V'.P,h1,?_⟩
  cases x with
  | exit i=>exact g5.elim
  |
   normal =>
   simp only[zW,Fh] at g5
   split at g5
   ·rename_i v hv
    obtain⟨pv,k2,k3⟩:=tR g2 g4 hv
    exact⟨pv,k2,rfl,v,k3,g5⟩
   ·cases g5
  |
   ret =>
   simp only[zW,Fh] at g5
   split at g5
   ·rename_i v hv
    obtain⟨pv,k2,k3⟩:=tR g2 g4 hv
    exact⟨pv,k2,rfl,v,k3,g5⟩
   ·cases g5
 obtain⟨pv,Vw,k1,rfl,r,k2,k3⟩:=key
 exact⟨pv,V',r,k1,g2,g3,k2,k3⟩
theorem VT.walk {f:Nat} {pf:aT} {args:List VV} {r:VV} (fl:Fl) (ht:hC f=some pf) (ha:args.length≤pf.ntmps) (h:VW fl 0 pf.body (zW pf.res fun v H=>fz depth H v=some r) (G4 args) []):VT f args r:=by
 intro F P dT dV hF hl abP
 have hS:SR (bare F P) 0 dV:=⟨fun b g es e w hb=>by simp[bare] at hb,fun b g es e hb=>by simp[bare] at hb,fun a b g es e w g' lA e' w' ha=>by simp[bare] at ha,hF,abP,Nat.zero_le _⟩
 obtain⟨x,Kr,P',h1,V',aS,rfl,g2,g3,g4,g5⟩:=sG pf.body hS (OH hl) h
 have fin:∀ {v:VV} {pv:Value},VR V' v pv→fz depth V'.H v=some r→VR (bare (fun q=>F q∨(P.length≤q∧q<V'.P.length)) V'.P) r pv:=by
  intro v pv hv hf
  refine JG g2 (fun q hq => ?_) depth v r pv hv hf fun i _ g es e w hr => ?_
  ·rcases g3.Bb q hq with h | h | ⟨b,g,es,e,w,h,_⟩
   ·exact .inl h
   ·exact .inr ⟨h,g2.fr q hq⟩
   ·simp[bare] at h
  ·rcases Nat.lt_or_ge (V'.m i) P.length with aU | Cb
   ·obtain⟨g0,es0,w0,k1,_⟩:=g3.Ah i g es e w hr aU
    simp[bare] at k1
   ·exact .inr ⟨Cb,g2.mlt hr⟩
 have key:∃pv Vw,pC f dT dV P=some (pv,Vw)∧Vw=V'.P∧VR (bare (fun q=>F q∨(P.length≤q∧q<V'.P.length)) V'.P) r pv:=by
  refine XS ht (by rw[hl.length];exact ha) ?_
  refine⟨x,Kr,V'.P,h1,?_⟩
  cases x with
  | exit i=>exact g5.elim
  |
   normal =>
   simp only[zW,Fh] at g5
   split at g5
   ·rename_i v hv
    obtain⟨pv,k2,k3⟩:=tR g2 g4 hv
    exact⟨pv,k2,rfl,fin k3 g5⟩
   ·cases g5
  |
   ret =>
   simp only[zW,Fh] at g5
   split at g5
   ·rename_i v hv
    obtain⟨pv,k2,k3⟩:=tR g2 g4 hv
    exact⟨pv,k2,rfl,fin k3 g5⟩
   ·cases g5
 obtain⟨pv,Vw,k1,rfl,k3⟩:=key
 refine⟨V'.P,pv,k1,?_,k3⟩
 refine⟨V'.P.drop P.length,List.ext_getElem? fun i => ?_⟩
 rcases Nat.lt_or_ge i P.length with hi | hi
 ·rw[List.getElem?_append_left hi]
  exact(g3.bO i hi fun b g es e hb=>by simp[bare] at hb).symm
 ·rw[List.getElem?_append_right hi,List.getElem?_drop,show P.length+(i-P.length)=i by omega]
end
end Go.PM
namespace Go.PM
section
variable {fl:Fl} {lo:Nat} {ρ:dI} {H:aA} {Q:VQ} {K:dI→aA→Prop} {k:VV→aA→Prop} {a b:aE} {d:Option Nat} {is:List PI} {q:Bool} {op:lM}
def Oz (fl:Fl) (lo:Nat) (d:Option Nat) (is:List PI) (K:dI→aA→Prop) (ρ:dI):VV→aA→Prop:=fun v H'=>VS fl lo is K (HB ρ d v) H'
def Ng (r:Option (VV×aA)) (k:VV→aA→Prop):Prop:=match r with
 | some (v,H')=>k v H'
 | none=>False
theorem L9 {v:VV} {H':aA}:Oz fl lo d is K ρ v H'=VS fl lo is K (HB ρ d v) H':=rfl
theorem OM {v:VV}:Ie (some v) H k=k v H:=rfl
theorem Mb {v:VV} {H':aA}:Ng (some (v,H')) k=k v H':=rfl
theorem ZF {r:VV} {K:VV→Prop}:tk (some r) K=K r:=rfl
theorem SW:VW fl lo .skip Q ρ H=Q .normal ρ H:=rfl
theorem T0 {i:Nat}:VW fl lo (.exit i) Q ρ H=Q (.exit i) ρ H:=rfl
theorem Xg:VW fl lo .ret Q ρ H=Q .ret ρ H:=rfl
theorem YY {ops:List PI}:VW fl lo (.eG ops) Q ρ H=VS fl lo ops (Q .normal) ρ H:=rfl
theorem WW:VW fl lo (.seq a b) Q ρ H=VW fl lo a (lC (VW fl lo b Q) Q) ρ H:=rfl
theorem OK {i:Nat}:VW fl lo (.block i a) Q ρ H=VW fl lo a (xY i Q) ρ H:=rfl
theorem TF {c:Operand} {t:Bool} (h:dW ρ c = .sc (.bool t)):VW fl lo (.cond c a b) Q ρ H=if t=true then VW fl lo a Q ρ H else VW fl lo b Q ρ H:=by
 simp only[VW,h]
theorem AL:lC K Q .normal=K:=rfl
theorem C4 {i:Nat}:lC K Q (.exit i)=Q (.exit i):=rfl
theorem Es:lC K Q .ret=Q .ret:=rfl
theorem Dk {i:Nat}:xY i Q .normal=Q .normal:=rfl
theorem Bn {i j:Nat}:xY i Q (.exit j) ρ H=if j=i then Q .normal ρ H else Q (.exit j) ρ H:=rfl
theorem I0 {i:Nat}:xY i Q .ret=Q .ret:=rfl
theorem EA {res:List yZ} {R:VV→aA→Prop}:zW res R .normal ρ H=Fh R (lQ res ρ H) H:=rfl
theorem Lz {res:List yZ} {R:VV→aA→Prop}:zW res R .ret ρ H=Fh R (lQ res ρ H) H:=rfl
theorem Jv {R:VV→aA→Prop} {v:VV}:Fh R (some v) H=R v H:=rfl
theorem Qb {t:Nat}:lQ [.tmp t] ρ H=some (ρ t):=rfl
theorem PA {t u:Nat}:lQ [.tmp t,.tmp u] ρ H=some (.dS [ρ t,ρ u]):=rfl
theorem Jl {t u v:Nat}:lQ [.tmp t,.tmp u,.tmp v] ρ H=some (.dS [ρ t,ρ u,ρ v]):=rfl
theorem Mn:lQ [] ρ H=some (.dS []):=rfl
theorem XK:VS fl lo [] K ρ H=K ρ H:=rfl
theorem acO:VS fl lo (⟨d,op,none,q,[]⟩::is) K ρ H=dU fl lo q op ρ H (Oz fl lo d is K ρ):=by
 simp only[VS,AG,List.all_nil,true_and]
 rfl
theorem El {c:Operand×Operand} {cs:List (Operand×Operand)}:VS fl lo (⟨d,op,none,q,c::cs⟩::is) K ρ H=((c::cs).all (sR ρ H)=true∧dU fl lo q op ρ H (Oz fl lo d is K ρ)):=by
 simp only[VS,AG]
 rfl
theorem Pg {t:Nat} {want x:Bool} {cf:List (Operand×Operand)} (h:ρ t = .sc (.bool x)):VS fl lo (⟨d,op,some (t,want),q,cf⟩::is) K ρ H =
  if (x == want)=true then (cf.all (sR ρ H)=true∧dU fl lo q op ρ H (Oz fl lo d is K ρ)) else VS fl lo is K (HB ρ d nS) H:=by
 simp only[VS,AG,h]
 cases (x == want)<;>rfl
theorem Y3 {t:Nat} {want:Bool} (h:ρ t = .sc (.bool want)):VS fl lo (⟨d,op,some (t,want),q,[]⟩::is) K ρ H=dU fl lo q op ρ H (Oz fl lo d is K ρ):=by
 rw[Pg h]
 simp
theorem adC {t:Nat} {want:Bool} {cf:List (Operand×Operand)} (h:ρ t = .sc (.bool (!want))):VS fl lo (⟨d,op,some (t,want),q,cf⟩::is) K ρ H=VS fl lo is K (HB ρ d nS) H:=by
 rw[Pg h]
 cases want<;>rfl
theorem Tz {c:Operand} (h:dW ρ c = .sc (.bool true)):VW fl lo (.cond c a b) Q ρ H=VW fl lo a Q ρ H:=by
 rw[TF h,if_pos rfl]
theorem Of {c:Operand} (h:dW ρ c = .sc (.bool false)):VW fl lo (.cond c a b) Q ρ H=VW fl lo b Q ρ H:=by
 rw[TF h,if_neg (by decide)]
theorem GF {t:Nat} {want:Bool} {cf:List (Operand×Operand)} (h:ρ t=nS):VS fl lo (⟨d,op,some (t,want),q,cf⟩::is) K ρ H=VS fl lo is K (HB ρ d nS) H:=by
 simp only[VS,AG,h,nS]
theorem sN {d t:Nat} {v:VV}:HB ρ (some d) v t=if t=d then v else ρ t:=rfl
theorem K7 {v:VV}:HB ρ none v=ρ:=rfl
theorem TA {t:Nat}:dW ρ (.tmp t)=ρ t:=rfl
theorem Ma {v:Value}:dW ρ (.const v)=inj v:=rfl
theorem Ol {f:Nat}:dW ρ (.func f) = .sU f []:=rfl
theorem Tq {k:IntKind} {n:Int}:inj (.int k n) = .sc (.int k n):=rfl
theorem PX {t:Bool}:inj (.bool t) = .sc (.bool t):=rfl
theorem SQ {s:ByteArray}:inj (.string s) = .sc (.string s):=rfl
theorem Ts:inj (.slice none 0 0) = .tree [] .nil:=rfl
theorem Sx {cs:Array Value}:inj (.agg cs) = .agg (cs.toList.map iO):=rfl
theorem PV {k:IntKind} {n:Int}:iO (.int k n) = .sc (.int k n):=rfl
theorem LC {t:Bool}:iO (.bool t) = .sc (.bool t):=rfl
theorem NS {s:ByteArray}:iO (.string s) = .sc (.string s):=rfl
theorem O1:iO (.slice none 0 0) = .tree [] .nil:=rfl
theorem Xo {x:Operand}:dU fl lo q (.mv x) ρ H k=k (dW ρ x) H:=rfl
theorem gM {r:Option VV}:(match r.map (fun v=>(v,H)) with | some (v,H')=>k v H' | none=>False)=Ie r H k:=by cases r<;>rfl
theorem PJ {c x y:Operand}:dU fl lo q (.pick c x y) ρ H k=Ie (Oe (dW ρ c) (dW ρ x) (dW ρ y)) H k:=gM
theorem TM {o:BinOp} {x y:Operand}:dU fl lo q (.bin o x y) ρ H k=Ie (FN (cV o) (dW ρ x) (dW ρ y)) H k:=gM
theorem T2 {n:Bool} {x y:Operand}:dU fl lo q (.eqb n x y) ρ H k=Ie (FN (OE n) (dW ρ x) (dW ρ y)) H k:=gM
theorem Mo {n:Bool} {x:Operand}:dU fl lo q (.isnil n x) ρ H k=Ie (DW n (dW ρ x) H) H k:=gM
theorem Lc {n:Bool} {ks:List CK} {x y:Operand}:dU fl lo q (.eqagg n ks x y) ρ H k=Ie (Sh n ks (dW ρ x) (dW ρ y)) H k:=gM
theorem X2 {o:UnOp} {x:Operand}:dU fl lo q (.un o x) ρ H k=Ie (Jy (YK o) (dW ρ x)) H k:=gM
theorem Sz {o:IntKind} {x:Operand}:dU fl lo q (.cvt o x) ρ H k=Ie (Jy (Rf o) (dW ρ x)) H k:=gM
theorem SB {x:Operand}:dU fl lo q (.cvs x) ρ H k=Ie (Jy Ug (dW ρ x)) H k:=gM
theorem SI {x:Operand} {i:Nat}:dU fl lo q (.ext x i) ρ H k=Ie (Ym i (dW ρ x)) H k:=gM
theorem Te {g:Bool} {off size:Nat} {x:Operand}:dU fl lo q (.fld g off size x) ρ H k=Ie (abR g off size (dW ρ x)) H k:=gM
theorem LW {z:List Value} {places:List (Nat×Nat)} {parts:List (Nat×Operand)}:dU fl lo q (.build z places parts) ρ H k=Ie ((vZ places (z.map iO) (parts.map fun(i,x)=>(i,dW ρ x))).map .agg) H k:=by
 show (match (vZ places (z.map iO) (parts.map fun(i,x)=>(i,dW ρ x))).map fun cs=>(VV.agg cs,H) with | some (v,H')=>k v H' | none=>False)=_
 cases vZ places (z.map iO) (parts.map fun(i,x)=>(i,dW ρ x))<;>rfl
theorem TU {x:Operand}:dU fl lo q (.chk x) ρ H k=Ie (UN (dW ρ x) H) H k:=gM
theorem Lv {off:Nat} {x:Operand}:dU fl lo q (.faddr off x) ρ H k=Ie (FJ off (dW ρ x) H) H k:=gM
theorem LD {size:Nat} {x i:Operand}:dU fl lo q (.iaddr size x i) ρ H k=Ie (bJ size (dW ρ x) (dW ρ i) H) H k:=gM
theorem Qs {x i:Operand}:dU fl lo q (.sidx x i) ρ H k=Ie (FN E0 (dW ρ x) (dW ρ i)) H k:=gM
theorem NT {x:Operand} {l h:Option Operand}:dU fl lo q (.ssub x l h) ρ H k=Ie (sE (dW ρ x) (l.map (dW ρ)) (h.map (dW ρ))) H k:=gM
theorem Og {f:Nat} {fE:List Operand}:dU fl lo q (.mkfn f fE) ρ H k=k (.sU f (fE.map (dW ρ))) H:=rfl
theorem TY {x:Operand}:dU fl lo q (.len x) ρ H k=Ie (nR (dW ρ x) H) H k:=gM
theorem P3 {x:Operand}:dU fl lo q (.slen x) ρ H k=Ie (Jy yK (dW ρ x)) H k:=gM
theorem Tt {x y:Operand}:dU fl lo q (.min x y) ρ H k=Ie (FN ON (dW ρ x) (dW ρ y)) H k:=gM
theorem SD {x y:Operand}:dU fl lo q (.max x y) ρ H k=Ie (FN OG (dW ρ x) (dW ρ y)) H k:=gM
theorem Qi {g:Bool} {size:Nat} {p:Operand}:dU fl lo q (.load g size p) ρ H k=Ie (cQ g size (dW ρ p) H) H k:=gM
theorem S3 {size:Nat} {x:Operand} {l h m:Option Operand}:dU fl lo q (.sub size x l h m) ρ H k=Ie (CW size (dW ρ x) (l.map (dW ρ)) (h.map (dW ρ)) (m.map (dW ρ)) H) H k:=gM
theorem S6 {z:List Value}:dU fl lo q (.new z) ρ H k=Ng (if (z.map iO).all aZ then some (.ptr H.length 0 0 0,H++[.row 0 [elemOf (z.map iO)] z.length true]) else none) k:=rfl
theorem To {x:Operand}:dU fl lo q (.box x) ρ H k=Ng (if (aB (dW ρ x)).all aZ then (if fl.bf then some (.dA (dW ρ x) 0,H) else some (.ptr H.length 0 0 0,H++[.row 0 [dW ρ x] (aB (dW ρ x)).length true])) else none) k:=rfl
theorem PO {z:List Value} {bytes:Nat} {l c:Operand}:dU fl lo q (.make z bytes l c) ρ H k=Ng (if (z.map iO).all aZ then yY z bytes (dW ρ l) (dW ρ c) H else none) k:=rfl
theorem St {z:List Value} {n:Nat} {parts:List (Nat×Operand)}:dU fl lo q (.lit z n parts) ρ H k=Ng (jX fl.lr z n (parts.map fun(i,x)=>(i,dW ρ x)) H) k:=rfl
def SC (r:Option aA) (k:VV→aA→Prop):Prop:=match r with
 | some H'=>k nS H'
 | none=>False
theorem J6 {H':aA}:SC (some H') k=k nS H':=rfl
theorem Lx {r:Option aA}:(match r.map (fun H'=>(nS,H')) with | some (v,H')=>k v H' | none=>False)=SC r k:=by cases r<;>rfl
theorem Mj {size:Nat} {p v:Operand}:dU fl lo q (.store size p v) ρ H k=SC (bX lo size (dW ρ p) (dW ρ v) H) k:=Lx
def amU (lo size bytes:Nat) (x:VV) (new:Option (List VV)) (H:aA) (k:VV→aA→Prop):Prop:=match new with
 | some new=>Ng (eK lo size bytes x new H) k
 | none=>False
theorem Lt {size bytes:Nat} {x:VV} {new:List VV}:amU lo size bytes x (some new) H k=Ng (eK lo size bytes x new H) k:=rfl
theorem Ti {size bytes:Nat} {x y:Operand}:dU fl lo q (.app size bytes x y) ρ H k=amU lo size bytes (dW ρ x) (cN size (dW ρ y) H) H k:=by
 show (match (match cN size (dW ρ y) H with | some new=>eK lo size bytes (dW ρ x) new H | none=>none) with | some (v,H')=>k v H' | none=>False)=_
 cases cN size (dW ρ y) H<;>rfl
theorem Pf {size:Nat} {x y:Operand}:dU fl lo q (.copy size x y) ρ H k=Ng (GU lo size (dW ρ x) (dW ρ y) H) k:=rfl
theorem KP {z:List Value} {x:Operand}:dU fl lo q (.clear z x) ρ H k=SC (MO lo z (dW ρ x) H) k:=Lx
theorem Pa {f:Nat} {args:List Operand}:dU fl lo q (.call f args) ρ H k=cM f (args.map (dW ρ)) (if q then H.length else lo) H k:=rfl
noncomputable def RH (x:VV) (args:List VV) (lo:Nat) (H:aA) (k:VV→aA→Prop):Prop:=match x with
 | .sU f fE=>cM f (args++fE) lo H k
 | _=>False
theorem II {f:Nat} {fE args:List VV}:RH (.sU f fE) args lo H k=cM f (args++fE) lo H k:=rfl
theorem K8 {fv:Operand} {args:List Operand}:dU fl lo q (.callv fv args) ρ H k=RH (dW ρ fv) (args.map (dW ρ)) (if q then H.length else lo) H k:=by
 simp only[dU,RH]
 all_goals (cases dW ρ fv<;>rfl)
theorem Nl {x:Operand}:dU fl lo q (.b2s x) ρ H k=Ng (vop fl lo (.b2s x) ρ H) k:=rfl
theorem SJ {f:Value→Option Value} {x:Value}:Jy f (.sc x)=(f x).map .sc:=rfl
theorem TW {f:Value→Value→Option Value} {x y:Value}:FN f (.sc x) (.sc y)=(f x y).map .sc:=rfl
theorem P5 {t:Bool} {x y:VV}:Oe (.sc (.bool t)) x y=some (if t=true then x else y):=rfl
theorem Qf {vs:List VV} {i:Nat}:Ym i (.dS vs)=vs[i]? := rfl
theorem KW {es:List VV} {t:TK}:nR (.tree es t) H=some (.sc (.int .i64 es.length)):=rfl
theorem dR {b g o n c:Nat} {r:List VV×Nat×Bool} (h:aF H b g=some r):nR (.ref b g o n c) H=some (.sc (.int .i64 n)):=by
 simp only[nR,h,Option.map_some]
theorem O0 {x:VV} {o off:Nat}:FJ off (.dA x o) H=some (.dA x (o+off)):=rfl
theorem Wx {x:VV} {o:Nat}:UN (.dA x o) H=some (.dA x o):=rfl
theorem Nz {g:Bool} {size o:Nat} {x:VV}:cQ g size (.dA x o) H=dP g size x o:=rfl
theorem Mz {g:Bool} {size b gn j o:Nat} {es:List VV} {e:Nat} {w:Bool} {x:VV} (h:aF H b gn=some (es,e,w)) (hx:es[j]? = some x):cQ g size (.ptr b gn j o) H=dP g size x o:=by
 simp only[cQ,h,hx]
theorem Yw {size:Nat} {v:Value}:dP false size (.sc v) 0=some (.sc v):=rfl
theorem SM {size:Nat} {es:List VV} {t:TK}:dP false size (.tree es t) 0=some (.tree es t):=rfl
theorem W9 {size b g o n c:Nat}:dP false size (.ref b g o n c) 0=some (.ref b g o n c):=rfl
theorem X5 {size f:Nat} {fE:List VV}:dP false size (.sU f fE) 0=some (.sU f fE):=rfl
theorem gP {size o:Nat} {cs:List VV}:dP false size (.agg cs) o=cs[o]? := rfl
theorem Yr {size:Nat} {cs:List VV} (h:cs.length=size):dP true size (.agg cs) 0=some (.agg cs):=by
 subst h
 simp[dP,aB]
theorem Yi {size:Nat} {es:List VV} {t:TK} {kk:IntKind} {i:Int} {x:VV} (h0:0≤i) (hx:es[i.toNat]? = some x) (hs:(aB x).length=size):bJ size (.tree es t) (.sc (.int kk i)) H=some (.dA x 0):=by
 simp only[bJ,h0,hx,hs,if_true]
theorem Ve {size:Nat} {es:List VV} {t:TK} {kk:IntKind} {i:Nat} {x:VV} (hx:es[i]? = some x) (hs:(aB x).length=size):bJ size (.tree es t) (.sc (.int kk (i:Int))) H=some (.dA x 0) :=
 Yi (by omega) (by simpa using hx) hs
theorem WI {size b g o n c:Nat} {kk:IntKind} {i:Int} {es:List VV} {w:Bool} (h:aF H b g=some (es,size,w)) (h0:0≤i) (h1:i<n):bJ size (.ref b g o n c) (.sc (.int kk i)) H=some (.ptr b g (o+i.toNat) 0):=by
 simp only[bJ,h]
 rw[if_pos ⟨trivial,h0,h1⟩]
theorem Ux {size b g o n c:Nat} {kk:IntKind} {i:Nat} {es:List VV} {w:Bool} (h:aF H b g=some (es,size,w)) (h1:i<n):bJ size (.ref b g o n c) (.sc (.int kk (i:Int))) H=some (.ptr b g (o+i) 0):=by
 rw[WI h (by omega) (by omega),Int.toNat_natCast]
abbrev TC (f:Nat) (args:List VV) (r:VV):Prop:=∀(lo:Nat) (H:aA) (k:VV→aA→Prop),cM f args lo H k=k r H
theorem TC.of {f:Nat} {args:List VV} {r:VV} (hr:Au.contains f=false) (ha:aM args=true) (h:vT f args=some r):TC f args r:=by
 intro lo H k
 unfold cM Em
 simp only[hr,ha,if_true,h,Bool.false_eq_true,if_false,ZF]
theorem TC.walk {f:Nat} {pf:aT} {args:List VV} {r:VV} (fl:Fl) (ht:hC f=some pf) (hr:Au.contains f=false) (hn:args.length≤pf.ntmps) (ha:aM args=true) (Xe:gA r=true) (h:VW fl 0 pf.body (zW pf.res fun v H=>fz depth H v=some r) (G4 args) []):TC f args r :=
 TC.of hr ha (abX ha Xe (VT.walk fl ht hn h))
theorem TC.Fi {f:Nat} {args gR:List VV} {r:VV} (h:TC f gR r) (hr:Au.contains f=false) (ha':aM gR=true) (hf:args.mapM (fz depth H)=some gR) (ha:aM args=false):cM f args lo H k=if Ip r=true then k r H else k r (cS H (args.flatMap (hJ depth H))):=by
 have e:∀K,Em f gR K=K r:=fun K=>by
  have:=h 0 [] fun r _=>K r
  unfold cM at this
  simpa only[hr,ha',if_true,Bool.false_eq_true,if_false] using this
 unfold cM
 simp only[hr,ha,hf,Bool.false_eq_true,if_false]
 rw[e]
theorem aH {n:Nat} {v:VV} (h:aN v=true):fz (n+1) H v=some v:=by
 unfold PM.fz
 rw[if_pos h]
theorem aI {v:VV} (h:aN v=true):fz depth H v=some v:=aH h
theorem mapM_pure {n:Nat}:∀ {es:List VV},aM es=true→es.mapM (PM.fz (n+1) H)=some es
 | [],_=>rfl
 |
  x::xs,h=>by
  simp only[aM,Bool.and_eq_true] at h
  rw[List.mapM_cons,aH h.1,mapM_pure h.2]
  rfl
theorem DL {b g n c e:Nat} {es:List VV} {w:Bool} (h:aF H b g=some (es,e,w)) (hn:n=es.length) (hc:n≤c) (hp:aM es=true):fz depth H (.ref b g 0 n c)=some (.tree es .op):=by
 have:aN (.ref b g 0 n c)=false:=rfl
 show fz (7+1) H _=_
 unfold PM.fz
 simp only[this,h,Bool.false_eq_true,if_false]
 subst hn
 rw[if_pos ⟨by omega,hc⟩,List.drop_zero,List.take_length,mapM_pure hp]
 rfl
theorem DY {n:Nat} {v:VV} (h:aN v=true):hJ n H v=[]:=by
 cases n with
 | zero=>rfl
 | succ n=>unfold hJ;rw[if_pos h]
theorem Aa {n:Nat}:∀ {es:List VV},aM es=true→es.flatMap (hJ n H)=[]
 | [],_=>rfl
 |
  x::xs,h=>by
  simp only[aM,Bool.and_eq_true] at h
  rw[List.flatMap_cons,DY h.1,Aa h.2]
  rfl
theorem Lj {b g n c e:Nat} {es:List VV} {w:Bool} (h:aF H b g=some (es,e,w)) (hn:n=es.length) (hp:aM es=true):hJ depth H (.ref b g 0 n c)=[b]:=by
 have:aN (.ref b g 0 n c)=false:=rfl
 show hJ (7+1) H _=_
 unfold hJ
 simp only[this,h,Bool.false_eq_true,if_false]
 subst hn
 rw[List.drop_zero,List.take_length,Aa hp]
theorem SH {r:Option VV} {K K':VV→Prop} (hk:∀v,K v→K' v) (h:tk r K):tk r K':=by
 cases r with
 | none=>exact h
 | some v=>exact hk _ h
theorem Hs {f:Nat} {args:List VV} {k k':VV→aA→Prop} (hk:∀v H,k v H→k' v H) (h:cM f args lo H k):cM f args lo H k':=by
 unfold cM at h ⊢
 split at h
 ·rename_i h1
  rw[if_pos h1]
  exact h.mono hk
 ·rename_i h1
  rw[if_neg h1]
  split at h
  ·rename_i h2
   rw[if_pos h2]
   exact SH (fun v=>hk v H) h
  ·rename_i h2
   rw[if_neg h2]
   split at h
   ·refine SH (fun v hv => ?_) h
    split at hv
    ·rename_i h3;rw[if_pos h3];exact hk _ _ hv
    ·rename_i h3;rw[if_neg h3];exact hk _ _ hv
   ·cases h
theorem Rx {k k':VV→aA→Prop} (hk:∀v H,k v H→k' v H) (h:dU fl lo q op ρ H k):dU fl lo q op ρ H k':=by
 unfold dU at h ⊢
 split at h
 ·exact Hs hk h
 ·split at h
  ·exact Hs hk h
  ·cases h
 ·split at h
  ·exact hk _ _ h
  ·cases h
theorem MU {K K':dI→aA→Prop} (hk:∀ρ H,K ρ H→K' ρ H):∀ {is:List PI} {ρ:dI} {H:aA},VS fl lo is K ρ H→VS fl lo is K' ρ H
 | [],ρ,H,h=>hk _ _ h
 |
  i::is,ρ,H,h=>by
  unfold VS at h ⊢
  split at h
  ·cases h
  ·exact MU hk h
  ·exact⟨h.1,Rx (fun v H' hv=>MU hk hv) h.2⟩
theorem oE {K K':dI→aA→Prop} {Q Q':VQ} (hk:∀ρ H,K ρ H→K' ρ H) (hq:∀x ρ H,Q x ρ H→Q' x ρ H):∀x ρ H,lC K Q x ρ H→lC K' Q' x ρ H
 | .normal,ρ,H,h=>hk _ _ h
 | .exit _,ρ,H,h=>hq _ _ _ h
 | .ret,ρ,H,h=>hq _ _ _ h
theorem ZP {K K':dI→aA→Prop} (hk:∀ρ H,K ρ H→K' ρ H) (h:gh K ρ H):gh K' ρ H:=by
 obtain⟨ts,aS,H',h1,h2⟩:=h
 exact⟨ts,aS,H',h1,hk _ _ h2⟩
theorem tS:∀ {c:aE} {Q Q':VQ} {ρ:dI} {H:aA},(∀x ρ H,Q x ρ H→Q' x ρ H)→VW fl lo c Q ρ H→VW fl lo c Q' ρ H
 | .skip,_,_,_,_,hq,h=>hq _ _ _ h
 | .exit _,_,_,_,_,hq,h=>hq _ _ _ h
 | .ret,_,_,_,_,hq,h=>hq _ _ _ h
 | .eG _,_,_,_,_,hq,h=>MU (fun ρ H=>hq .normal ρ H) h
 | .seq a b,Q,Q',_,_,hq,h=>tS (c:=a) (oE (fun ρ H h=>tS (c:=b) hq h) hq) h
 |
  .cond c a b,Q,Q',ρ,H,hq,h=>by
  unfold VW at h ⊢
  split at h
  ·split at h
   ·rename_i h1;rw[if_pos h1];exact tS (c:=a) hq h
   ·rename_i h1;rw[if_neg h1];exact tS (c:=b) hq h
  ·cases h
 |
  .block i a,Q,Q',_,_,hq,h=>by
  refine tS (c:=a) (fun x ρ H hx => ?_) h
  cases x with
  | normal=>exact hq _ _ _ hx
  | ret=>exact hq _ _ _ hx
  |
   exit j =>
   rw[Bn] at hx ⊢
   split at hx
   ·rename_i h1;rw[if_pos h1];exact hq _ _ _ hx
   ·rename_i h1;rw[if_neg h1];exact hq _ _ _ hx
 |
  .loop a,Q,Q',ρ,H,hq,h=>by
  obtain⟨n,h⟩:=h
  refine⟨n,?_⟩
  induction n generalizing ρ H with
  | zero=>cases h
  |
   succ n ih =>
   refine tS (c:=a) (oE (fun ρ H h => ?_) fun x ρ H h=>ZP (hq x) h) h
   rcases h with h | ⟨h1,h2⟩
   ·exact .inl (ih _ _ h)
   ·exact .inr ⟨h1,ih _ _ h2⟩
theorem acB {K:dI→aA→Prop} (h:K ρ H):gh K ρ H:=⟨[],ρ,H,rfl,h⟩
theorem Ow {α:Type} {c:aE} (I:α→dI→aA→Prop) (μ:α→Nat) (s:α) (h0:I s ρ H)
  (round:∀s ρ H,I s ρ H→VW fl lo c (lC (fun aS H'=>∃s',μ s'<μ s∧(I s' aS H'∨(iL H.length (H'.take H.length)=true∧I s' (Gc H.length aS) (H'.take H.length)))) (fun x=>gh (Q x))) ρ H):VW fl lo (.loop c) Q ρ H:=by
 refine⟨μ s+1,?_⟩
 have key:∀n s ρ H,μ s<n→I s ρ H→P8 (VW fl lo c) (fun x=>gh (Q x)) n ρ H:=by
  intro n
  induction n with
  | zero=>intro s ρ H h;omega
  |
   succ n ih =>
   intro s ρ H hn hI
   refine tS (oE (fun aS H' h => ?_) fun x ρ H h=>h) (round s ρ H hI)
   obtain⟨s',h1,h2 | ⟨h2,h3⟩⟩:=h
   ·exact .inl (ih s' _ _ (by omega) h2)
   ·exact .inr ⟨h2,ih s' _ _ (by omega) h3⟩
 exact key _ s ρ H (Nat.lt_succ_self _) h0
theorem aR {α:Type} {c:aE} (I:α→dI→aA→Prop) (μ:α→Nat) (s:α) (h0:I s ρ H)
  (round:∀s ρ H,I s ρ H→VW fl lo c (lC (fun aS H'=>∃s',μ s'<μ s∧I s' aS H') Q) ρ H):VW fl lo (.loop c) Q ρ H :=
 Ow I μ s h0 fun s ρ H h=>tS (oE (fun _ _ ⟨s',h1,h2⟩=>⟨s',h1,.inl h2⟩) fun _ _ _ h=>acB h) (round s ρ H h)
theorem Jc {α:Type} {c:aE} (I:α→dI→aA→Prop) (μ:α→Nat) (s:α) (h0:I s ρ H)
  (round:∀s ρ H,I s ρ H→VW fl lo c (lC (fun aS H'=>∃s',μ s'<μ s∧iL H.length (H'.take H.length)=true∧I s' (Gc H.length aS) (H'.take H.length)) Q) ρ H):VW fl lo (.loop c) Q ρ H :=
 Ow I μ s h0 fun s ρ H h=>tS (oE (fun _ _ ⟨s',h1,h2⟩=>⟨s',h1,.inr h2⟩) fun _ _ _ h=>acB h) (round s ρ H h)
theorem Ji {n:Nat} {v:VV} (h:below n v=true):GC n v=v:=by
 unfold GC
 rw[if_pos h]
mutual
theorem DP {n:Nat} (v:VV) (h:aN v=true):below n v=true:=by
 cases v with
 | any=>rfl
 | sc=>rfl
 | agg cs=>exact kP cs h
 | dS cs=>exact kP cs h
 | tree es t=>exact kP es (FI h).2.1
 | dA x o=>exact DP x h
 | ref=>cases h
 | ptr=>cases h
 | sU f fE=>exact kP fE h
theorem kP {n:Nat} (vs:List VV) (h:aM vs=true):kH n vs=true:=by
 cases vs with
 | nil=>rfl
 |
  cons x xs =>
  simp only[aM,Bool.and_eq_true] at h
  simp only[kH,DP x h.1,kP xs h.2,Bool.and_self]
end
end
end Go.PM
namespace Go.PM
def val (b:Nat):List Nat→Nat
 | []=>0
 | d::ds=>d+b*val b ds
def aC (b n:Nat):List Nat:=if h:n=0∨b<2 then [] else n % b::aC b (n / b)
termination_by n
decreasing_by exact Nat.div_lt_self (by omega) (by omega)
section
variable {b:Nat}
theorem bS:aC b 0=[]:=by rw[aC];simp
theorem iE (hb:2≤b) {n:Nat} (hn:n≠0):aC b n=n % b::aC b (n / b):=by rw[aC,dif_neg (by omega)]
theorem pV {d:Nat} {ds:List Nat}:val b (d::ds)=d+b*val b ds:=rfl
theorem vV (xs ys:List Nat):val b (xs++ys)=val b xs+b^xs.length*val b ys:=by
 induction xs with
 | nil=>simp[val]
 |
  cons x xs ih =>
  simp only[List.cons_append,pV,ih,List.length_cons,Nat.pow_succ]
  rw[Nat.mul_add,Nat.mul_comm (b^xs.length) b,Nat.mul_assoc,Nat.add_assoc]
theorem val_one (d:Nat):val b [d]=d:=by simp[val]
theorem sJ (xs:List Nat) (d:Nat):val b (xs++[d])=val b xs+b^xs.length*d:=by rw[vV,val_one]
theorem uQ (n:Nat):val b (List.replicate n 0)=0:=by
 induction n with
 | zero=>rfl
 | succ n ih=>simp[List.replicate_succ,val,ih]
theorem oQ {xs:List Nat} (h:∀d∈xs,d<b):val b xs<b^xs.length:=by
 induction xs with
 | nil=>simp[val]
 |
  cons x xs ih =>
  have h1:=h x List.mem_cons_self
  have h2:=ih fun d hd=>h d (List.mem_cons_of_mem _ hd)
  simp only[pV,List.length_cons,Nat.pow_succ]
  have h3:b*(val b xs+1)≤b*b^xs.length:=Nat.mul_le_mul_left _ h2
  rw[Nat.mul_add,Nat.mul_one] at h3
  rw[Nat.mul_comm (b^xs.length) b]
  omega
theorem cO (hb:2≤b) (n:Nat):val b (aC b n)=n:=by
 induction n using Nat.strongRecOn with
 |
  _ n ih =>
  by_cases h:n=0
  ·subst h;rw[bS];rfl
  ·rw[iE hb h,pV,ih _ (Nat.div_lt_self (by omega) (by omega))]
   exact Nat.mod_add_div n b
theorem gL (hb:2≤b) (n:Nat):∀d∈aC b n,d<b:=by
 induction n using Nat.strongRecOn with
 |
  _ n ih =>
  by_cases h:n=0
  ·subst h;rw[bS];intro d hd;cases hd
  ·rw[iE hb h]
   intro d hd
   rcases List.mem_cons.1 hd with rfl | hd
   ·exact Nat.mod_lt _ (by omega)
   ·exact ih _ (Nat.div_lt_self (by omega) (by omega)) d hd
theorem kD (hb:2≤b) {n:Nat}:aC b n=[]↔n=0:=by
 constructor
 ·intro h
  have:=cO hb n
  rw[h] at this
  exact this.symm
 ·rintro rfl;exact bS
theorem L4 (hb:2≤b) (n:Nat):(aC b n).getLast? ≠ some 0:=by
 induction n using Nat.strongRecOn with
 |
  _ n ih =>
  by_cases h:n=0
  ·subst h;rw[bS];simp
  ·rw[iE hb h]
   have h1:=ih _ (Nat.div_lt_self (n:=n) (k:=b) (by omega) (by omega))
   by_cases h2:n / b=0
   ·rw[h2,bS]
    have:n<b:=by
     rcases Nat.div_eq_zero_iff.1 h2 with h | h<;>omega
    simp[Nat.mod_eq_of_lt this,h]
   ·have eV:aC b (n / b)≠[]:=fun h=>h2 ((kD hb).1 h)
    obtain⟨x,xs,hx⟩:=List.exists_cons_of_ne_nil eV
    rw[hx] at h1 ⊢
    rw[List.getLast?_cons_cons]
    exact h1
theorem JB (hb:2≤b) {xs:List Nat} (h:∀d∈xs,d<b) (hl:xs.getLast? ≠ some 0):aC b (val b xs)=xs:=by
 induction xs with
 | nil=>exact bS
 |
  cons x xs ih =>
  have h1:=h x List.mem_cons_self
  have hr:(x+b*val b xs) % b=x:=by rw[Nat.add_mul_mod_self_left,Nat.mod_eq_of_lt h1]
  have hq:(x+b*val b xs) / b=val b xs:=by rw[Nat.add_mul_div_left _ _ (by omega),Nat.div_eq_of_lt h1,Nat.zero_add]
  cases xs with
  |
   nil =>
   have hx:x≠0:=by rintro rfl;simp at hl
   rw[val_one,iE hb hx,Nat.mod_eq_of_lt h1,Nat.div_eq_of_lt h1,bS]
  |
   cons y ys =>
   rw[List.getLast?_cons_cons] at hl
   have h2:=ih (fun d hd=>h d (List.mem_cons_of_mem _ hd)) hl
   have h3:val b (y::ys)≠0:=fun h0=>by rw[h0,bS] at h2;cases h2
   have h4:b*val b (y::ys)≠0:=Nat.mul_ne_zero (by omega) h3
   rw[pV,iE hb (by omega),hr,hq,h2]
theorem Ia (hb:2≤b) {n:Nat} (hn:n≠0):b^((aC b n).length-1)≤n:=by
 induction n using Nat.strongRecOn with
 |
  _ n ih =>
  rw[iE hb hn]
  by_cases h2:n / b=0
  ·rw[h2,bS];simp;omega
  ·have h3:=ih _ (Nat.div_lt_self (by omega) (by omega)) h2
   have eV:aC b (n / b)≠[]:=fun h=>h2 ((kD hb).1 h)
   obtain⟨x,xs,hx⟩:=List.exists_cons_of_ne_nil eV
   rw[hx] at h3 ⊢
   simp only[List.length_cons,Nat.add_sub_cancel] at h3 ⊢
   rw[Nat.pow_succ]
   calc b^xs.length*b≤n / b*b:=Nat.mul_le_mul_right _ h3
    _≤n:=Nat.div_mul_le_self n b
theorem iK (hb:2≤b) (n:Nat):n<b^(aC b n).length:=by
 have:=oQ (gL hb n)
 rwa [cO hb] at this
theorem mT (hb:2≤b) {n k:Nat} (h:n<b^k):(aC b n).length≤k:=by
 by_cases hn:n=0
 ·subst hn;rw[bS];simp
 ·have h1:=Ia hb hn
  have h2:b^((aC b n).length-1)<b^k:=Nat.lt_of_le_of_lt h1 h
  have h3:(aC b n).length-1<k:=(Nat.pow_lt_pow_iff_right (by omega)).1 h2
  have eV:aC b n≠[]:=fun h=>hn ((kD hb).1 h)
  have:=List.length_pos_iff.2 eV
  omega
theorem fG (hb:2≤b) {m n:Nat} (h:m≤n):(aC b m).length≤(aC b n).length :=
 mT hb (Nat.lt_of_le_of_lt h (iK hb n))
theorem nL (xs:List Nat) (i:Nat):val b xs=val b (xs.take i)+b^(xs.take i).length*val b (xs.drop i):=by
 rw[←vV,List.take_append_drop]
theorem bI {xs:List Nat} {i d:Nat} (h:xs[i]? = some d):val b (xs.take (i+1))=val b (xs.take i)+b^i*d:=by
 have aU:=(List.getElem?_eq_some_iff.1 h).1
 rw[List.take_add_one,h]
 simp only[Option.toList_some]
 rw[sJ,List.length_take,Nat.min_eq_left (by omega)]
theorem qE {xs:List Nat} {i d:Nat} (h:xs[i]? = some d):val b (xs.drop i)=d+b*val b (xs.drop (i+1)):=by
 obtain⟨aU,he⟩:=List.getElem?_eq_some_iff.1 h
 rw[List.drop_eq_getElem_cons aU,he,pV]
theorem DQ {P A B O c x y s q r W:Nat} (h:A+B=O+P*c) (hs:c+x+y=s) (hr:r+W*q=s):(A+P*x)+(B+P*y)=(O+P*r)+(P*W)*q:=by grind
theorem Xf {xs:List Nat} {i d:Nat} (h:i<xs.length):(xs.set i d).take (i+1)=xs.take i++[d]:=by
 rw[List.set_eq_take_append_cons_drop,if_pos h,List.take_append]
 simp[List.take_take,Nat.min_eq_left (by omega:i≤xs.length),Nat.min_eq_right (by omega:i≤i+1)]
theorem gK {xs:List Nat} {i d:Nat} (h:i<xs.length):val b ((xs.set i d).take (i+1))=val b (xs.take i)+b^i*d:=by
 rw[Xf h,sJ,List.length_take,Nat.min_eq_left (by omega)]
theorem mJ {xs:List Nat} {i d:Nat} (h:∀x∈xs,x<b) (hd:d<b):∀x∈xs.set i d,x<b:=by
 intro x hx
 rcases List.mem_or_eq_of_mem_set hx with h1 | h1
 ·exact h x h1
 ·subst h1;exact hd
theorem pH {xs:List Nat} {i:Nat} (h:xs.length≤i):val b (xs.take i)=val b xs:=by rw[List.take_of_length_le h]
theorem Bh (hb:0<b) (n:Nat):∀x∈List.replicate n 0,x<b:=by
 intro x hx
 rw[List.eq_of_mem_replicate hx]
 exact hb
theorem U1 {P x y R t:Nat} (ht:t<P) (h:x<y):t+P*(x+R)<P*(y+R):=by
 have h1:P*(x+R+1)≤P*(y+R):=Nat.mul_le_mul_left _ (by omega)
 rw[Nat.mul_add,Nat.mul_one] at h1
 omega
theorem Cn {xs ys:List Nat} {i x y:Nat} (hx:∀d∈xs,d<b) (hl:xs.length=ys.length) (hi:xs[i]? = some x) (hj:ys[i]? = some y) (hd:xs.drop (i+1)=ys.drop (i+1)) (h:x<y):val b xs<val b ys:=by
 have h1:=(List.getElem?_eq_some_iff.1 hi).1
 have ht:(xs.take i).length=i:=by simp;omega
 have ZI:(ys.take i).length=i:=by simp;omega
 have h2:=oQ (b:=b) (xs:=xs.take i) fun d hd=>hx d (List.mem_of_mem_take hd)
 rw[ht] at h2
 rw[nL xs i,nL ys i,ht,ZI,qE hi,qE hj,hd]
 have:=U1 (R:=b*val b (ys.drop (i+1))) h2 h
 omega
theorem Oy (hb:2≤b) {m n:Nat} (h:aC b m=aC b n):m=n:=by
 have:=congrArg (val b) h
 rwa [cO hb,cO hb] at this
def lF (a b:Nat):Int:=if a<b then -1 else if a=b then 0 else 1
theorem CC (hb:2≤b) {m n:Nat} (h:(aC b m).length<(aC b n).length):m<n:=by
 rcases Nat.lt_or_ge m n with h1 | h1
 ·exact h1
 ·have:=fG hb h1
  omega
end
end Go.PM
namespace Go.PM
abbrev VI (n:Int):VV := .sc (.int .i64 n)
abbrev VK (k:IntKind) (n:Int):VV := .sc (.int k n)
abbrev VB (t:Bool):VV := .sc (.bool t)
abbrev bH {α:Type} (f:α→VV) (xs:List α):VV := .tree (xs.map f) .op
section
variable {α:Type} {f:α→VV} {xs ys:List α} {x:α} {t:TK} {H:aA} {size i:Nat} {k:IntKind}
theorem fI:nR (.tree (xs.map f) t) H=some (VI xs.length):=by simp[nR]
theorem aJ (hx:xs[i]? = some x) (hs:(aB (f x)).length=size):bJ size (.tree (xs.map f) t) (VK k (i:Int)) H=some (.dA (f x) 0) :=
 Ve (by simp[hx]) hs
theorem Ql (hs:∀x,(aB (f x)).length=size):∀y∈xs.map f,(aB y).length=size:=by
 intro y hy
 obtain⟨x,_,rfl⟩:=List.mem_map.1 hy
 exact hs x
theorem eH (hp:∀x,aN (f x)=true):aM (xs.map f)=true:=by
 rw[yN]
 intro y hy
 obtain⟨x,_,rfl⟩:=List.mem_map.1 hy
 exact hp x
theorem ZN (hp:∀x,gA (f x)=true):oS (xs.map f)=true:=by
 rw[IT]
 intro y hy
 obtain⟨x,_,rfl⟩:=List.mem_map.1 hy
 exact hp x
theorem Tm {size:Nat} (hs:∀x,(aB (f x)).length=size):uni (xs.map f)=true:=by
 cases xs with
 | nil=>rfl
 |
  cons x xs =>
  simp only[List.map_cons,uni,List.all_eq_true]
  intro y hy
  obtain⟨z,_,rfl⟩:=List.mem_map.1 hy
  simp[hs]
theorem jH {size:Nat} (hs:∀x,(aB (f x)).length=size) (hp:∀x,aN (f x)=true):aN (bH f xs)=true:=by
 simp only[bH,aN,eH hp,Tm hs,decide_true,Bool.and_self]
theorem BZ {size:Nat} (hs:∀x,(aB (f x)).length=size) (hp:∀x,gA (f x)=true) (he:∀x,yB (f x)=true):gA (bH f xs)=true:=by
 have h4:(xs.map f).all yB=true:=by
  rw[List.all_eq_true]
  intro y hy
  obtain⟨z,_,rfl⟩:=List.mem_map.1 hy
  exact he z
 simp only[bH,gA,ZN hp,Tm hs,h4,decide_true,Bool.and_self]
theorem aaK {es:List VV} {h:Nat} (eV:0<es.length) (hs:∀x∈es,(aB x).length=size) (hh:h≤es.length) {k2:IntKind} :
  CW size (.tree es t) none (some (VK k2 h)) none H=some (.tree (es.take h) .op):=by
 cases es with
 | nil=>simp at eV
 |
  cons y ys =>
  have hy:=hs y List.mem_cons_self
  simp only[List.length_cons] at hh
  have e1:(0:Int)≤h∧(h:Int)≤((ys.length+1:Nat):Int):=by omega
  simp only[CW,D5,hy,if_true,eA,e1,Int.toNat_natCast,Option.isSome_none,Bool.false_eq_true,false_and,if_false]
  simp
theorem Oc (h:0<xs.length):0<(xs.map f).length:=by simpa using h
theorem Xx {b g o n c:Nat} {es:List VV} {w:Bool} {l h:Nat} (hr:aF H b g=some (es,size,w)) (hl:l≤h) (hh:h≤c) {k1 k2:IntKind} :
  CW size (.ref b g o n c) (some (VK k1 l)) (some (VK k2 h)) none H=some (.ref b g (o+l) (h-l) (c-l)):=by
 have e1:(0:Int)≤h∧(h:Int)≤(c:Int):=by omega
 have e2:(0:Int)≤l∧(l:Int)≤(h:Int):=by omega
 simp only[CW,D5,hr,if_true,eA,e1,e2,Int.toNat_natCast,Option.isSome_none,Bool.false_eq_true,false_and,if_false]
 simp[hl]
theorem sM {b g o n c:Nat} {es:List VV} {w:Bool} {h:Nat} (hr:aF H b g=some (es,size,w)) (hh:h≤c) {k2:IntKind} :
  CW size (.ref b g o n c) none (some (VK k2 h)) none H=some (.ref b g o h c):=by
 have e1:(0:Int)≤h∧(h:Int)≤(c:Int):=by omega
 simp only[CW,D5,hr,if_true,eA,e1,Int.toNat_natCast,Option.isSome_none,Bool.false_eq_true,false_and,if_false]
 simp
theorem Ko {b g o n c:Nat} {es:List VV} {w:Bool} {l:Nat} (hr:aF H b g=some (es,size,w)) (hl:l≤n) (hn:n≤c) {k1:IntKind} :
  CW size (.ref b g o n c) (some (VK k1 l)) none none H=some (.ref b g (o+l) (n-l) (c-l)):=by
 have e2:(0:Int)≤l∧(l:Int)≤(n:Int):=by omega
 simp only[CW,D5,hr,if_true,eA,e2,Int.toNat_natCast,Option.isSome_none,Bool.false_eq_true,false_and,if_false]
 simp
theorem G1 {h:Nat} (hs:∀x,(aB (f x)).length=size) (eV:0<xs.length) (hh:h≤xs.length) {k2:IntKind} :
  CW size (.tree (xs.map f) t) none (some (VK k2 h)) none H=some (bH f (xs.take h)):=by
 rw[aaK (Oc eV) (Ql hs) (by simpa using hh)]
 simp[bH]
theorem N0 {b g e:Nat} {es:List VV} {w:Bool} {L K:aA} (h:b=L.length):aF (L ++ .row g es e w::K) b g=some (es,e,w):=by
 subst h
 simp[aF]
theorem aV {g e:Nat} {es:List VV} {w:Bool} {K:aA}:aF (.row g es e w::K) 0 g=some (es,e,w):=by simp[aF]
theorem pJ {n:Nat}:(n=n+1)=False:=eq_false fun h=>by omega
theorem YZ {g g' e:Nat} {es:List VV} {w:Bool} {K:aA} (h:g'≠g):aF (.row g' es e w::K) 0 g=none:=by simp[aF,h]
theorem mP {g e:Nat} {es:List VV} {w:Bool} {K:aA}:aF (.row (g+1) es e w::K) 0 g=none:=YZ (Nat.succ_ne_self g)
theorem zF {b g:Nat} {x:bM} {K:aA}:aF (x::K) (b+1) g=aF K b g:=by simp[aF]
theorem aP {b g o n c e:Nat} {es:List VV} {w:Bool} (h:aF H b g=some (es,e,w)) (hi:i<n):bJ e (.ref b g o n c) (VK k (i:Int)) H=some (.ptr b g (o+i) 0):=Ux h hi
theorem dG {b g j e lo:Nat} {es:List VV} {v:VV} (h:aF H b g=some (es,e,true)) (hj:j<es.length) (eI:lo≤b) (hv:(aB v).length=e) (hs:(aB v).all aZ=true):bX lo e (.ptr b g j 0) v H=some (H.set b (.row g (es.set j v) e true)):=by
 obtain⟨x,hx⟩:∃x,es[j]? = some x:=⟨_,List.getElem?_eq_getElem hj⟩
 simp only[bX,h,hx]
 rw[if_pos ⟨hv,eI,hs⟩,if_pos ⟨trivial,trivial⟩]
theorem pG {z:List Value} {bytes n:Nat} (hz:elemOf (z.map iO)=f x) (hn:n*bytes≤281474976710656) (hm:n≤9223372036854775807):yY z bytes (VI n) (VI n) H=some (.ref H.length 0 0 n n,H++[.row 0 ((List.replicate n x).map f) z.length true]):=by
 simp only[yY]
 rw[if_pos ⟨by omega,by omega,by omega,by omega⟩,hz]
 simp
theorem pI {ag w:Bool} {b gn e j o:Nat} (h:aF H b gn=some (xs.map f,e,w)) (hx:xs[j]? = some x):cQ ag size (.ptr b gn j o) H=dP ag size (f x) o :=
 Mz h (by simp[hx])
theorem dF {b g j e lo:Nat} (h:aF H b g=some (xs.map f,e,true)) (hj:j<xs.length) (eI:lo≤b) (hv:(aB (f x)).length=e) (hs:(aB (f x)).all aZ=true):bX lo e (.ptr b g j 0) (f x) H=some (H.set b (.row g ((xs.set j x).map f) e true)):=by
 rw[dG h (by simpa using hj) eI hv hs,List.map_set]
theorem Ni {b gn n c e:Nat} {es:List VV} {w:Bool} (h:aF H b gn=some (es,e,w)) (hn:n≤es.length) (hc:n≤c) (hp:aM es=true):fz depth H (.ref b gn 0 n c)=some (.tree (es.take n) .op):=by
 have:aN (.ref b gn 0 n c)=false:=rfl
 show fz (7+1) H _=_
 unfold fz
 simp only[this,h,Bool.false_eq_true,if_false]
 have Bs:aM (es.take n)=true:=yN.2 fun x hx=>yN.1 hp x (List.mem_of_mem_take hx)
 rw[if_pos ⟨by omega,hc⟩,List.drop_zero,mapM_pure Bs]
 rfl
theorem TC.flat {fn:Nat} {args gR:List VV} {r:VV} (h:TC fn gR r) (rH:Au.contains fn=false) (ha':aM gR=true) (hf:args.mapM (fz depth H)=some gR) (hr:Ip r=true) :
  ∀(lo:Nat) (K:VV→aA→Prop),cM fn args lo H K=K r H:=by
 intro lo K
 cases hp:aM args with
 |
  true =>
  have:=mapM_pure (n:=7) (H:=H) hp
  rw[show fz depth H=fz (7+1) H from rfl,this] at hf
  cases hf
  exact h lo H K
 | false=>rw[h.Fi rH ha' hf hp,hr,if_pos rfl]
theorem Pj {v v':VV} (h:fz depth H v=some v'):[v].mapM (fz depth H)=some [v']:=by rw[List.mapM_cons,h];rfl
theorem fz2 {v v' u u':VV} (h:fz depth H v=some v') (hu:fz depth H u=some u'):[v,u].mapM (fz depth H)=some [v',u']:=by rw[List.mapM_cons,h,Pj hu];rfl
theorem TC.abQ {fn b gn n c e size:Nat} {w:Bool} {r:VV} (h:TC fn [bH f xs] r) (hr:aF H b gn=some (xs.map f,e,w)) (hn:n=xs.length) (hc:n≤c) (hs:∀x,(aB (f x)).length=size) (hp:∀x,aN (f x)=true) (rH:Au.contains fn=false) (hf:Ip r=false) :
  ∀(lo:Nat) (K:VV→aA→Prop),cM fn [.ref b gn 0 n c] lo H K=K r (cS H [b]):=by
 intro lo K
 have e1:fz depth H (.ref b gn 0 n c)=some (bH f xs):=DL hr (by simpa using hn) hc (eH hp)
 have e2:hJ depth H (.ref b gn 0 n c)=[b]:=Lj hr (by simpa using hn) (eH hp)
 have e3:[VV.ref b gn 0 n c].mapM (fz depth H)=some [bH f xs]:=by rw[List.mapM_cons,e1];rfl
 rw[h.Fi rH (by simp only[aM,jH hs hp,Bool.and_self]) e3 rfl,hf]
 simp only[Bool.false_eq_true,if_false,List.flatMap_cons,List.flatMap_nil,e2,List.append_nil]
theorem acL {es:List VV} {e:Nat} (hp:aM es=true):fz depth H (.tree es (.cl e))=some (.tree es .op):=by
 show fz (7+1) H _=_
 unfold fz
 have:aN (.tree es (.cl e))=false:=by simp[aN]
 simp only[this,Bool.false_eq_true,if_false,mapM_pure hp]
 rfl
theorem XD {es:List VV} {e:Nat} (hp:aM es=true):hJ depth H (.tree es (.cl e))=[]:=by
 show hJ (7+1) H _=_
 unfold hJ
 have:aN (.tree es (.cl e))=false:=by simp[aN]
 simp only[this,Bool.false_eq_true,if_false,Aa hp]
theorem IP:fz depth H (.tree [] .nil)=some (.tree [] .op):=by
 show fz (7+1) H _=_
 unfold fz
 have:aN (.tree [] .nil)=false:=by simp[aN]
 simp only[this,Bool.false_eq_true,if_false]
 rfl
theorem TC.args {fn:Nat} {args gR:List VV} {r:VV} (h:TC fn gR r) (rH:Au.contains fn=false) (ha':aM gR=true) (hf:args.mapM (fz depth H)=some gR) (hi:args.flatMap (hJ depth H)=[]) :
  ∀(lo:Nat) (K:VV→aA→Prop),cM fn args lo H K=K r H:=by
 intro lo K
 cases hp:aM args with
 |
  true =>
  have:=mapM_pure (n:=7) (H:=H) hp
  rw[show fz depth H=fz (7+1) H from rfl,this] at hf
  cases hf
  exact h lo H K
 |
  false =>
  rw[h.Fi rH ha' hf hp,hi]
  split<;>rfl
theorem iS {lr:Bool} {z:List Value} (hz:(z.map iO).all aZ=true):jX lr z 0 [] H=some (.ref H.length 0 0 0 0,H++[.row 0 [] z.length true]):=by
 simp[jX,tP,hz]
theorem fY {z:List Value} {v:VV} (hz:(z.map iO).all aZ=true) (hv:(aB v).length=z.length) (hs:(aB v).all aZ=true):jX false z 1 [(0,v)] H=some (.tree [v] (.cl z.length),H):=by
 simp only[jX,tP,List.replicate_succ,List.replicate_zero,List.length_cons,List.length_nil,hv,hs,and_self,if_true,List.set_cons_zero,hz]
 simp[hs]
theorem Wh {z:List Value} {u v:VV} (hz:(z.map iO).all aZ=true) (hu:(aB u).length=z.length) (hus:(aB u).all aZ=true) (hv:(aB v).length=z.length) (hs:(aB v).all aZ=true):jX false z 2 [(0,u),(1,v)] H=some (.tree [u,v] (.cl z.length),H):=by
 simp[jX,tP,hv,hs,hu,hus,hz,List.replicate_succ]
end
theorem wrap32 (n:Nat):IntKind.u32.wrap (n:Int)=((n % 4294967296:Nat):Int):=by rw[IntKind.wrap_u32];omega
theorem wrap_u64 (n:Int):IntKind.u64.wrap n=n % 18446744073709551616:=by simp[IntKind.wrap,IntKind.bits,IntKind.signed]
theorem dQ (n:Nat) (h:n<18446744073709551616):IntKind.u64.wrap (n:Int)=(n:Int):=by rw[wrap_u64];omega
theorem wrapN {x:Int} (n:Nat) (h:x=n) (hn:n≤9223372036854775807):IntKind.i64.wrap x=(n:Int):=by subst h;exact wrap64 (by omega) (by omega)
theorem lS (n:Nat) (k:IntKind):cV .shr (.int .u64 (n:Int)) (.int k 32)=some (.int .u64 ((n / 4294967296:Nat):Int)):=by
 simp only[cV]
 have h1:¬((32:Int)<0):=by decide
 have h2:Nat.min (Int.toNat 32) IntKind.u64.bits=32:=by decide
 rw[if_neg h1,h2]
 congr 2
 rw[Int.fdiv_eq_ediv_of_nonneg _ (by decide)]
 omega
theorem Cz (n:Nat) (k:IntKind) (h:n<4294967296):cV .shl (.int .u64 (n:Int)) (.int k 32)=some (.int .u64 ((n*4294967296:Nat):Int)):=by
 simp only[cV]
 have h1:¬((32:Int)<0):=by decide
 have h2:Nat.min (Int.toNat 32) IntKind.u64.bits=32:=by decide
 rw[if_neg h1,h2]
 congr 2
 have:(n:Int)*2^32=((n*4294967296:Nat):Int):=by omega
 rw[this]
 exact dQ _ (by omega)
section
variable {n k g:Nat} {K:aA} {x y:bM}
theorem tU:aF (List.replicate n bM.dead++K) n g=aF K 0 g:=by
 unfold aF
 rw[List.getElem?_append_right (by simp)]
 simp
theorem TB:aF (List.replicate n bM.dead++K) (n+k) g=aF K k g:=by
 unfold aF
 rw[List.getElem?_append_right (by simp)]
 simp
theorem Cd:(List.replicate n bM.dead++K).set n y=List.replicate n bM.dead++K.set 0 y:=by
 rw[List.set_append_right _ _ (by simp)]
 simp
theorem agX:(List.replicate n bM.dead++K).set (n+k) y=List.replicate n bM.dead++K.set k y:=by
 rw[List.set_append_right _ _ (by simp)]
 simp
theorem C5:(List.replicate n bM.dead++K).length=n+K.length:=by simp
theorem abC:iL k (List.replicate n bM.dead++K)=iL k K:=by
 induction n with
 | zero=>rfl
 | succ n ih=>rw[List.replicate_succ,List.cons_append,←ih];rfl
end
theorem zR {k g e:Nat} {es:List VV} {w:Bool} {K:aA} (h:kH k es=true):iL k (.row g es e w::K)=iL k K:=by
 unfold iL
 rw[List.all_cons]
 simp only[h,Bool.true_and]
theorem Gd {k:Nat}:iL k []=true:=rfl
theorem eO {size:Nat} {v:VV} {t:TK} {H:aA} (h:(aB v).length=size) (hs:(aB v).all aZ=true):cN size (.tree [v] t) H=some [v]:=by
 simp[cN,h,hs]
theorem iI {α:Type} {f:α→VV} {xs:List α} {x:α} {lo b g n e bytes:Nat} {H:aA} (h:aF H b g=some (xs.map f,e,true)) (hn:n=xs.length) (eI:lo≤b) (he:1≤e) (hb:1≤bytes) (Bf:(n+1)*bytes≤140737488355328) :
  eK lo e bytes (.ref b g 0 n n) [f x] H=some (.ref b (g+1) 0 (n+1) (n+1),H.set b (.row (g+1) ((xs++[x]).map f) e true)):=by
 subst hn
 simp only[eK,h,List.length_cons,List.length_nil,Nat.zero_add]
 rw[if_pos ⟨hb,he⟩,if_pos ⟨trivial,eI,by simp⟩,if_neg (by omega),if_pos Bf,List.drop_zero,List.take_of_length_le (by simp)]
 simp
section
variable {H:aA} {b g o n c j lo size:Nat} {neg ag:Bool} {k:IntKind} {i:Int} {v:VV}
theorem cG:cQ ag size (.ptr b g j o) H=(match aF H b g with
 |
  some (es,_,_)=>match es[j]? with
  | some x=>dP ag size x o
  | none=>none
 | none=>none):=rfl
theorem Bu:bX lo size (.ptr b g j o) v H=(match aF H b g with
 |
  some (es,e,true)=>match es[j]? with
  |
   some x =>
   if (aB v).length=size∧lo≤b∧(aB v).all aZ then
    if o=0∧size=e then some (H.set b (.row g (es.set j v) e true))
    else if 2≤e∧o+size≤e then some (H.set b (.row g (es.set j (.agg (cP (aB x) o (aB v)))) e true))
    else none
   else none
  | none=>none
 | _=>none):=rfl
theorem L7:nR (.ref b g o n c) H=(aF H b g).map fun _ => .sc (.int .i64 n):=rfl
theorem jN:FJ size (.ptr b g j o) H=(aF H b g).map fun _ => .ptr b g j (o+size):=rfl
theorem Lp:UN (.ptr b g j o) H=(aF H b g).map fun _ => .ptr b g j o:=rfl
theorem GN:DW neg (.ref b g o n c) H=(aF H b g).map fun _ => .sc (.bool (false != neg)):=rfl
theorem JX:DW neg (.tree [] .nil) H=some (.sc (.bool (true != neg))):=rfl
theorem Hn {x:VV} {xs:List VV} {t:TK}:DW neg (.tree (x::xs) t) H=some (.sc (.bool (false != neg))):=rfl
theorem Hl:bJ size (.ref b g o n c) (.sc (.int k i)) H=(match aF H b g with
 | some (_,e,_)=>if e=size∧0≤i∧i<n then some (.ptr b g (o+i.toNat) 0) else none
 | none=>none):=rfl
end
theorem E7 {v:Value}:isAny (.sc v)=false:=rfl
theorem Ao {es:List VV} {t:TK}:isAny (.tree es t)=false:=rfl
theorem Ci {b g o n c:Nat}:isAny (.ref b g o n c)=false:=rfl
theorem Cr {cs:List VV}:isAny (.agg cs)=false:=rfl
theorem Mq {f:Nat} {cs:List VV}:isAny (.sU f cs)=false:=rfl
theorem rG {x:VV}:elemOf [x]=x:=rfl
theorem vA {x y:VV} {cs:List VV}:elemOf (x::y::cs) = .agg (x::y::cs):=rfl
theorem rW {k t:Nat} {ρ:dI}:Gc k ρ t=GC k (ρ t):=rfl
theorem I2 {k:Nat} {v:Value}:GC k (.sc v) = .sc v:=rfl
theorem yS {k:Nat} {v:VV} (h:aN v=true):GC k v=v:=Ji (DP v h)
theorem Gk {k b g o n c:Nat} (h:b<k):GC k (.ref b g o n c) = .ref b g o n c:=Ji (by simp[below,h])
theorem O4 {v:Value}:aZ (.sc v)=true:=rfl
theorem JU {es:List VV} {t:TK}:aZ (.tree es t)=true:=rfl
theorem Lr {b g o n c:Nat}:aZ (.ref b g o n c)=true:=rfl
theorem K0 {b g o n:Nat}:aZ (.ptr b g o n)=true:=rfl
theorem I8 {x:VV} {o:Nat}:aZ (.dA x o)=true:=rfl
theorem KX {f:Nat} {cs:List VV}:aZ (.sU f cs)=true:=rfl
theorem Mm {v:Value}:aB (.sc v)=[.sc v]:=rfl
theorem DH {cs:List VV}:aB (.agg cs)=cs:=rfl
theorem Hb {es:List VV} {t:TK}:aB (.tree es t)=[.tree es t]:=rfl
theorem IM {b g o n c:Nat}:aB (.ref b g o n c)=[.ref b g o n c]:=rfl
theorem PS {k k':IntKind} {n:Int}:Rf k (.int k' n)=some (.int k (k.wrap n)):=rfl
theorem Lg {args:List VV} {t:Nat}:G4 args t=args.getD t nS:=rfl
theorem aiR {n:Nat}:LT n = .tmp n:=rfl
theorem anC {n:Int}:LI n = .const (.int .i64 n):=rfl
theorem ajO:LG = .const (.bool true):=rfl
theorem akM:LF = .const (.bool false):=rfl
theorem akY {n:Nat}:LL n = .load false 1 (.tmp n):=rfl
theorem akQ {n:Nat}:LK n = .load true 3 (.tmp n):=rfl
theorem ajP {n k:Nat}:LX n k = .ext (.tmp n) k:=rfl
theorem akP {k n:Nat}:LA k n = .faddr k (.tmp n):=rfl
theorem alT {d:Nat} {p:lM}:LO d p=⟨some d,p,none,false,[]⟩:=rfl
theorem aiZ {d:Nat} {p:lM}:LQ d p=⟨some d,p,none,true,[]⟩:=rfl
theorem alA {p:lM}:LN p=⟨none,p,none,false,[]⟩:=rfl
theorem ajY {d s:Nat}:LM d s=⟨some d,.mv (.tmp s),none,false,[]⟩:=rfl
theorem alV {g d:Nat} {p:lM}:LY g d p=⟨some d,p,some (g,true),false,[]⟩:=rfl
theorem alE {g d:Nat} {p:lM}:LZ g d p=⟨some d,p,some (g,false),false,[]⟩:=rfl
theorem amL {l:List PI} {c:aE}:LS l c = .seq (.eG l) c:=rfl
theorem VX:type_of% (
 And.intro @WW<|And.intro @YY<|And.intro @OK<|And.intro @SW<|And.intro @T0<|And.intro @Xg<|And.intro @Tz <|
 And.intro @Of<|And.intro @AL<|And.intro @C4<|And.intro @Es<|And.intro @Dk<|And.intro @Bn <|
 And.intro @I0<|And.intro @EA<|And.intro @Lz<|And.intro @Jv<|And.intro @Qb<|And.intro @PA <|
 And.intro @Jl<|And.intro @Mn<|And.intro @XK<|And.intro @acO<|And.intro @Y3<|And.intro @adC<|And.intro @GF <|
 And.intro @Xo<|And.intro @PJ<|And.intro @TM<|And.intro @T2<|And.intro @Mo<|And.intro @Lc<|And.intro @X2 <|
 And.intro @Sz<|And.intro @SB<|And.intro @SI<|And.intro @Te<|And.intro @LW<|And.intro @TU<|And.intro @Lv <|
 And.intro @LD<|And.intro @Qs<|And.intro @NT<|And.intro @Og<|And.intro @TY<|And.intro @P3<|And.intro @Tt <|
 And.intro @SD<|And.intro @Qi<|And.intro @S3<|And.intro @S6<|And.intro @To<|And.intro @PO<|And.intro @St <|
 And.intro @Mj<|And.intro @Ti<|And.intro @Pf<|And.intro @KP<|And.intro @Pa<|And.intro @K8 <|
 And.intro @II<|And.intro @L9<|And.intro @OM<|And.intro @Mb<|And.intro @J6<|And.intro @Lt <|
 And.intro @sN<|And.intro @K7<|And.intro @TA<|And.intro @Ma<|And.intro @Ol<|And.intro @Tq<|And.intro @PX <|
 And.intro @SQ<|And.intro @Ts<|And.intro @Sx<|And.intro @PV<|And.intro @LC<|And.intro @NS<|And.intro @O1 <|
 And.intro @SJ<|And.intro @TW<|And.intro @P5<|And.intro @Qf<|And.intro @KW<|And.intro @O0<|And.intro @Wx <|
 And.intro @Nz<|And.intro @Yw<|And.intro @SM<|And.intro @W9<|And.intro @X5<|And.intro @gP<|And.intro @Yr <|
 And.intro @List.length_map.{0,0}<|And.intro @List.all_cons.{0}<|And.intro @List.all_nil.{0}<|And.intro @O4<|And.intro @Bool.and_self <|
 And.intro @Bool.and_true<|And.intro @PS<|And.intro @SL<|And.intro @TE<|And.intro @PF<|And.intro @Pe <|
 And.intro @Ph<|And.intro @Pr<|And.intro @OO<|And.intro @O7<|And.intro @P6<|And.intro @OZ<|And.intro @N9 <|
 And.intro @Ty<|And.intro @SG<|And.intro @Value.bool.injEq<|And.intro @decide_eq_true_eq<|And.intro @decide_eq_false_iff_not <|
 And.intro @Bool.not_true<|And.intro @Bool.not_false<|And.intro @decide_true<|And.intro @decide_false<|And.intro @Bool.not_eq_true' <|
 And.intro @Bool.not_eq_false'<|And.intro @Bool.false_eq_true<|And.intro @false_and<|And.intro @and_false<|And.intro @Option.map_some.{0,0} <|
 And.intro @Option.map_none.{0,0}<|And.intro @if_true.{1}<|And.intro @if_false.{1}<|And.intro @List.map_cons.{0,0}<|And.intro @List.map_nil.{0,0} <|
 And.intro @List.cons_append.{0}<|And.intro @List.nil_append.{0}<|And.intro @and_true<|And.intro @true_and<|And.intro @Nat.zero_add <|
 And.intro @Nat.add_zero<|And.intro @List.length_cons.{0}<|And.intro @List.length_nil.{0}<|And.intro @Lg<|And.intro @List.getD_cons_zero.{0} <|
 And.intro @List.getD_cons_succ.{0}<|And.intro @List.getD_nil.{0}<|And.intro @VV.sc.injEq<|And.intro @List.getElem?_cons_zero.{0} <|
 And.intro @List.getElem?_cons_succ.{0}<|And.intro @JU<|And.intro @Lr<|And.intro @K0<|And.intro @I8 <|
 And.intro @KX<|And.intro @Mm<|And.intro @DH<|And.intro @Hb<|And.intro @IM<|And.intro @aiR<|And.intro @anC <|
 And.intro @ajO<|And.intro @akM<|And.intro @akY<|And.intro @akQ<|And.intro @ajP<|And.intro @akP<|And.intro @alT<|And.intro @aiZ <|
 And.intro @alA<|And.intro @ajY<|And.intro @alV<|And.intro @alE <| @amL) :=
 And.intro @WW<|And.intro @YY<|And.intro @OK<|And.intro @SW<|And.intro @T0<|And.intro @Xg<|And.intro @Tz <|
 And.intro @Of<|And.intro @AL<|And.intro @C4<|And.intro @Es<|And.intro @Dk<|And.intro @Bn <|
 And.intro @I0<|And.intro @EA<|And.intro @Lz<|And.intro @Jv<|And.intro @Qb<|And.intro @PA <|
 And.intro @Jl<|And.intro @Mn<|And.intro @XK<|And.intro @acO<|And.intro @Y3<|And.intro @adC<|And.intro @GF <|
 And.intro @Xo<|And.intro @PJ<|And.intro @TM<|And.intro @T2<|And.intro @Mo<|And.intro @Lc<|And.intro @X2 <|
 And.intro @Sz<|And.intro @SB<|And.intro @SI<|And.intro @Te<|And.intro @LW<|And.intro @TU<|And.intro @Lv <|
 And.intro @LD<|And.intro @Qs<|And.intro @NT<|And.intro @Og<|And.intro @TY<|And.intro @P3<|And.intro @Tt <|
 And.intro @SD<|And.intro @Qi<|And.intro @S3<|And.intro @S6<|And.intro @To<|And.intro @PO<|And.intro @St <|
 And.intro @Mj<|And.intro @Ti<|And.intro @Pf<|And.intro @KP<|And.intro @Pa<|And.intro @K8 <|
 And.intro @II<|And.intro @L9<|And.intro @OM<|And.intro @Mb<|And.intro @J6<|And.intro @Lt <|
 And.intro @sN<|And.intro @K7<|And.intro @TA<|And.intro @Ma<|And.intro @Ol<|And.intro @Tq<|And.intro @PX <|
 And.intro @SQ<|And.intro @Ts<|And.intro @Sx<|And.intro @PV<|And.intro @LC<|And.intro @NS<|And.intro @O1 <|
 And.intro @SJ<|And.intro @TW<|And.intro @P5<|And.intro @Qf<|And.intro @KW<|And.intro @O0<|And.intro @Wx <|
 And.intro @Nz<|And.intro @Yw<|And.intro @SM<|And.intro @W9<|And.intro @X5<|And.intro @gP<|And.intro @Yr <|
 And.intro @List.length_map.{0,0}<|And.intro @List.all_cons.{0}<|And.intro @List.all_nil.{0}<|And.intro @O4<|And.intro @Bool.and_self <|
 And.intro @Bool.and_true<|And.intro @PS<|And.intro @SL<|And.intro @TE<|And.intro @PF<|And.intro @Pe <|
 And.intro @Ph<|And.intro @Pr<|And.intro @OO<|And.intro @O7<|And.intro @P6<|And.intro @OZ<|And.intro @N9 <|
 And.intro @Ty<|And.intro @SG<|And.intro @Value.bool.injEq<|And.intro @decide_eq_true_eq<|And.intro @decide_eq_false_iff_not <|
 And.intro @Bool.not_true<|And.intro @Bool.not_false<|And.intro @decide_true<|And.intro @decide_false<|And.intro @Bool.not_eq_true' <|
 And.intro @Bool.not_eq_false'<|And.intro @Bool.false_eq_true<|And.intro @false_and<|And.intro @and_false<|And.intro @Option.map_some.{0,0} <|
 And.intro @Option.map_none.{0,0}<|And.intro @if_true.{1}<|And.intro @if_false.{1}<|And.intro @List.map_cons.{0,0}<|And.intro @List.map_nil.{0,0} <|
 And.intro @List.cons_append.{0}<|And.intro @List.nil_append.{0}<|And.intro @and_true<|And.intro @true_and<|And.intro @Nat.zero_add <|
 And.intro @Nat.add_zero<|And.intro @List.length_cons.{0}<|And.intro @List.length_nil.{0}<|And.intro @Lg<|And.intro @List.getD_cons_zero.{0} <|
 And.intro @List.getD_cons_succ.{0}<|And.intro @List.getD_nil.{0}<|And.intro @VV.sc.injEq<|And.intro @List.getElem?_cons_zero.{0} <|
 And.intro @List.getElem?_cons_succ.{0}<|And.intro @JU<|And.intro @Lr<|And.intro @K0<|And.intro @I8 <|
 And.intro @KX<|And.intro @Mm<|And.intro @DH<|And.intro @Hb<|And.intro @IM<|And.intro @aiR<|And.intro @anC <|
 And.intro @ajO<|And.intro @akM<|And.intro @akY<|And.intro @akQ<|And.intro @ajP<|And.intro @akP<|And.intro @alT<|And.intro @aiZ <|
 And.intro @alA<|And.intro @ajY<|And.intro @alV<|And.intro @alE <| @amL
theorem qT:type_of% (
 And.intro @cG<|And.intro @Bu<|And.intro @Hl<|And.intro @L7<|And.intro @jN<|And.intro @Lp <|
 And.intro @GN<|And.intro @JX<|And.intro @Hn<|And.intro @aV<|And.intro @zF<|And.intro @List.set_cons_zero.{0} <|
 And.intro @List.set_cons_succ.{0}<|And.intro @rG<|And.intro @vA<|And.intro @lQ.eq_1<|And.intro @oL.eq_1 <|
 And.intro @oL.eq_2<|And.intro @Dl.eq_1<|And.intro @Dl.eq_2<|And.intro @vZ.eq_1<|And.intro @vZ.eq_2<|And.intro @E7 <|
 And.intro @Ao<|And.intro @Ci<|And.intro @Cr<|And.intro @Mq<|And.intro @List.take_zero.{0} <|
 And.intro @List.take_succ_cons.{0}<|And.intro @List.take_nil.{0}<|And.intro @List.drop_zero.{0}<|And.intro @List.drop_succ_cons.{0} <|
 And.intro @List.drop_nil.{0}<|And.intro @List.append_nil.{0}<|And.intro @Nat.le_refl<|And.intro @cP.eq_1<|And.intro @Int.toNat_natCast <|
 And.intro @eq_self.{1}<|And.intro @ge_iff_le.{0} <| @Bool.and_eq_true) :=
 And.intro @cG<|And.intro @Bu<|And.intro @Hl<|And.intro @L7<|And.intro @jN<|And.intro @Lp <|
 And.intro @GN<|And.intro @JX<|And.intro @Hn<|And.intro @aV<|And.intro @zF<|And.intro @List.set_cons_zero.{0} <|
 And.intro @List.set_cons_succ.{0}<|And.intro @rG<|And.intro @vA<|And.intro @lQ.eq_1<|And.intro @oL.eq_1 <|
 And.intro @oL.eq_2<|And.intro @Dl.eq_1<|And.intro @Dl.eq_2<|And.intro @vZ.eq_1<|And.intro @vZ.eq_2<|And.intro @E7 <|
 And.intro @Ao<|And.intro @Ci<|And.intro @Cr<|And.intro @Mq<|And.intro @List.take_zero.{0} <|
 And.intro @List.take_succ_cons.{0}<|And.intro @List.take_nil.{0}<|And.intro @List.drop_zero.{0}<|And.intro @List.drop_succ_cons.{0} <|
 And.intro @List.drop_nil.{0}<|And.intro @List.append_nil.{0}<|And.intro @Nat.le_refl<|And.intro @cP.eq_1<|And.intro @Int.toNat_natCast <|
 And.intro @eq_self.{1}<|And.intro @ge_iff_le.{0} <| @Bool.and_eq_true
end Go.PM
namespace Go.PM
theorem TC.vt {f:Nat} {args:List VV} {r:VV} (h:TC f args r) (rH:Au.contains f=false) (hp:aM args=true):VT f args r:=by
 have h1:=h 0 [] fun x _=>x=r
 unfold cM at h1
 simp only[rH,hp,Bool.false_eq_true,if_false,if_true] at h1
 have h2:Em f args fun x=>x=r:=by rw[h1];trivial
 unfold Em tk at h2
 split at h2
 ·rename_i x hx
  rw[←h2]
  exact(MS hx).2.2
 ·exact h2.elim
theorem TC.yes {f:Nat} {args:List VV} {dT:List Value} {H:aD} (h:TC f args (.sc (.bool true))) (rH:Au.contains f=false) (hp:aM args=true) (hl:VL (bare (· < H.length) H) args dT) :
  ∃v H',pC f dT H.length H=some (v,H')∧v = .bool true:=by
 obtain⟨P',pv,h1,_,h2⟩:=h.vt rH hp (· < H.length) H dT H.length (fun _ h=>h) hl (Nat.le_refl _)
 cases h2
 exact⟨_,P',h1,rfl⟩
theorem VR.grow {H L:aD} {x:VV} {v:Value} (h:VR (bare (· < H.length) H) x v):VR (bare (· < (H++L).length) (H++L)) x v :=
 h.BO fun b hb=>⟨by show b<_;rw[List.length_append];omega,List.getElem?_append_left hb⟩
end Go.PM
namespace Go.PM
mutual
def dB (n:Nat):VV→Bool
 | .any=>false
 | .sc v=>jW v
 | .agg cs=>kU n cs
 | .dS vs=>kU n vs
 | .tree es k=>es.isEmpty&&decide (k = .nil)
 | .dA _ _=>false
 | .ref b _ _ _ _=>decide (n≤b)
 | .ptr b _ _ _=>decide (n≤b)
 | .sU _ _=>false
def kU (n:Nat):List VV→Bool
 | []=>true
 | x::xs=>dB n x&&kU n xs
end
theorem BI {n:Nat} {es:List VV}:kU n es=true↔∀x∈es,dB n x=true:=by
 induction es with
 | nil=>simp[kU]
 | cons x xs ih=>simp[kU,ih]
theorem Ut {n:Nat} {es:List VV} (h:kU n es=true):kU n (es.flatMap aB)=true:=by
 rw[BI] at h ⊢
 intro x hx
 obtain⟨y,hy,zE⟩:=List.mem_flatMap.1 hx
 have:=h y hy
 unfold aB at zE
 split at zE
 ·exact BI.1 (by simpa[dB] using this) x zE
 ·rw[List.mem_singleton] at zE;subst zE;exact this
def dH (n:Nat) (L:aA):Bool:=L.all fun
 | .row _ es _ _=>kU n es
 | .dead=>true
theorem VR.own {V V':View} {k0:Nat} (NP:∀q,V.base≤q∧q<V.P.length→V'.base≤q∧q<V'.P.length∧∀b' g' es e w,b'<k0→V'.H[b']? = some (.row g' es e w)→V'.m b'≠q) (hl:V.H.length≤V'.H.length) (hH:∀b,k0≤b→V'.H[b]? = V.H[b]?) (hm:∀b,k0≤b→V'.m b=V.m b) {x:VV} {v:Value} (h:VR V x v):dB k0 x=true→VR V' x v:=by
 induction h using VR.rec (motive_2:=fun xs vs _=>kU k0 xs=true→VL V' xs vs) with
 | any=>intro hx;cases hx
 | sc _ h=>intro _;exact .sc _ h
 | agg cs ps _ ih=>intro hx;exact .agg _ _ (ih hx)
 | dS cs ps _ ih=>intro hx;exact .dS _ _ (ih hx)
 | mD k hk=>intro _;exact .mD k hk
 |
  tree es k b o c r e p hF hb ho hc he hk _ _ =>
  intro hx
  simp only[dB,Bool.and_eq_true,decide_eq_true_eq] at hx
  obtain⟨_,rfl⟩:=hx
  exact hk.elim
 | dA=>intro hx;cases hx
 |
  ref b g o n c a n' c' aU hg ha hq =>
  intro hx
  have hb:k0≤b:=by simpa[dB] using hx
  exact .ref b g o n c a n' c' (Nat.lt_of_lt_of_le aU hl) (fun g' es e w hr=>hg g' es e w (by rw[←hH b hb];exact hr)) (fun es e w hr=>by rw[hm b hb];exact ha es e w (by rw[←hH b hb];exact hr)) fun a0 h=>by
   obtain⟨q1,q2,q3⟩:=hq a0 h
   obtain⟨q4,q5,q6⟩:=NP _ ⟨q1,q2⟩
   refine⟨q4,q5,fun b' g' es e w hr eV => ?_⟩
   rcases Nat.lt_or_ge b' k0 with Iz | Cb
   ·exact q6 b' g' es e w Iz hr
   ·rw[hm b' Cb]
    exact q3 b' g' es e w (by rw[←hH b' Cb];exact hr) eV
 |
  ptr b g j off a aU hg ha hq =>
  intro hx
  have hb:k0≤b:=by simpa[dB] using hx
  exact .ptr b g j off a (Nat.lt_of_lt_of_le aU hl) (fun g' es e w hr=>hg g' es e w (by rw[←hH b hb];exact hr)) (fun es e w hr=>by rw[hm b hb];exact ha es e w (by rw[←hH b hb];exact hr)) fun a0 h=>by
   obtain⟨q1,q2,q3⟩:=hq a0 h
   obtain⟨q4,q5,q6⟩:=NP _ ⟨q1,q2⟩
   refine⟨q4,q5,fun b' g' es e w hr eV => ?_⟩
   rcases Nat.lt_or_ge b' k0 with Iz | Cb
   ·exact q6 b' g' es e w Iz hr
   ·rw[hm b' Cb]
    exact q3 b' g' es e w (by rw[←hH b' Cb];exact hr) eV
 | sU=>intro hx;cases hx
 | nil=>exact .nil
 |
  cons x v xs vs _ _ ih RP =>
  rename_i hx
  simp only[kU,Bool.and_eq_true] at hx
  exact .cons _ _ _ _ (ih hx.1) (RP hx.2)
theorem VL.own {V V':View} {n:Nat} (NP:∀q,V.base≤q∧q<V.P.length→V'.base≤q∧q<V'.P.length∧∀b' g' es e w,b'<n→V'.H[b']? = some (.row g' es e w)→V'.m b'≠q) (hl:V.H.length≤V'.H.length) (hH:∀b,n≤b→V'.H[b]? = V.H[b]?) (hm:∀b,n≤b→V'.m b=V.m b) {xs:List VV} {vs:List Value} (h:VL V xs vs) (hx:kU n xs=true):VL V' xs vs:=by
 induction xs generalizing vs with
 | nil=>cases h;exact .nil
 |
  cons x xs ih=>cases h with
  |
   cons _ v _ vs h hs =>
   simp only[kU,Bool.and_eq_true] at hx
   exact .cons _ _ _ _ (h.own NP hl hH hm hx.1) (ih hs hx.2)
theorem VL.BO {V':View} {G:Nat→Prop} {P:aD} {xs:List VV} {vs:List Value} (hF:∀b,G b→V'.F b∧V'.P[b]? = P[b]?) (h:VL (bare G P) xs vs):VL V' xs vs:=by
 induction xs generalizing vs with
 | nil=>cases h;exact .nil
 |
  cons x xs ih=>cases h with
  | cons _ v _ vs h hs=>exact .cons _ _ _ _ (h.BO hF) (ih hs)
def FC (f:Nat) (args:List VV) (R:Nat→VV→aA→Prop):Prop :=
 ∀n,iY f args n (List.replicate n .dead) fun r H'=>∃L,H'=List.replicate n .dead++L∧dB n r=true∧dH n L=true∧R n r L
theorem FC.walk {f:Nat} {pf:aT} {args:List VV} {R:Nat→VV→aA→Prop} (fl:Fl) (ht:hC f=some pf) (hn:args.length≤pf.ntmps)
  (h:∀n,VW fl n pf.body (zW pf.res fun r H'=>∃L,H'=List.replicate n .dead++L∧dB n r=true∧dH n L=true∧R n r L) (G4 args) (List.replicate n .dead)):FC f args R :=
 fun n=>iY.walk fl ht hn (h n)
theorem FC.raw {f:Nat} {args gR:List VV} {R:Nat→VV→aA→Prop} {H:aA} {lo:Nat} (h:FC f gR R) (hf:args.mapM (fz depth H)=some gR):iY f args lo H fun r H'=>∃L,H'=H++L∧R H.length r L∧dB H.length r=true∧dH H.length L=true:=by
 intro V dV dT hH hS hl
 have h1:=h H.length
 let V0:View:={ m:=V.m,F:=(· < V.P.length),H:=List.replicate H.length .dead,P:=V.P,base:=V.P.length }
 have Jm:∀(b g:Nat) (es:List VV) (e:Nat) (w:Bool),V0.H[b]? ≠ some (.row g es e w):=by
  intro b g es e w hb
  have:=List.eq_of_mem_replicate (List.mem_of_getElem? hb)
  cases this
 have hS0:SR V0 H.length dV:=⟨fun b g es e w hb=>absurd hb (Jm _ _ _ _ _),fun b g es e hb=>absurd hb (Jm _ _ _ _ _),fun a b g es e w _ _ _ _ ha=>absurd ha (Jm _ _ _ _ _),fun b hb=>hb,hS.QC,Nat.le_refl _⟩
 have wR:VL V0 gR dT:=by
  have:=Ct hS (G:=(· < V.P.length)) (fun q hq=>hS.fr q hq) hl (by rw[hH];exact hf) (fun i _ g es e w hb=>hS.mlt hb)
  exact VL.BO (V':=V0) (fun b hb=>⟨hb,rfl⟩) this
 obtain⟨pv,V1,r,k1,k3,k4,k5,L,k2,h2,h3,hR⟩:=h1 V0 dV dT rfl hS0 wR
 have TZ:∀b g es e w,V1.H[b]? = some (.row g es e w)→V.P.length≤V1.m b:=by
  intro b g es e w hb
  rcases Nat.lt_or_ge (V1.m b) V.P.length with aU | Cb
  ·obtain⟨g0,es0,w0,j1,_⟩:=k4.Ah b g es e w hb aU
   exact absurd j1 (Jm _ _ _ _ _)
  ·exact Cb
 have ajA:V1.H.length=H.length+(L).length:=by rw[k2];simp
 have wW:∀q,q<V.P.length→V1.P[q]? = V.P[q]? := fun q hq=>k4.bO q hq fun b g es e hb=>absurd hb (Jm _ _ _ _ _)
 let V2:View:={ m:=fun b=>if b<H.length then V.m b else V1.m b,F:=V.F,H:=H++L,P:=V1.P,base:=V.base }
 have abT:∀b,H.length≤b→V2.H[b]? = V1.H[b]? := fun b hb=>by
  show (H++L)[b]? = _
  rw[k2,List.getElem?_append_right hb,List.getElem?_append_right (by simpa using hb),List.length_replicate]
 have mL:∀b,H.length≤b→V2.m b=V1.m b:=fun b hb=>by
  show (if b<H.length then V.m b else V1.m b)=_
  rw[if_neg (by omega)]
 have Z7:∀b,b<H.length→V2.H[b]? = V.H[b]? := fun b hb=>by
  show (H++L)[b]? = _
  rw[List.getElem?_append_left hb,hH]
 have mS:∀b,b<H.length→V2.m b=V.m b:=fun b hb=>by
  show (if b<H.length then V.m b else V1.m b)=_
  rw[if_pos hb]
 have hU:Up V V2:=⟨fun _ h=>h,fun b hb=>wW b (hS.fr b hb),by show V.H.length≤(H++L).length;rw[hH];simp,fun b g es e w aU hb=>⟨g,es,w,by rw[←Z7 b (by rw[←hH];exact aU)];exact hb,Nat.le_refl _,fun _=>mS b (by rw[←hH];exact aU)⟩,rfl,k4.CU,fun b g es e w hb hm=>by
   rcases Nat.lt_or_ge b H.length with h | h
   ·exact⟨g,es,w,by rw[←Z7 b h];exact hb,mS b h,id⟩
   ·rw[mL b h] at hm
    have:=TZ b g es e w (by rw[←abT b h];exact hb)
    omega⟩
 have TG:∀ {b g es e w},V2.H[b]? = some (.row g es e w)→(b<H.length∧V.H[b]? = some (.row g es e w))∨(H.length≤b∧V1.H[b]? = some (.row g es e w)):=by
  intro b g es e w hb
  rcases Nat.lt_or_ge b H.length with h | h
  ·exact .inl ⟨h,by rw[←Z7 b h];exact hb⟩
  ·exact .inr ⟨h,by rw[←abT b h];exact hb⟩
 have acT:V1.H.length≤V2.H.length:=by show _≤(H++L).length;rw[ajA];simp
 have akR:∀ {b g es e w},H.length≤b→V1.H[b]? = some (.row g es e w)→kU H.length es=true:=by
  intro b g es e w hb hr
  rw[k2,List.getElem?_append_right (by simpa using hb)] at hr
  exact List.all_eq_true.1 h3 _ (List.mem_of_getElem? hr)
 have NP:∀q,V1.base≤q∧q<V1.P.length→V2.base≤q∧q<V2.P.length∧∀b' g' es e w,b'<H.length→V2.H[b']? = some (.row g' es e w)→V2.m b'≠q:=by
  intro q hq
  have Bv:V.P.length≤q:=by have:=k4.H8;rw[this] at hq;exact hq.1
  refine⟨Nat.le_trans hS.H8 Bv,hq.2,fun b' g' es e w aU hr hm => ?_⟩
  rw[mS b' aU] at hm
  have:=hS.mlt (by rw[←Z7 b' aU];exact hr)
  omega
 refine⟨pv,V2,r,k1,⟨fun b g es e w hb => ?_,fun b g es e hb => ?_,fun a b g es e w g' lA e' w' ha hb hm => ?_,fun b hb => ?_,?_,Nat.le_trans hS.H8 k4.CU⟩,{ hU with bO:=fun q hq _=>wW q hq,Bb:=fun q hq => .inl hq },?_,L,rfl,hR,h2,h3⟩
 ·rcases TG hb with⟨h,hb⟩ | ⟨h,hb⟩
  ·obtain⟨r,p,j1,j2,j3⟩:=hS.row b g es e w hb
   exact⟨r,p,by rw[mS b h];exact(wW _ (hS.mlt hb)).trans j1,j2,j3.mono hU⟩
  ·obtain⟨r,p,j1,j2,j3⟩:=k3.row b g es e w hb
   exact⟨r,p,by rw[mL b h];exact j1,j2,j3.own NP acT (fun b hb=>abT b hb) (fun b hb=>mL b hb) (Ut (akR h hb))⟩
 ·rcases TG hb with⟨h,hb⟩ | ⟨h,hb⟩
  ·rw[mS b h]
   exact hS.wr b g es e hb
  ·rw[mL b h]
   have:=TZ b g es e true hb
   exact⟨fun hF=>by have:=hS.fr _ hF;omega,fun _=>Nat.le_trans hS.QC this⟩
 ·rcases TG ha with⟨h,ha⟩ | ⟨h,ha⟩<;>rcases TG hb with⟨h',hb⟩ | ⟨h',hb⟩
  ·rw[mS a h,mS b h'] at hm
   exact hS.inj a b _ _ _ _ _ _ _ _ ha hb hm
  ·rw[mS a h,mL b h'] at hm
   have:=TZ b _ _ _ _ hb
   have:=hS.mlt ha
   omega
  ·rw[mL a h,mS b h'] at hm
   have:=TZ a _ _ _ _ ha
   have:=hS.mlt hb
   omega
  ·rw[mL a h,mL b h'] at hm
   exact k3.inj a b _ _ _ _ _ _ _ _ ha hb hm
 ·exact Nat.lt_of_lt_of_le (hS.fr b hb) k4.CU
 ·exact Nat.le_trans hS.QC k4.CU
 ·exact k5.own NP acT (fun b hb=>abT b hb) (fun b hb=>mL b hb) h2
theorem dL {f:Nat} {args:List VV} {lo:Nat} {H:aA} {K:VV→aA→Prop} (rH:Au.contains f=true) (h:iY f args lo H K):cM f args lo H K:=by
 unfold cM
 rw[if_pos rH]
 exact h
theorem FC.call {f:Nat} {args gR:List VV} {R:Nat→VV→aA→Prop} {H:aA} {lo:Nat} {K:VV→aA→Prop} (h:FC f gR R) (rH:Au.contains f=true) (hf:args.mapM (fz depth H)=some gR) (hk:∀r L,R H.length r L→K r (H++L)):cM f args lo H K :=
 dL rH ((h.raw hf).mono fun r H' ⟨L,h1,h2,_⟩=>by subst h1;exact hk r L h2)
theorem FC.YM {f:Nat} {args gR:List VV} {R:Nat→VV→aA→Prop} {H:aA} {lo:Nat} {K:VV→aA→Prop} (h:FC f gR R) (rH:Au.contains f=true) (hf:args.mapM (fz depth H)=some gR) (hk:∀r L,R H.length r L→dB H.length r=true→dH H.length L=true→K r (H++L)):cM f args lo H K :=
 dL rH ((h.raw hf).mono fun r H' ⟨L,h1,h2,h3,h4⟩=>by subst h1;exact hk r L h2 h3 h4)
def AO (H K:aA):Prop:=K.length=H.length∧∀(b g:Nat) (es:List VV) (e:Nat) (w:Bool),K[b]? = some (.row g es e w)→H[b]? = some (.row g es e w)
theorem VR.kill {V:View} {K:aA} (hK:AO V.H K) {x:VV} {v:Value} (h:VR V x v):VR { V with H:=K } x v:=by
 induction h using VR.rec (motive_2:=fun xs vs _=>VL { V with H:=K } xs vs) with
 | any=>exact .any _
 | sc _ h=>exact .sc _ h
 | agg cs ps _ ih=>exact .agg _ _ ih
 | dS cs ps _ ih=>exact .dS _ _ ih
 | mD k hk=>exact .mD k hk
 | tree es k b o c r e p hF hb ho hc he hk _ ih=>exact .tree es k b o c r e p hF hb ho hc he hk ih
 | dA x off b o r e p hF hb ho _ ih=>exact .dA x off b o r e p hF hb ho ih
 |
  ref b g o n c a n' c' aU hg ha hq =>
  exact .ref b g o n c a n' c' (by show b<K.length;rw[hK.1];exact aU) (fun g' es e w hr=>hg g' es e w (hK.2 _ _ _ _ _ hr)) (fun es e w hr=>ha es e w (hK.2 _ _ _ _ _ hr)) fun a0 h=>⟨(hq a0 h).1,(hq a0 h).2.1,fun b' g' es e w hr=>(hq a0 h).2.2 b' g' es e w (hK.2 _ _ _ _ _ hr)⟩
 |
  ptr b g j off a aU hg ha hq =>
  exact .ptr b g j off a (by show b<K.length;rw[hK.1];exact aU) (fun g' es e w hr=>hg g' es e w (hK.2 _ _ _ _ _ hr)) (fun es e w hr=>ha es e w (hK.2 _ _ _ _ _ hr)) fun a0 h=>⟨(hq a0 h).1,(hq a0 h).2.1,fun b' g' es e w hr=>(hq a0 h).2.2 b' g' es e w (hK.2 _ _ _ _ _ hr)⟩
 | sU f fE ps _ ih=>exact .sU _ _ _ ih
 | nil=>exact .nil
 | cons x v xs vs _ _ ih RP=>exact .cons _ _ _ _ ih RP
theorem VL.kill {V:View} {K:aA} (hK:AO V.H K) {xs:List VV} {vs:List Value} (h:VL V xs vs):VL { V with H:=K } xs vs:=by
 induction xs generalizing vs with
 | nil=>cases h;exact .nil
 |
  cons x xs ih=>cases h with
  | cons _ v _ vs h hs=>exact .cons _ _ _ _ (h.kill hK) (ih hs)
theorem iY.kill {f:Nat} {args:List VV} {lo:Nat} {H:aA} {P P':VV→aA→Prop} (h:iY f args lo H P) (hk:∀v H',P v H'→∃K,AO H' K∧P' v K):iY f args lo H P':=by
 intro V dV dT hH hS hl
 obtain⟨pv,V',v,h1,h2,h3,h4,h5⟩:=h V dV dT hH hS hl
 obtain⟨K,hK,h6⟩:=hk _ _ h5
 refine⟨pv,{ V' with H:=K },v,h1,⟨fun b g es e w hb => ?_,fun b g es e hb=>h2.wr b g es e (hK.2 _ _ _ _ _ hb),fun a b g es e w g' lA e' w' ha hb hm=>h2.inj a b _ _ _ _ _ _ _ _ (hK.2 _ _ _ _ _ ha) (hK.2 _ _ _ _ _ hb) hm,h2.fr,h2.QC,h2.H8⟩,
  { F:=h3.F,P:=h3.P,len:=by show V.H.length≤K.length;rw[hK.1];exact h3.len,row:=fun b g es e w aU hb=>h3.row b g es e w aU (hK.2 _ _ _ _ _ hb),H8:=h3.H8,CU:=h3.CU,Ah:=fun b g es e w hb hm=>h3.Ah b g es e w (hK.2 _ _ _ _ _ hb) hm,bO:=h3.bO,Bb:=h3.Bb },h4.kill hK,h6⟩
 obtain⟨r,p,j1,j2,j3⟩:=h2.row b g es e w (hK.2 _ _ _ _ _ hb)
 exact⟨r,p,j1,j2,j3.kill hK⟩
theorem FC.IF {f:Nat} {pf:aT} {args:List VV} {R:Nat→VV→aA→Prop} (fl:Fl) (ht:hC f=some pf) (hn:args.length≤pf.ntmps)
  (h:∀n,VW fl n pf.body (zW pf.res fun r H'=>∃L,AO H' (List.replicate n .dead++L)∧dB n r=true∧dH n L=true∧R n r L) (G4 args) (List.replicate n .dead)):FC f args R :=
 fun n=>(iY.walk fl ht hn (h n)).kill fun _ _ ⟨L,h1,h2,h3,h4⟩=>⟨_,h1,L,rfl,h2,h3,h4⟩
end Go.PM
namespace Go.PM
open Go.ChangeShapes Go.WideShapes Go.ChangeAt Go.RowKit
open Go.Proofs
def Ar (W:World):Prop:=∃(rb:Nat) (arr:Array Value) (e:TypeId) (fz:Nat×Nat),W.heap[rb]? = some (.cells arr e fz)
structure AB (m m':dC) (H L:aD) (W:World) (cs HF:List Value) (vs:List VV):Prop where
 inn:In m' (H++L) W
 ext:∀b l,m b=some l→m' b=some l
 len:HF.length=cs.length
 rv:∀i,i<cs.length→RV m' (HF.getD i Go.undef) (cs.getD i Go.undef)
 sc:∀v∈HF,PM.fD v=true
 tree:VL (bare (· < (H++L).length) (H++L)) vs HF
def Lh {T:Type} (Az:TypeId×Value→T) (P:Program) (W:World) (t:TypeId) (k:Nat) (S:List VV→Prop):Prop :=
 ∀fuel cs y,DataW.trod Az P W 0 (fun _=>true) true fuel t cs=some y→∀(m:dC) (H:aD),In m H W→cs.length=k∧∃m' L HF vs,AB m m' H L W cs HF vs∧S vs
theorem VL.grow {H L:aD} {xs:List VV} {vs:List Value} (h:VL (bare (· < H.length) H) xs vs):VL (bare (· < (H++L).length) (H++L)) xs vs :=
 h.BO fun b hb=>⟨by show b<_;rw[List.length_append];omega,List.getElem?_append_left hb⟩
theorem VL.app {V:View} {xs ys:List VV} {vs ws:List Value} (h:VL V xs vs) (h':VL V ys ws):VL V (xs++ys) (vs++ws):=by
 induction xs generalizing vs with
 | nil=>cases h;exact h'
 |
  cons x xs ih=>cases h with
  | cons _ v _ vs h hs=>exact .cons _ _ _ _ h (ih hs)
theorem Fw {cs ds:List Value} {i:Nat} (h:i<cs.length):(cs++ds).getD i Go.undef=cs.getD i Go.undef:=by
 simp only[List.getD_eq_getElem?_getD,List.getElem?_append_left h]
theorem D6 {cs ds:List Value} {i:Nat} (h:cs.length≤i):(cs++ds).getD i Go.undef=ds.getD (i-cs.length) Go.undef:=by
 simp only[List.getD_eq_getElem?_getD,List.getElem?_append_right h]
theorem AB.both {m m1 m2:dC} {H L1 L2:aD} {W:World} {cs HF yF aiT:List Value} {vs vs':List VV} (h:AB m m1 H L1 W cs HF vs) (h':AB m1 m2 (H++L1) L2 W yF aiT vs'):AB m m2 H (L1++L2) W (cs++yF) (HF++aiT) (vs++vs'):=by
 refine⟨by rw[←List.append_assoc];exact h'.inn,fun b l hb=>h'.ext _ _ (h.ext _ _ hb),by simp[h.len,h'.len],fun i hi => ?_,fun v hv => ?_,?_⟩
 ·rcases Nat.lt_or_ge i cs.length with aU | Cb
  ·rw[Fw aU,Fw (by rw[h.len];exact aU)]
   exact(h.rv i aU).mono h'.ext
  ·rw[D6 Cb,D6 (by rw[h.len];exact Cb),h.len]
   exact h'.rv _ (by rw[List.length_append] at hi;omega)
 ·rcases List.mem_append.1 hv with hv | hv
  ·exact h.sc v hv
  ·exact h'.sc v hv
 ·rw[←List.append_assoc]
  exact h.tree.grow.app h'.tree
theorem AB.none {m:dC} {H:aD} {W:World} (hI:In m H W):AB m m H [] W [] [] [] :=
 ⟨by rw[List.append_nil];exact hI,fun _ _ h=>h,rfl,fun i hi=>absurd hi (Nat.not_lt_zero _),fun v hv=>(by cases hv),.nil⟩
theorem M0 {T:Type} {Az:TypeId×Value→T} {P:Program} {W:World} {t:TypeId} (ht:P.underlying t=some .string):Lh Az P W t 1 (fun vs=>∃s:ByteArray,s.size≤maxLen∧vs=[.sc (.string s)]):=by
 intro fuel cs y h m H hI
 obtain⟨s,rfl,_,hs⟩:=DataW.trod_string ht h
 refine⟨rfl,m,[],[.string s],[.sc (.string s)],⟨by rw[List.append_nil];exact hI,fun _ _ h=>h,rfl,fun i hi => ?_,fun v hv => ?_,.cons _ _ _ _ (.sc _ rfl) .nil⟩,s,hs,rfl⟩
 ·have:i=0:=by simpa using hi
  subst this
  exact .str s
 ·rw[List.mem_singleton] at hv
  subst hv
  rfl
theorem I5 {T:Type} {Az:TypeId×Value→T} {P:Program} {W:World} {e:TypeId} {eY:Nat} {S:List VV→Prop} (ho:Lh Az P W e eY S):∀(Qy:List (List Value)),(∀cs∈Qy,∃fuel y,DataW.trod Az P W 0 (fun _=>true) true fuel e cs=some y)→∀(m:dC) (H:aD),In m H W →
  ∃(m':dC) (L:aD) (HF:List Value) (gs:List (List VV)),AB m m' H L W Qy.flatten HF gs.flatten∧gs.length=Qy.length∧(∀g∈gs,S g)∧∀cs∈Qy,cs.length=eY
 | [],_,m,H,hI=>⟨m,[],[],[],AB.none hI,rfl,fun g hg=>(by cases hg),fun cs KS=>(by cases KS)⟩
 |
  cs::Qy,h,m,H,hI=>by
  obtain⟨fuel,y,hy⟩:=h cs List.mem_cons_self
  obtain⟨hl,m1,L1,aqA,g,h1,hS⟩:=ho fuel cs y hy m H hI
  obtain⟨m2,L2,apP,gs,h2,h3,h4,h5⟩:=I5 ho Qy (fun cs KS=>h cs (List.mem_cons_of_mem _ KS)) m1 (H++L1) h1.inn
  refine⟨m2,L1++L2,aqA++apP,g::gs,?_,by simp[h3],fun g' P4 => ?_,fun yF aeC => ?_⟩
  ·rw[List.flatten_cons,List.flatten_cons]
   exact h1.both h2
  ·rcases List.mem_cons.1 P4 with rfl | P4
   ·exact hS
   ·exact h4 _ P4
  ·rcases List.mem_cons.1 aeC with rfl | aeC
   ·exact hl
   ·exact h5 _ aeC
theorem Bl {α:Type} {k:Nat}:∀ {Zm:List (List α)},(∀xs∈Zm,xs.length=k)→Zm.flatten.length=Zm.length*k
 | [],_=>by simp
 |
  xs::Zm,h=>by
  rw[List.flatten_cons,List.length_append,h xs List.mem_cons_self,Bl fun y hy=>h y (List.mem_cons_of_mem _ hy),List.length_cons,Nat.succ_mul,Nat.add_comm]
theorem D9 {α:Type} {k:Nat}:∀ {Zm:List (List α)} (n:Nat),(∀xs∈Zm,xs.length=k)→Zm.flatten.take (n*k)=(Zm.take n).flatten
 | [],n,_=>by simp
 | xs::Zm,0,_=>by simp
 |
  xs::Zm,n+1,h=>by
  have hl:=h xs List.mem_cons_self
  rw[List.flatten_cons,List.take_succ_cons,List.flatten_cons,←D9 n fun y hy=>h y (List.mem_cons_of_mem _ hy),show (n+1)*k=xs.length+n*k by rw[hl,Nat.succ_mul,Nat.add_comm],List.take_length_add_append]
theorem Nv {k:Nat} (hk:1≤k) {Qy:List (List Value)} (h:∀cs∈Qy,cs.length=k) {i:Nat} (hi:i<Qy.length*k):∃cs,Qy[i / k]? = some cs∧Qy.flatten.getD i Go.undef=cs.getD (i % k) Go.undef:=by
 induction Qy generalizing i with
 | nil=>simp at hi
 |
  cons cs Qy ih =>
  have hl:=h cs List.mem_cons_self
  rw[List.flatten_cons]
  rcases Nat.lt_or_ge i k with aU | Cb
  ·refine⟨cs,by rw[Nat.div_eq_of_lt aU];rfl,?_⟩
   rw[Fw (by omega),Nat.mod_eq_of_lt aU]
  ·obtain⟨c',h1,h2⟩:=ih (fun y hy=>h y (List.mem_cons_of_mem _ hy)) (i:=i-k) (by rw[List.length_cons,Nat.succ_mul] at hi;omega)
   have e1:i / k=(i-k) / k+1:=by rw[Nat.div_eq_sub_div (by omega) Cb]
   have e2:i % k=(i-k) % k:=by rw[Nat.mod_eq_sub_mod Cb]
   exact⟨c',by rw[e1];exact h1,by rw[D6 (by omega),hl,h2,e2]⟩
theorem NY {T:Type} {Az:TypeId×Value→T} {α:Type} {f:α→VV} {Z2:α→Prop} {P:Program} {W:World} {t e:TypeId} {eY:Nat} (ht:P.underlying t=some (.slice e)) (atV:P.cellsOf e=eY) (pos:1≤eY) (hB:Ar W)
  (hf:∀x,(aB (f x)).length=eY) (ho:Lh Az P W e eY fun g=>∃x:α,Z2 x∧g=aB (f x)):Lh Az P W t 1 fun vs=>∃xs:List α,xs.length≤maxLen∧(∀x∈xs,Z2 x)∧vs=[bH f xs]:=by
 intro fuel cs y h m H hI
 rcases DataW.trod_slice ht h with⟨rfl,_⟩ | ⟨a,n,c,elems,rest,k,_,rfl,_,_,VO,hmx,hlen,hE,hR,_⟩
 ·refine⟨rfl,m,[],[.slice none 0 0],[.tree [] .op],⟨by rw[List.append_nil];exact hI,fun _ _ h=>h,rfl,fun i hi => ?_,fun v hv => ?_,.cons _ _ _ _ (.mD _ (.inl rfl)) .nil⟩,[],Nat.zero_le _,fun x hx=>(by cases hx),rfl⟩
  ·have:i=0:=by simpa using hi
   subst this
   exact .Kt
  ·rw[List.mem_singleton] at hv
   subst hv
   rfl
 ·obtain⟨yE,hR⟩:=hR rfl
  have Tr:∀i,i<c→∃cs,W.cells? 0 (a.add (i*eY)) eY=some cs∧∃fuel y,DataW.trod Az P W 0 (fun _=>true) true fuel e cs=some y:=by
   intro i hi
   have key:∃y,(W.cells? 0 (a.add (i*P.cellsOf e)) (P.cellsOf e)).bind (DataW.trod Az P W 0 (fun _=>true) true k e)=some y:=by
    rcases Nat.lt_or_ge i n with dD | dD
    ·exact⟨elems[i]'(by omega),by rw[hE i dD];exact List.getElem?_eq_getElem _⟩
    ·have:=hR (i-n) (by omega)
     rw[show n+(i-n)=i by omega] at this
     exact⟨rest[i-n]'(by omega),by rw[this];exact List.getElem?_eq_getElem _⟩
   obtain⟨y,hy⟩:=key
   rw[Option.bind_eq_some_iff,atV] at hy
   obtain⟨cs,h1,h2⟩:=hy
   exact⟨cs,h1,k,y,h2⟩
  obtain⟨Qy,lO,KS⟩:=Ta (fun i cs=>W.cells? 0 (a.add (i*eY)) eY=some cs∧∃fuel y,DataW.trod Az P W 0 (fun _=>true) true fuel e cs=some y) c Tr
  obtain⟨m1,L1,HF,gs,hO,hgl,hgS,ahM⟩:=I5 ho Qy (fun cs hc=>by
   obtain⟨i,hi⟩:=List.getElem?_of_mem hc
   exact(KS i cs hi).2) m H hI
  obtain⟨xs,hxg,NJ⟩:∃xs:List α,(∀x∈xs,Z2 x)∧gs=xs.map fun x=>aB (f x):=by
   clear hO hgl
   induction gs with
   | nil=>exact⟨[],fun x hx=>(by cases hx),rfl⟩
   |
    cons g gs ih =>
    obtain⟨xs,h1,h2⟩:=ih fun g hg=>hgS g (List.mem_cons_of_mem _ hg)
    obtain⟨x,h3,h4⟩:=hgS g List.mem_cons_self
    exact⟨x::xs,fun y hy=>by
     rcases List.mem_cons.1 hy with rfl | hy
     ·exact h3
     ·exact h1 y hy,by rw[List.map_cons,←h2,h4]⟩
  have hxl:xs.length=c:=by rw[←lO,←hgl,NJ,List.length_map]
  have Kj:HF.length=c*eY:=by rw[hO.len,Bl ahM,lO]
  obtain⟨rb,base,arr,e',fz,ajS,hb0,Bv⟩:∃(rb base:Nat) (arr:Array Value) (e':TypeId) (fz:Nat×Nat),W.heap[rb]? = some (.cells arr e' fz)∧(c=0→base=0)∧(c≠0→a=⟨rb,base,none⟩):=by
   by_cases h0:c=0
   ·obtain⟨rb,arr,e',fz,hb⟩:=hB
    exact⟨rb,0,arr,e',fz,hb,fun _=>rfl,fun h=>absurd h0 h⟩
   ·obtain⟨cs,h1,_⟩:=Tr 0 (by omega)
    have h2:=(World.cells?_some h1).2
    have h3:=h2.2 0 (by omega)
    rw[List.getElem?_eq_getElem (by omega)] at h3
    have:(a.add (0*eY)).add 0=a:=by simp[Addr.add]
    rw[this] at h3
    unfold World.cell? at h3
    split at h3
    ·rename_i arr e' fz hb
     split at h3
     ·cases h3
     ·rename_i O8
      refine⟨a.block,a.off,arr,e',fz,hb,fun h=>absurd h h0,fun _ => ?_⟩
      obtain⟨b,o,sp⟩:=a
      cases sp with
      | none=>rfl
      | some x=>simp at O8
    ·cases h3
  have NG:∀i,i<c*eY→W.cell? ⟨rb,base+i,none⟩=some (Qy.flatten.getD i Go.undef):=by
   intro i hi
   obtain⟨cs,h1,h2⟩:=Nv pos ahM (i:=i) (by rw[lO];exact hi)
   have h0:c≠0:=by intro h0;rw[h0] at hi;simp at hi
   have ha:=Bv h0
   have h3:=(World.cells?_some (KS _ _ h1).1).2
   have hr:i % eY<eY:=Nat.mod_lt _ pos
   have h4:=h3.2 (i % eY) hr
   have Ks:∀o k:Nat,(⟨rb,o,none⟩:Addr).add k=⟨rb,o+k,none⟩:=by
    intro o k
    unfold Addr.add
    split
    ·rename_i h0;subst h0;rfl
    ·rfl
   have afN:i / eY*eY+i % eY=i:=by rw[Nat.mul_comm];exact Nat.div_add_mod i eY
   rw[ha,Ks,Ks,Nat.add_assoc,afN] at h4
   rw[h2,List.getD_eq_getElem?_getD,h4]
   have aU:i % eY<cs.length:=by rw[h3.1];exact hr
   rw[List.getElem?_eq_getElem aU]
   rfl
  have oW:base+HF.length≤arr.size:=by
   rw[Kj]
   by_cases h0:c=0
   ·rw[hb0 h0,h0];simp
   ·have Mw:1≤c*eY:=Nat.mul_pos (by omega) pos
    have h3:=NG (c*eY-1) (by omega)
    unfold World.cell? at h3
    simp only[ajS,Option.isSome_none,Bool.false_eq_true,if_false] at h3
    have:=(Array.getElem?_eq_some_iff.1 h3).1
    omega
  have Ks:=hO.inn.add (eY:=eY) (cs:=HF) (base:=base) ajS oW (fun i hi=>by
   rw[Kj] at hi
   refine⟨_,NG i hi,(hO.rv i (by rw[Bl ahM,lO];exact hi)).mono (rD (hO.inn.Pb (Nat.le_refl _))),?_⟩
   rw[List.getD_eq_getElem?_getD,List.getElem?_eq_getElem (by rw[Kj];exact hi)]
   exact hO.sc _ (List.getElem_mem _))
  refine⟨rfl,_,L1++[.row HF eY false],[.slice (some ⟨(H++L1).length,0,none⟩) n c],[bH f (xs.take n)],⟨by rw[←List.append_assoc];exact Ks,fun b l hb=>rD (hO.inn.Pb (Nat.le_refl _)) _ _ (hO.ext b l hb),rfl,fun i hi => ?_,fun v hv => ?_,?_⟩,xs.take n,by rw[List.length_take];omega,fun x hx=>hxg x (List.mem_of_mem_take hx),rfl⟩
  ·have:i=0:=by simpa using hi
   subst this
   refine .slice (H++L1).length 0 n c _ _ c (bP _ _ _) VO (Nat.le_refl _) (fun _=>rfl) ?_
   by_cases h0:c=0
   ·exact .inl h0
   ·exact .inr ⟨by simpa using Bv h0,by simpa[Kj] using oW⟩
  ·rw[List.mem_singleton] at hv
   subst hv
   rfl
  ·rw[←List.append_assoc]
   refine .cons _ _ _ _ ?_ .nil
   have hl:(xs.take n).length=n:=by rw[List.length_take];omega
   have Dg:∀g∈gs,g.length=eY:=fun g hg=>by
    obtain⟨x,_,rfl⟩:=hgS g hg
    exact hf x
   have key:=hO.tree.grow (L:=[KC.row HF eY false])
   have key:=key.take (n*eY)
   rw[D9 n Dg,NJ,←List.map_take] at key
   have:=VR.tree (V:=bare (· < (H++L1++[KC.row HF eY false]).length) (H++L1++[KC.row HF eY false])) ((xs.take n).map f) .op (H++L1).length 0 c HF eY false (by show (H++L1).length<_;simp) (by show (H++L1++[KC.row HF eY false])[(H++L1).length]? = _;rw[List.getElem?_append_right (Nat.le_refl _),Nat.sub_self];rfl)
    (by rw[List.length_map,hl,Kj];simp only[Nat.zero_add];exact Nat.mul_le_mul_right _ VO) (by rw[List.length_map,hl];exact VO) (fun y hy=>by
     obtain⟨x,_,rfl⟩:=List.mem_map.1 hy
     exact hf x) trivial (by rw[List.length_map,hl,List.drop_zero,List.flatMap_map,List.flatMap_def];exact key)
   rw[List.length_map,hl] at this
   exact this
end Go.PM
namespace Go.PM
def mB:aE:=(.seq (LS [LM 11 5,LM 12 0,LO 13 (.len (LT 12)),LO 14 (.bin .lss (LT 11) (LT 13))] (.cond (LT 14) .skip (.exit 0))) (.seq (.block 1 (LS [LM 17 0,LM 18 5,LO 19 (.iaddr 1 (LT 17) (LT 18)),LO 20 (LL 19),LM 21 1,LM 22 5,LO 23 (.iaddr 1 (LT 21) (LT 22)),LO 24 (LL 23),LO 25 (.bin .neq (LT 20) (LT 24))] (.cond (LT 25) (LS [LO 4 (.mv LF)] .ret) .skip))) (.eG [LM 15 5,LO 16 (.bin .add (LT 15) (LI 1)),LM 5 16])))
def rB:aE:=(LS [LO 4 (.mv LF)] (.seq (LS [LM 6 0,LO 7 (.len (LT 6)),LM 8 1,LO 9 (.len (LT 8)),LO 10 (.bin .neq (LT 7) (LT 9))] (.cond (LT 10) (LS [LO 4 (.mv LF)] .ret) .skip)) (.seq (LS [LO 5 (.mv (LI 0))] (.block 0 (.loop mB))) (LS [LO 4 (.mv LG)] .ret))))
def vN:aT:=⟨26,[(.tmp 4)],rB⟩
theorem F7:hC 54=some vN:=by kernel_rfl
def jY:aE:=(.seq (LS [LM 6 5,LM 7 0,LO 8 (.len (LT 7)),LO 9 (.bin .lss (LT 6) (LT 8))] (.cond (LT 9) .skip (.exit 0))) (.seq (.block 1 (LS [LM 12 0,LM 13 5,LM 14 1,LO 15 (.call 130 [(LT 14)]),LO 16 (.iaddr 1 (LT 12) (LT 13)),LN (.store 1 (LT 16) (LT 15))] (.eG [LM 17 1,LO 18 (.bin .add (LT 17) (LI 1)),LM 1 18]))) (.eG [LM 10 5,LO 11 (.bin .add (LT 10) (LI 1)),LM 5 11])))
def pB:aE:=(LS [LO 4 (.mv (LI 0))] (.seq (LS [LO 5 (.mv (LI 0))] (.block 0 (.loop jY))) (LS [LM 19 1,LM 4 19] .ret)))
def rC:aT:=⟨20,[(.tmp 4)],pB⟩
theorem uY:hC 50=some rC:=by kernel_rfl
def nU:aE:=(.seq (LS [LM 6 5,LM 7 0,LO 8 (.len (LT 7)),LO 9 (.bin .lss (LT 6) (LT 8))] (.cond (LT 9) .skip (.exit 0))) (.seq (.block 1 (.seq (LS [LM 12 0,LM 13 5,LO 14 (.iaddr 1 (LT 12) (LT 13)),LO 15 (LL 14),LM 16 1,LQ 17 (.call 130 [(LT 16)]),LO 18 (.bin .neq (LT 15) (LT 17))] (.cond (LT 18) (LS [LO 4 (.mv (LI (-1)))] .ret) .skip)) (.eG [LM 19 1,LO 20 (.bin .add (LT 19) (LI 1)),LM 1 20]))) (.eG [LM 10 5,LO 11 (.bin .add (LT 10) (LI 1)),LM 5 11])))
def wD:aE:=(LS [LO 4 (.mv (LI 0))] (.seq (LS [LO 5 (.mv (LI 0))] (.block 0 (.loop nU))) (LS [LM 21 1,LM 4 21] .ret)))
def zA:aT:=⟨22,[(.tmp 4)],wD⟩
theorem D1:hC 57=some zA:=by kernel_rfl
def kC:aE:=(LS [LO 2 (.box (LT 0)),LO 3 (.box (LT 1)),LO 4 (.mv LF)] (.seq (LS [LO 5 (LA 0 2),LO 6 (LL 5),LO 7 (LA 0 3),LO 8 (LL 7),LO 9 (.call 54 [(LT 6),(LT 8)]),LO 10 (.un .not (LT 9))] (.cond (LT 10) (LS [LO 4 (.mv LF)] .ret) .skip)) (.seq (LS [LO 11 (LA 1 2),LO 12 (LL 11),LO 13 (LA 1 3),LO 14 (LL 13),LO 15 (.call 82 [(LT 12),(LT 14)]),LO 16 (.un .not (LT 15))] (.cond (LT 16) (LS [LO 4 (.mv LF)] .ret) .skip)) (.seq (LS [LO 17 (LA 2 2),LO 18 (LL 17),LO 19 (LA 2 3),LO 20 (LL 19),LO 21 (.call 54 [(LT 18),(LT 20)]),LO 22 (.un .not (LT 21))] (.cond (LT 22) (LS [LO 4 (.mv LF)] .ret) .skip)) (LS [LO 4 (.mv LG)] .ret)))))
def mO:aT:=⟨23,[(.tmp 4)],kC⟩
theorem Gb:hC 22=some mO:=by kernel_rfl
def wE:aE:=(LS [LO 2 (.box (LT 0)),LO 4 (.mv (LI 0))] (LS [LO 5 (LA 0 2),LO 6 (LL 5),LM 7 1,LO 8 (.call 50 [(LT 6),(LT 7)]),LM 1 8] (LS [LO 9 (LA 1 2),LO 10 (LL 9),LM 11 1,LO 12 (.call 71 [(LT 10),(LT 11)]),LM 1 12] (LS [LO 13 (LA 2 2),LO 14 (LL 13),LM 15 1,LO 16 (.call 50 [(LT 14),(LT 15)]),LM 1 16] (LS [LM 17 1,LM 4 17] .ret)))))
def yI:aT:=⟨18,[(.tmp 4)],wE⟩
theorem Dx:hC 23=some yI:=by kernel_rfl
def wF:aE:=(LS [LO 2 (.box (LT 0)),LO 4 (.mv (LI 0))] (LS [LO 5 (LA 0 2),LO 6 (LL 5),LM 7 1,LO 8 (.call 57 [(LT 6),(LT 7)]),LM 1 8] (.seq (LS [LM 9 1,LO 10 (.bin .lss (LT 9) (LI 0))] (.cond (LT 10) (LS [LO 4 (.mv (LI (-1)))] .ret) .skip)) (LS [LO 11 (LA 1 2),LO 12 (LL 11),LM 13 1,LO 14 (.call 83 [(LT 12),(LT 13)]),LM 1 14] (.seq (LS [LM 15 1,LO 16 (.bin .lss (LT 15) (LI 0))] (.cond (LT 16) (LS [LO 4 (.mv (LI (-1)))] .ret) .skip)) (LS [LO 17 (LA 2 2),LO 18 (LL 17),LM 19 1,LO 20 (.call 57 [(LT 18),(LT 19)]),LM 1 20] (.seq (LS [LM 21 1,LO 22 (.bin .lss (LT 21) (LI 0))] (.cond (LT 22) (LS [LO 4 (.mv (LI (-1)))] .ret) .skip)) (LS [LM 23 1,LM 4 23] .ret))))))))
def zK:aT:=⟨24,[(.tmp 4)],wF⟩
theorem DT:hC 24=some zK:=by kernel_rfl
def lU:aE:=(.seq (LS [LM 12 5,LM 13 0,LO 14 (.len (LT 13)),LO 15 (.bin .lss (LT 12) (LT 14))] (.cond (LT 15) .skip (.exit 0))) (.seq (.block 1 (LS [LM 18 1,LM 19 0,LM 20 5,LO 21 (.iaddr 1 (LT 19) (LT 20)),LO 22 (LL 21),LO 23 (.slen (LT 22)),LO 24 (.bin .sub (LT 18) (LT 23)),LM 1 24] (LS [LM 25 1,LO 26 (.bin .lss (LT 25) (LI 0))] (.cond (LT 26) (LS [LO 4 (.mv (LI (-1)))] .ret) .skip)))) (.eG [LM 16 5,LO 17 (.bin .add (LT 16) (LI 1)),LM 5 17])))
def rE:aE:=(LS [LO 4 (.mv (LI 0))] (LS [LM 6 1,LM 7 0,LO 8 (.len (LT 7)),LO 9 (.bin .sub (LT 6) (LT 8)),LM 1 9] (.seq (LS [LM 10 1,LO 11 (.bin .lss (LT 10) (LI 0))] (.cond (LT 11) (LS [LO 4 (.mv (LI (-1)))] .ret) .skip)) (.seq (LS [LO 5 (.mv (LI 0))] (.block 0 (.loop lU))) (LS [LM 27 1,LM 4 27] .ret)))))
def vM:aT:=⟨28,[(.tmp 4)],rE⟩
theorem FO:hC 41=some vM:=by kernel_rfl
def lZ:aE:=(.seq (LS [LM 21 6,LM 22 0,LO 23 (.len (LT 22)),LO 24 (.bin .lss (LT 21) (LT 23))] (.cond (LT 24) .skip (.exit 0))) (.seq (.block 1 (.eG [LM 27 5,LM 28 6,LM 29 0,LM 30 6,LO 31 (.iaddr 1 (LT 29) (LT 30)),LO 32 (LL 31),LO 33 (.iaddr 1 (LT 27) (LT 28)),LN (.store 1 (LT 33) (LT 32))])) (.eG [LM 25 6,LO 26 (.bin .add (LT 25) (LI 1)),LM 6 26])))
def lY:aE:=(.seq (LS [LM 36 7,LM 37 5,LO 38 (.len (LT 37)),LO 39 (.bin .lss (LT 36) (LT 38))] (.cond (LT 39) .skip (.exit 2))) (.seq (.block 3 (.eG [LM 42 5,LM 43 7,LO 44 (.iaddr 1 (LT 42) (LT 43)),LN (.store 1 (LT 44) (.const (.string ⟨#[126,115,112,97,114,101,126]⟩)))])) (.eG [LM 40 7,LO 41 (.bin .add (LT 40) (LI 1)),LM 7 41])))
def nE:aE:=(LS [LO 4 (.mv (.const (.slice none 0 0)))] (.seq (LS [LM 8 1,LM 9 8,LY 9 10 (.mv (LT 0)),LY 9 11 (.len (LT 10)),LY 9 12 (.bin .eql (LT 11) (LI 0)),LO 13 (.pick (LT 9) (LT 12) LF)] (.cond (LT 13) (LS [LO 4 (.mv (.const (.slice none 0 0)))] .ret) .skip)) (LS [LM 14 0,LO 15 (.len (LT 14)),LM 16 0,LO 17 (.len (LT 16)),LO 18 (.call 118 [(LT 17)]),LO 19 (.bin .add (LT 15) (LT 18)),LO 20 (.make [(.string ⟨#[]⟩)] 16 (LT 19) (LT 19)),LM 5 20] (.seq (LS [LO 6 (.mv (LI 0))] (.block 0 (.loop lZ))) (.seq (LS [LM 34 0,LO 35 (.len (LT 34)),LM 7 35] (.block 2 (.loop lY))) (LS [LM 45 5,LM 46 0,LO 47 (.len (LT 46)),LO 48 (.sub 1 (LT 45) none (some (LT 47)) none),LM 4 48] .ret))))))
def qA:aT:=⟨49,[(.tmp 4)],nE⟩
theorem Fv:hC 43=some qA:=by kernel_rfl
def sL:aE:=(LS [LO 4 (.mv LF)] (LS [LM 6 1,LO 7 (.len (LT 6)),LM 8 1,LO 9 (.len (LT 8)),LO 10 (.call 118 [(LT 9)]),LO 11 (.bin .add (LT 7) (LT 10)),LM 5 11] (LS [LM 12 0,LO 13 (.len (LT 12)),LM 14 1,LO 15 (.len (LT 14)),LO 16 (.bin .eql (LT 13) (LT 15)),LM 17 16,LY 17 18 (.mv (LT 0)),LY 17 19 (.mv (LT 5)),LY 17 20 (.sub 1 (LT 18) none (some (LT 19)) none),LY 17 21 (.mv (LT 1)),LY 17 22 (.mv (LT 5)),LY 17 23 (.sub 1 (LT 21) none (some (LT 22)) none),⟨(some 24),(.call 54 [(LT 20),(LT 23)]),(some (17,true)),true,[]⟩,LO 25 (.pick (LT 17) (LT 24) LF),LM 4 25] .ret)))
def uR:aT:=⟨26,[(.tmp 4)],sL⟩
theorem Cc:hC 45=some uR:=by kernel_rfl
def jQ:aE:=(.seq (LS [LM 6 5,LM 7 0,LO 8 (.len (LT 7)),LO 9 (.bin .lss (LT 6) (LT 8))] (.cond (LT 9) .skip (.exit 0))) (.seq (.block 1 (.eG [LM 12 0,LM 13 5,LO 14 (.iaddr 1 (LT 12) (LT 13)),LO 15 (LL 14),LM 16 1,LO 17 (.call 50 [(LT 15),(LT 16)]),LM 1 17])) (.eG [LM 10 5,LO 11 (.bin .add (LT 10) (LI 1)),LM 5 11])))
def nX:aE:=(LS [LO 4 (.mv (LI 0))] (.seq (LS [LO 5 (.mv (LI 0))] (.block 0 (.loop jQ))) (LS [LM 18 1,LM 4 18] .ret)))
def pT:aT:=⟨19,[(.tmp 4)],nX⟩
theorem tG:hC 71=some pT:=by kernel_rfl
def mC:aE:=(LS [LO 2 (.mv (LI 0))] (.seq (LS [LM 3 0,LO 4 (.bin .rem (LT 3) (LI 6)),LO 5 (.bin .eql (LT 4) (LI 5))] (.cond (LT 5) (LS [LO 2 (.mv (LI 0))] .ret) .skip)) (.seq (LS [LM 6 0,LO 7 (.bin .rem (LT 6) (LI 3)),LO 8 (.bin .eql (LT 7) (LI 0))] (.cond (LT 8) (LS [LO 2 (.mv (LI 1))] .ret) .skip)) (LS [LM 9 0,LM 2 9] .ret))))
def oP:aT:=⟨10,[(.tmp 2)],mC⟩
theorem ED:hC 118=some oP:=by kernel_rfl
def rL:aE:=(.seq (LS [LM 6 0,LO 7 (.bin .gtr (LT 6) (LI 0))] (.cond (LT 7) .skip (.exit 0))) (.block 1 (LS [LM 8 0,LO 9 (.bin .rem (LT 8) (LI 10)),LO 10 (.bin .add (LI 48) (LT 9)),LO 11 (.cvt .u8 (LT 10)),LO 12 (.lit [(.int .u8 0)] 1 [(0,(LT 11))]),LO 13 (.b2s (LT 12)),LM 14 3,LO 15 (.bin .add (LT 13) (LT 14)),LM 3 15] (.eG [LM 16 0,LO 17 (.bin .quo (LT 16) (LI 10)),LM 0 17]))))
def sZ:aE:=(LS [LO 2 (.mv (.const (.string ⟨#[]⟩)))] (.seq (LS [LM 4 0,LO 5 (.bin .leq (LT 4) (LI 0))] (.cond (LT 5) (LS [LO 2 (.mv (.const (.string ⟨#[109,48]⟩)))] .ret) .skip)) (LS [LO 3 (.mv (.const (.string ⟨#[]⟩)))] (.seq (.block 0 (.loop rL)) (LS [LM 18 3,LO 19 (.bin .add (.const (.string ⟨#[109]⟩)) (LT 18)),LM 2 19] .ret)))))
def xX:aT:=⟨20,[(.tmp 2)],sZ⟩
theorem HD:hC 130=some xX:=by kernel_rfl
def kX:aE:=(.seq (LS [LM 11 5,LM 12 0,LO 13 (.len (LT 12)),LO 14 (.bin .lss (LT 11) (LT 13))] (.cond (LT 14) .skip (.exit 0))) (.seq (.block 1 (LS [LM 17 0,LM 18 5,LO 19 (.iaddr 1 (LT 17) (LT 18)),LO 20 (LL 19),LM 21 1,LM 22 5,LO 23 (.iaddr 1 (LT 21) (LT 22)),LO 24 (LL 23),LQ 25 (.call 54 [(LT 20),(LT 24)]),LO 26 (.un .not (LT 25))] (.cond (LT 26) (LS [LO 4 (.mv LF)] .ret) .skip))) (.eG [LM 15 5,LO 16 (.bin .add (LT 15) (LI 1)),LM 5 16])))
def pS:aE:=(LS [LO 4 (.mv LF)] (.seq (LS [LM 6 0,LO 7 (.len (LT 6)),LM 8 1,LO 9 (.len (LT 8)),LO 10 (.bin .neq (LT 7) (LT 9))] (.cond (LT 10) (LS [LO 4 (.mv LF)] .ret) .skip)) (.seq (LS [LO 5 (.mv (LI 0))] (.block 0 (.loop kX))) (LS [LO 4 (.mv LG)] .ret))))
def sX:aT:=⟨27,[(.tmp 4)],pS⟩
theorem EG:hC 82=some sX:=by kernel_rfl
def mR:aE:=(.seq (LS [LM 6 5,LM 7 0,LO 8 (.len (LT 7)),LO 9 (.bin .lss (LT 6) (LT 8))] (.cond (LT 9) .skip (.exit 0))) (.seq (.block 1 (LS [LM 12 0,LM 13 5,LO 14 (.iaddr 1 (LT 12) (LT 13)),LO 15 (LL 14),LM 16 1,LO 17 (.call 57 [(LT 15),(LT 16)]),LM 1 17] (LS [LM 18 1,LO 19 (.bin .lss (LT 18) (LI 0))] (.cond (LT 19) (LS [LO 4 (.mv (LI (-1)))] .ret) .skip)))) (.eG [LM 10 5,LO 11 (.bin .add (LT 10) (LI 1)),LM 5 11])))
def tF:aE:=(LS [LO 4 (.mv (LI 0))] (.seq (LS [LO 5 (.mv (LI 0))] (.block 0 (.loop mR))) (LS [LM 20 1,LM 4 20] .ret)))
def xO:aT:=⟨21,[(.tmp 4)],tF⟩
theorem CQ:hC 83=some xO:=by kernel_rfl
end Go.PM