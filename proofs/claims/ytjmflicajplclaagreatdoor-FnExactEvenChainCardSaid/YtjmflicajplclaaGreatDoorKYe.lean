/- Texts of a claim, in one: part 5. -/
import Derived.Test.YtjmflicajplclaaGreatDoorKYd
set_option linter.unusedSimpArgs false
set_option linter.unusedVariables false
namespace Go.PM
def VT (f:Nat) (args:List VV) (r:VV):Prop :=
 ∀(F:Nat→Prop) (P:aE) (eO:List Value) (eQ:Nat),(∀b,F b→b<P.length)→VL (bare F P) args eO→eQ≤P.length →
  ∃P' pv,rS f eO eQ P=some (pv,P')∧P <+: P'∧VR (bare (fun q=>F q∨(P.length≤q∧q<P'.length)) P') r pv
def Rq (lo eQ:Nat) (V:View) (r:Option (Value×aE)) (K:VV→aA→Prop):Prop :=
 ∃pv V' v,r=some (pv,V'.P)∧SR V' lo eQ∧FE lo V V'∧VR V' v pv∧K v V'.H
def jC (f:Nat) (args:List VV) (lo:Nat) (H:aA) (K:VV→aA→Prop):Prop :=
 ∀(V:View) (eQ:Nat) (eO:List Value),V.H=H→SR V lo eQ→VL V args eO→Rq lo eQ V (rS f eO eQ V.P) K
theorem jC.mono {f:Nat} {args:List VV} {lo:Nat} {H:aA} {K K':VV→aA→Prop} (hk:∀v H,K v H→K' v H) (h:jC f args lo H K):jC f args lo H K':=by
 intro V eQ eO hH hS hl
 obtain⟨pv,V',v,h1,h2,h3,h4,h5⟩:=h V eQ eO hH hS hl
 exact⟨pv,V',v,h1,h2,h3,h4,hk _ _ h5⟩
theorem VT.uniq {f:Nat} {args:List VV} {r r':VV} (h:VT f args r) (h':VT f args r') (ha:aP args=true) (hr:hC r=true) (Fy:hC r'=true):r=r':=by
 obtain⟨P,ps,_,hl⟩:=PK args ha []
 obtain⟨P',pv,h1,_,h2⟩:=h (· < P.length) P ps 0 (fun _ h=>h) hl (Nat.zero_le _)
 obtain⟨YD,pv',h3,_,h4⟩:=h' (· < P.length) P ps 0 (fun _ h=>h) hl (Nat.zero_le _)
 rw[h1] at h3
 injection h3 with h3
 injection h3 with h3 h5
 subst h3 h5
 exact h2.uniq h4 hr Fy
open Classical in
noncomputable def vT (f:Nat) (args:List VV):Option VV:=if h:∃r,aP args=true∧hC r=true∧VT f args r then some (Classical.choose h) else none
theorem Qm {f:Nat} {args:List VV} {r:VV} (h:vT f args=some r):aP args=true∧hC r=true∧VT f args r:=by
 unfold vT at h
 split at h
 ·rename_i hx
  cases h
  exact Classical.choose_spec hx
 ·cases h
theorem amS {f:Nat} {args:List VV} {r:VV} (ha:aP args=true) (hr:hC r=true) (h:VT f args r):vT f args=some r:=by
 have hx:∃r,aP args=true∧hC r=true∧VT f args r:=⟨r,ha,hr,h⟩
 unfold vT
 rw[dif_pos hx]
 obtain⟨_,h2,h3⟩:=Classical.choose_spec hx
 rw[h3.uniq h ha h2 hr]
def tk (r:Option VV) (K:VV→Prop):Prop:=match r with
 | some r=>K r
 | none=>False
noncomputable def G1 (f:Nat) (args:List VV) (K:VV→Prop):Prop:=tk (vT f args) K
noncomputable def cV (f:Nat) (args:List VV) (lo:Nat) (H:aA) (K:VV→aA→Prop):Prop :=
 if Eo.contains f=true then jC f args lo H K
 else if aP args=true then G1 f args fun r=>K r H
 else match args.mapM (fz depth H) with
  | some iQ=>G1 f iQ fun r=>if M7 r=true then K r H else K r (dB H (args.flatMap (jJ depth H)))
  | none=>False
noncomputable def eK (fl:Fl) (lo:Nat) (q:Bool) (op:nS) (ρ:dL) (H:aA) (K:VV→aA→Prop):Prop :=
 match op with
 | .call f args=>cV f (args.map (eJ ρ)) (if q then H.length else lo) H K
 |
  .callv fv args=>match eJ ρ fv with
  | .vJ f fY=>cV f (args.map (eJ ρ)++fY) (if q then H.length else lo) H K
  | _=>False
 |
  o=>match vop fl lo o ρ H with
  | some (v,H')=>K v H'
  | none=>False
noncomputable def VS (fl:Fl) (lo:Nat):List PI→(dL→aA→Prop)→dL→aA→Prop
 | [],K,ρ,H=>K ρ H
 |
  i::is,K,ρ,H=>match Cd i.g ρ with
  | none=>False
  | some false=>VS fl lo is K (KW ρ i.dst qK) H
  | some true=>i.cf.all (zC ρ H)=true∧eK fl lo i.quiet i.op ρ H fun v H'=>VS fl lo is K (KW ρ i.dst v) H'
def ajM:List Nat→dL→aA→Option (dL×aA)
 | [],ρ,H=>some (ρ,H)
 |
  t::ts,ρ,H=>match fz depth H (ρ t) with
  | some v=>ajM ts (KW ρ (some t) v) (dB H (jJ depth H (ρ t)))
  | none=>none
def K2 (r:Option VV) (H:aA) (K:VV→aA→Prop):Prop:=match r with
 | some v=>K v H
 | none=>False
def gh (K:dL→aA→Prop) (ρ:dL) (H:aA):Prop:=∃ts bL H',ajM ts ρ H=some (bL,H')∧K bL H'
def jX (k:Nat) (H:aA):Bool:=H.all fun
 | .row _ es _ _=>lW k es
 | .dead=>true
def Is (k:Nat) (ρ:dL):dL:=fun t=>Kd k (ρ t)
abbrev VQ:=Ex→dL→aA→Prop
def nJ (K:dL→aA→Prop) (Q:VQ):VQ
 | .normal=>K
 | x=>Q x
def AZ (id:Nat) (Q:VQ):VQ
 | .exit Sm=>fun ρ H=>if Sm=id then Q .normal ρ H else Q (.exit Sm) ρ H
 | x=>Q x
def RU (body:VQ→dL→aA→Prop) (Q:VQ):Nat→dL→aA→Prop
 | 0,_,_=>False
 | n+1,ρ,H=>body (nJ (fun bL H'=>RU body Q n bL H'∨(jX H.length (H'.take H.length)=true∧RU body Q n (Is H.length bL) (H'.take H.length))) Q) ρ H
noncomputable def VW (fl:Fl) (lo:Nat):aD→VQ→dL→aA→Prop
 | .skip,Q,ρ,H=>Q .normal ρ H
 | .dI ops,Q,ρ,H=>VS fl lo ops (Q .normal) ρ H
 | .seq a b,Q,ρ,H=>VW fl lo a (nJ (VW fl lo b Q) Q) ρ H
 |
  .cond c a b,Q,ρ,H=>match eJ ρ c with
  | .sc (.bool t)=>if t=true then VW fl lo a Q ρ H else VW fl lo b Q ρ H
  | _=>False
 | .block id a,Q,ρ,H=>VW fl lo a (AZ id Q) ρ H
 | .loop a,Q,ρ,H=>∃n,RU (VW fl lo a) (fun x=>gh (Q x)) n ρ H
 | .exit id,Q,ρ,H=>Q (.exit id) ρ H
 | .ret,Q,ρ,H=>Q .ret ρ H
def En (ρ:dL) (H:aA):BE→Option VV
 | .tmp t=>some (ρ t)
 | .cell t agg size=>bX agg size (ρ t) H
def pJ (ρ:dL) (H:aA):List BE→Option (List VV)
 | []=>some []
 |
  r::rs=>match En ρ H r,pJ ρ H rs with
  | some v,some vs=>some (v::vs)
  | _,_=>none
def mU (res:List BE) (ρ:dL) (H:aA):Option VV :=
 match pJ ρ H res with
 | some [v]=>some v
 | some vs=>some (.dR vs)
 | none=>none
def HT (R:VV→aA→Prop):Option VV→aA→Prop
 | some v,H=>R v H
 | none,_=>False
def BC (res:List BE) (R:VV→aA→Prop):VQ
 | .exit _,_,_=>False
 | .normal,ρ,H=>HT R (mU res ρ H) H
 | .ret,ρ,H=>HT R (mU res ρ H) H
def Kp (args:List VV):dL:=fun k=>args.getD k qK
section
variable {lo eQ:Nat}
theorem Gm {V:View} (hS:SR V lo eQ) {P':aE} (hp:V.P <+: P'):SR { V with P:=P',F:=fun q=>V.F q∨(V.P.length≤q∧q<P'.length) } lo eQ∧FE lo V { V with P:=P',F:=fun q=>V.F q∨(V.P.length≤q∧q<P'.length) }:=by
 obtain⟨L,rfl⟩:=hp
 have hU:Up V { V with P:=V.P++L,F:=fun q=>V.F q∨(V.P.length≤q∧q<(V.P++L).length) }:=⟨fun _ h => .inl h,fun b hb=>List.getElem?_append_left (hS.fr b hb),Nat.le_refl _,fun b g es e w _ h=>⟨g,es,w,h,Nat.le_refl _,fun _=>rfl⟩,rfl,by simp,fun b g es e w hb _=>⟨g,es,w,hb,rfl,id⟩⟩
 refine⟨⟨fun b g es e w hb => ?_,fun b g es e hb=>⟨fun hF => ?_,(hS.wr b g es e hb).2⟩,hS.inj,fun b hb => ?_,by have:=hS.Ux;simp;omega,by have:=hS.K8;simp;omega⟩,{ hU with cG:=fun q hq _=>List.getElem?_append_left hq,Dh:=fun q hq => ?_ }⟩
 ·obtain⟨r,p,h1,h2,h3⟩:=hS.row b g es e w hb
  exact⟨r,p,by rw[←h1];exact List.getElem?_append_left (hS.mlt hb),h2,h3.mono hU⟩
 ·rcases hF with hF | hF
  ·exact(hS.wr b g es e hb).1 hF
  ·have h1:=hS.mlt hb
   have h2:V.P.length≤V.m b:=hF.1
   omega
 ·rcases hb with hb | hb
  ·have:=hS.fr b hb
   simp;omega
  ·exact hb.2
 ·rcases hq with hq | hq
  ·exact .inl hq
  ·exact .inr (.inl hq.1)
theorem aeH {V V':View} {x:VV} {v:Value} (h:VR V x v):M7 x=true→VR V' x v:=by
 induction h using VR.rec (motive_2:=fun xs vs _=>SJ xs=true→VL V' xs vs) with
 | sc _ h=>intro _;exact .sc _ h
 | agg cs ps _ ih=>intro hx;exact .agg _ _ (ih hx)
 | dR cs ps _ ih=>intro hx;exact .dR _ _ (ih hx)
 | any=>intro hx;cases hx
 | nZ=>intro hx;cases hx
 | tree=>intro hx;cases hx
 | cT=>intro hx;cases hx
 | ref=>intro hx;cases hx
 | ptr=>intro hx;cases hx
 | vJ=>intro hx;cases hx
 | nil=>exact .nil
 |
  cons x v xs vs _ _ ih VZ =>
  rename_i hx
  simp only[SJ,Bool.and_eq_true] at hx
  exact .cons _ _ _ _ (ih hx.1) (VZ hx.2)
theorem VR.Ef {V':View} {G:Nat→Prop} {P:aE} {x:VV} {v:Value} (hF:∀b,G b→V'.F b∧V'.P[b]? = P[b]?) (h:VR (bare G P) x v):VR V' x v:=by
 induction h using VR.rec (motive_2:=fun xs vs _=>VL V' xs vs) with
 | any=>exact .any _
 | sc _ h=>exact .sc _ h
 | agg cs ps _ ih=>exact .agg _ _ ih
 | dR cs ps _ ih=>exact .dR _ _ ih
 | nZ k hk=>exact .nZ k hk
 | tree es k b o c r e p UM hb ho hc he hk _ ih=>exact .tree es k b o c r e p (hF _ UM).1 (by rw[(hF _ UM).2];exact hb) ho hc he hk ih
 | cT x off b o r e p UM hb ho _ ih=>exact .cT x off b o r e p (hF _ UM).1 (by rw[(hF _ UM).2];exact hb) ho ih
 | ref b g o n c a n' c' bH hg ha hq=>exact absurd bH (Nat.not_lt_zero _)
 | ptr b g j off a bH hg ha hq=>exact absurd bH (Nat.not_lt_zero _)
 | vJ f fY ps _ ih=>exact .vJ _ _ _ ih
 | nil=>exact .nil
 | cons x v xs vs _ _ ih VZ=>exact .cons _ _ _ _ ih VZ
theorem RJ {V:View} (hS:SR V lo eQ) {f akU:Nat} (ajR:akU≤V.P.length) {args:List VV} {eO:List Value} {G:Nat→Prop} (hG:∀b,G b→b<V.P.length) (hl:VL (bare G V.P) args eO) {K:VV→Prop} (h:G1 f args K) :
  ∃P' pv r,rS f eO akU V.P=some (pv,P')∧V.P <+: P'∧VR (bare (fun q=>G q∨(V.P.length≤q∧q<P'.length)) P') r pv∧aY r=true∧K r:=by
 unfold G1 tk at h
 split at h
 ·rename_i r hr
  obtain⟨h1,h2,h3⟩:=Qm hr
  obtain⟨P',pv,h4,h5,h6⟩:=h3 G V.P eO akU hG hl ajR
  exact⟨P',pv,r,h4,h5,h6,Sp r h2,h⟩
 ·cases h
theorem Hs {V:View} (hS:SR V lo eQ) {f:Nat} {args:List VV} {eO:List Value} (hl:VL V args eO) {q:Bool} {K:VV→aA→Prop} (h:cV f args (if q then V.H.length else lo) V.H K):Rq lo eQ V (rS f eO (if q then V.P.length else eQ) V.P) K:=by
 have hlq:(if q=true then V.P.length else eQ)≤V.P.length:=by split;exact Nat.le_refl _;exact hS.Ux
 unfold cV at h
 split at h
 ·cases q with
  | false=>exact h V eQ eO rfl hS hl
  |
   true =>
   have hS':SR V V.H.length V.P.length:=⟨hS.row,fun b g es e hb=>⟨(hS.wr b g es e hb).1,fun hl=>by have:=(List.getElem?_eq_some_iff.1 hb).1;omega⟩,hS.inj,hS.fr,Nat.le_refl _,hS.K8⟩
   obtain⟨pv,V',r,g1,g3,g4,g5,g6⟩:=h V V.P.length eO rfl hS' hl
   refine⟨pv,V',r,g1,⟨g3.row,fun b g es e hb=>⟨(g3.wr b g es e hb).1,fun Fz => ?_⟩,g3.inj,g3.fr,Nat.le_trans hS.Ux g4.Fh,g3.K8⟩,{ g4.toUp with cG:=fun p hp _=>g4.cG p hp fun b g es e hb Fz => ?_,Dh:=g4.Dh },g5,g6⟩
   ·rcases Nat.lt_or_ge (V'.m b) V.P.length with bH | CJ
    ·obtain⟨g0,es0,w0,k1,k2,k3⟩:=g4.Cl b g es e true hb bH
     have:=k3 rfl
     subst this
     rw[k2]
     exact(hS.wr _ _ _ _ k1).2 Fz
    ·exact Nat.le_trans hS.Ux CJ
   ·have:=(List.getElem?_eq_some_iff.1 hb).1
    have Fz:V.H.length≤b:=Fz
    omega
 ·split at h
  ·rename_i hp
   obtain⟨P',pv,r,g1,g2,g3,g4,g5⟩:=RJ hS (akU:=if q=true then V.P.length else eQ) hlq (G:=V.F) hS.fr (VL.pure (V:=V) (V':=bare V.F V.P) (fun b hb=>⟨hb,rfl⟩) hl hp) h
   obtain⟨k1,k2⟩:=Gm hS g2
   exact⟨pv,_,r,g1,k1,k2,g3.Ef (fun b hb=>⟨hb,rfl⟩),g5⟩
  ·split at h
   case h_2=>cases h
   rename_i iQ W3
   unfold G1 tk at h
   split at h
   case h_2=>cases h
   rename_i r hr
   obtain⟨h1,h2,h3⟩:=Qm hr
   split at h
   ·rename_i hfl
    have Co:=EC hS (G:=(· < V.P.length)) (fun q hq=>hS.fr q hq) hl W3 (fun i _ g es e w hb=>hS.mlt hb)
    obtain⟨P',pv,g1,g2,g3⟩:=h3 _ V.P eO _ (fun _ h=>h) Co hlq
    obtain⟨k1,k2⟩:=Gm hS g2
    exact⟨pv,_,r,g1,k1,k2,aeH g3 hfl,h⟩
   ·obtain⟨k1,k2,k3,k4,k5,k6⟩:=wJ (args.flatMap (jJ depth V.H)) hS
    have Co:=EC hS (G:=(V.dB (args.flatMap (jJ depth V.H))).F) (fun q hq=>k2.F q hq) hl W3 k6
    rw[←k4] at Co
    obtain⟨P',pv,g1,g2,g3⟩:=h3 _ _ eO _ k1.fr Co (by rw[k4];exact hlq)
    obtain⟨j1,j2⟩:=Gm k1 g2
    rw[k4] at g1
    refine⟨pv,_,r,g1,j1,k2.trans j2,g3.Ef (fun b hb=>⟨hb,rfl⟩),?_⟩
    show K r (V.dB (args.flatMap (jJ depth V.H))).H
    rw[k3]
    exact h
def A4 (lo eQ:Nat) (V:View) (c:aD) (Q:VQ) (kV:Env):Prop :=
 W eQ c (fun x Ox P'=>∃V' bL,V'.P=P'∧SR V' lo eQ∧FE lo V V'∧ER V' bL Ox∧Q x bL V'.H) kV V.P
theorem GQ {V:View} {ρ:dL} {kV:Env} (hE:ER V ρ kV) {g:Option (Nat×Bool)} {t:Bool} (h:Cd g ρ=some t):AL g kV=some t:=by
 unfold Cd at h
 unfold AL
 split at h
 ·exact h
 ·rename_i t' want
  have ht:=hE t'
  split at h
  ·rename_i b hb
   obtain⟨e,_⟩:=rX ht hb
   simp only[e]
   exact h
  ·rename_i vs hb
   rw[hb] at ht
   generalize hu:kV t'=u at ht
   cases ht with
   | dR cs ps hl=>simp only[hu];exact h
  ·cases h
theorem Wk {V:View} (hS:SR V lo eQ) {x y:VV} {u w:Value} (hx:VR V x u) (hy:VR V y w) (h:GL V.H x y=true):avO u w=true:=by
 have key:∀ {z:VV} {v:Value},VR V z v→(match Gs V.H z with
   | .bad=>True
   | .no=>jG v=none
   | .row i wr=>jG v=some (V.m i)∧∃g es e,V.H[i]? = some (.row g es e wr)
   | .Cl i=>∀q,jG v=some q→∀b' g' es e w,V.H[b']? = some (.row g' es e w)→b'≠i→V.m b'≠q
   | .tree=>∀b,jG v=some b→V.F b):=by
  intro z v hz
  cases hz with
  | any=>simp only[Gs]
  | sc v h =>
      cases v<;>first | rfl | cases h | skip
      rename_i a;cases a<;>first | rfl | cases h
  | agg=>rfl
  | dR=>rfl
  | nZ k hk =>
       rcases hk with rfl | rfl
       ·intro b hb;cases hb
       ·rfl
  |
   tree es k b o c r e p hF hb ho hc he hk hl =>
   cases es with
   |
    nil=>cases k with
    | nil=>exact hk.elim
    | op=>intro b' vZ;cases vZ;exact hF
    | cl=>intro b' vZ;cases vZ;exact hF
   | cons=>intro b' vZ;cases vZ;exact hF
  | cT x off b o r e p hF hb ho hl=>intro b' vZ;cases vZ;exact hF
  |
   ref b g o n c a n' c' bH hg ha hq =>
   simp only[Gs]
   cases hr:aF V.H b g with
   | none=>exact fun q h=>(by
     cases a with
     | none=>cases h
     | some a0=>cases h;exact(hq a0 rfl).2.2)
   |
    some q =>
    obtain⟨es,e,wr⟩:=q
    rw[cK] at hr
    obtain⟨rfl,rfl,rfl⟩:=ha _ _ _ hr
    exact⟨rfl,g,es,e,hr⟩
  |
   ptr b g j off a bH hg ha hq =>
   simp only[Gs]
   cases hr:aF V.H b g with
   | none=>exact fun q h=>(by
     cases a with
     | none=>cases h
     | some a0=>cases h;exact(hq a0 rfl).2.2)
   |
    some q =>
    obtain⟨es,e,wr⟩:=q
    rw[cK] at hr
    have:=ha _ _ _ hr
    subst this
    exact⟨rfl,g,es,e,hr⟩
  | vJ=>rfl
 have kx:=key hx
 have ky:=key hy
 unfold GL at h
 unfold avO
 cases hbx:Gs V.H x with
 | bad=>rw[hbx] at h;have h:false=true:=h;cases h
 |
  no =>
  rw[hbx] at kx
  have kx:jG u=none:=kx
  rw[kx]
 |
  Cl i =>
  rw[hbx] at kx h
  have kx:∀q,jG u=some q→∀b' g' es e w,V.H[b']? = some (.row g' es e w)→b'≠i→V.m b'≠q:=kx
  cases SI:Gs V.H y with
  | bad=>rw[SI] at h;have h:false=true:=h;cases h
  |
   no =>
   rw[SI] at ky
   have ky:jG w=none:=ky
   rw[ky]
   cases jG u<;>rfl
  | Cl j=>rw[SI] at h;have h:false=true:=h;cases h
  | tree=>rw[SI] at h;have h:false=true:=h;cases h
  |
   row j wj =>
   rw[SI] at ky h
   obtain⟨k3,g2,es2,e2,k4⟩:jG w=some (V.m j)∧∃g es e,V.H[j]? = some (.row g es e wj):=ky
   have h:(i != j)=true:=h
   simp only[bne_iff_ne,ne_eq] at h
   rw[k3]
   cases hu:jG u with
   | none=>rfl
   |
    some q =>
    simp only[bne_iff_ne,ne_eq]
    exact fun hm=>kx q hu j _ _ _ _ k4 (Ne.symm h) hm.symm
 |
  row i wi =>
  rw[hbx] at kx h
  obtain⟨k1,g1,C3,e1,k2⟩:jG u=some (V.m i)∧∃g es e,V.H[i]? = some (.row g es e wi):=kx
  cases SI:Gs V.H y with
  | bad=>rw[SI] at h;have h:false=true:=h;cases h
  |
   no =>
   rw[SI] at ky
   have ky:jG w=none:=ky
   rw[ky]
   cases jG u<;>rfl
  |
   Cl j =>
   rw[SI] at ky h
   have ky:∀q,jG w=some q→∀b' g' es e w,V.H[b']? = some (.row g' es e w)→b'≠j→V.m b'≠q:=ky
   have h:(i != j)=true:=h
   simp only[bne_iff_ne,ne_eq] at h
   rw[k1]
   cases hw:jG w with
   | none=>rfl
   |
    some q =>
    simp only[bne_iff_ne,ne_eq]
    exact fun hm=>ky q hw i _ _ _ _ k2 h hm
  |
   row j wj =>
   rw[SI] at ky h
   obtain⟨k3,g2,es2,e2,k4⟩:jG w=some (V.m j)∧∃g es e,V.H[j]? = some (.row g es e wj):=ky
   rw[k1,k3]
   have h:(i != j)=true:=h
   simp only[bne_iff_ne,ne_eq] at h ⊢
   exact fun hm=>h (hS.inj _ _ _ _ _ _ _ _ _ _ k2 k4 hm)
  |
   tree =>
   rw[SI] at ky h
   have ky:∀b,jG w=some b→V.F b:=ky
   have h:wi=true:=h
   subst h
   cases hw:jG w with
   | none=>rw[k1]
   |
    some b =>
    rw[k1]
    simp only[bne_iff_ne,ne_eq]
    exact fun hm=>(hS.wr _ _ _ _ k2).1 (by rw[hm];exact ky b hw)
 |
  tree =>
  rw[hbx] at kx h
  have kx:∀b,jG u=some b→V.F b:=kx
  cases SI:Gs V.H y with
  | bad=>rw[SI] at h;have h:false=true:=h;cases h
  |
   no =>
   rw[SI] at ky
   have ky:jG w=none:=ky
   rw[ky]
   cases jG u<;>rfl
  | tree=>rw[SI] at h;have h:false=true:=h;cases h
  | Cl j=>rw[SI] at h;have h:false=true:=h;cases h
  |
   row j wj =>
   rw[SI] at ky h
   obtain⟨k1,g1,C3,e1,k2⟩:jG w=some (V.m j)∧∃g es e,V.H[j]? = some (.row g es e wj):=ky
   have h:wj=true:=h
   subst h
   cases hw:jG u with
   | none=>rfl
   |
    some b =>
    rw[k1]
    simp only[bne_iff_ne,ne_eq]
    exact fun hm=>(hS.wr _ _ _ _ k2).1 (by rw[←hm];exact kx b hw)
theorem SQ {V:View} (hS:SR V lo eQ) {ρ:dL} {kV:Env} (hE:ER V ρ kV) {fl:Fl} {q:Bool} {op:nS} {K:VV→aA→Prop} (h:eK fl lo q op ρ V.H K):Rq lo eQ V (jZ eQ q op kV V.P) K:=by
 have other:∀ {v H'},vop fl lo op ρ V.H=some (v,H')→K v H'→Rq lo eQ V (jZ eQ q op kV V.P) K:=by
  intro v H' h1 h2
  obtain⟨pv,V',g1,g2,g3,g4,g5⟩:=Zp hS hE (q:=q) h1
  exact⟨pv,V',v,g1,g3,g4,g5,by rw[g2];exact h2⟩
 unfold eK at h
 split at h
 ·rw[ZM]
  exact Hs hS (hE.evs _) h
 ·rename_i fv args
  rw[UZ]
  have hf:=hE.ev fv
  split at h
  ·rename_i f fY hfv
   rw[hfv] at hf
   generalize ev kV fv=u at hf ⊢
   cases hf with
   |
    vJ f fY ps hl =>
    unfold aeE
    simp only[List.nil_append]
    exact Hs hS ((hE.evs args).append hl) h
  ·cases h
 ·split at h
  ·rename_i v H' h1
   exact other h1 h
  ·cases h
theorem Np {fl:Fl} {K:dL→aA→Prop}:∀(is:List PI) {V:View} {ρ:dL} {kV:Env},SR V lo eQ→ER V ρ kV→VS fl lo is K ρ V.H →
  WS eQ is (fun Ox P'=>∃V' bL,V'.P=P'∧SR V' lo eQ∧FE lo V V'∧ER V' bL Ox∧K bL V'.H) kV V.P
 |
  [],V,ρ,kV,hS,hE,h=>by
  rw[anE]
  exact⟨V,ρ,rfl,hS,FE.refl _ _,hE,h⟩
 |
  i::is,V,ρ,kV,hS,hE,h=>by
  unfold VS at h
  rw[avR]
  unfold Ai
  split at h
  ·cases h
  ·rename_i hw
   rw[GQ hE hw]
   exact⟨_,_,rfl,Np is hS (hE.put (.dR [] [] .nil)) h⟩
  ·rename_i hw
   rw[GQ hE hw]
   obtain⟨Rx,h⟩:=h
   have aBf:i.cf.all (Ba kV)=true:=by
    rw[List.all_eq_true] at Rx ⊢
    intro c hc
    exact Wk hS (hE.ev c.1) (hE.ev c.2) (Rx c hc)
   simp only[aBf,if_true]
   obtain⟨pv,V',v,g1,g2,g3,g4,g5⟩:=SQ hS hE h
   refine⟨pv,V'.P,?_,?_⟩
   ·unfold jZ at g1
    exact g1
   ·obtain⟨X5,YD,k1,SO,BB,k2,k3,k4,k5,k6⟩:=Np is g2 ((hE.mono g3.toUp).put g4) g5
    exact⟨X5,YD,k1,SO,BB,k2,k3,g3.trans k4,k5,k6⟩
theorem NO:∀(ts:List Nat) {V:View} {ρ bL:dL} {kV:Env} {H':aA},SR V lo eQ→ER V ρ kV→ajM ts ρ V.H=some (bL,H')→∃V',V'.P=V.P∧V'.H=H'∧SR V' lo eQ∧FE lo V V'∧ER V' bL kV
 |
  [],V,ρ,bL,kV,H',hS,hE,h=>by
  cases h
  exact⟨V,rfl,rfl,hS,FE.refl _ _,hE⟩
 |
  t::ts,V,ρ,bL,kV,H',hS,hE,h=>by
  unfold ajM at h
  split at h
  case h_2=>cases h
  rename_i v hv
  obtain⟨k1,k2,k3,k4,k5,k6⟩:=wJ (jJ depth V.H (ρ t)) hS
  have hx:=NN hS (G:=(V.dB (jJ depth V.H (ρ t))).F) (fun q hq=>k2.F q hq) depth (ρ t) v (kV t) (hE t) hv k6
  have QI:VR (V.dB (jJ depth V.H (ρ t))) v (kV t):=hx.Ef (fun b hb=>⟨hb,by rw[k4]⟩)
  rw[←k3] at h
  obtain⟨V',g1,g2,g3,g4,g5⟩:=NO ts (kV:=kV) k1 (by
   have e:=(hE.mono k2.toUp).put (d:=some t) QI
   have ee:put kV (some t) (kV t)=kV:=by
    funext k
    simp only[put]
    split
    ·rename_i hk;rw[hk]
    ·rfl
   rw[ee] at e
   exact e) h
  exact⟨V',g1.trans k4,g2,g3,k2.trans g4,g5⟩
theorem Tp {V:View} (hS:SR V lo eQ) {ρ:dL} {kV:Env} (hE:ER V ρ kV) {K:dL→aA→Prop} (h:gh K ρ V.H):∃V' bL,V'.P=V.P∧SR V' lo eQ∧FE lo V V'∧ER V' bL kV∧K bL V'.H:=by
 obtain⟨ts,bL,H',h1,h2⟩:=h
 obtain⟨V',g1,g2,g3,g4,g5⟩:=NO ts hS hE h1
 exact⟨V',bL,g1,g3,g4,g5,by rw[g2];exact h2⟩
theorem Nz {k:Nat} {es:List VV}:lW k es=true↔∀x∈es,below k x=true:=by
 induction es with
 | nil=>simp[lW]
 | cons x xs ih=>simp[lW,ih]
theorem DQ {k:Nat} {es:List VV} (h:lW k es=true):lW k (es.flatMap aB)=true:=by
 rw[Nz] at h ⊢
 intro x hx
 obtain⟨y,hy,A8⟩:=List.mem_flatMap.1 hx
 have:=h y hy
 unfold aB at A8
 split at A8
 ·exact Nz.1 (by simpa[below] using this) x A8
 ·rw[List.mem_singleton] at A8;subst A8;exact this
theorem R2 {k:Nat} {x:VV} (h:below k x=true):lW k (aB x)=true:=by
 have:=DQ (k:=k) (es:=[x]) (by simp[lW,h])
 simpa using this
def View.Ap (V:View) (k:Nat):View:={ V with H:=V.H.take k }
theorem VR.Ap {V:View} {k:Nat} (hk:k≤V.H.length) {x:VV} {v:Value} (h:VR V x v):PM.below k x=true→VR (V.Ap k) x v:=by
 have he:∀ {b:Nat},b<k→∀y,(V.Ap k).H[b]? = some y→V.H[b]? = some y:=fun X4 y hy=>by
  have:(V.H.take k)[_]? = some y:=hy
  rw[List.getElem?_take,if_pos X4] at this
  exact this
 have hT:∀ {b:Nat} {y:bT},(V.Ap k).H[b]? = some y→V.H[b]? = some y:=fun {b y} hy=>by
  have h:(V.H.take k)[b]? = some y:=hy
  rw[List.getElem?_take] at h
  split at h
  ·exact h
  ·cases h
 induction h using VR.rec (motive_2:=fun xs vs _=>lW k xs=true→VL (V.Ap k) xs vs) with
 | any=>intro _;exact .any _
 | sc _ h=>intro _;exact .sc _ h
 | agg cs ps _ ih=>intro hb;exact .agg _ _ (ih hb)
 | dR cs ps _ ih=>intro hb;exact .dR _ _ (ih hb)
 | nZ k hk=>intro _;exact .nZ k hk
 | tree es k b o c r e p UM vE ho hc he hk' _ ih=>intro hb;exact .tree es k b o c r e p UM vE ho hc he hk' (ih (DQ hb))
 | cT x off b o r e p UM vE ho _ ih=>intro hb;exact .cT x off b o r e p UM vE ho (ih (R2 hb))
 |
  ref b g o n c a n' c' bH hg ha hq =>
  intro hb
  have X4:b<k:=by simpa[PM.below] using hb
  exact .ref b g o n c a n' c' (by show b<(V.H.take k).length;simp;omega) (fun g' es e w hr=>hg _ _ _ _ (he X4 _ hr)) (fun es e w hr=>ha _ _ _ (he X4 _ hr)) fun a0 h=>⟨(hq a0 h).1,(hq a0 h).2.1,fun b' g' es e w hr=>(hq a0 h).2.2 b' g' es e w (hT hr)⟩
 |
  ptr b g j off a bH hg ha hq =>
  intro hb
  have X4:b<k:=by simpa[PM.below] using hb
  exact .ptr b g j off a (by show b<(V.H.take k).length;simp;omega) (fun g' es e w hr=>hg _ _ _ _ (he X4 _ hr)) (fun es e w hr=>ha _ _ _ (he X4 _ hr)) fun a0 h=>⟨(hq a0 h).1,(hq a0 h).2.1,fun b' g' es e w hr=>(hq a0 h).2.2 b' g' es e w (hT hr)⟩
 | vJ f fY ps _ ih=>intro hb;exact .vJ _ _ _ (ih hb)
 | nil=>exact .nil
 |
  cons x v xs vs _ _ ih VZ =>
  rename_i hb
  simp only[lW,Bool.and_eq_true] at hb
  exact .cons _ _ _ _ (ih hb.1) (VZ hb.2)
theorem VL.Ap {V:View} {k:Nat} (hk:k≤V.H.length) {xs:List VV} {vs:List Value} (h:VL V xs vs) (hb:lW k xs=true):VL (V.Ap k) xs vs:=by
 induction xs generalizing vs with
 | nil=>cases h;exact .nil
 |
  cons x xs ih=>cases h with
  |
   cons _ v _ vs h hs =>
   simp only[lW,Bool.and_eq_true] at hb
   exact .cons _ _ _ _ (h.Ap hk hb.1) (ih hs hb.2)
theorem T8 {V V':View} (hS:SR V' lo eQ) {ρ:dL} {kV:Env} (hE:ER V' ρ kV) (hx:FE lo V V') (hr:jX V.H.length (V'.H.take V.H.length)=true) :
  SR (V'.Ap V.H.length) lo eQ∧FE lo V (V'.Ap V.H.length)∧ER (V'.Ap V.H.length) (Is V.H.length ρ) kV:=by
 have hk:=hx.len
 have get:∀ {b:Nat} {y:bT},(V'.Ap V.H.length).H[b]? = some y→V'.H[b]? = some y:=by
  intro b y h
  have h:(V'.H.take V.H.length)[b]? = some y:=h
  rw[List.getElem?_take] at h
  split at h
  ·exact h
  ·cases h
 refine⟨⟨fun b g es e w hb => ?_,fun b g es e hb=>hS.wr b g es e (get hb),fun a b g es e w g' nF e' w' ha hb hm=>hS.inj a b _ _ _ _ _ _ _ _ (get ha) (get hb) hm,hS.fr,hS.Ux,hS.K8⟩,
  { F:=hx.F,P:=hx.P,len:=by show V.H.length≤(V'.H.take V.H.length).length;simp;omega,row:=fun b g es e w bH hb=>hx.row b g es e w bH (get hb),K8:=hx.K8,Fh:=hx.Fh,Cl:=fun b g es e w hb hm=>hx.Cl b g es e w (get hb) hm,cG:=hx.cG,Dh:=hx.Dh },fun t => ?_⟩
 ·obtain⟨r,p,h1,h2,h3⟩:=hS.row b g es e w (get hb)
  refine⟨r,p,h1,h2,h3.Ap hk (DQ ?_)⟩
  have:=List.all_eq_true.1 hr _ (List.mem_of_getElem? (show (V'.H.take V.H.length)[b]? = some _ from hb))
  exact this
 ·unfold Is Kd
  split
  ·rename_i hb
   exact(hE t).Ap hk hb
  ·exact .any _
theorem SU {c:aD} {Q:Ex→Env→aE→Prop} {ρ:Env} {H:aE} (h:W eQ c (asZ (fun bL H'=>W eQ (.loop c) Q bL H') Q) ρ H):W eQ (.loop c) Q ρ H:=by
 obtain⟨x,bL,H',h1,h2⟩:=h
 unfold W
 rw[Yw,h1]
 cases x with
 |
  normal =>
  obtain⟨y,BB,H'',h3,h4⟩:=h2
  exact⟨y,BB,H'',h3,h4⟩
 | exit i=>exact⟨_,_,_,rfl,h2⟩
 | ret=>exact⟨_,_,_,rfl,h2⟩
theorem vP {fl:Fl}:∀(c:aD) {V:View} {ρ:dL} {kV:Env} {Q:VQ},SR V lo eQ→ER V ρ kV→VW fl lo c Q ρ V.H→A4 lo eQ V c Q kV
 |
  .skip,V,ρ,kV,Q,hS,hE,h=>by
  unfold A4
  rw[aoS]
  exact⟨V,ρ,rfl,hS,FE.refl _ _,hE,h⟩
 |
  .exit id,V,ρ,kV,Q,hS,hE,h=>by
  unfold A4
  rw[apX]
  exact⟨V,ρ,rfl,hS,FE.refl _ _,hE,h⟩
 |
  .ret,V,ρ,kV,Q,hS,hE,h=>by
  unfold A4
  rw[arZ]
  exact⟨V,ρ,rfl,hS,FE.refl _ _,hE,h⟩
 |
  .dI ops,V,ρ,kV,Q,hS,hE,h=>by
  unfold A4
  rw[asB]
  exact Np ops hS hE h
 |
  .seq a b,V,ρ,kV,Q,hS,hE,h=>by
  unfold A4
  rw[avG]
  refine(vP a hS hE h).mono ?_
  rintro x Ox P' ⟨V',bL,rfl,g2,g3,g4,g5⟩
  cases x with
  |
   normal =>
   refine(vP b g2 g4 g5).mono ?_
   rintro y X5 YD ⟨SO,BB,k1,k2,k3,k4,k5⟩
   exact⟨SO,BB,k1,k2,g3.trans k3,k4,k5⟩
  | exit i=>exact⟨V',bL,rfl,g2,g3,g4,g5⟩
  | ret=>exact⟨V',bL,rfl,g2,g3,g4,g5⟩
 |
  .cond c a b,V,ρ,kV,Q,hS,hE,h=>by
  unfold A4
  rw[apT]
  unfold VW at h
  split at h
  ·rename_i t hc
   obtain⟨e,_⟩:=rX (hE.ev c) hc
   refine⟨t,e,fun ht => ?_,fun ht => ?_⟩
   ·rw[if_pos ht] at h
    exact vP a hS hE h
   ·rw[if_neg (by simp[ht])] at h
    exact vP b hS hE h
  ·cases h
 |
  .block id a,V,ρ,kV,Q,hS,hE,h=>by
  unfold A4
  rw[akV]
  refine(vP a hS hE h).mono ?_
  rintro x Ox P' ⟨V',bL,rfl,g2,g3,g4,g5⟩
  cases x with
  | normal=>exact⟨V',bL,rfl,g2,g3,g4,g5⟩
  |
   exit i =>
   rw[IF]
   have g5:if i=id then Q .normal bL V'.H else Q (.exit i) bL V'.H:=g5
   split at g5
   ·rename_i hi
    rw[if_pos hi]
    exact⟨V',bL,rfl,g2,g3,g4,g5⟩
   ·rename_i hi
    rw[if_neg hi]
    exact⟨V',bL,rfl,g2,g3,g4,g5⟩
  | ret=>exact⟨V',bL,rfl,g2,g3,g4,g5⟩
 |
  .loop a,V,ρ,kV,Q,hS,hE,h=>by
  obtain⟨n,h⟩:=h
  have key:∀n {V:View} {ρ:dL} {kV:Env},SR V lo eQ→ER V ρ kV→RU (VW fl lo a) (fun x=>gh (Q x)) n ρ V.H→A4 lo eQ V (.loop a) Q kV:=by
   intro n
   induction n with
   | zero=>intro V ρ kV _ _ h;cases h
   |
    succ n ih =>
    intro V ρ kV hS hE h
    unfold A4
    refine SU ?_
    refine(vP a hS hE h).mono ?_
    rintro x Ox P' ⟨V',bL,rfl,g2,g3,g4,g5⟩
    cases x with
    |
     normal =>
     rcases g5 with g5 | ⟨g5,g6⟩
     ·refine(ih g2 g4 g5).mono ?_
      rintro y X5 YD ⟨SO,BB,k1,k2,k3,k4,k5⟩
      exact⟨SO,BB,k1,k2,g3.trans k3,k4,k5⟩
     ·obtain⟨t1,t2,t3⟩:=T8 g2 g4 g3 g5
      refine(ih t1 t3 g6).mono ?_
      rintro y X5 YD ⟨SO,BB,k1,k2,k3,k4,k5⟩
      exact⟨SO,BB,k1,k2,t2.trans k3,k4,k5⟩
    |
     exit i =>
     obtain⟨SO,BB,k1,k2,k3,k4,k5⟩:=Tp g2 g4 g5
     exact⟨SO,BB,k1,k2,g3.trans k3,k4,k5⟩
    |
     ret =>
     obtain⟨SO,BB,k1,k2,k3,k4,k5⟩:=Tp g2 g4 g5
     exact⟨SO,BB,k1,k2,g3.trans k3,k4,k5⟩
  exact key n hS hE h
theorem xJ {V:View} (hS:SR V lo eQ) {ρ:dL} {kV:Env} (hE:ER V ρ kV) {res:List BE} {v:VV} (h:mU res ρ V.H=some v):∃pv,rE res kV V.P=some pv∧VR V v pv:=by
 have one:∀ {r:BE} {v:VV},En ρ V.H r=some v→∃pv,XI kV V.P r=some pv∧VR V v pv:=by
  intro r v h
  cases r with
  | tmp t=>cases h;exact⟨_,rfl,hE t⟩
  | cell t agg size=>exact Nq hS (hE t) h
 have all:∀ {rs:List BE} {vs:List VV},pJ ρ V.H rs=some vs→∃ps,Cm kV V.P rs=some ps∧VL V vs ps:=by
  intro rs
  induction rs with
  | nil=>intro vs h;cases h;exact⟨[],rfl,.nil⟩
  |
   cons r rs ih =>
   intro vs h
   unfold pJ at h
   split at h
   ·rename_i v vs' h1 h2
    cases h
    obtain⟨pv,k1,k2⟩:=one h1
    obtain⟨ps,k3,k4⟩:=ih h2
    exact⟨pv::ps,by unfold Cm;rw[k1,k3],.cons _ _ _ _ k2 k4⟩
   ·cases h
 unfold mU at h
 split at h
 ·rename_i v' hv
  cases h
  obtain⟨ps,k1,k2⟩:=all hv
  cases k2 with
  |
   cons _ pv _ _ hx NV =>
   cases NV
   exact⟨pv,by unfold rE;rw[k1],hx⟩
 ·rename_i vs fK hv
  cases h
  obtain⟨ps,k1,k2⟩:=all hv
  refine⟨.tuple ps.toArray,?_,.dR _ _ k2⟩
  unfold rE
  rw[k1]
  split
  ·rename_i pv he
   injection he with he
   subst he
   cases k2 with
   | cons x _ _ _ hx NV=>cases NV;exact absurd rfl (fK x)
  ·rename_i he
   injection he with he
   rw[he]
  ·rename_i he;cases he
 ·cases h
theorem Tl {V:View} {args:List VV} {eO:List Value} (h:VL V args eO):ER V (Kp args) (Yr eO):=by
 intro t
 unfold Kp Yr
 rw[List.getD_eq_getElem?_getD,List.getD_eq_getElem?_getD]
 cases hx:args[t]? with
 |
  none =>
  have:eO[t]? = none:=by
   rw[List.getElem?_eq_none_iff] at hx ⊢
   rw[h.length]
   exact hx
  rw[this]
  exact .dR [] [] .nil
 |
  some x =>
  obtain⟨v,h1,h2⟩:=h.get hx
  rw[h1]
  exact h2
theorem jC.walk {f:Nat} {pf:aT} {args:List VV} {H:aA} {K:VV→aA→Prop} (fl:Fl) (ht:fM f=some pf) (ha:args.length≤pf.ntmps) (h:VW fl lo pf.body (BC pf.res K) (Kp args) H):jC f args lo H K:=by
 intro V eQ eO hH hS hl
 subst hH
 obtain⟨x,Ox,P',h1,V',bL,rfl,g2,g3,g4,g5⟩:=vP pf.body hS (Tl hl) h
 have key:∃pv YD,rS f eO eQ V.P=some (pv,YD)∧YD=V'.P∧∃r,VR V' r pv∧K r V'.H:=by
  refine aeA ht (by rw[hl.length];exact ha) ?_
  refine⟨x,Ox,V'.P,h1,?_⟩
  cases x with
  | exit i=>exact g5.elim
  |
   normal =>
   simp only[BC,HT] at g5
   split at g5
   ·rename_i v hv
    obtain⟨pv,k2,k3⟩:=xJ g2 g4 hv
    exact⟨pv,k2,rfl,v,k3,g5⟩
   ·cases g5
  |
   ret =>
   simp only[BC,HT] at g5
   split at g5
   ·rename_i v hv
    obtain⟨pv,k2,k3⟩:=xJ g2 g4 hv
    exact⟨pv,k2,rfl,v,k3,g5⟩
   ·cases g5
 obtain⟨pv,YD,k1,rfl,r,k2,k3⟩:=key
 exact⟨pv,V',r,k1,g2,g3,k2,k3⟩
theorem VT.walk {f:Nat} {pf:aT} {args:List VV} {r:VV} (fl:Fl) (ht:fM f=some pf) (ha:args.length≤pf.ntmps) (h:VW fl 0 pf.body (BC pf.res fun v H=>fz depth H v=some r) (Kp args) []):VT f args r:=by
 intro F P eO eQ hF hl ajR
 have hS:SR (bare F P) 0 eQ:=⟨fun b g es e w hb=>by simp[bare] at hb,fun b g es e hb=>by simp[bare] at hb,fun a b g es e w g' nF e' w' ha=>by simp[bare] at ha,hF,ajR,Nat.zero_le _⟩
 obtain⟨x,Ox,P',h1,V',bL,rfl,g2,g3,g4,g5⟩:=vP pf.body hS (Tl hl) h
 have fin:∀ {v:VV} {pv:Value},VR V' v pv→fz depth V'.H v=some r→VR (bare (fun q=>F q∨(P.length≤q∧q<V'.P.length)) V'.P) r pv:=by
  intro v pv hv hf
  refine NN g2 (fun q hq => ?_) depth v r pv hv hf fun i _ g es e w hr => ?_
  ·rcases g3.Dh q hq with h | h | ⟨b,g,es,e,w,h,_⟩
   ·exact .inl h
   ·exact .inr ⟨h,g2.fr q hq⟩
   ·simp[bare] at h
  ·rcases Nat.lt_or_ge (V'.m i) P.length with bH | CJ
   ·obtain⟨g0,es0,w0,k1,_⟩:=g3.Cl i g es e w hr bH
    simp[bare] at k1
   ·exact .inr ⟨CJ,g2.mlt hr⟩
 have key:∃pv YD,rS f eO eQ P=some (pv,YD)∧YD=V'.P∧VR (bare (fun q=>F q∨(P.length≤q∧q<V'.P.length)) V'.P) r pv:=by
  refine aeA ht (by rw[hl.length];exact ha) ?_
  refine⟨x,Ox,V'.P,h1,?_⟩
  cases x with
  | exit i=>exact g5.elim
  |
   normal =>
   simp only[BC,HT] at g5
   split at g5
   ·rename_i v hv
    obtain⟨pv,k2,k3⟩:=xJ g2 g4 hv
    exact⟨pv,k2,rfl,fin k3 g5⟩
   ·cases g5
  |
   ret =>
   simp only[BC,HT] at g5
   split at g5
   ·rename_i v hv
    obtain⟨pv,k2,k3⟩:=xJ g2 g4 hv
    exact⟨pv,k2,rfl,fin k3 g5⟩
   ·cases g5
 obtain⟨pv,YD,k1,rfl,k3⟩:=key
 refine⟨V'.P,pv,k1,?_,k3⟩
 refine⟨V'.P.drop P.length,List.ext_getElem? fun i => ?_⟩
 rcases Nat.lt_or_ge i P.length with hi | hi
 ·rw[List.getElem?_append_left hi]
  exact(g3.cG i hi fun b g es e hb=>by simp[bare] at hb).symm
 ·rw[List.getElem?_append_right hi,List.getElem?_drop,show P.length+(i-P.length)=i by omega]
end
end Go.PM
namespace Go.PM
section
variable {fl:Fl} {lo:Nat} {ρ:dL} {H:aA} {Q:VQ} {K:dL→aA→Prop} {k:VV→aA→Prop} {a b:aD} {d:Option Nat} {is:List PI} {q:Bool} {op:nS}
def St (fl:Fl) (lo:Nat) (d:Option Nat) (is:List PI) (K:dL→aA→Prop) (ρ:dL):VV→aA→Prop:=fun v H'=>VS fl lo is K (KW ρ d v) H'
def QZ (r:Option (VV×aA)) (k:VV→aA→Prop):Prop:=match r with
 | some (v,H')=>k v H'
 | none=>False
theorem PG {v:VV} {H':aA}:St fl lo d is K ρ v H'=VS fl lo is K (KW ρ d v) H':=rfl
theorem Sf {v:VV}:K2 (some v) H k=k v H:=rfl
theorem Pf {v:VV} {H':aA}:QZ (some (v,H')) k=k v H':=rfl
theorem aiF {r:VV} {K:VV→Prop}:tk (some r) K=K r:=rfl
theorem Xg:VW fl lo .skip Q ρ H=Q .normal ρ H:=rfl
theorem WT {i:Nat}:VW fl lo (.exit i) Q ρ H=Q (.exit i) ρ H:=rfl
theorem afV:VW fl lo .ret Q ρ H=Q .ret ρ H:=rfl
theorem afO {ops:List PI}:VW fl lo (.dI ops) Q ρ H=VS fl lo ops (Q .normal) ρ H:=rfl
theorem agA:VW fl lo (.seq a b) Q ρ H=VW fl lo a (nJ (VW fl lo b Q) Q) ρ H:=rfl
theorem TT {i:Nat}:VW fl lo (.block i a) Q ρ H=VW fl lo a (AZ i Q) ρ H:=rfl
theorem WJ {c:Operand} {t:Bool} (h:eJ ρ c = .sc (.bool t)):VW fl lo (.cond c a b) Q ρ H=if t=true then VW fl lo a Q ρ H else VW fl lo b Q ρ H:=by
 simp only[VW,h]
theorem Da:nJ K Q .normal=K:=rfl
theorem Fm {i:Nat}:nJ K Q (.exit i)=Q (.exit i):=rfl
theorem G3:nJ K Q .ret=Q .ret:=rfl
theorem FW {i:Nat}:AZ i Q .normal=Q .normal:=rfl
theorem DS {i j:Nat}:AZ i Q (.exit j) ρ H=if j=i then Q .normal ρ H else Q (.exit j) ρ H:=rfl
theorem Mn {i:Nat}:AZ i Q .ret=Q .ret:=rfl
theorem Hx {res:List BE} {R:VV→aA→Prop}:BC res R .normal ρ H=HT R (mU res ρ H) H:=rfl
theorem P4 {res:List BE} {R:VV→aA→Prop}:BC res R .ret ρ H=HT R (mU res ρ H) H:=rfl
theorem Lz {R:VV→aA→Prop} {v:VV}:HT R (some v) H=R v H:=rfl
theorem TX {t:Nat}:mU [.tmp t] ρ H=some (ρ t):=rfl
theorem RF {t u:Nat}:mU [.tmp t,.tmp u] ρ H=some (.dR [ρ t,ρ u]):=rfl
theorem L8 {t u v:Nat}:mU [.tmp t,.tmp u,.tmp v] ρ H=some (.dR [ρ t,ρ u,ρ v]):=rfl
theorem PH:mU [] ρ H=some (.dR []):=rfl
theorem abH:VS fl lo [] K ρ H=K ρ H:=rfl
theorem amT:VS fl lo (⟨d,op,none,q,[]⟩::is) K ρ H=eK fl lo q op ρ H (St fl lo d is K ρ):=by
 simp only[VS,Cd,List.all_nil,true_and]
 rfl
theorem J1 {c:Operand×Operand} {cs:List (Operand×Operand)}:VS fl lo (⟨d,op,none,q,c::cs⟩::is) K ρ H=((c::cs).all (zC ρ H)=true∧eK fl lo q op ρ H (St fl lo d is K ρ)):=by
 simp only[VS,Cd]
 rfl
theorem Tw {t:Nat} {want x:Bool} {cf:List (Operand×Operand)} (h:ρ t = .sc (.bool x)):VS fl lo (⟨d,op,some (t,want),q,cf⟩::is) K ρ H =
  if (x == want)=true then (cf.all (zC ρ H)=true∧eK fl lo q op ρ H (St fl lo d is K ρ)) else VS fl lo is K (KW ρ d qK) H:=by
 simp only[VS,Cd,h]
 cases (x == want)<;>rfl
theorem aaE {t:Nat} {want:Bool} (h:ρ t = .sc (.bool want)):VS fl lo (⟨d,op,some (t,want),q,[]⟩::is) K ρ H=eK fl lo q op ρ H (St fl lo d is K ρ):=by
 rw[Tw h]
 simp
theorem alU {t:Nat} {want:Bool} {cf:List (Operand×Operand)} (h:ρ t = .sc (.bool (!want))):VS fl lo (⟨d,op,some (t,want),q,cf⟩::is) K ρ H=VS fl lo is K (KW ρ d qK) H:=by
 rw[Tw h]
 cases want<;>rfl
theorem Xb {c:Operand} (h:eJ ρ c = .sc (.bool true)):VW fl lo (.cond c a b) Q ρ H=VW fl lo a Q ρ H:=by
 rw[WJ h,if_pos rfl]
theorem S6 {c:Operand} (h:eJ ρ c = .sc (.bool false)):VW fl lo (.cond c a b) Q ρ H=VW fl lo b Q ρ H:=by
 rw[WJ h,if_neg (by decide)]
theorem Ko {t:Nat} {want:Bool} {cf:List (Operand×Operand)} (h:ρ t=qK):VS fl lo (⟨d,op,some (t,want),q,cf⟩::is) K ρ H=VS fl lo is K (KW ρ d qK) H:=by
 simp only[VS,Cd,h,qK]
theorem vO {d t:Nat} {v:VV}:KW ρ (some d) v t=if t=d then v else ρ t:=rfl
theorem PN {v:VV}:KW ρ none v=ρ:=rfl
theorem Xm {t:Nat}:eJ ρ (.tmp t)=ρ t:=rfl
theorem PL {v:Value}:eJ ρ (.const v)=inj v:=rfl
theorem Tn {f:Nat}:eJ ρ (.func f) = .vJ f []:=rfl
theorem WY {k:IntKind} {n:Int}:inj (.int k n) = .sc (.int k n):=rfl
theorem Ts {t:Bool}:inj (.bool t) = .sc (.bool t):=rfl
theorem Xp {s:ByteArray}:inj (.string s) = .sc (.string s):=rfl
theorem X0:inj (.slice none 0 0) = .tree [] .nil:=rfl
theorem XX {cs:Array Value}:inj (.agg cs) = .agg (cs.toList.map jW):=rfl
theorem T9 {k:IntKind} {n:Int}:jW (.int k n) = .sc (.int k n):=rfl
theorem Px {t:Bool}:jW (.bool t) = .sc (.bool t):=rfl
theorem Uj {s:ByteArray}:jW (.string s) = .sc (.string s):=rfl
theorem Tj:jW (.slice none 0 0) = .tree [] .nil:=rfl
theorem aeB {x:Operand}:eK fl lo q (.mv x) ρ H k=k (eJ ρ x) H:=rfl
theorem iL {r:Option VV}:(match r.map (fun v=>(v,H)) with | some (v,H')=>k v H' | none=>False)=K2 r H k:=by cases r<;>rfl
theorem TW {c x y:Operand}:eK fl lo q (.pick c x y) ρ H k=K2 (S4 (eJ ρ c) (eJ ρ x) (eJ ρ y)) H k:=iL
theorem XK {o:BinOp} {x y:Operand}:eK fl lo q (.bin o x y) ρ H k=K2 (IT (dG o) (eJ ρ x) (eJ ρ y)) H k:=iL
theorem Xe {n:Bool} {x y:Operand}:eK fl lo q (.eqb n x y) ρ H k=K2 (IT (N9 n) (eJ ρ x) (eJ ρ y)) H k:=iL
theorem O6 {n:Bool} {x:Operand}:eK fl lo q (.isnil n x) ρ H k=K2 (Gn n (eJ ρ x) H) H k:=iL
theorem OJ {n:Bool} {ks:List CK} {x y:Operand}:eK fl lo q (.eqagg n ks x y) ρ H k=K2 (VC n ks (eJ ρ x) (eJ ρ y)) H k:=iL
theorem aaZ {o:UnOp} {x:Operand}:eK fl lo q (.un o x) ρ H k=K2 (Md (pun o) (eJ ρ x)) H k:=iL
theorem WR {o:IntKind} {x:Operand}:eK fl lo q (.cvt o x) ρ H k=K2 (Md (UB o) (eJ ρ x)) H k:=iL
theorem XQ {x:Operand}:eK fl lo q (.cvs x) ρ H k=K2 (Md Y3 (eJ ρ x)) H k:=iL
theorem XS {x:Operand} {i:Nat}:eK fl lo q (.ext x i) ρ H k=K2 (aaW i (eJ ρ x)) H k:=iL
theorem XJ {g:Bool} {off size:Nat} {x:Operand}:eK fl lo q (.fld g off size x) ρ H k=K2 (ahL g off size (eJ ρ x)) H k:=iL
theorem O5 {z:List Value} {places:List (Nat×Nat)} {parts:List (Nat×Operand)}:eK fl lo q (.build z places parts) ρ H k=K2 ((zW places (z.map jW) (parts.map fun(i,x)=>(i,eJ ρ x))).map .agg) H k:=by
 show (match (zW places (z.map jW) (parts.map fun(i,x)=>(i,eJ ρ x))).map fun cs=>(VV.agg cs,H) with | some (v,H')=>k v H' | none=>False)=_
 cases zW places (z.map jW) (parts.map fun(i,x)=>(i,eJ ρ x))<;>rfl
theorem Xc {x:Operand}:eK fl lo q (.chk x) ρ H k=K2 (TG (eJ ρ x) H) H k:=iL
theorem OQ {off:Nat} {x:Operand}:eK fl lo q (.faddr off x) ρ H k=K2 (yU off (eJ ρ x) H) H k:=iL
theorem OZ {size:Nat} {x i:Operand}:eK fl lo q (.iaddr size x i) ρ H k=K2 (bQ size (eJ ρ x) (eJ ρ i) H) H k:=iL
theorem SV {x i:Operand}:eK fl lo q (.sidx x i) ρ H k=K2 (IT HF (eJ ρ x) (eJ ρ i)) H k:=iL
theorem SP {x:Operand} {l h:Option Operand}:eK fl lo q (.ssub x l h) ρ H k=K2 (wE (eJ ρ x) (l.map (eJ ρ)) (h.map (eJ ρ))) H k:=iL
theorem SD {f:Nat} {fY:List Operand}:eK fl lo q (.mkfn f fY) ρ H k=k (.vJ f (fY.map (eJ ρ))) H:=rfl
theorem XH {x:Operand}:eK fl lo q (.len x) ρ H k=K2 (oS (eJ ρ x) H) H k:=iL
theorem SE {x:Operand}:eK fl lo q (.slen x) ρ H k=K2 (Md Bi (eJ ρ x)) H k:=iL
theorem WU {x y:Operand}:eK fl lo q (.min x y) ρ H k=K2 (IT Si (eJ ρ x) (eJ ρ y)) H k:=iL
theorem W2 {x y:Operand}:eK fl lo q (.max x y) ρ H k=K2 (IT SN (eJ ρ x) (eJ ρ y)) H k:=iL
theorem RN {g:Bool} {size:Nat} {p:Operand}:eK fl lo q (.load g size p) ρ H k=K2 (bX g size (eJ ρ p) H) H k:=iL
theorem Xw {size:Nat} {x:Operand} {l h m:Option Operand}:eK fl lo q (.sub size x l h m) ρ H k=K2 (Fi size (eJ ρ x) (l.map (eJ ρ)) (h.map (eJ ρ)) (m.map (eJ ρ)) H) H k:=iL
theorem Xd {z:List Value}:eK fl lo q (.new z) ρ H k=QZ (if (z.map jW).all bY then some (.ptr H.length 0 0 0,H++[.row 0 [elemOf (z.map jW)] z.length true]) else none) k:=rfl
theorem WQ {x:Operand}:eK fl lo q (.box x) ρ H k=QZ (if (aB (eJ ρ x)).all bY then (if fl.bf then some (.cT (eJ ρ x) 0,H) else some (.ptr H.length 0 0 0,H++[.row 0 [eJ ρ x] (aB (eJ ρ x)).length true])) else none) k:=rfl
theorem RZ {z:List Value} {bytes:Nat} {l c:Operand}:eK fl lo q (.make z bytes l c) ρ H k=QZ (if (z.map jW).all bY then Bs z bytes (eJ ρ l) (eJ ρ c) H else none) k:=rfl
theorem WZ {z:List Value} {n:Nat} {parts:List (Nat×Operand)}:eK fl lo q (.lit z n parts) ρ H k=QZ (lG fl.lr z n (parts.map fun(i,x)=>(i,eJ ρ x)) H) k:=rfl
def XO (r:Option aA) (k:VV→aA→Prop):Prop:=match r with
 | some H'=>k qK H'
 | none=>False
theorem Nr {H':aA}:XO (some H') k=k qK H':=rfl
theorem PB {r:Option aA}:(match r.map (fun H'=>(qK,H')) with | some (v,H')=>k v H' | none=>False)=XO r k:=by cases r<;>rfl
theorem OU {size:Nat} {p v:Operand}:eK fl lo q (.store size p v) ρ H k=XO (bI lo size (eJ ρ p) (eJ ρ v) H) k:=PB
def auC (lo size bytes:Nat) (x:VV) (new:Option (List VV)) (H:aA) (k:VV→aA→Prop):Prop:=match new with
 | some new=>QZ (dW lo size bytes x new H) k
 | none=>False
theorem O9 {size bytes:Nat} {x:VV} {new:List VV}:auC lo size bytes x (some new) H k=QZ (dW lo size bytes x new H) k:=rfl
theorem WK {size bytes:Nat} {x y:Operand}:eK fl lo q (.app size bytes x y) ρ H k=auC lo size bytes (eJ ρ x) (cW size (eJ ρ y) H) H k:=by
 show (match (match cW size (eJ ρ y) H with | some new=>dW lo size bytes (eJ ρ x) new H | none=>none) with | some (v,H')=>k v H' | none=>False)=_
 cases cW size (eJ ρ y) H<;>rfl
theorem Ti {size:Nat} {x y:Operand}:eK fl lo q (.copy size x y) ρ H k=QZ (J2 lo size (eJ ρ x) (eJ ρ y) H) k:=rfl
theorem Ph {z:List Value} {x:Operand}:eK fl lo q (.clear z x) ρ H k=XO (QL lo z (eJ ρ x) H) k:=PB
theorem SS {f:Nat} {args:List Operand}:eK fl lo q (.call f args) ρ H k=cV f (args.map (eJ ρ)) (if q then H.length else lo) H k:=rfl
noncomputable def Wr (x:VV) (args:List VV) (lo:Nat) (H:aA) (k:VV→aA→Prop):Prop:=match x with
 | .vJ f fY=>cV f (args++fY) lo H k
 | _=>False
theorem CB {f:Nat} {fY args:List VV}:Wr (.vJ f fY) args lo H k=cV f (args++fY) lo H k:=rfl
theorem PD {fv:Operand} {args:List Operand}:eK fl lo q (.callv fv args) ρ H k=Wr (eJ ρ fv) (args.map (eJ ρ)) (if q then H.length else lo) H k:=by
 simp only[eK,Wr]
 all_goals (cases eJ ρ fv<;>rfl)
theorem Ru {x:Operand}:eK fl lo q (.b2s x) ρ H k=QZ (vop fl lo (.b2s x) ρ H) k:=rfl
theorem WC {f:Value→Option Value} {x:Value}:Md f (.sc x)=(f x).map .sc:=rfl
theorem XN {f:Value→Value→Option Value} {x y:Value}:IT f (.sc x) (.sc y)=(f x y).map .sc:=rfl
theorem RH {t:Bool} {x y:VV}:S4 (.sc (.bool t)) x y=some (if t=true then x else y):=rfl
theorem Tx {vs:List VV} {i:Nat}:aaW i (.dR vs)=vs[i]? := rfl
theorem OV {es:List VV} {t:TK}:oS (.tree es t) H=some (.sc (.int .i64 es.length)):=rfl
theorem dX {b g o n c:Nat} {r:List VV×Nat×Bool} (h:aF H b g=some r):oS (.ref b g o n c) H=some (.sc (.int .i64 n)):=by
 simp only[oS,h,Option.map_some]
theorem T1 {x:VV} {o off:Nat}:yU off (.cT x o) H=some (.cT x (o+off)):=rfl
theorem LB {b g j o off:Nat} {r:List VV×Nat×Bool} (h:aF H b g=some r):yU off (.ptr b g j o) H=some (.ptr b g j (o+off)):=by
 simp only[yU,h,Option.map_some]
theorem afN {x:VV} {o:Nat}:TG (.cT x o) H=some (.cT x o):=rfl
theorem K7 {g:Bool} {size o:Nat} {x:VV}:bX g size (.cT x o) H=dF g size x o:=rfl
theorem Qp {g:Bool} {size b gn j o:Nat} {es:List VV} {e:Nat} {w:Bool} {x:VV} (h:aF H b gn=some (es,e,w)) (hx:es[j]? = some x):bX g size (.ptr b gn j o) H=dF g size x o:=by
 simp only[bX,h,hx]
theorem aeY {size:Nat} {v:Value}:dF false size (.sc v) 0=some (.sc v):=rfl
theorem Xk {size:Nat} {es:List VV} {t:TK}:dF false size (.tree es t) 0=some (.tree es t):=rfl
theorem aaP {size b g o n c:Nat}:dF false size (.ref b g o n c) 0=some (.ref b g o n c):=rfl
theorem adL {size f:Nat} {fY:List VV}:dF false size (.vJ f fY) 0=some (.vJ f fY):=rfl
theorem kA {size o:Nat} {cs:List VV}:dF false size (.agg cs) o=cs[o]? := rfl
theorem aaX {size:Nat} {cs:List VV} (h:cs.length=size):dF true size (.agg cs) 0=some (.agg cs):=by
 subst h
 simp[dF,aB]
theorem aaJ {size:Nat} {es:List VV} {t:TK} {kk:IntKind} {i:Int} {x:VV} (h0:0≤i) (hx:es[i.toNat]? = some x) (hs:(aB x).length=size):bQ size (.tree es t) (.sc (.int kk i)) H=some (.cT x 0):=by
 simp only[bQ,h0,hx,hs,if_true]
theorem Yk {size:Nat} {es:List VV} {t:TK} {kk:IntKind} {i:Nat} {x:VV} (hx:es[i]? = some x) (hs:(aB x).length=size):bQ size (.tree es t) (.sc (.int kk (i:Int))) H=some (.cT x 0) :=
 aaJ (by omega) (by simpa using hx) hs
theorem Z8 {size b g o n c:Nat} {kk:IntKind} {i:Int} {es:List VV} {w:Bool} (h:aF H b g=some (es,size,w)) (h0:0≤i) (h1:i<n):bQ size (.ref b g o n c) (.sc (.int kk i)) H=some (.ptr b g (o+i.toNat) 0):=by
 simp only[bQ,h]
 rw[if_pos ⟨trivial,h0,h1⟩]
theorem ZK {size b g o n c:Nat} {kk:IntKind} {i:Nat} {es:List VV} {w:Bool} (h:aF H b g=some (es,size,w)) (h1:i<n):bQ size (.ref b g o n c) (.sc (.int kk (i:Int))) H=some (.ptr b g (o+i) 0):=by
 rw[Z8 h (by omega) (by omega),Int.toNat_natCast]
abbrev TC (f:Nat) (args:List VV) (r:VV):Prop:=∀(lo:Nat) (H:aA) (k:VV→aA→Prop),cV f args lo H k=k r H
theorem TC.of {f:Nat} {args:List VV} {r:VV} (hr:Eo.contains f=false) (ha:aP args=true) (h:vT f args=some r):TC f args r:=by
 intro lo H k
 unfold cV G1
 simp only[hr,ha,if_true,h,Bool.false_eq_true,if_false,aiF]
theorem TC.walk {f:Nat} {pf:aT} {args:List VV} {r:VV} (fl:Fl) (ht:fM f=some pf) (hr:Eo.contains f=false) (hn:args.length≤pf.ntmps) (ha:aP args=true) (Vk:hC r=true) (h:VW fl 0 pf.body (BC pf.res fun v H=>fz depth H v=some r) (Kp args) []):TC f args r :=
 TC.of hr ha (amS ha Vk (VT.walk fl ht hn h))
theorem TC.HW {f:Nat} {args iQ:List VV} {r:VV} (h:TC f iQ r) (hr:Eo.contains f=false) (ha':aP iQ=true) (hf:args.mapM (fz depth H)=some iQ) (ha:aP args=false):cV f args lo H k=if M7 r=true then k r H else k r (dB H (args.flatMap (jJ depth H))):=by
 have e:∀K,G1 f iQ K=K r:=fun K=>by
  have:=h 0 [] fun r _=>K r
  unfold cV at this
  simpa only[hr,ha',if_true,Bool.false_eq_true,if_false] using this
 unfold cV
 simp only[hr,ha,hf,Bool.false_eq_true,if_false]
 rw[e]
theorem aM {n:Nat} {v:VV} (h:aY v=true):fz (n+1) H v=some v:=by
 unfold PM.fz
 rw[if_pos h]
theorem aL {v:VV} (h:aY v=true):fz depth H v=some v:=aM h
theorem mapM_pure {n:Nat}:∀ {es:List VV},aP es=true→es.mapM (PM.fz (n+1) H)=some es
 | [],_=>rfl
 |
  x::xs,h=>by
  simp only[aP,Bool.and_eq_true] at h
  rw[List.mapM_cons,aM h.1,mapM_pure h.2]
  rfl
theorem F7 {b g n c e:Nat} {es:List VV} {w:Bool} (h:aF H b g=some (es,e,w)) (hn:n=es.length) (hc:n≤c) (hp:aP es=true):fz depth H (.ref b g 0 n c)=some (.tree es .op):=by
 have:aY (.ref b g 0 n c)=false:=rfl
 show fz (7+1) H _=_
 unfold PM.fz
 simp only[this,h,Bool.false_eq_true,if_false]
 subst hn
 rw[if_pos ⟨by omega,hc⟩,List.drop_zero,List.take_length,mapM_pure hp]
 rfl
theorem F3 {n:Nat} {v:VV} (h:aY v=true):jJ n H v=[]:=by
 cases n with
 | zero=>rfl
 | succ n=>unfold jJ;rw[if_pos h]
theorem B9 {n:Nat}:∀ {es:List VV},aP es=true→es.flatMap (jJ n H)=[]
 | [],_=>rfl
 |
  x::xs,h=>by
  simp only[aP,Bool.and_eq_true] at h
  rw[List.flatMap_cons,F3 h.1,B9 h.2]
  rfl
theorem PJ {b g n c e:Nat} {es:List VV} {w:Bool} (h:aF H b g=some (es,e,w)) (hn:n=es.length) (hp:aP es=true):jJ depth H (.ref b g 0 n c)=[b]:=by
 have:aY (.ref b g 0 n c)=false:=rfl
 show jJ (7+1) H _=_
 unfold jJ
 simp only[this,h,Bool.false_eq_true,if_false]
 subst hn
 rw[List.drop_zero,List.take_length,B9 hp]
theorem WB {r:Option VV} {K K':VV→Prop} (hk:∀v,K v→K' v) (h:tk r K):tk r K':=by
 cases r with
 | none=>exact h
 | some v=>exact hk _ h
theorem Km {f:Nat} {args:List VV} {k k':VV→aA→Prop} (hk:∀v H,k v H→k' v H) (h:cV f args lo H k):cV f args lo H k':=by
 unfold cV at h ⊢
 split at h
 ·rename_i h1
  rw[if_pos h1]
  exact h.mono hk
 ·rename_i h1
  rw[if_neg h1]
  split at h
  ·rename_i h2
   rw[if_pos h2]
   exact WB (fun v=>hk v H) h
  ·rename_i h2
   rw[if_neg h2]
   split at h
   ·refine WB (fun v hv => ?_) h
    split at hv
    ·rename_i h3;rw[if_pos h3];exact hk _ _ hv
    ·rename_i h3;rw[if_neg h3];exact hk _ _ hv
   ·cases h
theorem Wv {k k':VV→aA→Prop} (hk:∀v H,k v H→k' v H) (h:eK fl lo q op ρ H k):eK fl lo q op ρ H k':=by
 unfold eK at h ⊢
 split at h
 ·exact Km hk h
 ·split at h
  ·exact Km hk h
  ·cases h
 ·split at h
  ·exact hk _ _ h
  ·cases h
theorem Rm {K K':dL→aA→Prop} (hk:∀ρ H,K ρ H→K' ρ H):∀ {is:List PI} {ρ:dL} {H:aA},VS fl lo is K ρ H→VS fl lo is K' ρ H
 | [],ρ,H,h=>hk _ _ h
 |
  i::is,ρ,H,h=>by
  unfold VS at h ⊢
  split at h
  ·cases h
  ·exact Rm hk h
  ·exact⟨h.1,Wv (fun v H' hv=>Rm hk hv) h.2⟩
theorem rB {K K':dL→aA→Prop} {Q Q':VQ} (hk:∀ρ H,K ρ H→K' ρ H) (hq:∀x ρ H,Q x ρ H→Q' x ρ H):∀x ρ H,nJ K Q x ρ H→nJ K' Q' x ρ H
 | .normal,ρ,H,h=>hk _ _ h
 | .exit _,ρ,H,h=>hq _ _ _ h
 | .ret,ρ,H,h=>hq _ _ _ h
theorem aiM {K K':dL→aA→Prop} (hk:∀ρ H,K ρ H→K' ρ H) (h:gh K ρ H):gh K' ρ H:=by
 obtain⟨ts,bL,H',h1,h2⟩:=h
 exact⟨ts,bL,H',h1,hk _ _ h2⟩
theorem xN:∀ {c:aD} {Q Q':VQ} {ρ:dL} {H:aA},(∀x ρ H,Q x ρ H→Q' x ρ H)→VW fl lo c Q ρ H→VW fl lo c Q' ρ H
 | .skip,_,_,_,_,hq,h=>hq _ _ _ h
 | .exit _,_,_,_,_,hq,h=>hq _ _ _ h
 | .ret,_,_,_,_,hq,h=>hq _ _ _ h
 | .dI _,_,_,_,_,hq,h=>Rm (fun ρ H=>hq .normal ρ H) h
 | .seq a b,Q,Q',_,_,hq,h=>xN (c:=a) (rB (fun ρ H h=>xN (c:=b) hq h) hq) h
 |
  .cond c a b,Q,Q',ρ,H,hq,h=>by
  unfold VW at h ⊢
  split at h
  ·split at h
   ·rename_i h1;rw[if_pos h1];exact xN (c:=a) hq h
   ·rename_i h1;rw[if_neg h1];exact xN (c:=b) hq h
  ·cases h
 |
  .block i a,Q,Q',_,_,hq,h=>by
  refine xN (c:=a) (fun x ρ H hx => ?_) h
  cases x with
  | normal=>exact hq _ _ _ hx
  | ret=>exact hq _ _ _ hx
  |
   exit j =>
   rw[DS] at hx ⊢
   split at hx
   ·rename_i h1;rw[if_pos h1];exact hq _ _ _ hx
   ·rename_i h1;rw[if_neg h1];exact hq _ _ _ hx
 |
  .loop a,Q,Q',ρ,H,hq,h=>by
  obtain⟨n,h⟩:=h
  refine⟨n,?_⟩
  induction n generalizing ρ H with
  | zero=>cases h
  |
   succ n ih =>
   refine xN (c:=a) (rB (fun ρ H h => ?_) fun x ρ H h=>aiM (hq x) h) h
   rcases h with h | ⟨h1,h2⟩
   ·exact .inl (ih _ _ h)
   ·exact .inr ⟨h1,ih _ _ h2⟩
theorem alD {K:dL→aA→Prop} (h:K ρ H):gh K ρ H:=⟨[],ρ,H,rfl,h⟩
theorem R4 {α:Type} {c:aD} (I:α→dL→aA→Prop) (μ:α→Nat) (s:α) (h0:I s ρ H)
  (round:∀s ρ H,I s ρ H→VW fl lo c (nJ (fun bL H'=>∃s',μ s'<μ s∧(I s' bL H'∨(jX H.length (H'.take H.length)=true∧I s' (Is H.length bL) (H'.take H.length)))) (fun x=>gh (Q x))) ρ H):VW fl lo (.loop c) Q ρ H:=by
 refine⟨μ s+1,?_⟩
 have key:∀n s ρ H,μ s<n→I s ρ H→RU (VW fl lo c) (fun x=>gh (Q x)) n ρ H:=by
  intro n
  induction n with
  | zero=>intro s ρ H h;omega
  |
   succ n ih =>
   intro s ρ H hn hI
   refine xN (rB (fun bL H' h => ?_) fun x ρ H h=>h) (round s ρ H hI)
   obtain⟨s',h1,h2 | ⟨h2,h3⟩⟩:=h
   ·exact .inl (ih s' _ _ (by omega) h2)
   ·exact .inr ⟨h2,ih s' _ _ (by omega) h3⟩
 exact key _ s ρ H (Nat.lt_succ_self _) h0
theorem aU {α:Type} {c:aD} (I:α→dL→aA→Prop) (μ:α→Nat) (s:α) (h0:I s ρ H)
  (round:∀s ρ H,I s ρ H→VW fl lo c (nJ (fun bL H'=>∃s',μ s'<μ s∧I s' bL H') Q) ρ H):VW fl lo (.loop c) Q ρ H :=
 R4 I μ s h0 fun s ρ H h=>xN (rB (fun _ _ ⟨s',h1,h2⟩=>⟨s',h1,.inl h2⟩) fun _ _ _ h=>alD h) (round s ρ H h)
theorem Ns {α:Type} {c:aD} (I:α→dL→aA→Prop) (μ:α→Nat) (s:α) (h0:I s ρ H)
  (round:∀s ρ H,I s ρ H→VW fl lo c (nJ (fun bL H'=>∃s',μ s'<μ s∧jX H.length (H'.take H.length)=true∧I s' (Is H.length bL) (H'.take H.length)) Q) ρ H):VW fl lo (.loop c) Q ρ H :=
 R4 I μ s h0 fun s ρ H h=>xN (rB (fun _ _ ⟨s',h1,h2⟩=>⟨s',h1,.inr h2⟩) fun _ _ _ h=>alD h) (round s ρ H h)
theorem MC {n:Nat} {v:VV} (h:below n v=true):Kd n v=v:=by
 unfold Kd
 rw[if_pos h]
mutual
theorem GG {n:Nat} (v:VV) (h:aY v=true):below n v=true:=by
 cases v with
 | any=>rfl
 | sc=>rfl
 | agg cs=>exact mD cs h
 | dR cs=>exact mD cs h
 | tree es t=>exact mD es (Jl h).2.1
 | cT x o=>exact GG x h
 | ref=>cases h
 | ptr=>cases h
 | vJ f fY=>exact mD fY h
theorem mD {n:Nat} (vs:List VV) (h:aP vs=true):lW n vs=true:=by
 cases vs with
 | nil=>rfl
 |
  cons x xs =>
  simp only[aP,Bool.and_eq_true] at h
  simp only[lW,GG x h.1,mD xs h.2,Bool.and_self]
end
end
end Go.PM
namespace Go.PM
def val (b:Nat):List Nat→Nat
 | []=>0
 | d::ds=>d+b*val b ds
def aC (b n:Nat):List Nat:=if h:n=0∨b<2 then [] else n % b::aC b (n / b)
termination_by n
decreasing_by exact Nat.div_lt_self (by omega) (by omega)
section
variable {b:Nat}
theorem cH:aC b 0=[]:=by rw[aC];simp
theorem jI (hb:2≤b) {n:Nat} (hn:n≠0):aC b n=n % b::aC b (n / b):=by rw[aC,dif_neg (by omega)]
theorem sX {d:Nat} {ds:List Nat}:val b (d::ds)=d+b*val b ds:=rfl
theorem yO (xs ys:List Nat):val b (xs++ys)=val b xs+b^xs.length*val b ys:=by
 induction xs with
 | nil=>simp[val]
 |
  cons x xs ih =>
  simp only[List.cons_append,sX,ih,List.length_cons,Nat.pow_succ]
  rw[Nat.mul_add,Nat.mul_comm (b^xs.length) b,Nat.mul_assoc,Nat.add_assoc]
theorem val_one (d:Nat):val b [d]=d:=by simp[val]
theorem sI (xs:List Nat) (d:Nat):val b (xs++[d])=val b xs+b^xs.length*d:=by rw[yO,val_one]
theorem rQ (n:Nat):val b (List.replicate n 0)=0:=by
 induction n with
 | zero=>rfl
 | succ n ih=>simp[List.replicate_succ,val,ih]
theorem oW {xs:List Nat} (h:∀d∈xs,d<b):val b xs<b^xs.length:=by
 induction xs with
 | nil=>simp[val]
 |
  cons x xs ih =>
  have h1:=h x List.mem_cons_self
  have h2:=ih fun d hd=>h d (List.mem_cons_of_mem _ hd)
  simp only[sX,List.length_cons,Nat.pow_succ]
  have h3:b*(val b xs+1)≤b*b^xs.length:=Nat.mul_le_mul_left _ h2
  rw[Nat.mul_add,Nat.mul_one] at h3
  rw[Nat.mul_comm (b^xs.length) b]
  omega
theorem cM (hb:2≤b) (n:Nat):val b (aC b n)=n:=by
 induction n using Nat.strongRecOn with
 |
  _ n ih =>
  by_cases h:n=0
  ·subst h;rw[cH];rfl
  ·rw[jI hb h,sX,ih _ (Nat.div_lt_self (by omega) (by omega))]
   exact Nat.mod_add_div n b
theorem fL (hb:2≤b) (n:Nat):∀d∈aC b n,d<b:=by
 induction n using Nat.strongRecOn with
 |
  _ n ih =>
  by_cases h:n=0
  ·subst h;rw[cH];intro d hd;cases hd
  ·rw[jI hb h]
   intro d hd
   rcases List.mem_cons.1 hd with rfl | hd
   ·exact Nat.mod_lt _ (by omega)
   ·exact ih _ (Nat.div_lt_self (by omega) (by omega)) d hd
theorem lU (hb:2≤b) {n:Nat}:aC b n=[]↔n=0:=by
 constructor
 ·intro h
  have:=cM hb n
  rw[h] at this
  exact this.symm
 ·rintro rfl;exact cH
theorem O3 (hb:2≤b) (n:Nat):(aC b n).getLast? ≠ some 0:=by
 induction n using Nat.strongRecOn with
 |
  _ n ih =>
  by_cases h:n=0
  ·subst h;rw[cH];simp
  ·rw[jI hb h]
   have h1:=ih _ (Nat.div_lt_self (n:=n) (k:=b) (by omega) (by omega))
   by_cases h2:n / b=0
   ·rw[h2,cH]
    have:n<b:=by
     rcases Nat.div_eq_zero_iff.1 h2 with h | h<;>omega
    simp[Nat.mod_eq_of_lt this,h]
   ·have fK:aC b (n / b)≠[]:=fun h=>h2 ((lU hb).1 h)
    obtain⟨x,xs,hx⟩:=List.exists_cons_of_ne_nil fK
    rw[hx] at h1 ⊢
    rw[List.getLast?_cons_cons]
    exact h1
theorem Nv (hb:2≤b) {xs:List Nat} (h:∀d∈xs,d<b) (hl:xs.getLast? ≠ some 0):aC b (val b xs)=xs:=by
 induction xs with
 | nil=>exact cH
 |
  cons x xs ih =>
  have h1:=h x List.mem_cons_self
  have hr:(x+b*val b xs) % b=x:=by rw[Nat.add_mul_mod_self_left,Nat.mod_eq_of_lt h1]
  have hq:(x+b*val b xs) / b=val b xs:=by rw[Nat.add_mul_div_left _ _ (by omega),Nat.div_eq_of_lt h1,Nat.zero_add]
  cases xs with
  |
   nil =>
   have hx:x≠0:=by rintro rfl;simp at hl
   rw[val_one,jI hb hx,Nat.mod_eq_of_lt h1,Nat.div_eq_of_lt h1,cH]
  |
   cons y ys =>
   rw[List.getLast?_cons_cons] at hl
   have h2:=ih (fun d hd=>h d (List.mem_cons_of_mem _ hd)) hl
   have h3:val b (y::ys)≠0:=fun h0=>by rw[h0,cH] at h2;cases h2
   have h4:b*val b (y::ys)≠0:=Nat.mul_ne_zero (by omega) h3
   rw[sX,jI hb (by omega),hr,hq,h2]
theorem La (hb:2≤b) {n:Nat} (hn:n≠0):b^((aC b n).length-1)≤n:=by
 induction n using Nat.strongRecOn with
 |
  _ n ih =>
  rw[jI hb hn]
  by_cases h2:n / b=0
  ·rw[h2,cH];simp;omega
  ·have h3:=ih _ (Nat.div_lt_self (by omega) (by omega)) h2
   have fK:aC b (n / b)≠[]:=fun h=>h2 ((lU hb).1 h)
   obtain⟨x,xs,hx⟩:=List.exists_cons_of_ne_nil fK
   rw[hx] at h3 ⊢
   simp only[List.length_cons,Nat.add_sub_cancel] at h3 ⊢
   rw[Nat.pow_succ]
   calc b^xs.length*b≤n / b*b:=Nat.mul_le_mul_right _ h3
    _≤n:=Nat.div_mul_le_self n b
theorem gR (hb:2≤b) (n:Nat):n<b^(aC b n).length:=by
 have:=oW (fL hb n)
 rwa [cM hb] at this
theorem mH (hb:2≤b) {n k:Nat} (h:n<b^k):(aC b n).length≤k:=by
 by_cases hn:n=0
 ·subst hn;rw[cH];simp
 ·have h1:=La hb hn
  have h2:b^((aC b n).length-1)<b^k:=Nat.lt_of_le_of_lt h1 h
  have h3:(aC b n).length-1<k:=(Nat.pow_lt_pow_iff_right (by omega)).1 h2
  have fK:aC b n≠[]:=fun h=>hn ((lU hb).1 h)
  have:=List.length_pos_iff.2 fK
  omega
theorem eI (hb:2≤b) {m n:Nat} (h:m≤n):(aC b m).length≤(aC b n).length :=
 mH hb (Nat.lt_of_le_of_lt h (gR hb n))
theorem pR (xs:List Nat) (i:Nat):val b xs=val b (xs.take i)+b^(xs.take i).length*val b (xs.drop i):=by
 rw[←yO,List.take_append_drop]
theorem bE {xs:List Nat} {i d:Nat} (h:xs[i]? = some d):val b (xs.take (i+1))=val b (xs.take i)+b^i*d:=by
 have bH:=(List.getElem?_eq_some_iff.1 h).1
 rw[List.take_add_one,h]
 simp only[Option.toList_some]
 rw[sI,List.length_take,Nat.min_eq_left (by omega)]
theorem tB {xs:List Nat} {i d:Nat} (h:xs[i]? = some d):val b (xs.drop i)=d+b*val b (xs.drop (i+1)):=by
 obtain⟨bH,he⟩:=List.getElem?_eq_some_iff.1 h
 rw[List.drop_eq_getElem_cons bH,he,sX]
theorem Gl {P A B O c x y s q r W:Nat} (h:A+B=O+P*c) (hs:c+x+y=s) (hr:r+W*q=s):(A+P*x)+(B+P*y)=(O+P*r)+(P*W)*q:=by grind
theorem JG {P A B O l x y r W l':Nat} (h:A+P*l=O+B) (hd:r+y+l=x+W*l'):(A+P*x)+(P*W)*l'=(O+P*r)+(B+P*y):=by grind
theorem Z9 {xs:List Nat} {i d:Nat} (h:i<xs.length):(xs.set i d).take (i+1)=xs.take i++[d]:=by
 rw[List.set_eq_take_append_cons_drop,if_pos h,List.take_append]
 simp[List.take_take,Nat.min_eq_left (by omega:i≤xs.length),Nat.min_eq_right (by omega:i≤i+1)]
theorem eT {xs:List Nat} {i d:Nat} (h:i<xs.length):val b ((xs.set i d).take (i+1))=val b (xs.take i)+b^i*d:=by
 rw[Z9 h,sI,List.length_take,Nat.min_eq_left (by omega)]
theorem lZ {xs:List Nat} {i d:Nat} (h:∀x∈xs,x<b) (hd:d<b):∀x∈xs.set i d,x<b:=by
 intro x hx
 rcases List.mem_or_eq_of_mem_set hx with h1 | h1
 ·exact h x h1
 ·subst h1;exact hd
theorem jQ {xs:List Nat} {i:Nat} (h:xs.length≤i):val b (xs.take i)=val b xs:=by rw[List.take_of_length_le h]
theorem A0 (hb:0<b) (n:Nat):∀x∈List.replicate n 0,x<b:=by
 intro x hx
 rw[List.eq_of_mem_replicate hx]
 exact hb
theorem Zf {P x y R t:Nat} (ht:t<P) (h:x<y):t+P*(x+R)<P*(y+R):=by
 have h1:P*(x+R+1)≤P*(y+R):=Nat.mul_le_mul_left _ (by omega)
 rw[Nat.mul_add,Nat.mul_one] at h1
 omega
theorem EE {xs ys:List Nat} {i x y:Nat} (hx:∀d∈xs,d<b) (hl:xs.length=ys.length) (hi:xs[i]? = some x) (hj:ys[i]? = some y) (hd:xs.drop (i+1)=ys.drop (i+1)) (h:x<y):val b xs<val b ys:=by
 have h1:=(List.getElem?_eq_some_iff.1 hi).1
 have ht:(xs.take i).length=i:=by simp;omega
 have ht':(ys.take i).length=i:=by simp;omega
 have h2:=oW (b:=b) (xs:=xs.take i) fun d hd=>hx d (List.mem_of_mem_take hd)
 rw[ht] at h2
 rw[pR xs i,pR ys i,ht,ht',tB hi,tB hj,hd]
 have:=Zf (R:=b*val b (ys.drop (i+1))) h2 h
 omega
theorem TH (hb:2≤b) {m n:Nat} (h:aC b m=aC b n):m=n:=by
 have:=congrArg (val b) h
 rwa [cM hb,cM hb] at this
def eZ (a b:Nat):Int:=if a<b then -1 else if a=b then 0 else 1
theorem EM (hb:2≤b) {m n:Nat} (h:(aC b m).length<(aC b n).length):m<n:=by
 rcases Nat.lt_or_ge m n with h1 | h1
 ·exact h1
 ·have:=eI hb h1
  omega
end
end Go.PM
namespace Go.PM
abbrev VI (n:Int):VV := .sc (.int .i64 n)
abbrev VK (k:IntKind) (n:Int):VV := .sc (.int k n)
abbrev VB (t:Bool):VV := .sc (.bool t)
abbrev aK {α:Type} (f:α→VV) (xs:List α):VV := .tree (xs.map f) .op
section
variable {α:Type} {f:α→VV} {xs ys:List α} {x:α} {t:TK} {H:aA} {size i:Nat} {k:IntKind}
theorem dY:oS (.tree (xs.map f) t) H=some (VI xs.length):=by simp[oS]
theorem aJ (hx:xs[i]? = some x) (hs:(aB (f x)).length=size):bQ size (.tree (xs.map f) t) (VK k (i:Int)) H=some (.cT (f x) 0) :=
 Yk (by simp[hx]) hs
theorem Sy (hs:∀x,(aB (f x)).length=size):∀y∈xs.map f,(aB y).length=size:=by
 intro y hy
 obtain⟨x,_,rfl⟩:=List.mem_map.1 hy
 exact hs x
theorem fI (hp:∀x,aY (f x)=true):aP (xs.map f)=true:=by
 rw[BZ]
 intro y hy
 obtain⟨x,_,rfl⟩:=List.mem_map.1 hy
 exact hp x
theorem akL (hp:∀x,hC (f x)=true):qD (xs.map f)=true:=by
 rw[NH]
 intro y hy
 obtain⟨x,_,rfl⟩:=List.mem_map.1 hy
 exact hp x
theorem XR {size:Nat} (hs:∀x,(aB (f x)).length=size):uni (xs.map f)=true:=by
 cases xs with
 | nil=>rfl
 |
  cons x xs =>
  simp only[List.map_cons,uni,List.all_eq_true]
  intro y hy
  obtain⟨z,_,rfl⟩:=List.mem_map.1 hy
  simp[hs]
theorem nO {size:Nat} (hs:∀x,(aB (f x)).length=size) (hp:∀x,aY (f x)=true):aY (aK f xs)=true:=by
 simp only[aK,aY,fI hp,XR hs,decide_true,Bool.and_self]
theorem Bl {size:Nat} (hs:∀x,(aB (f x)).length=size) (hp:∀x,hC (f x)=true) (he:∀x,AY (f x)=true):hC (aK f xs)=true:=by
 have h4:(xs.map f).all AY=true:=by
  rw[List.all_eq_true]
  intro y hy
  obtain⟨z,_,rfl⟩:=List.mem_map.1 hy
  exact he z
 simp only[aK,hC,akL hp,XR hs,h4,decide_true,Bool.and_self]
theorem akB {es:List VV} {h:Nat} (fK:0<es.length) (hs:∀x∈es,(aB x).length=size) (hh:h≤es.length) {k2:IntKind} :
  Fi size (.tree es t) none (some (VK k2 h)) none H=some (.tree (es.take h) .op):=by
 cases es with
 | nil=>simp at fK
 |
  cons y ys =>
  have hy:=hs y List.mem_cons_self
  simp only[List.length_cons] at hh
  have e1:(0:Int)≤h∧(h:Int)≤((ys.length+1:Nat):Int):=by omega
  simp only[Fi,Gx,hy,if_true,eV,e1,Int.toNat_natCast,Option.isSome_none,Bool.false_eq_true,false_and,if_false]
  simp
theorem TS (h:0<xs.length):0<(xs.map f).length:=by simpa using h
theorem abV {b g o n c:Nat} {es:List VV} {w:Bool} {l h:Nat} (hr:aF H b g=some (es,size,w)) (hl:l≤h) (hh:h≤c) {k1 k2:IntKind} :
  Fi size (.ref b g o n c) (some (VK k1 l)) (some (VK k2 h)) none H=some (.ref b g (o+l) (h-l) (c-l)):=by
 have e1:(0:Int)≤h∧(h:Int)≤(c:Int):=by omega
 have e2:(0:Int)≤l∧(l:Int)≤(h:Int):=by omega
 simp only[Fi,Gx,hr,if_true,eV,e1,e2,Int.toNat_natCast,Option.isSome_none,Bool.false_eq_true,false_and,if_false]
 simp[hl]
theorem wD {b g o n c:Nat} {es:List VV} {w:Bool} {h:Nat} (hr:aF H b g=some (es,size,w)) (hh:h≤c) {k2:IntKind} :
  Fi size (.ref b g o n c) none (some (VK k2 h)) none H=some (.ref b g o h c):=by
 have e1:(0:Int)≤h∧(h:Int)≤(c:Int):=by omega
 simp only[Fi,Gx,hr,if_true,eV,e1,Int.toNat_natCast,Option.isSome_none,Bool.false_eq_true,false_and,if_false]
 simp
theorem Oo {b g o n c:Nat} {es:List VV} {w:Bool} {l:Nat} (hr:aF H b g=some (es,size,w)) (hl:l≤n) (hn:n≤c) {k1:IntKind} :
  Fi size (.ref b g o n c) (some (VK k1 l)) none none H=some (.ref b g (o+l) (n-l) (c-l)):=by
 have e2:(0:Int)≤l∧(l:Int)≤(n:Int):=by omega
 simp only[Fi,Gx,hr,if_true,eV,e2,Int.toNat_natCast,Option.isSome_none,Bool.false_eq_true,false_and,if_false]
 simp
theorem JW {h:Nat} (hs:∀x,(aB (f x)).length=size) (fK:0<xs.length) (hh:h≤xs.length) {k2:IntKind} :
  Fi size (.tree (xs.map f) t) none (some (VK k2 h)) none H=some (aK f (xs.take h)):=by
 rw[akB (TS fK) (Sy hs) (by simpa using hh)]
 simp[aK]
theorem Tc {b g e:Nat} {es:List VV} {w:Bool} {L K:aA} (h:b=L.length):aF (L ++ .row g es e w::K) b g=some (es,e,w):=by
 subst h
 simp[aF]
theorem aQ {g e:Nat} {es:List VV} {w:Bool} {K:aA}:aF (.row g es e w::K) 0 g=some (es,e,w):=by simp[aF]
theorem EO {n:Nat}:(n=n+1)=False:=eq_false fun h=>by omega
theorem adV {g g' e:Nat} {es:List VV} {w:Bool} {K:aA} (h:g'≠g):aF (.row g' es e w::K) 0 g=none:=by simp[aF,h]
theorem Cj {g e:Nat} {es:List VV} {w:Bool} {K:aA}:aF (.row (g+1) es e w::K) 0 g=none:=adV (Nat.succ_ne_self g)
theorem iY {b g:Nat} {x:bT} {K:aA}:aF (x::K) (b+1) g=aF K b g:=by simp[aF]
theorem bD {b g o n c e:Nat} {es:List VV} {w:Bool} (h:aF H b g=some (es,e,w)) (hi:i<n):bQ e (.ref b g o n c) (VK k (i:Int)) H=some (.ptr b g (o+i) 0):=ZK h hi
theorem bO {b g j e lo:Nat} {es:List VV} {v:VV} (h:aF H b g=some (es,e,true)) (hj:j<es.length) (dP:lo≤b) (hv:(aB v).length=e) (hs:(aB v).all bY=true):bI lo e (.ptr b g j 0) v H=some (H.set b (.row g (es.set j v) e true)):=by
 obtain⟨x,hx⟩:∃x,es[j]? = some x:=⟨_,List.getElem?_eq_getElem hj⟩
 simp only[bI,h,hx]
 rw[if_pos ⟨hv,dP,hs⟩,if_pos ⟨trivial,trivial⟩]
theorem sD {z:List Value} {bytes n:Nat} (hz:elemOf (z.map jW)=f x) (hn:n*bytes≤281474976710656) (hm:n≤9223372036854775807):Bs z bytes (VI n) (VI n) H=some (.ref H.length 0 0 n n,H++[.row 0 ((List.replicate n x).map f) z.length true]):=by
 simp only[Bs]
 rw[if_pos ⟨by omega,by omega,by omega,by omega⟩,hz]
 simp
theorem pI {ag w:Bool} {b gn e j o:Nat} (h:aF H b gn=some (xs.map f,e,w)) (hx:xs[j]? = some x):bX ag size (.ptr b gn j o) H=dF ag size (f x) o :=
 Qp h (by simp[hx])
theorem fA {b g j e lo:Nat} (h:aF H b g=some (xs.map f,e,true)) (hj:j<xs.length) (dP:lo≤b) (hv:(aB (f x)).length=e) (hs:(aB (f x)).all bY=true):bI lo e (.ptr b g j 0) (f x) H=some (H.set b (.row g ((xs.set j x).map f) e true)):=by
 rw[bO h (by simpa using hj) dP hv hs,List.map_set]
theorem Xq {b gn n c e:Nat} {es:List VV} {w:Bool} (h:aF H b gn=some (es,e,w)) (hn:n≤es.length) (hc:n≤c) (hp:aP es=true):fz depth H (.ref b gn 0 n c)=some (.tree (es.take n) .op):=by
 have:aY (.ref b gn 0 n c)=false:=rfl
 show fz (7+1) H _=_
 unfold fz
 simp only[this,h,Bool.false_eq_true,if_false]
 have Es:aP (es.take n)=true:=BZ.2 fun x hx=>BZ.1 hp x (List.mem_of_mem_take hx)
 rw[if_pos ⟨by omega,hc⟩,List.drop_zero,mapM_pure Es]
 rfl
theorem TC.flat {fn:Nat} {args iQ:List VV} {r:VV} (h:TC fn iQ r) (Ag:Eo.contains fn=false) (ha':aP iQ=true) (hf:args.mapM (fz depth H)=some iQ) (hr:M7 r=true) :
  ∀(lo:Nat) (K:VV→aA→Prop),cV fn args lo H K=K r H:=by
 intro lo K
 cases hp:aP args with
 |
  true =>
  have:=mapM_pure (n:=7) (H:=H) hp
  rw[show fz depth H=fz (7+1) H from rfl,this] at hf
  cases hf
  exact h lo H K
 | false=>rw[h.HW Ag ha' hf hp,hr,if_pos rfl]
theorem Y8 {v v':VV} (h:fz depth H v=some v'):[v].mapM (fz depth H)=some [v']:=by rw[List.mapM_cons,h];rfl
theorem fz2 {v v' u u':VV} (h:fz depth H v=some v') (hu:fz depth H u=some u'):[v,u].mapM (fz depth H)=some [v',u']:=by rw[List.mapM_cons,h,Y8 hu];rfl
theorem TC.aiU {fn b gn n c e size:Nat} {w:Bool} {r:VV} (h:TC fn [aK f xs] r) (hr:aF H b gn=some (xs.map f,e,w)) (hn:n=xs.length) (hc:n≤c) (hs:∀x,(aB (f x)).length=size) (hp:∀x,aY (f x)=true) (Ag:Eo.contains fn=false) (hf:M7 r=false) :
  ∀(lo:Nat) (K:VV→aA→Prop),cV fn [.ref b gn 0 n c] lo H K=K r (dB H [b]):=by
 intro lo K
 have e1:fz depth H (.ref b gn 0 n c)=some (aK f xs):=F7 hr (by simpa using hn) hc (fI hp)
 have e2:jJ depth H (.ref b gn 0 n c)=[b]:=PJ hr (by simpa using hn) (fI hp)
 have e3:[VV.ref b gn 0 n c].mapM (fz depth H)=some [aK f xs]:=by rw[List.mapM_cons,e1];rfl
 rw[h.HW Ag (by simp only[aP,nO hs hp,Bool.and_self]) e3 rfl,hf]
 simp only[Bool.false_eq_true,if_false,List.flatMap_cons,List.flatMap_nil,e2,List.append_nil]
theorem alF {es:List VV} {e:Nat} (hp:aP es=true):fz depth H (.tree es (.cl e))=some (.tree es .op):=by
 show fz (7+1) H _=_
 unfold fz
 have:aY (.tree es (.cl e))=false:=by simp[aY]
 simp only[this,Bool.false_eq_true,if_false,mapM_pure hp]
 rfl
theorem adR {es:List VV} {e:Nat} (hp:aP es=true):jJ depth H (.tree es (.cl e))=[]:=by
 show jJ (7+1) H _=_
 unfold jJ
 have:aY (.tree es (.cl e))=false:=by simp[aY]
 simp only[this,Bool.false_eq_true,if_false,B9 hp]
theorem Wp:fz depth H (.tree [] .nil)=some (.tree [] .op):=by
 show fz (7+1) H _=_
 unfold fz
 have:aY (.tree [] .nil)=false:=by simp[aY]
 simp only[this,Bool.false_eq_true,if_false]
 rfl
theorem TC.args {fn:Nat} {args iQ:List VV} {r:VV} (h:TC fn iQ r) (Ag:Eo.contains fn=false) (ha':aP iQ=true) (hf:args.mapM (fz depth H)=some iQ) (hi:args.flatMap (jJ depth H)=[]) :
  ∀(lo:Nat) (K:VV→aA→Prop),cV fn args lo H K=K r H:=by
 intro lo K
 cases hp:aP args with
 |
  true =>
  have:=mapM_pure (n:=7) (H:=H) hp
  rw[show fz depth H=fz (7+1) H from rfl,this] at hf
  cases hf
  exact h lo H K
 |
  false =>
  rw[h.HW Ag ha' hf hp,hi]
  split<;>rfl
theorem jH {lr:Bool} {z:List Value} (hz:(z.map jW).all bY=true):lG lr z 0 [] H=some (.ref H.length 0 0 0 0,H++[.row 0 [] z.length true]):=by
 simp[lG,xH,hz]
theorem gW {z:List Value} {v:VV} (hz:(z.map jW).all bY=true) (hv:(aB v).length=z.length) (hs:(aB v).all bY=true):lG false z 1 [(0,v)] H=some (.tree [v] (.cl z.length),H):=by
 simp only[lG,xH,List.replicate_succ,List.replicate_zero,List.length_cons,List.length_nil,hv,hs,and_self,if_true,List.set_cons_zero,hz]
 simp[hs]
theorem acX {z:List Value} {u v:VV} (hz:(z.map jW).all bY=true) (hu:(aB u).length=z.length) (hus:(aB u).all bY=true) (hv:(aB v).length=z.length) (hs:(aB v).all bY=true):lG false z 2 [(0,u),(1,v)] H=some (.tree [u,v] (.cl z.length),H):=by
 simp[lG,xH,hv,hs,hu,hus,hz,List.replicate_succ]
end
theorem wrap32 (n:Nat):IntKind.u32.wrap (n:Int)=((n % 4294967296:Nat):Int):=by rw[IntKind.wrap_u32];omega
theorem wrap_u64 (n:Int):IntKind.u64.wrap n=n % 18446744073709551616:=by simp[IntKind.wrap,IntKind.bits,IntKind.signed]
theorem eE (n:Nat) (h:n<18446744073709551616):IntKind.u64.wrap (n:Int)=(n:Int):=by rw[wrap_u64];omega
theorem wrapN {x:Int} (n:Nat) (h:x=n) (hn:n≤9223372036854775807):IntKind.i64.wrap x=(n:Int):=by subst h;exact wrap64 (by omega) (by omega)
theorem oF (n:Nat) (k:IntKind):dG .shr (.int .u64 (n:Int)) (.int k 32)=some (.int .u64 ((n / 4294967296:Nat):Int)):=by
 simp only[dG]
 have h1:¬((32:Int)<0):=by decide
 have h2:Nat.min (Int.toNat 32) IntKind.u64.bits=32:=by decide
 rw[if_neg h1,h2]
 congr 2
 rw[Int.fdiv_eq_ediv_of_nonneg _ (by decide)]
 omega
theorem Ew (n:Nat) (k:IntKind) (h:n<4294967296):dG .shl (.int .u64 (n:Int)) (.int k 32)=some (.int .u64 ((n*4294967296:Nat):Int)):=by
 simp only[dG]
 have h1:¬((32:Int)<0):=by decide
 have h2:Nat.min (Int.toNat 32) IntKind.u64.bits=32:=by decide
 rw[if_neg h1,h2]
 congr 2
 have:(n:Int)*2^32=((n*4294967296:Nat):Int):=by omega
 rw[this]
 exact eE _ (by omega)
section
variable {n k g:Nat} {K:aA} {x y:bT}
theorem vL:aF (List.replicate n bT.dead++K) n g=aF K 0 g:=by
 unfold aF
 rw[List.getElem?_append_right (by simp)]
 simp
theorem rG:aF (List.replicate n bT.dead++K) (n+k) g=aF K k g:=by
 unfold aF
 rw[List.getElem?_append_right (by simp)]
 simp
theorem A7:(List.replicate n bT.dead++K).set n y=List.replicate n bT.dead++K.set 0 y:=by
 rw[List.set_append_right _ _ (by simp)]
 simp
theorem IA:(List.replicate n bT.dead++K).set (n+k) y=List.replicate n bT.dead++K.set k y:=by
 rw[List.set_append_right _ _ (by simp)]
 simp
theorem Db:(List.replicate n bT.dead++K).length=n+K.length:=by simp
theorem aiC:(List.replicate n bT.dead++K).take (n+k)=List.replicate n bT.dead++K.take k:=by
 rw[List.take_append]
 simp
theorem akM:(List.replicate n bT.dead++K).take n=List.replicate n bT.dead:=by
 rw[List.take_append]
 simp
theorem aiV:jX k (List.replicate n bT.dead++K)=jX k K:=by
 induction n with
 | zero=>rfl
 | succ n ih=>rw[List.replicate_succ,List.cons_append,←ih];rfl
end
theorem Bm {k g e:Nat} {es:List VV} {w:Bool} {K:aA} (h:lW k es=true):jX k (.row g es e w::K)=jX k K:=by
 unfold jX
 rw[List.all_cons]
 simp only[h,Bool.true_and]
theorem Il {k:Nat}:jX k []=true:=rfl
theorem dZ {size:Nat} {v:VV} {t:TK} {H:aA} (h:(aB v).length=size) (hs:(aB v).all bY=true):cW size (.tree [v] t) H=some [v]:=by
 simp[cW,h,hs]
theorem gS {α:Type} {f:α→VV} {xs:List α} {x:α} {lo b g n e bytes:Nat} {H:aA} (h:aF H b g=some (xs.map f,e,true)) (hn:n=xs.length) (dP:lo≤b) (he:1≤e) (hb:1≤bytes) (Dj:(n+1)*bytes≤140737488355328) :
  dW lo e bytes (.ref b g 0 n n) [f x] H=some (.ref b (g+1) 0 (n+1) (n+1),H.set b (.row (g+1) ((xs++[x]).map f) e true)):=by
 subst hn
 simp only[dW,h,List.length_cons,List.length_nil,Nat.zero_add]
 rw[if_pos ⟨hb,he⟩,if_pos ⟨trivial,dP,by simp⟩,if_neg (by omega),if_pos Dj,List.drop_zero,List.take_of_length_le (by simp)]
 simp
section
variable {H:aA} {b g o n c j lo size:Nat} {neg ag:Bool} {k:IntKind} {i:Int} {v:VV}
theorem bM:bX ag size (.ptr b g j o) H=(match aF H b g with
 |
  some (es,_,_)=>match es[j]? with
  | some x=>dF ag size x o
  | none=>none
 | none=>none):=rfl
theorem DL:bI lo size (.ptr b g j o) v H=(match aF H b g with
 |
  some (es,e,true)=>match es[j]? with
  |
   some x =>
   if (aB v).length=size∧lo≤b∧(aB v).all bY then
    if o=0∧size=e then some (H.set b (.row g (es.set j v) e true))
    else if 2≤e∧o+size≤e then some (H.set b (.row g (es.set j (.agg (cZ (aB x) o (aB v)))) e true))
    else none
   else none
  | none=>none
 | _=>none):=rfl
theorem PS:oS (.ref b g o n c) H=(aF H b g).map fun _ => .sc (.int .i64 n):=rfl
theorem sB:yU size (.ptr b g j o) H=(aF H b g).map fun _ => .ptr b g j (o+size):=rfl
theorem P0:TG (.ptr b g j o) H=(aF H b g).map fun _ => .ptr b g j o:=rfl
theorem Kl:Gn neg (.ref b g o n c) H=(aF H b g).map fun _ => .sc (.bool (false != neg)):=rfl
theorem Lt:Gn neg (.tree [] .nil) H=some (.sc (.bool (true != neg))):=rfl
theorem Kc {x:VV} {xs:List VV} {t:TK}:Gn neg (.tree (x::xs) t) H=some (.sc (.bool (false != neg))):=rfl
theorem JL:bQ size (.ref b g o n c) (.sc (.int k i)) H=(match aF H b g with
 | some (_,e,_)=>if e=size∧0≤i∧i<n then some (.ptr b g (o+i.toNat) 0) else none
 | none=>none):=rfl
end
theorem Ie {v:Value}:isAny (.sc v)=false:=rfl
theorem Cs {es:List VV} {t:TK}:isAny (.tree es t)=false:=rfl
theorem Ez {b g o n c:Nat}:isAny (.ref b g o n c)=false:=rfl
theorem EP {cs:List VV}:isAny (.agg cs)=false:=rfl
theorem Pt {f:Nat} {cs:List VV}:isAny (.vJ f cs)=false:=rfl
theorem fQ {x:VV}:elemOf [x]=x:=rfl
theorem kH {x y:VV} {cs:List VV}:elemOf (x::y::cs) = .agg (x::y::cs):=rfl
theorem uJ {k t:Nat} {ρ:dL}:Is k ρ t=Kd k (ρ t):=rfl
theorem Mx {k:Nat} {v:Value}:Kd k (.sc v) = .sc v:=rfl
theorem Bz {k:Nat} {v:VV} (h:aY v=true):Kd k v=v:=MC (GG v h)
theorem Iy {k b g o n c:Nat} (h:b<k):Kd k (.ref b g o n c) = .ref b g o n c:=MC (by simp[below,h])
theorem Uh {v:Value}:bY (.sc v)=true:=rfl
theorem Nc {es:List VV} {t:TK}:bY (.tree es t)=true:=rfl
theorem PE {b g o n c:Nat}:bY (.ref b g o n c)=true:=rfl
theorem Py {b g o n:Nat}:bY (.ptr b g o n)=true:=rfl
theorem Lv {x:VV} {o:Nat}:bY (.cT x o)=true:=rfl
theorem OP {f:Nat} {cs:List VV}:bY (.vJ f cs)=true:=rfl
theorem P8 {v:Value}:aB (.sc v)=[.sc v]:=rfl
theorem Ge {cs:List VV}:aB (.agg cs)=cs:=rfl
theorem J3 {es:List VV} {t:TK}:aB (.tree es t)=[.tree es t]:=rfl
theorem MK {b g o n c:Nat}:aB (.ref b g o n c)=[.ref b g o n c]:=rfl
theorem T2 {k k':IntKind} {n:Int}:UB k (.int k' n)=some (.int k (k.wrap n)):=rfl
theorem P7 {args:List VV} {t:Nat}:Kp args t=args.getD t qK:=rfl
theorem asG {n:Nat}:LT n = .tmp n:=rfl
theorem atA {n:Int}:LI n = .const (.int .i64 n):=rfl
theorem avN:LG = .const (.bool true):=rfl
theorem arW:LF = .const (.bool false):=rfl
theorem arV {n:Nat}:LL n = .load false 1 (.tmp n):=rfl
theorem auR {n:Nat}:LK n = .load true 3 (.tmp n):=rfl
theorem awG {n k:Nat}:LX n k = .ext (.tmp n) k:=rfl
theorem auW {k n:Nat}:LA k n = .faddr k (.tmp n):=rfl
theorem atE {d:Nat} {p:nS}:LO d p=⟨some d,p,none,false,[]⟩:=rfl
theorem arS {d:Nat} {p:nS}:LQ d p=⟨some d,p,none,true,[]⟩:=rfl
theorem avJ {p:nS}:LN p=⟨none,p,none,false,[]⟩:=rfl
theorem awE {d s:Nat}:LM d s=⟨some d,.mv (.tmp s),none,false,[]⟩:=rfl
theorem avI {g d:Nat} {p:nS}:LY g d p=⟨some d,p,some (g,true),false,[]⟩:=rfl
theorem asJ {g d:Nat} {p:nS}:LZ g d p=⟨some d,p,some (g,false),false,[]⟩:=rfl
theorem avL {l:List PI} {c:aD}:LS l c = .seq (.dI l) c:=rfl
theorem VX:type_of% (
 And.intro @agA<|And.intro @afO<|And.intro @TT<|And.intro @Xg<|And.intro @WT<|And.intro @afV<|And.intro @Xb <|
 And.intro @S6<|And.intro @Da<|And.intro @Fm<|And.intro @G3<|And.intro @FW<|And.intro @DS <|
 And.intro @Mn<|And.intro @Hx<|And.intro @P4<|And.intro @Lz<|And.intro @TX<|And.intro @RF <|
 And.intro @L8<|And.intro @PH<|And.intro @abH<|And.intro @amT<|And.intro @aaE<|And.intro @alU<|And.intro @Ko <|
 And.intro @aeB<|And.intro @TW<|And.intro @XK<|And.intro @Xe<|And.intro @O6<|And.intro @OJ<|And.intro @aaZ <|
 And.intro @WR<|And.intro @XQ<|And.intro @XS<|And.intro @XJ<|And.intro @O5<|And.intro @Xc<|And.intro @OQ <|
 And.intro @OZ<|And.intro @SV<|And.intro @SP<|And.intro @SD<|And.intro @XH<|And.intro @SE<|And.intro @WU <|
 And.intro @W2<|And.intro @RN<|And.intro @Xw<|And.intro @Xd<|And.intro @WQ<|And.intro @RZ<|And.intro @WZ <|
 And.intro @OU<|And.intro @WK<|And.intro @Ti<|And.intro @Ph<|And.intro @SS<|And.intro @PD <|
 And.intro @CB<|And.intro @PG<|And.intro @Sf<|And.intro @Pf<|And.intro @Nr<|And.intro @O9 <|
 And.intro @vO<|And.intro @PN<|And.intro @Xm<|And.intro @PL<|And.intro @Tn<|And.intro @WY<|And.intro @Ts <|
 And.intro @Xp<|And.intro @X0<|And.intro @XX<|And.intro @T9<|And.intro @Px<|And.intro @Uj<|And.intro @Tj <|
 And.intro @WC<|And.intro @XN<|And.intro @RH<|And.intro @Tx<|And.intro @OV<|And.intro @T1<|And.intro @afN <|
 And.intro @K7<|And.intro @aeY<|And.intro @Xk<|And.intro @aaP<|And.intro @adL<|And.intro @kA<|And.intro @aaX <|
 And.intro @List.length_map.{0,0}<|And.intro @List.all_cons.{0}<|And.intro @List.all_nil.{0}<|And.intro @Uh<|And.intro @Bool.and_self <|
 And.intro @Bool.and_true<|And.intro @T2<|And.intro @XD<|And.intro @Xx<|And.intro @S9<|And.intro @TV <|
 And.intro @T6<|And.intro @Sv<|And.intro @RW<|And.intro @Sz<|And.intro @Sw<|And.intro @TN<|And.intro @Ub <|
 And.intro @XB<|And.intro @Xr<|And.intro @Value.bool.injEq<|And.intro @decide_eq_true_eq<|And.intro @decide_eq_false_iff_not <|
 And.intro @Bool.not_true<|And.intro @Bool.not_false<|And.intro @decide_true<|And.intro @decide_false<|And.intro @Bool.not_eq_true' <|
 And.intro @Bool.not_eq_false'<|And.intro @Bool.false_eq_true<|And.intro @false_and<|And.intro @and_false<|And.intro @Option.map_some.{0,0} <|
 And.intro @Option.map_none.{0,0}<|And.intro @if_true.{1}<|And.intro @if_false.{1}<|And.intro @List.map_cons.{0,0}<|And.intro @List.map_nil.{0,0} <|
 And.intro @List.cons_append.{0}<|And.intro @List.nil_append.{0}<|And.intro @and_true<|And.intro @true_and<|And.intro @Nat.zero_add <|
 And.intro @Nat.add_zero<|And.intro @List.length_cons.{0}<|And.intro @List.length_nil.{0}<|And.intro @P7<|And.intro @List.getD_cons_zero.{0} <|
 And.intro @List.getD_cons_succ.{0}<|And.intro @List.getD_nil.{0}<|And.intro @VV.sc.injEq<|And.intro @List.getElem?_cons_zero.{0} <|
 And.intro @List.getElem?_cons_succ.{0}<|And.intro @Nc<|And.intro @PE<|And.intro @Py<|And.intro @Lv <|
 And.intro @OP<|And.intro @P8<|And.intro @Ge<|And.intro @J3<|And.intro @MK<|And.intro @asG<|And.intro @atA <|
 And.intro @avN<|And.intro @arW<|And.intro @arV<|And.intro @auR<|And.intro @awG<|And.intro @auW<|And.intro @atE<|And.intro @arS <|
 And.intro @avJ<|And.intro @awE<|And.intro @avI<|And.intro @asJ <| @avL) :=
 And.intro @agA<|And.intro @afO<|And.intro @TT<|And.intro @Xg<|And.intro @WT<|And.intro @afV<|And.intro @Xb <|
 And.intro @S6<|And.intro @Da<|And.intro @Fm<|And.intro @G3<|And.intro @FW<|And.intro @DS <|
 And.intro @Mn<|And.intro @Hx<|And.intro @P4<|And.intro @Lz<|And.intro @TX<|And.intro @RF <|
 And.intro @L8<|And.intro @PH<|And.intro @abH<|And.intro @amT<|And.intro @aaE<|And.intro @alU<|And.intro @Ko <|
 And.intro @aeB<|And.intro @TW<|And.intro @XK<|And.intro @Xe<|And.intro @O6<|And.intro @OJ<|And.intro @aaZ <|
 And.intro @WR<|And.intro @XQ<|And.intro @XS<|And.intro @XJ<|And.intro @O5<|And.intro @Xc<|And.intro @OQ <|
 And.intro @OZ<|And.intro @SV<|And.intro @SP<|And.intro @SD<|And.intro @XH<|And.intro @SE<|And.intro @WU <|
 And.intro @W2<|And.intro @RN<|And.intro @Xw<|And.intro @Xd<|And.intro @WQ<|And.intro @RZ<|And.intro @WZ <|
 And.intro @OU<|And.intro @WK<|And.intro @Ti<|And.intro @Ph<|And.intro @SS<|And.intro @PD <|
 And.intro @CB<|And.intro @PG<|And.intro @Sf<|And.intro @Pf<|And.intro @Nr<|And.intro @O9 <|
 And.intro @vO<|And.intro @PN<|And.intro @Xm<|And.intro @PL<|And.intro @Tn<|And.intro @WY<|And.intro @Ts <|
 And.intro @Xp<|And.intro @X0<|And.intro @XX<|And.intro @T9<|And.intro @Px<|And.intro @Uj<|And.intro @Tj <|
 And.intro @WC<|And.intro @XN<|And.intro @RH<|And.intro @Tx<|And.intro @OV<|And.intro @T1<|And.intro @afN <|
 And.intro @K7<|And.intro @aeY<|And.intro @Xk<|And.intro @aaP<|And.intro @adL<|And.intro @kA<|And.intro @aaX <|
 And.intro @List.length_map.{0,0}<|And.intro @List.all_cons.{0}<|And.intro @List.all_nil.{0}<|And.intro @Uh<|And.intro @Bool.and_self <|
 And.intro @Bool.and_true<|And.intro @T2<|And.intro @XD<|And.intro @Xx<|And.intro @S9<|And.intro @TV <|
 And.intro @T6<|And.intro @Sv<|And.intro @RW<|And.intro @Sz<|And.intro @Sw<|And.intro @TN<|And.intro @Ub <|
 And.intro @XB<|And.intro @Xr<|And.intro @Value.bool.injEq<|And.intro @decide_eq_true_eq<|And.intro @decide_eq_false_iff_not <|
 And.intro @Bool.not_true<|And.intro @Bool.not_false<|And.intro @decide_true<|And.intro @decide_false<|And.intro @Bool.not_eq_true' <|
 And.intro @Bool.not_eq_false'<|And.intro @Bool.false_eq_true<|And.intro @false_and<|And.intro @and_false<|And.intro @Option.map_some.{0,0} <|
 And.intro @Option.map_none.{0,0}<|And.intro @if_true.{1}<|And.intro @if_false.{1}<|And.intro @List.map_cons.{0,0}<|And.intro @List.map_nil.{0,0} <|
 And.intro @List.cons_append.{0}<|And.intro @List.nil_append.{0}<|And.intro @and_true<|And.intro @true_and<|And.intro @Nat.zero_add <|
 And.intro @Nat.add_zero<|And.intro @List.length_cons.{0}<|And.intro @List.length_nil.{0}<|And.intro @P7<|And.intro @List.getD_cons_zero.{0} <|
 And.intro @List.getD_cons_succ.{0}<|And.intro @List.getD_nil.{0}<|And.intro @VV.sc.injEq<|And.intro @List.getElem?_cons_zero.{0} <|
 And.intro @List.getElem?_cons_succ.{0}<|And.intro @Nc<|And.intro @PE<|And.intro @Py<|And.intro @Lv <|
 And.intro @OP<|And.intro @P8<|And.intro @Ge<|And.intro @J3<|And.intro @MK<|And.intro @asG<|And.intro @atA <|
 And.intro @avN<|And.intro @arW<|And.intro @arV<|And.intro @auR<|And.intro @awG<|And.intro @auW<|And.intro @atE<|And.intro @arS <|
 And.intro @avJ<|And.intro @awE<|And.intro @avI<|And.intro @asJ <| @avL
theorem iJ:type_of% (
 And.intro @bM<|And.intro @DL<|And.intro @JL<|And.intro @PS<|And.intro @sB<|And.intro @P0 <|
 And.intro @Kl<|And.intro @Lt<|And.intro @Kc<|And.intro @aQ<|And.intro @iY<|And.intro @List.set_cons_zero.{0} <|
 And.intro @List.set_cons_succ.{0}<|And.intro @fQ<|And.intro @kH<|And.intro @mU.eq_1<|And.intro @pJ.eq_1 <|
 And.intro @pJ.eq_2<|And.intro @En.eq_1<|And.intro @En.eq_2<|And.intro @zW.eq_1<|And.intro @zW.eq_2<|And.intro @Ie <|
 And.intro @Cs<|And.intro @Ez<|And.intro @EP<|And.intro @Pt<|And.intro @List.take_zero.{0} <|
 And.intro @List.take_succ_cons.{0}<|And.intro @List.take_nil.{0}<|And.intro @List.drop_zero.{0}<|And.intro @List.drop_succ_cons.{0} <|
 And.intro @List.drop_nil.{0}<|And.intro @List.append_nil.{0}<|And.intro @Nat.le_refl<|And.intro @cZ.eq_1<|And.intro @Int.toNat_natCast <|
 And.intro @eq_self.{1}<|And.intro @ge_iff_le.{0} <| @Bool.and_eq_true) :=
 And.intro @bM<|And.intro @DL<|And.intro @JL<|And.intro @PS<|And.intro @sB<|And.intro @P0 <|
 And.intro @Kl<|And.intro @Lt<|And.intro @Kc<|And.intro @aQ<|And.intro @iY<|And.intro @List.set_cons_zero.{0} <|
 And.intro @List.set_cons_succ.{0}<|And.intro @fQ<|And.intro @kH<|And.intro @mU.eq_1<|And.intro @pJ.eq_1 <|
 And.intro @pJ.eq_2<|And.intro @En.eq_1<|And.intro @En.eq_2<|And.intro @zW.eq_1<|And.intro @zW.eq_2<|And.intro @Ie <|
 And.intro @Cs<|And.intro @Ez<|And.intro @EP<|And.intro @Pt<|And.intro @List.take_zero.{0} <|
 And.intro @List.take_succ_cons.{0}<|And.intro @List.take_nil.{0}<|And.intro @List.drop_zero.{0}<|And.intro @List.drop_succ_cons.{0} <|
 And.intro @List.drop_nil.{0}<|And.intro @List.append_nil.{0}<|And.intro @Nat.le_refl<|And.intro @cZ.eq_1<|And.intro @Int.toNat_natCast <|
 And.intro @eq_self.{1}<|And.intro @ge_iff_le.{0} <| @Bool.and_eq_true
end Go.PM
namespace Go.PM
theorem TC.vt {f:Nat} {args:List VV} {r:VV} (h:TC f args r) (Ag:Eo.contains f=false) (hp:aP args=true):VT f args r:=by
 have h1:=h 0 [] fun x _=>x=r
 unfold cV at h1
 simp only[Ag,hp,Bool.false_eq_true,if_false,if_true] at h1
 have h2:G1 f args fun x=>x=r:=by rw[h1];trivial
 unfold G1 tk at h2
 split at h2
 ·rename_i x hx
  rw[←h2]
  exact(Qm hx).2.2
 ·exact h2.elim
theorem TC.yes {f:Nat} {args:List VV} {eO:List Value} {H:aE} (h:TC f args (.sc (.bool true))) (Ag:Eo.contains f=false) (hp:aP args=true) (hl:VL (bare (· < H.length) H) args eO) :
  ∃v H',rS f eO H.length H=some (v,H')∧v = .bool true:=by
 obtain⟨P',pv,h1,_,h2⟩:=h.vt Ag hp (· < H.length) H eO H.length (fun _ h=>h) hl (Nat.le_refl _)
 cases h2
 exact⟨_,P',h1,rfl⟩
theorem VR.grow {H L:aE} {x:VV} {v:Value} (h:VR (bare (· < H.length) H) x v):VR (bare (· < (H++L).length) (H++L)) x v :=
 h.Ef fun b hb=>⟨by show b<_;rw[List.length_append];omega,List.getElem?_append_left hb⟩
end Go.PM
namespace Go.PM
mutual
def eG (n:Nat):VV→Bool
 | .any=>false
 | .sc v=>lF v
 | .agg cs=>nY n cs
 | .dR vs=>nY n vs
 | .tree es k=>es.isEmpty&&decide (k = .nil)
 | .cT _ _=>false
 | .ref b _ _ _ _=>decide (n≤b)
 | .ptr b _ _ _=>decide (n≤b)
 | .vJ _ _=>false
def nY (n:Nat):List VV→Bool
 | []=>true
 | x::xs=>eG n x&&nY n xs
end
theorem D1 {n:Nat} {es:List VV}:nY n es=true↔∀x∈es,eG n x=true:=by
 induction es with
 | nil=>simp[nY]
 | cons x xs ih=>simp[nY,ih]
theorem YG {n:Nat} {es:List VV} (h:nY n es=true):nY n (es.flatMap aB)=true:=by
 rw[D1] at h ⊢
 intro x hx
 obtain⟨y,hy,A8⟩:=List.mem_flatMap.1 hx
 have:=h y hy
 unfold aB at A8
 split at A8
 ·exact D1.1 (by simpa[eG] using this) x A8
 ·rw[List.mem_singleton] at A8;subst A8;exact this
def dS (n:Nat) (L:aA):Bool:=L.all fun
 | .row _ es _ _=>nY n es
 | .dead=>true
theorem VR.own {V V':View} {k0:Nat} (Ry:∀q,V.base≤q∧q<V.P.length→V'.base≤q∧q<V'.P.length∧∀b' g' es e w,b'<k0→V'.H[b']? = some (.row g' es e w)→V'.m b'≠q) (hl:V.H.length≤V'.H.length) (hH:∀b,k0≤b→V'.H[b]? = V.H[b]?) (hm:∀b,k0≤b→V'.m b=V.m b) {x:VV} {v:Value} (h:VR V x v):eG k0 x=true→VR V' x v:=by
 induction h using VR.rec (motive_2:=fun xs vs _=>nY k0 xs=true→VL V' xs vs) with
 | any=>intro hx;cases hx
 | sc _ h=>intro _;exact .sc _ h
 | agg cs ps _ ih=>intro hx;exact .agg _ _ (ih hx)
 | dR cs ps _ ih=>intro hx;exact .dR _ _ (ih hx)
 | nZ k hk=>intro _;exact .nZ k hk
 |
  tree es k b o c r e p hF hb ho hc he hk _ _ =>
  intro hx
  simp only[eG,Bool.and_eq_true,decide_eq_true_eq] at hx
  obtain⟨_,rfl⟩:=hx
  exact hk.elim
 | cT=>intro hx;cases hx
 |
  ref b g o n c a n' c' bH hg ha hq =>
  intro hx
  have hb:k0≤b:=by simpa[eG] using hx
  exact .ref b g o n c a n' c' (Nat.lt_of_lt_of_le bH hl) (fun g' es e w hr=>hg g' es e w (by rw[←hH b hb];exact hr)) (fun es e w hr=>by rw[hm b hb];exact ha es e w (by rw[←hH b hb];exact hr)) fun a0 h=>by
   obtain⟨q1,q2,q3⟩:=hq a0 h
   obtain⟨q4,q5,q6⟩:=Ry _ ⟨q1,q2⟩
   refine⟨q4,q5,fun b' g' es e w hr fK => ?_⟩
   rcases Nat.lt_or_ge b' k0 with Mc | CJ
   ·exact q6 b' g' es e w Mc hr
   ·rw[hm b' CJ]
    exact q3 b' g' es e w (by rw[←hH b' CJ];exact hr) fK
 |
  ptr b g j off a bH hg ha hq =>
  intro hx
  have hb:k0≤b:=by simpa[eG] using hx
  exact .ptr b g j off a (Nat.lt_of_lt_of_le bH hl) (fun g' es e w hr=>hg g' es e w (by rw[←hH b hb];exact hr)) (fun es e w hr=>by rw[hm b hb];exact ha es e w (by rw[←hH b hb];exact hr)) fun a0 h=>by
   obtain⟨q1,q2,q3⟩:=hq a0 h
   obtain⟨q4,q5,q6⟩:=Ry _ ⟨q1,q2⟩
   refine⟨q4,q5,fun b' g' es e w hr fK => ?_⟩
   rcases Nat.lt_or_ge b' k0 with Mc | CJ
   ·exact q6 b' g' es e w Mc hr
   ·rw[hm b' CJ]
    exact q3 b' g' es e w (by rw[←hH b' CJ];exact hr) fK
 | vJ=>intro hx;cases hx
 | nil=>exact .nil
 |
  cons x v xs vs _ _ ih VZ =>
  rename_i hx
  simp only[nY,Bool.and_eq_true] at hx
  exact .cons _ _ _ _ (ih hx.1) (VZ hx.2)
theorem VL.own {V V':View} {n:Nat} (Ry:∀q,V.base≤q∧q<V.P.length→V'.base≤q∧q<V'.P.length∧∀b' g' es e w,b'<n→V'.H[b']? = some (.row g' es e w)→V'.m b'≠q) (hl:V.H.length≤V'.H.length) (hH:∀b,n≤b→V'.H[b]? = V.H[b]?) (hm:∀b,n≤b→V'.m b=V.m b) {xs:List VV} {vs:List Value} (h:VL V xs vs) (hx:nY n xs=true):VL V' xs vs:=by
 induction xs generalizing vs with
 | nil=>cases h;exact .nil
 |
  cons x xs ih=>cases h with
  |
   cons _ v _ vs h hs =>
   simp only[nY,Bool.and_eq_true] at hx
   exact .cons _ _ _ _ (h.own Ry hl hH hm hx.1) (ih hs hx.2)
theorem VL.Ef {V':View} {G:Nat→Prop} {P:aE} {xs:List VV} {vs:List Value} (hF:∀b,G b→V'.F b∧V'.P[b]? = P[b]?) (h:VL (bare G P) xs vs):VL V' xs vs:=by
 induction xs generalizing vs with
 | nil=>cases h;exact .nil
 |
  cons x xs ih=>cases h with
  | cons _ v _ vs h hs=>exact .cons _ _ _ _ (h.Ef hF) (ih hs)
def FC (f:Nat) (args:List VV) (R:Nat→VV→aA→Prop):Prop :=
 ∀n,jC f args n (List.replicate n .dead) fun r H'=>∃L,H'=List.replicate n .dead++L∧eG n r=true∧dS n L=true∧R n r L
theorem FC.walk {f:Nat} {pf:aT} {args:List VV} {R:Nat→VV→aA→Prop} (fl:Fl) (ht:fM f=some pf) (hn:args.length≤pf.ntmps)
  (h:∀n,VW fl n pf.body (BC pf.res fun r H'=>∃L,H'=List.replicate n .dead++L∧eG n r=true∧dS n L=true∧R n r L) (Kp args) (List.replicate n .dead)):FC f args R :=
 fun n=>jC.walk fl ht hn (h n)
theorem FC.raw {f:Nat} {args iQ:List VV} {R:Nat→VV→aA→Prop} {H:aA} {lo:Nat} (h:FC f iQ R) (hf:args.mapM (fz depth H)=some iQ):jC f args lo H fun r H'=>∃L,H'=H++L∧R H.length r L∧eG H.length r=true∧dS H.length L=true:=by
 intro V eQ eO hH hS hl
 have h1:=h H.length
 let V0:View:={ m:=V.m,F:=(· < V.P.length),H:=List.replicate H.length .dead,P:=V.P,base:=V.P.length }
 have NL:∀(b g:Nat) (es:List VV) (e:Nat) (w:Bool),V0.H[b]? ≠ some (.row g es e w):=by
  intro b g es e w hb
  have:=List.eq_of_mem_replicate (List.mem_of_getElem? hb)
  cases this
 have hS0:SR V0 H.length eQ:=⟨fun b g es e w hb=>absurd hb (NL _ _ _ _ _),fun b g es e hb=>absurd hb (NL _ _ _ _ _),fun a b g es e w _ _ _ _ ha=>absurd ha (NL _ _ _ _ _),fun b hb=>hb,hS.Ux,Nat.le_refl _⟩
 have AI:VL V0 iQ eO:=by
  have:=EC hS (G:=(· < V.P.length)) (fun q hq=>hS.fr q hq) hl (by rw[hH];exact hf) (fun i _ g es e w hb=>hS.mlt hb)
  exact VL.Ef (V':=V0) (fun b hb=>⟨hb,rfl⟩) this
 obtain⟨pv,V1,r,k1,k3,k4,k5,L,k2,h2,h3,hR⟩:=h1 V0 eQ eO rfl hS0 AI
 have W1:∀b g es e w,V1.H[b]? = some (.row g es e w)→V.P.length≤V1.m b:=by
  intro b g es e w hb
  rcases Nat.lt_or_ge (V1.m b) V.P.length with bH | CJ
  ·obtain⟨g0,es0,w0,j1,_⟩:=k4.Cl b g es e w hb bH
   exact absurd j1 (NL _ _ _ _ _)
  ·exact CJ
 have auF:V1.H.length=H.length+(L).length:=by rw[k2];simp
 have DO:∀q,q<V.P.length→V1.P[q]? = V.P[q]? := fun q hq=>k4.cG q hq fun b g es e hb=>absurd hb (NL _ _ _ _ _)
 let V2:View:={ m:=fun b=>if b<H.length then V.m b else V1.m b,F:=V.F,H:=H++L,P:=V1.P,base:=V.base }
 have aiA:∀b,H.length≤b→V2.H[b]? = V1.H[b]? := fun b hb=>by
  show (H++L)[b]? = _
  rw[k2,List.getElem?_append_right hb,List.getElem?_append_right (by simpa using hb),List.length_replicate]
 have mL:∀b,H.length≤b→V2.m b=V1.m b:=fun b hb=>by
  show (if b<H.length then V.m b else V1.m b)=_
  rw[if_neg (by omega)]
 have aiS:∀b,b<H.length→V2.H[b]? = V.H[b]? := fun b hb=>by
  show (H++L)[b]? = _
  rw[List.getElem?_append_left hb,hH]
 have mS:∀b,b<H.length→V2.m b=V.m b:=fun b hb=>by
  show (if b<H.length then V.m b else V1.m b)=_
  rw[if_pos hb]
 have hU:Up V V2:=⟨fun _ h=>h,fun b hb=>DO b (hS.fr b hb),by show V.H.length≤(H++L).length;rw[hH];simp,fun b g es e w bH hb=>⟨g,es,w,by rw[←aiS b (by rw[←hH];exact bH)];exact hb,Nat.le_refl _,fun _=>mS b (by rw[←hH];exact bH)⟩,rfl,k4.Fh,fun b g es e w hb hm=>by
   rcases Nat.lt_or_ge b H.length with h | h
   ·exact⟨g,es,w,by rw[←aiS b h];exact hb,mS b h,id⟩
   ·rw[mL b h] at hm
    have:=W1 b g es e w (by rw[←aiA b h];exact hb)
    omega⟩
 have XE:∀ {b g es e w},V2.H[b]? = some (.row g es e w)→(b<H.length∧V.H[b]? = some (.row g es e w))∨(H.length≤b∧V1.H[b]? = some (.row g es e w)):=by
  intro b g es e w hb
  rcases Nat.lt_or_ge b H.length with h | h
  ·exact .inl ⟨h,by rw[←aiS b h];exact hb⟩
  ·exact .inr ⟨h,by rw[←aiA b h];exact hb⟩
 have amR:V1.H.length≤V2.H.length:=by show _≤(H++L).length;rw[auF];simp
 have avW:∀ {b g es e w},H.length≤b→V1.H[b]? = some (.row g es e w)→nY H.length es=true:=by
  intro b g es e w hb hr
  rw[k2,List.getElem?_append_right (by simpa using hb)] at hr
  exact List.all_eq_true.1 h3 _ (List.mem_of_getElem? hr)
 have Ry:∀q,V1.base≤q∧q<V1.P.length→V2.base≤q∧q<V2.P.length∧∀b' g' es e w,b'<H.length→V2.H[b']? = some (.row g' es e w)→V2.m b'≠q:=by
  intro q hq
  have Ff:V.P.length≤q:=by have:=k4.K8;rw[this] at hq;exact hq.1
  refine⟨Nat.le_trans hS.K8 Ff,hq.2,fun b' g' es e w bH hr hm => ?_⟩
  rw[mS b' bH] at hm
  have:=hS.mlt (by rw[←aiS b' bH];exact hr)
  omega
 refine⟨pv,V2,r,k1,⟨fun b g es e w hb => ?_,fun b g es e hb => ?_,fun a b g es e w g' nF e' w' ha hb hm => ?_,fun b hb => ?_,?_,Nat.le_trans hS.K8 k4.Fh⟩,{ hU with cG:=fun q hq _=>DO q hq,Dh:=fun q hq => .inl hq },?_,L,rfl,hR,h2,h3⟩
 ·rcases XE hb with⟨h,hb⟩ | ⟨h,hb⟩
  ·obtain⟨r,p,j1,j2,j3⟩:=hS.row b g es e w hb
   exact⟨r,p,by rw[mS b h];exact(DO _ (hS.mlt hb)).trans j1,j2,j3.mono hU⟩
  ·obtain⟨r,p,j1,j2,j3⟩:=k3.row b g es e w hb
   exact⟨r,p,by rw[mL b h];exact j1,j2,j3.own Ry amR (fun b hb=>aiA b hb) (fun b hb=>mL b hb) (YG (avW h hb))⟩
 ·rcases XE hb with⟨h,hb⟩ | ⟨h,hb⟩
  ·rw[mS b h]
   exact hS.wr b g es e hb
  ·rw[mL b h]
   have:=W1 b g es e true hb
   exact⟨fun hF=>by have:=hS.fr _ hF;omega,fun _=>Nat.le_trans hS.Ux this⟩
 ·rcases XE ha with⟨h,ha⟩ | ⟨h,ha⟩<;>rcases XE hb with⟨h',hb⟩ | ⟨h',hb⟩
  ·rw[mS a h,mS b h'] at hm
   exact hS.inj a b _ _ _ _ _ _ _ _ ha hb hm
  ·rw[mS a h,mL b h'] at hm
   have:=W1 b _ _ _ _ hb
   have:=hS.mlt ha
   omega
  ·rw[mL a h,mS b h'] at hm
   have:=W1 a _ _ _ _ ha
   have:=hS.mlt hb
   omega
  ·rw[mL a h,mL b h'] at hm
   exact k3.inj a b _ _ _ _ _ _ _ _ ha hb hm
 ·exact Nat.lt_of_lt_of_le (hS.fr b hb) k4.Fh
 ·exact Nat.le_trans hS.Ux k4.Fh
 ·exact k5.own Ry amR (fun b hb=>aiA b hb) (fun b hb=>mL b hb) h2
theorem fG {f:Nat} {args:List VV} {lo:Nat} {H:aA} {K:VV→aA→Prop} (Ag:Eo.contains f=true) (h:jC f args lo H K):cV f args lo H K:=by
 unfold cV
 rw[if_pos Ag]
 exact h
theorem FC.call {f:Nat} {args iQ:List VV} {R:Nat→VV→aA→Prop} {H:aA} {lo:Nat} {K:VV→aA→Prop} (h:FC f iQ R) (Ag:Eo.contains f=true) (hf:args.mapM (fz depth H)=some iQ) (hk:∀r L,R H.length r L→K r (H++L)):cV f args lo H K :=
 fG Ag ((h.raw hf).mono fun r H' ⟨L,h1,h2,_⟩=>by subst h1;exact hk r L h2)
theorem FC.TP {f:Nat} {args iQ:List VV} {R:Nat→VV→aA→Prop} {H:aA} {lo:Nat} {K:VV→aA→Prop} (h:FC f iQ R) (Ag:Eo.contains f=true) (hf:args.mapM (fz depth H)=some iQ) (hk:∀r L,R H.length r L→eG H.length r=true→dS H.length L=true→K r (H++L)):cV f args lo H K :=
 fG Ag ((h.raw hf).mono fun r H' ⟨L,h1,h2,h3,h4⟩=>by subst h1;exact hk r L h2 h3 h4)
def HB (H K:aA):Prop:=K.length=H.length∧∀(b g:Nat) (es:List VV) (e:Nat) (w:Bool),K[b]? = some (.row g es e w)→H[b]? = some (.row g es e w)
theorem VR.kill {V:View} {K:aA} (hK:HB V.H K) {x:VV} {v:Value} (h:VR V x v):VR { V with H:=K } x v:=by
 induction h using VR.rec (motive_2:=fun xs vs _=>VL { V with H:=K } xs vs) with
 | any=>exact .any _
 | sc _ h=>exact .sc _ h
 | agg cs ps _ ih=>exact .agg _ _ ih
 | dR cs ps _ ih=>exact .dR _ _ ih
 | nZ k hk=>exact .nZ k hk
 | tree es k b o c r e p hF hb ho hc he hk _ ih=>exact .tree es k b o c r e p hF hb ho hc he hk ih
 | cT x off b o r e p hF hb ho _ ih=>exact .cT x off b o r e p hF hb ho ih
 |
  ref b g o n c a n' c' bH hg ha hq =>
  exact .ref b g o n c a n' c' (by show b<K.length;rw[hK.1];exact bH) (fun g' es e w hr=>hg g' es e w (hK.2 _ _ _ _ _ hr)) (fun es e w hr=>ha es e w (hK.2 _ _ _ _ _ hr)) fun a0 h=>⟨(hq a0 h).1,(hq a0 h).2.1,fun b' g' es e w hr=>(hq a0 h).2.2 b' g' es e w (hK.2 _ _ _ _ _ hr)⟩
 |
  ptr b g j off a bH hg ha hq =>
  exact .ptr b g j off a (by show b<K.length;rw[hK.1];exact bH) (fun g' es e w hr=>hg g' es e w (hK.2 _ _ _ _ _ hr)) (fun es e w hr=>ha es e w (hK.2 _ _ _ _ _ hr)) fun a0 h=>⟨(hq a0 h).1,(hq a0 h).2.1,fun b' g' es e w hr=>(hq a0 h).2.2 b' g' es e w (hK.2 _ _ _ _ _ hr)⟩
 | vJ f fY ps _ ih=>exact .vJ _ _ _ ih
 | nil=>exact .nil
 | cons x v xs vs _ _ ih VZ=>exact .cons _ _ _ _ ih VZ
theorem VL.kill {V:View} {K:aA} (hK:HB V.H K) {xs:List VV} {vs:List Value} (h:VL V xs vs):VL { V with H:=K } xs vs:=by
 induction xs generalizing vs with
 | nil=>cases h;exact .nil
 |
  cons x xs ih=>cases h with
  | cons _ v _ vs h hs=>exact .cons _ _ _ _ (h.kill hK) (ih hs)
theorem jC.kill {f:Nat} {args:List VV} {lo:Nat} {H:aA} {P P':VV→aA→Prop} (h:jC f args lo H P) (hk:∀v H',P v H'→∃K,HB H' K∧P' v K):jC f args lo H P':=by
 intro V eQ eO hH hS hl
 obtain⟨pv,V',v,h1,h2,h3,h4,h5⟩:=h V eQ eO hH hS hl
 obtain⟨K,hK,h6⟩:=hk _ _ h5
 refine⟨pv,{ V' with H:=K },v,h1,⟨fun b g es e w hb => ?_,fun b g es e hb=>h2.wr b g es e (hK.2 _ _ _ _ _ hb),fun a b g es e w g' nF e' w' ha hb hm=>h2.inj a b _ _ _ _ _ _ _ _ (hK.2 _ _ _ _ _ ha) (hK.2 _ _ _ _ _ hb) hm,h2.fr,h2.Ux,h2.K8⟩,
  { F:=h3.F,P:=h3.P,len:=by show V.H.length≤K.length;rw[hK.1];exact h3.len,row:=fun b g es e w bH hb=>h3.row b g es e w bH (hK.2 _ _ _ _ _ hb),K8:=h3.K8,Fh:=h3.Fh,Cl:=fun b g es e w hb hm=>h3.Cl b g es e w (hK.2 _ _ _ _ _ hb) hm,cG:=h3.cG,Dh:=h3.Dh },h4.kill hK,h6⟩
 obtain⟨r,p,j1,j2,j3⟩:=h2.row b g es e w (hK.2 _ _ _ _ _ hb)
 exact⟨r,p,j1,j2,j3.kill hK⟩
theorem FC.J5 {f:Nat} {pf:aT} {args:List VV} {R:Nat→VV→aA→Prop} (fl:Fl) (ht:fM f=some pf) (hn:args.length≤pf.ntmps)
  (h:∀n,VW fl n pf.body (BC pf.res fun r H'=>∃L,HB H' (List.replicate n .dead++L)∧eG n r=true∧dS n L=true∧R n r L) (Kp args) (List.replicate n .dead)):FC f args R :=
 fun n=>(jC.walk fl ht hn (h n)).kill fun _ _ ⟨L,h1,h2,h3,h4⟩=>⟨_,h1,L,rfl,h2,h3,h4⟩
end Go.PM
namespace Go.PM
open Go.ChangeShapes Go.WideShapes Go.ChangeAt Go.RowKit
open Go.Proofs
def HL (W:World):Prop:=∃(rb:Nat) (arr:Array Value) (e:TypeId) (fz:Nat×Nat),W.heap[rb]? = some (.cells arr e fz)
structure Ch (m m':dK) (H L:aE) (W:World) (cs Kz:List Value) (vs:List VV):Prop where
 inn:In m' (H++L) W
 ext:∀b l,m b=some l→m' b=some l
 len:Kz.length=cs.length
 rv:∀i,i<cs.length→RV m' (Kz.getD i Go.undef) (cs.getD i Go.undef)
 sc:∀v∈Kz,PM.fZ v=true
 tree:VL (bare (· < (H++L).length) (H++L)) vs Kz
def Ic {T:Type} (Aj:TypeId×Value→T) (P:Program) (W:World) (t:TypeId) (k:Nat) (S:List VV→Prop):Prop :=
 ∀fuel cs y,DataW.trod Aj P W 0 (fun _=>true) true fuel t cs=some y→∀(m:dK) (H:aE),In m H W→cs.length=k∧∃m' L Kz vs,Ch m m' H L W cs Kz vs∧S vs
theorem VL.grow {H L:aE} {xs:List VV} {vs:List Value} (h:VL (bare (· < H.length) H) xs vs):VL (bare (· < (H++L).length) (H++L)) xs vs :=
 h.Ef fun b hb=>⟨by show b<_;rw[List.length_append];omega,List.getElem?_append_left hb⟩
theorem VL.app {V:View} {xs ys:List VV} {vs ws:List Value} (h:VL V xs vs) (h':VL V ys ws):VL V (xs++ys) (vs++ws):=by
 induction xs generalizing vs with
 | nil=>cases h;exact h'
 |
  cons x xs ih=>cases h with
  | cons _ v _ vs h hs=>exact .cons _ _ _ _ h (ih hs)
theorem I1 {cs ds:List Value} {i:Nat} (h:i<cs.length):(cs++ds).getD i Go.undef=cs.getD i Go.undef:=by
 simp only[List.getD_eq_getElem?_getD,List.getElem?_append_left h]
theorem FZ {cs ds:List Value} {i:Nat} (h:cs.length≤i):(cs++ds).getD i Go.undef=ds.getD (i-cs.length) Go.undef:=by
 simp only[List.getD_eq_getElem?_getD,List.getElem?_append_right h]
theorem Ch.both {m m1 m2:dK} {H L1 L2:aE} {W:World} {cs Kz AX asQ:List Value} {vs vs':List VV} (h:Ch m m1 H L1 W cs Kz vs) (h':Ch m1 m2 (H++L1) L2 W AX asQ vs'):Ch m m2 H (L1++L2) W (cs++AX) (Kz++asQ) (vs++vs'):=by
 refine⟨by rw[←List.append_assoc];exact h'.inn,fun b l hb=>h'.ext _ _ (h.ext _ _ hb),by simp[h.len,h'.len],fun i hi => ?_,fun v hv => ?_,?_⟩
 ·rcases Nat.lt_or_ge i cs.length with bH | CJ
  ·rw[I1 bH,I1 (by rw[h.len];exact bH)]
   exact(h.rv i bH).mono h'.ext
  ·rw[FZ CJ,FZ (by rw[h.len];exact CJ),h.len]
   exact h'.rv _ (by rw[List.length_append] at hi;omega)
 ·rcases List.mem_append.1 hv with hv | hv
  ·exact h.sc v hv
  ·exact h'.sc v hv
 ·rw[←List.append_assoc]
  exact h.tree.grow.app h'.tree
theorem Ch.none {m:dK} {H:aE} {W:World} (hI:In m H W):Ch m m H [] W [] [] [] :=
 ⟨by rw[List.append_nil];exact hI,fun _ _ h=>h,rfl,fun i hi=>absurd hi (Nat.not_lt_zero _),fun v hv=>(by cases hv),.nil⟩
theorem QN {T:Type} {Aj:TypeId×Value→T} {P:Program} {W:World} {t:TypeId} (ht:P.underlying t=some .string):Ic Aj P W t 1 (fun vs=>∃s:ByteArray,s.size≤maxLen∧vs=[.sc (.string s)]):=by
 intro fuel cs y h m H hI
 obtain⟨s,rfl,_,hs⟩:=DataW.trod_string ht h
 refine⟨rfl,m,[],[.string s],[.sc (.string s)],⟨by rw[List.append_nil];exact hI,fun _ _ h=>h,rfl,fun i hi => ?_,fun v hv => ?_,.cons _ _ _ _ (.sc _ rfl) .nil⟩,s,hs,rfl⟩
 ·have:i=0:=by simpa using hi
  subst this
  exact .str s
 ·rw[List.mem_singleton] at hv
  subst hv
  rfl
theorem NM {T:Type} {Aj:TypeId×Value→T} {P:Program} {W:World} {e:TypeId} {fR:Nat} {S:List VV→Prop} (ho:Ic Aj P W e fR S):∀(Uw:List (List Value)),(∀cs∈Uw,∃fuel y,DataW.trod Aj P W 0 (fun _=>true) true fuel e cs=some y)→∀(m:dK) (H:aE),In m H W →
  ∃(m':dK) (L:aE) (Kz:List Value) (gs:List (List VV)),Ch m m' H L W Uw.flatten Kz gs.flatten∧gs.length=Uw.length∧(∀g∈gs,S g)∧∀cs∈Uw,cs.length=fR
 | [],_,m,H,hI=>⟨m,[],[],[],Ch.none hI,rfl,fun g hg=>(by cases hg),fun cs Lo=>(by cases Lo)⟩
 |
  cs::Uw,h,m,H,hI=>by
  obtain⟨fuel,y,hy⟩:=h cs List.mem_cons_self
  obtain⟨hl,m1,L1,aAu,g,h1,hS⟩:=ho fuel cs y hy m H hI
  obtain⟨m2,L2,ayC,gs,h2,h3,h4,h5⟩:=NM ho Uw (fun cs Lo=>h cs (List.mem_cons_of_mem _ Lo)) m1 (H++L1) h1.inn
  refine⟨m2,L1++L2,aAu++ayC,g::gs,?_,by simp[h3],fun g' hg' => ?_,fun AX apN => ?_⟩
  ·rw[List.flatten_cons,List.flatten_cons]
   exact h1.both h2
  ·rcases List.mem_cons.1 hg' with rfl | hg'
   ·exact hS
   ·exact h4 _ hg'
  ·rcases List.mem_cons.1 apN with rfl | apN
   ·exact hl
   ·exact h5 _ apN
theorem DT {α:Type} {k:Nat}:∀ {xss:List (List α)},(∀xs∈xss,xs.length=k)→xss.flatten.length=xss.length*k
 | [],_=>by simp
 |
  xs::xss,h=>by
  rw[List.flatten_cons,List.length_append,h xs List.mem_cons_self,DT fun y hy=>h y (List.mem_cons_of_mem _ hy),List.length_cons,Nat.succ_mul,Nat.add_comm]
theorem GV {α:Type} {k:Nat}:∀ {xss:List (List α)} (n:Nat),(∀xs∈xss,xs.length=k)→xss.flatten.take (n*k)=(xss.take n).flatten
 | [],n,_=>by simp
 | xs::xss,0,_=>by simp
 |
  xs::xss,n+1,h=>by
  have hl:=h xs List.mem_cons_self
  rw[List.flatten_cons,List.take_succ_cons,List.flatten_cons,←GV n fun y hy=>h y (List.mem_cons_of_mem _ hy),show (n+1)*k=xs.length+n*k by rw[hl,Nat.succ_mul,Nat.add_comm],List.take_length_add_append]
theorem Qh {k:Nat} (hk:1≤k) {Uw:List (List Value)} (h:∀cs∈Uw,cs.length=k) {i:Nat} (hi:i<Uw.length*k):∃cs,Uw[i / k]? = some cs∧Uw.flatten.getD i Go.undef=cs.getD (i % k) Go.undef:=by
 induction Uw generalizing i with
 | nil=>simp at hi
 |
  cons cs Uw ih =>
  have hl:=h cs List.mem_cons_self
  rw[List.flatten_cons]
  rcases Nat.lt_or_ge i k with bH | CJ
  ·refine⟨cs,by rw[Nat.div_eq_of_lt bH];rfl,?_⟩
   rw[I1 (by omega),Nat.mod_eq_of_lt bH]
  ·obtain⟨c',h1,h2⟩:=ih (fun y hy=>h y (List.mem_cons_of_mem _ hy)) (i:=i-k) (by rw[List.length_cons,Nat.succ_mul] at hi;omega)
   have e1:i / k=(i-k) / k+1:=by rw[Nat.div_eq_sub_div (by omega) CJ]
   have e2:i % k=(i-k) % k:=by rw[Nat.mod_eq_sub_mod CJ]
   exact⟨c',by rw[e1];exact h1,by rw[FZ (by omega),hl,h2,e2]⟩
theorem Tt {T:Type} {Aj:TypeId×Value→T} {α:Type} {f:α→VV} {ahR:α→Prop} {P:Program} {W:World} {t e:TypeId} {fR:Nat} (ht:P.underlying t=some (.slice e)) (ayV:P.cellsOf e=fR) (pos:1≤fR) (hB:HL W)
  (hf:∀x,(aB (f x)).length=fR) (ho:Ic Aj P W e fR fun g=>∃x:α,ahR x∧g=aB (f x)):Ic Aj P W t 1 fun vs=>∃xs:List α,xs.length≤maxLen∧(∀x∈xs,ahR x)∧vs=[aK f xs]:=by
 intro fuel cs y h m H hI
 rcases DataW.trod_slice ht h with⟨rfl,_⟩ | ⟨a,n,c,elems,rest,k,_,rfl,_,_,ZT,hmx,hlen,hE,hR,_⟩
 ·refine⟨rfl,m,[],[.slice none 0 0],[.tree [] .op],⟨by rw[List.append_nil];exact hI,fun _ _ h=>h,rfl,fun i hi => ?_,fun v hv => ?_,.cons _ _ _ _ (.nZ _ (.inl rfl)) .nil⟩,[],Nat.zero_le _,fun x hx=>(by cases hx),rfl⟩
  ·have:i=0:=by simpa using hi
   subst this
   exact .Mw
  ·rw[List.mem_singleton] at hv
   subst hv
   rfl
 ·obtain⟨B2,hR⟩:=hR rfl
  have Qb:∀i,i<c→∃cs,W.cells? 0 (a.add (i*fR)) fR=some cs∧∃fuel y,DataW.trod Aj P W 0 (fun _=>true) true fuel e cs=some y:=by
   intro i hi
   have key:∃y,(W.cells? 0 (a.add (i*P.cellsOf e)) (P.cellsOf e)).bind (DataW.trod Aj P W 0 (fun _=>true) true k e)=some y:=by
    rcases Nat.lt_or_ge i n with cS | cS
    ·exact⟨elems[i]'(by omega),by rw[hE i cS];exact List.getElem?_eq_getElem _⟩
    ·have:=hR (i-n) (by omega)
     rw[show n+(i-n)=i by omega] at this
     exact⟨rest[i-n]'(by omega),by rw[this];exact List.getElem?_eq_getElem _⟩
   obtain⟨y,hy⟩:=key
   rw[Option.bind_eq_some_iff,ayV] at hy
   obtain⟨cs,h1,h2⟩:=hy
   exact⟨cs,h1,k,y,h2⟩
  obtain⟨Uw,nT,Lo⟩:=WL (fun i cs=>W.cells? 0 (a.add (i*fR)) fR=some cs∧∃fuel y,DataW.trod Aj P W 0 (fun _=>true) true fuel e cs=some y) c Qb
  obtain⟨m1,L1,Kz,gs,hO,hgl,hgS,aqE⟩:=NM ho Uw (fun cs hc=>by
   obtain⟨i,hi⟩:=List.getElem?_of_mem hc
   exact(Lo i cs hi).2) m H hI
  obtain⟨xs,hxg,NV⟩:∃xs:List α,(∀x∈xs,ahR x)∧gs=xs.map fun x=>aB (f x):=by
   clear hO hgl
   induction gs with
   | nil=>exact⟨[],fun x hx=>(by cases hx),rfl⟩
   |
    cons g gs ih =>
    obtain⟨xs,h1,h2⟩:=ih fun g hg=>hgS g (List.mem_cons_of_mem _ hg)
    obtain⟨x,h3,h4⟩:=hgS g List.mem_cons_self
    exact⟨x::xs,fun y hy=>by
     rcases List.mem_cons.1 hy with rfl | hy
     ·exact h3
     ·exact h1 y hy,by rw[List.map_cons,←h2,h4]⟩
  have hxl:xs.length=c:=by rw[←nT,←hgl,NV,List.length_map]
  have NW:Kz.length=c*fR:=by rw[hO.len,DT aqE,nT]
  obtain⟨rb,base,arr,e',fz,auV,ZY,Ff⟩:∃(rb base:Nat) (arr:Array Value) (e':TypeId) (fz:Nat×Nat),W.heap[rb]? = some (.cells arr e' fz)∧(c=0→base=0)∧(c≠0→a=⟨rb,base,none⟩):=by
   by_cases h0:c=0
   ·obtain⟨rb,arr,e',fz,hb⟩:=hB
    exact⟨rb,0,arr,e',fz,hb,fun _=>rfl,fun h=>absurd h0 h⟩
   ·obtain⟨cs,h1,_⟩:=Qb 0 (by omega)
    have h2:=(World.cells?_some h1).2
    have h3:=h2.2 0 (by omega)
    rw[List.getElem?_eq_getElem (by omega)] at h3
    have:(a.add (0*fR)).add 0=a:=by simp[Addr.add]
    rw[this] at h3
    unfold World.cell? at h3
    split at h3
    ·rename_i arr e' fz hb
     split at h3
     ·cases h3
     ·rename_i Sn
      refine⟨a.block,a.off,arr,e',fz,hb,fun h=>absurd h h0,fun _ => ?_⟩
      obtain⟨b,o,sp⟩:=a
      cases sp with
      | none=>rfl
      | some x=>simp at Sn
    ·cases h3
  have RC:∀i,i<c*fR→W.cell? ⟨rb,base+i,none⟩=some (Uw.flatten.getD i Go.undef):=by
   intro i hi
   obtain⟨cs,h1,h2⟩:=Qh pos aqE (i:=i) (by rw[nT];exact hi)
   have h0:c≠0:=by intro h0;rw[h0] at hi;simp at hi
   have ha:=Ff h0
   have h3:=(World.cells?_some (Lo _ _ h1).1).2
   have hr:i % fR<fR:=Nat.mod_lt _ pos
   have h4:=h3.2 (i % fR) hr
   have Og:∀o k:Nat,(⟨rb,o,none⟩:Addr).add k=⟨rb,o+k,none⟩:=by
    intro o k
    unfold Addr.add
    split
    ·rename_i h0;subst h0;rfl
    ·rfl
   have anX:i / fR*fR+i % fR=i:=by rw[Nat.mul_comm];exact Nat.div_add_mod i fR
   rw[ha,Og,Og,Nat.add_assoc,anX] at h4
   rw[h2,List.getD_eq_getElem?_getD,h4]
   have bH:i % fR<cs.length:=by rw[h3.1];exact hr
   rw[List.getElem?_eq_getElem bH]
   rfl
  have rP:base+Kz.length≤arr.size:=by
   rw[NW]
   by_cases h0:c=0
   ·rw[ZY h0,h0];simp
   ·have QM:1≤c*fR:=Nat.mul_pos (by omega) pos
    have h3:=RC (c*fR-1) (by omega)
    unfold World.cell? at h3
    simp only[auV,Option.isSome_none,Bool.false_eq_true,if_false] at h3
    have:=(Array.getElem?_eq_some_iff.1 h3).1
    omega
  have Og:=hO.inn.add (fR:=fR) (cs:=Kz) (base:=base) auV rP (fun i hi=>by
   rw[NW] at hi
   refine⟨_,RC i hi,(hO.rv i (by rw[DT aqE,nT];exact hi)).mono (uZ (hO.inn.SF (Nat.le_refl _))),?_⟩
   rw[List.getD_eq_getElem?_getD,List.getElem?_eq_getElem (by rw[NW];exact hi)]
   exact hO.sc _ (List.getElem_mem _))
  refine⟨rfl,_,L1++[.row Kz fR false],[.slice (some ⟨(H++L1).length,0,none⟩) n c],[aK f (xs.take n)],⟨by rw[←List.append_assoc];exact Og,fun b l hb=>uZ (hO.inn.SF (Nat.le_refl _)) _ _ (hO.ext b l hb),rfl,fun i hi => ?_,fun v hv => ?_,?_⟩,xs.take n,by rw[List.length_take];omega,fun x hx=>hxg x (List.mem_of_mem_take hx),rfl⟩
  ·have:i=0:=by simpa using hi
   subst this
   refine .slice (H++L1).length 0 n c _ _ c (cF _ _ _) ZT (Nat.le_refl _) (fun _=>rfl) ?_
   by_cases h0:c=0
   ·exact .inl h0
   ·exact .inr ⟨by simpa using Ff h0,by simpa[NW] using rP⟩
  ·rw[List.mem_singleton] at hv
   subst hv
   rfl
  ·rw[←List.append_assoc]
   refine .cons _ _ _ _ ?_ .nil
   have hl:(xs.take n).length=n:=by rw[List.length_take];omega
   have Fq:∀g∈gs,g.length=fR:=fun g hg=>by
    obtain⟨x,_,rfl⟩:=hgS g hg
    exact hf x
   have key:=hO.tree.grow (L:=[OB.row Kz fR false])
   have key:=key.take (n*fR)
   rw[GV n Fq,NV,←List.map_take] at key
   have:=VR.tree (V:=bare (· < (H++L1++[OB.row Kz fR false]).length) (H++L1++[OB.row Kz fR false])) ((xs.take n).map f) .op (H++L1).length 0 c Kz fR false (by show (H++L1).length<_;simp) (by show (H++L1++[OB.row Kz fR false])[(H++L1).length]? = _;rw[List.getElem?_append_right (Nat.le_refl _),Nat.sub_self];rfl)
    (by rw[List.length_map,hl,NW];simp only[Nat.zero_add];exact Nat.mul_le_mul_right _ ZT) (by rw[List.length_map,hl];exact ZT) (fun y hy=>by
     obtain⟨x,_,rfl⟩:=List.mem_map.1 hy
     exact hf x) trivial (by rw[List.length_map,hl,List.drop_zero,List.flatMap_map,List.flatMap_def];exact key)
   rw[List.length_map,hl] at this
   exact this
end Go.PM