/- Texts of a claim, in one: part 5. -/
import Derived.KernelRfl
import Derived.Laws.Strings
import Derived.Test.YtjmflicajplclaaGreatDoorKWd
set_option linter.unusedSimpArgs false
set_option linter.unusedVariables false
namespace Go.PM
def VT (f:Nat) (args:List VV) (r:VV):Prop :=
 ∀(F:Nat→Prop) (P:aE) (eE:List Value) (dZ:Nat),(∀b,F b→b<P.length)→VL (bare F P) args eE→dZ≤P.length →
  ∃P' pv,rC f eE dZ P=some (pv,P')∧P <+: P'∧VR (bare (fun q=>F q∨(P.length≤q∧q<P'.length)) P') r pv
def P8 (lo dZ:Nat) (V:View) (r:Option (Value×aE)) (K:VV→aA→Prop):Prop :=
 ∃pv V' v,r=some (pv,V'.P)∧SR V' lo dZ∧EA lo V V'∧VR V' v pv∧K v V'.H
def gU (f:Nat) (args:List VV) (lo:Nat) (H:aA) (K:VV→aA→Prop):Prop :=
 ∀(V:View) (dZ:Nat) (eE:List Value),V.H=H→SR V lo dZ→VL V args eE→P8 lo dZ V (rC f eE dZ V.P) K
theorem gU.mono {f:Nat} {args:List VV} {lo:Nat} {H:aA} {K K':VV→aA→Prop} (hk:∀v H,K v H→K' v H) (h:gU f args lo H K):gU f args lo H K':=by
 intro V dZ eE hH hS hl
 obtain⟨pv,V',v,h1,h2,h3,h4,h5⟩:=h V dZ eE hH hS hl
 exact⟨pv,V',v,h1,h2,h3,h4,hk _ _ h5⟩
theorem VT.uniq {f:Nat} {args:List VV} {r r':VV} (h:VT f args r) (h':VT f args r') (ha:aM args=true) (hr:gJ r=true) (ED:gJ r'=true):r=r':=by
 obtain⟨P,ps,_,hl⟩:=OL args ha []
 obtain⟨P',pv,h1,_,h2⟩:=h (· < P.length) P ps 0 (fun _ h=>h) hl (Nat.zero_le _)
 obtain⟨Xt,pv',h3,_,h4⟩:=h' (· < P.length) P ps 0 (fun _ h=>h) hl (Nat.zero_le _)
 rw[h1] at h3
 injection h3 with h3
 injection h3 with h3 h5
 subst h3 h5
 exact h2.uniq h4 hr ED
open Classical in
noncomputable def vT (f:Nat) (args:List VV):Option VV:=if h:∃r,aM args=true∧gJ r=true∧VT f args r then some (Classical.choose h) else none
theorem O9 {f:Nat} {args:List VV} {r:VV} (h:vT f args=some r):aM args=true∧gJ r=true∧VT f args r:=by
 unfold vT at h
 split at h
 ·rename_i hx
  cases h
  exact Classical.choose_spec hx
 ·cases h
theorem aiM {f:Nat} {args:List VV} {r:VV} (ha:aM args=true) (hr:gJ r=true) (h:VT f args r):vT f args=some r:=by
 have hx:∃r,aM args=true∧gJ r=true∧VT f args r:=⟨r,ha,hr,h⟩
 unfold vT
 rw[dif_pos hx]
 obtain⟨_,h2,h3⟩:=Classical.choose_spec hx
 rw[h3.uniq h ha h2 hr]
def tk (r:Option VV) (K:VV→Prop):Prop:=match r with
 | some r=>K r
 | none=>False
noncomputable def Hj (f:Nat) (args:List VV) (K:VV→Prop):Prop:=tk (vT f args) K
noncomputable def cS (f:Nat) (args:List VV) (lo:Nat) (H:aA) (K:VV→aA→Prop):Prop :=
 if Cy.contains f=true then gU f args lo H K
 else if aM args=true then Hj f args fun r=>K r H
 else match args.mapM (fz depth H) with
  | some iJ=>Hj f iJ fun r=>if Lb r=true then K r H else K r (dB H (args.flatMap (hC depth H)))
  | none=>False
noncomputable def eG (fl:Fl) (lo:Nat) (q:Bool) (op:nK) (ρ:dQ) (H:aA) (K:VV→aA→Prop):Prop :=
 match op with
 | .call f args=>cS f (args.map (eH ρ)) (if q then H.length else lo) H K
 |
  .callv fv args=>match eH ρ fv with
  | .vP f fR=>cS f (args.map (eH ρ)++fR) (if q then H.length else lo) H K
  | _=>False
 |
  o=>match vop fl lo o ρ H with
  | some (v,H')=>K v H'
  | none=>False
noncomputable def VS (fl:Fl) (lo:Nat):List PI→(dQ→aA→Prop)→dQ→aA→Prop
 | [],K,ρ,H=>K ρ H
 |
  i::is,K,ρ,H=>match BL i.g ρ with
  | none=>False
  | some false=>VS fl lo is K (JE ρ i.dst pR) H
  | some true=>i.cf.all (uA ρ H)=true∧eG fl lo i.quiet i.op ρ H fun v H'=>VS fl lo is K (JE ρ i.dst v) H'
def aeM:List Nat→dQ→aA→Option (dQ×aA)
 | [],ρ,H=>some (ρ,H)
 |
  t::ts,ρ,H=>match fz depth H (ρ t) with
  | some v=>aeM ts (JE ρ (some t) v) (dB H (hC depth H (ρ t)))
  | none=>none
def J8 (r:Option VV) (H:aA) (K:VV→aA→Prop):Prop:=match r with
 | some v=>K v H
 | none=>False
def gh (K:dQ→aA→Prop) (ρ:dQ) (H:aA):Prop:=∃ts bK H',aeM ts ρ H=some (bK,H')∧K bK H'
def kJ (k:Nat) (H:aA):Bool:=H.all fun
 | .row _ es _ _=>lO k es
 | .dead=>true
def HB (k:Nat) (ρ:dQ):dQ:=fun t=>Js k (ρ t)
abbrev VQ:=Ex→dQ→aA→Prop
def mZ (K:dQ→aA→Prop) (Q:VQ):VQ
 | .normal=>K
 | x=>Q x
def Ab (id:Nat) (Q:VQ):VQ
 | .exit QX=>fun ρ H=>if QX=id then Q .normal ρ H else Q (.exit QX) ρ H
 | x=>Q x
def Sq (body:VQ→dQ→aA→Prop) (Q:VQ):Nat→dQ→aA→Prop
 | 0,_,_=>False
 | n+1,ρ,H=>body (mZ (fun bK H'=>Sq body Q n bK H'∨(kJ H.length (H'.take H.length)=true∧Sq body Q n (HB H.length bK) (H'.take H.length))) Q) ρ H
noncomputable def VW (fl:Fl) (lo:Nat):aD→VQ→dQ→aA→Prop
 | .skip,Q,ρ,H=>Q .normal ρ H
 | .dG ops,Q,ρ,H=>VS fl lo ops (Q .normal) ρ H
 | .seq a b,Q,ρ,H=>VW fl lo a (mZ (VW fl lo b Q) Q) ρ H
 |
  .cond c a b,Q,ρ,H=>match eH ρ c with
  | .sc (.bool t)=>if t=true then VW fl lo a Q ρ H else VW fl lo b Q ρ H
  | _=>False
 | .block id a,Q,ρ,H=>VW fl lo a (Ab id Q) ρ H
 | .loop a,Q,ρ,H=>∃n,Sq (VW fl lo a) (fun x=>gh (Q x)) n ρ H
 | .exit id,Q,ρ,H=>Q (.exit id) ρ H
 | .ret,Q,ρ,H=>Q .ret ρ H
def EI (ρ:dQ) (H:aA):AH→Option VV
 | .tmp t=>some (ρ t)
 | .cell t agg size=>bT agg size (ρ t) H
def qS (ρ:dQ) (H:aA):List AH→Option (List VV)
 | []=>some []
 |
  r::rs=>match EI ρ H r,qS ρ H rs with
  | some v,some vs=>some (v::vs)
  | _,_=>none
def nR (res:List AH) (ρ:dQ) (H:aA):Option VV :=
 match qS ρ H res with
 | some [v]=>some v
 | some vs=>some (.dT vs)
 | none=>none
def Gp (R:VV→aA→Prop):Option VV→aA→Prop
 | some v,H=>R v H
 | none,_=>False
def AB (res:List AH) (R:VV→aA→Prop):VQ
 | .exit _,_,_=>False
 | .normal,ρ,H=>Gp R (nR res ρ H) H
 | .ret,ρ,H=>Gp R (nR res ρ H) H
def I8 (args:List VV):dQ:=fun k=>args.getD k pR
section
variable {lo dZ:Nat}
theorem Fh {V:View} (hS:SR V lo dZ) {P':aE} (hp:V.P <+: P'):SR { V with P:=P',F:=fun q=>V.F q∨(V.P.length≤q∧q<P'.length) } lo dZ∧EA lo V { V with P:=P',F:=fun q=>V.F q∨(V.P.length≤q∧q<P'.length) }:=by
 obtain⟨L,rfl⟩:=hp
 have hU:Up V { V with P:=V.P++L,F:=fun q=>V.F q∨(V.P.length≤q∧q<(V.P++L).length) }:=⟨fun _ h => .inl h,fun b hb=>List.getElem?_append_left (hS.fr b hb),Nat.le_refl _,fun b g es e w _ h=>⟨g,es,w,h,Nat.le_refl _,fun _=>rfl⟩,rfl,by simp,fun b g es e w hb _=>⟨g,es,w,hb,rfl,id⟩⟩
 refine⟨⟨fun b g es e w hb => ?_,fun b g es e hb=>⟨fun hF => ?_,(hS.wr b g es e hb).2⟩,hS.inj,fun b hb => ?_,by have:=hS.S3;simp;omega,by have:=hS.Kg;simp;omega⟩,{ hU with cJ:=fun q hq _=>List.getElem?_append_left hq,Cv:=fun q hq => ?_ }⟩
 ·obtain⟨r,p,h1,h2,h3⟩:=hS.row b g es e w hb
  exact⟨r,p,by rw[←h1];exact List.getElem?_append_left (hS.mlt hb),h2,h3.mono hU⟩
 ·rcases hF with hF | hF
  ·exact(hS.wr b g es e hb).1 hF
  ·have h1:=hS.mlt hb
   have h2:V.P.length≤V.m b:=hF.1
   omega
 ·rcases hb with hb | hb
  ·have:=hS.fr b hb
   simp;omega
  ·exact hb.2
 ·rcases hq with hq | hq
  ·exact .inl hq
  ·exact .inr (.inl hq.1)
theorem acO {V V':View} {x:VV} {v:Value} (h:VR V x v):Lb x=true→VR V' x v:=by
 induction h using VR.rec (motive_2:=fun xs vs _=>Sj xs=true→VL V' xs vs) with
 | sc _ h=>intro _;exact .sc _ h
 | agg cs ps _ ih=>intro hx;exact .agg _ _ (ih hx)
 | dT cs ps _ ih=>intro hx;exact .dT _ _ (ih hx)
 | any=>intro hx;cases hx
 | oZ=>intro hx;cases hx
 | tree=>intro hx;cases hx
 | cT=>intro hx;cases hx
 | ref=>intro hx;cases hx
 | ptr=>intro hx;cases hx
 | vP=>intro hx;cases hx
 | nil=>exact .nil
 |
  cons x v xs vs _ _ ih T7 =>
  rename_i hx
  simp only[Sj,Bool.and_eq_true] at hx
  exact .cons _ _ _ _ (ih hx.1) (T7 hx.2)
theorem VR.C8 {V':View} {G:Nat→Prop} {P:aE} {x:VV} {v:Value} (hF:∀b,G b→V'.F b∧V'.P[b]? = P[b]?) (h:VR (bare G P) x v):VR V' x v:=by
 induction h using VR.rec (motive_2:=fun xs vs _=>VL V' xs vs) with
 | any=>exact .any _
 | sc _ h=>exact .sc _ h
 | agg cs ps _ ih=>exact .agg _ _ ih
 | dT cs ps _ ih=>exact .dT _ _ ih
 | oZ k hk=>exact .oZ k hk
 | tree es k b o c r e p TL hb ho hc he hk _ ih=>exact .tree es k b o c r e p (hF _ TL).1 (by rw[(hF _ TL).2];exact hb) ho hc he hk ih
 | cT x off b o r e p TL hb ho _ ih=>exact .cT x off b o r e p (hF _ TL).1 (by rw[(hF _ TL).2];exact hb) ho ih
 | ref b g o n c a n' c' bI hg ha hq=>exact absurd bI (Nat.not_lt_zero _)
 | ptr b g j off a bI hg ha hq=>exact absurd bI (Nat.not_lt_zero _)
 | vP f fR ps _ ih=>exact .vP _ _ _ ih
 | nil=>exact .nil
 | cons x v xs vs _ _ ih T7=>exact .cons _ _ _ _ ih T7
theorem SV {V:View} (hS:SR V lo dZ) {f aeX:Nat} (aeR:aeX≤V.P.length) {args:List VV} {eE:List Value} {G:Nat→Prop} (hG:∀b,G b→b<V.P.length) (hl:VL (bare G V.P) args eE) {K:VV→Prop} (h:Hj f args K) :
  ∃P' pv r,rC f eE aeX V.P=some (pv,P')∧V.P <+: P'∧VR (bare (fun q=>G q∨(V.P.length≤q∧q<P'.length)) P') r pv∧aN r=true∧K r:=by
 unfold Hj tk at h
 split at h
 ·rename_i r hr
  obtain⟨h1,h2,h3⟩:=O9 hr
  obtain⟨P',pv,h4,h5,h6⟩:=h3 G V.P eE aeX hG hl aeR
  exact⟨P',pv,r,h4,h5,h6,So r h2,h⟩
 ·cases h
theorem F0 {V:View} (hS:SR V lo dZ) {f:Nat} {args:List VV} {eE:List Value} (hl:VL V args eE) {q:Bool} {K:VV→aA→Prop} (h:cS f args (if q then V.H.length else lo) V.H K):P8 lo dZ V (rC f eE (if q then V.P.length else dZ) V.P) K:=by
 have hlq:(if q=true then V.P.length else dZ)≤V.P.length:=by split;exact Nat.le_refl _;exact hS.S3
 unfold cS at h
 split at h
 ·cases q with
  | false=>exact h V dZ eE rfl hS hl
  |
   true =>
   have hS':SR V V.H.length V.P.length:=⟨hS.row,fun b g es e hb=>⟨(hS.wr b g es e hb).1,fun hl=>by have:=(List.getElem?_eq_some_iff.1 hb).1;omega⟩,hS.inj,hS.fr,Nat.le_refl _,hS.Kg⟩
   obtain⟨pv,V',r,g1,g3,g4,g5,g6⟩:=h V V.P.length eE rfl hS' hl
   refine⟨pv,V',r,g1,⟨g3.row,fun b g es e hb=>⟨(g3.wr b g es e hb).1,fun ET => ?_⟩,g3.inj,g3.fr,Nat.le_trans hS.S3 g4.D9,g3.Kg⟩,{ g4.toUp with cJ:=fun p hp _=>g4.cJ p hp fun b g es e hb ET => ?_,Cv:=g4.Cv },g5,g6⟩
   ·rcases Nat.lt_or_ge (V'.m b) V.P.length with bI | EO
    ·obtain⟨g0,es0,w0,k1,k2,k3⟩:=g4.BC b g es e true hb bI
     have:=k3 rfl
     subst this
     rw[k2]
     exact(hS.wr _ _ _ _ k1).2 ET
    ·exact Nat.le_trans hS.S3 EO
   ·have:=(List.getElem?_eq_some_iff.1 hb).1
    have ET:V.H.length≤b:=ET
    omega
 ·split at h
  ·rename_i hp
   obtain⟨P',pv,r,g1,g2,g3,g4,g5⟩:=SV hS (aeX:=if q=true then V.P.length else dZ) hlq (G:=V.F) hS.fr (VL.pure (V:=V) (V':=bare V.F V.P) (fun b hb=>⟨hb,rfl⟩) hl hp) h
   obtain⟨k1,k2⟩:=Fh hS g2
   exact⟨pv,_,r,g1,k1,k2,g3.C8 (fun b hb=>⟨hb,rfl⟩),g5⟩
  ·split at h
   case h_2=>cases h
   rename_i iJ UX
   unfold Hj tk at h
   split at h
   case h_2=>cases h
   rename_i r hr
   obtain⟨h1,h2,h3⟩:=O9 hr
   split at h
   ·rename_i hfl
    have BW:=D7 hS (G:=(· < V.P.length)) (fun q hq=>hS.fr q hq) hl UX (fun i _ g es e w hb=>hS.mlt hb)
    obtain⟨P',pv,g1,g2,g3⟩:=h3 _ V.P eE _ (fun _ h=>h) BW hlq
    obtain⟨k1,k2⟩:=Fh hS g2
    exact⟨pv,_,r,g1,k1,k2,acO g3 hfl,h⟩
   ·obtain⟨k1,k2,k3,k4,k5,k6⟩:=vO (args.flatMap (hC depth V.H)) hS
    have BW:=D7 hS (G:=(V.dB (args.flatMap (hC depth V.H))).F) (fun q hq=>k2.F q hq) hl UX k6
    rw[←k4] at BW
    obtain⟨P',pv,g1,g2,g3⟩:=h3 _ _ eE _ k1.fr BW (by rw[k4];exact hlq)
    obtain⟨j1,j2⟩:=Fh k1 g2
    rw[k4] at g1
    refine⟨pv,_,r,g1,j1,k2.trans j2,g3.C8 (fun b hb=>⟨hb,rfl⟩),?_⟩
    show K r (V.dB (args.flatMap (hC depth V.H))).H
    rw[k3]
    exact h
def Ae (lo dZ:Nat) (V:View) (c:aD) (Q:VQ) (kH:Env):Prop :=
 W dZ c (fun x Nc P'=>∃V' bK,V'.P=P'∧SR V' lo dZ∧EA lo V V'∧ER V' bK Nc∧Q x bK V'.H) kH V.P
theorem GX {V:View} {ρ:dQ} {kH:Env} (hE:ER V ρ kH) {g:Option (Nat×Bool)} {t:Bool} (h:BL g ρ=some t):zP g kH=some t:=by
 unfold BL at h
 unfold zP
 split at h
 ·exact h
 ·rename_i t' want
  have ht:=hE t'
  split at h
  ·rename_i b hb
   obtain⟨e,_⟩:=rA ht hb
   simp only[e]
   exact h
  ·rename_i vs hb
   rw[hb] at ht
   generalize hu:kH t'=u at ht
   cases ht with
   | dT cs ps hl=>simp only[hu];exact h
  ·cases h
theorem Tl {V:View} (hS:SR V lo dZ) {x y:VV} {u w:Value} (hx:VR V x u) (hy:VR V y w) (h:Ba V.H x y=true):aoW u w=true:=by
 have key:∀ {z:VV} {v:Value},VR V z v→(match Au V.H z with
   | .bad=>True
   | .no=>iX v=none
   | .row i wr=>iX v=some (V.m i)∧∃g es e,V.H[i]? = some (.row g es e wr)
   | .BC i=>∀q,iX v=some q→∀b' g' es e w,V.H[b']? = some (.row g' es e w)→b'≠i→V.m b'≠q
   | .tree=>∀b,iX v=some b→V.F b):=by
  intro z v hz
  cases hz with
  | any=>simp only[Au]
  | sc v h =>
      cases v<;>first | rfl | cases h | skip
      rename_i a;cases a<;>first | rfl | cases h
  | agg=>rfl
  | dT=>rfl
  | oZ k hk =>
       rcases hk with rfl | rfl
       ·intro b hb;cases hb
       ·rfl
  |
   tree es k b o c r e p hF hb ho hc he hk hl =>
   cases es with
   |
    nil=>cases k with
    | nil=>exact hk.elim
    | op=>intro b' uJ;cases uJ;exact hF
    | cl=>intro b' uJ;cases uJ;exact hF
   | cons=>intro b' uJ;cases uJ;exact hF
  | cT x off b o r e p hF hb ho hl=>intro b' uJ;cases uJ;exact hF
  |
   ref b g o n c a n' c' bI hg ha hq =>
   simp only[Au]
   cases hr:aI V.H b g with
   | none=>exact fun q h=>(by
     cases a with
     | none=>cases h
     | some a0=>cases h;exact(hq a0 rfl).2.2)
   |
    some q =>
    obtain⟨es,e,wr⟩:=q
    rw[cH] at hr
    obtain⟨rfl,rfl,rfl⟩:=ha _ _ _ hr
    exact⟨rfl,g,es,e,hr⟩
  |
   ptr b g j off a bI hg ha hq =>
   simp only[Au]
   cases hr:aI V.H b g with
   | none=>exact fun q h=>(by
     cases a with
     | none=>cases h
     | some a0=>cases h;exact(hq a0 rfl).2.2)
   |
    some q =>
    obtain⟨es,e,wr⟩:=q
    rw[cH] at hr
    have:=ha _ _ _ hr
    subst this
    exact⟨rfl,g,es,e,hr⟩
  | vP=>rfl
 have kx:=key hx
 have ky:=key hy
 unfold Ba at h
 unfold aoW
 cases hbx:Au V.H x with
 | bad=>rw[hbx] at h;have h:false=true:=h;cases h
 |
  no =>
  rw[hbx] at kx
  have kx:iX u=none:=kx
  rw[kx]
 |
  BC i =>
  rw[hbx] at kx h
  have kx:∀q,iX u=some q→∀b' g' es e w,V.H[b']? = some (.row g' es e w)→b'≠i→V.m b'≠q:=kx
  cases SO:Au V.H y with
  | bad=>rw[SO] at h;have h:false=true:=h;cases h
  |
   no =>
   rw[SO] at ky
   have ky:iX w=none:=ky
   rw[ky]
   cases iX u<;>rfl
  | BC j=>rw[SO] at h;have h:false=true:=h;cases h
  | tree=>rw[SO] at h;have h:false=true:=h;cases h
  |
   row j wj =>
   rw[SO] at ky h
   obtain⟨k3,g2,es2,e2,k4⟩:iX w=some (V.m j)∧∃g es e,V.H[j]? = some (.row g es e wj):=ky
   have h:(i != j)=true:=h
   simp only[bne_iff_ne,ne_eq] at h
   rw[k3]
   cases hu:iX u with
   | none=>rfl
   |
    some q =>
    simp only[bne_iff_ne,ne_eq]
    exact fun hm=>kx q hu j _ _ _ _ k4 (Ne.symm h) hm.symm
 |
  row i wi =>
  rw[hbx] at kx h
  obtain⟨k1,g1,B2,e1,k2⟩:iX u=some (V.m i)∧∃g es e,V.H[i]? = some (.row g es e wi):=kx
  cases SO:Au V.H y with
  | bad=>rw[SO] at h;have h:false=true:=h;cases h
  |
   no =>
   rw[SO] at ky
   have ky:iX w=none:=ky
   rw[ky]
   cases iX u<;>rfl
  |
   BC j =>
   rw[SO] at ky h
   have ky:∀q,iX w=some q→∀b' g' es e w,V.H[b']? = some (.row g' es e w)→b'≠j→V.m b'≠q:=ky
   have h:(i != j)=true:=h
   simp only[bne_iff_ne,ne_eq] at h
   rw[k1]
   cases hw:iX w with
   | none=>rfl
   |
    some q =>
    simp only[bne_iff_ne,ne_eq]
    exact fun hm=>ky q hw i _ _ _ _ k2 h hm
  |
   row j wj =>
   rw[SO] at ky h
   obtain⟨k3,g2,es2,e2,k4⟩:iX w=some (V.m j)∧∃g es e,V.H[j]? = some (.row g es e wj):=ky
   rw[k1,k3]
   have h:(i != j)=true:=h
   simp only[bne_iff_ne,ne_eq] at h ⊢
   exact fun hm=>h (hS.inj _ _ _ _ _ _ _ _ _ _ k2 k4 hm)
  |
   tree =>
   rw[SO] at ky h
   have ky:∀b,iX w=some b→V.F b:=ky
   have h:wi=true:=h
   subst h
   cases hw:iX w with
   | none=>rw[k1]
   |
    some b =>
    rw[k1]
    simp only[bne_iff_ne,ne_eq]
    exact fun hm=>(hS.wr _ _ _ _ k2).1 (by rw[hm];exact ky b hw)
 |
  tree =>
  rw[hbx] at kx h
  have kx:∀b,iX u=some b→V.F b:=kx
  cases SO:Au V.H y with
  | bad=>rw[SO] at h;have h:false=true:=h;cases h
  |
   no =>
   rw[SO] at ky
   have ky:iX w=none:=ky
   rw[ky]
   cases iX u<;>rfl
  | tree=>rw[SO] at h;have h:false=true:=h;cases h
  | BC j=>rw[SO] at h;have h:false=true:=h;cases h
  |
   row j wj =>
   rw[SO] at ky h
   obtain⟨k1,g1,B2,e1,k2⟩:iX w=some (V.m j)∧∃g es e,V.H[j]? = some (.row g es e wj):=ky
   have h:wj=true:=h
   subst h
   cases hw:iX u with
   | none=>rfl
   |
    some b =>
    rw[k1]
    simp only[bne_iff_ne,ne_eq]
    exact fun hm=>(hS.wr _ _ _ _ k2).1 (by rw[←hm];exact kx b hw)
theorem QZ {V:View} (hS:SR V lo dZ) {ρ:dQ} {kH:Env} (hE:ER V ρ kH) {fl:Fl} {q:Bool} {op:nK} {K:VV→aA→Prop} (h:eG fl lo q op ρ V.H K):P8 lo dZ V (jP dZ q op kH V.P) K:=by
 have other:∀ {v H'},vop fl lo op ρ V.H=some (v,H')→K v H'→P8 lo dZ V (jP dZ q op kH V.P) K:=by
  intro v H' h1 h2
  obtain⟨pv,V',g1,g2,g3,g4,g5⟩:=Xo hS hE (q:=q) h1
  exact⟨pv,V',v,g1,g3,g4,g5,by rw[g2];exact h2⟩
 unfold eG at h
 split at h
 ·rw[Xd]
  exact F0 hS (hE.evs _) h
 ·rename_i fv args
  rw[Tu]
  have hf:=hE.ev fv
  split at h
  ·rename_i f fR hfv
   rw[hfv] at hf
   generalize ev kH fv=u at hf ⊢
   cases hf with
   |
    vP f fR ps hl =>
    unfold ZU
    simp only[List.nil_append]
    exact F0 hS ((hE.evs args).append hl) h
  ·cases h
 ·split at h
  ·rename_i v H' h1
   exact other h1 h
  ·cases h
theorem MK {fl:Fl} {K:dQ→aA→Prop}:∀(is:List PI) {V:View} {ρ:dQ} {kH:Env},SR V lo dZ→ER V ρ kH→VS fl lo is K ρ V.H →
  WS dZ is (fun Nc P'=>∃V' bK,V'.P=P'∧SR V' lo dZ∧EA lo V V'∧ER V' bK Nc∧K bK V'.H) kH V.P
 |
  [],V,ρ,kH,hS,hE,h=>by
  rw[akO]
  exact⟨V,ρ,rfl,hS,EA.refl _ _,hE,h⟩
 |
  i::is,V,ρ,kH,hS,hE,h=>by
  unfold VS at h
  rw[arQ]
  unfold yS
  split at h
  ·cases h
  ·rename_i hw
   rw[GX hE hw]
   exact⟨_,_,rfl,MK is hS (hE.put (.dT [] [] .nil)) h⟩
  ·rename_i hw
   rw[GX hE hw]
   obtain⟨Qp,h⟩:=h
   have ayY:i.cf.all (AR kH)=true:=by
    rw[List.all_eq_true] at Qp ⊢
    intro c hc
    exact Tl hS (hE.ev c.1) (hE.ev c.2) (Qp c hc)
   simp only[ayY,if_true]
   obtain⟨pv,V',v,g1,g2,g3,g4,g5⟩:=QZ hS hE h
   refine⟨pv,V'.P,?_,?_⟩
   ·unfold jP at g1
    exact g1
   ·obtain⟨WA,Xt,k1,Se,El,k2,k3,k4,k5,k6⟩:=MK is g2 ((hE.mono g3.toUp).put g4) g5
    exact⟨WA,Xt,k1,Se,El,k2,k3,g3.trans k4,k5,k6⟩
theorem Ll:∀(ts:List Nat) {V:View} {ρ bK:dQ} {kH:Env} {H':aA},SR V lo dZ→ER V ρ kH→aeM ts ρ V.H=some (bK,H')→∃V',V'.P=V.P∧V'.H=H'∧SR V' lo dZ∧EA lo V V'∧ER V' bK kH
 |
  [],V,ρ,bK,kH,H',hS,hE,h=>by
  cases h
  exact⟨V,rfl,rfl,hS,EA.refl _ _,hE⟩
 |
  t::ts,V,ρ,bK,kH,H',hS,hE,h=>by
  unfold aeM at h
  split at h
  case h_2=>cases h
  rename_i v hv
  obtain⟨k1,k2,k3,k4,k5,k6⟩:=vO (hC depth V.H (ρ t)) hS
  have hx:=KG hS (G:=(V.dB (hC depth V.H (ρ t))).F) (fun q hq=>k2.F q hq) depth (ρ t) v (kH t) (hE t) hv k6
  have TU:VR (V.dB (hC depth V.H (ρ t))) v (kH t):=hx.C8 (fun b hb=>⟨hb,by rw[k4]⟩)
  rw[←k3] at h
  obtain⟨V',g1,g2,g3,g4,g5⟩:=Ll ts (kH:=kH) k1 (by
   have e:=(hE.mono k2.toUp).put (d:=some t) TU
   have ee:put kH (some t) (kH t)=kH:=by
    funext k
    simp only[put]
    split
    ·rename_i hk;rw[hk]
    ·rfl
   rw[ee] at e
   exact e) h
  exact⟨V',g1.trans k4,g2,g3,k2.trans g4,g5⟩
theorem QO {V:View} (hS:SR V lo dZ) {ρ:dQ} {kH:Env} (hE:ER V ρ kH) {K:dQ→aA→Prop} (h:gh K ρ V.H):∃V' bK,V'.P=V.P∧SR V' lo dZ∧EA lo V V'∧ER V' bK kH∧K bK V'.H:=by
 obtain⟨ts,bK,H',h1,h2⟩:=h
 obtain⟨V',g1,g2,g3,g4,g5⟩:=Ll ts hS hE h1
 exact⟨V',bK,g1,g3,g4,g5,by rw[g2];exact h2⟩
theorem Mv {k:Nat} {es:List VV}:lO k es=true↔∀x∈es,below k x=true:=by
 induction es with
 | nil=>simp[lO]
 | cons x xs ih=>simp[lO,ih]
theorem Di {k:Nat} {es:List VV} (h:lO k es=true):lO k (es.flatMap aB)=true:=by
 rw[Mv] at h ⊢
 intro x hx
 obtain⟨y,hy,An⟩:=List.mem_flatMap.1 hx
 have:=h y hy
 unfold aB at An
 split at An
 ·exact Mv.1 (by simpa[below] using this) x An
 ·rw[List.mem_singleton] at An;subst An;exact this
theorem Rw {k:Nat} {x:VV} (h:below k x=true):lO k (aB x)=true:=by
 have:=Di (k:=k) (es:=[x]) (by simp[lO,h])
 simpa using this
def View.zU (V:View) (k:Nat):View:={ V with H:=V.H.take k }
theorem VR.zU {V:View} {k:Nat} (hk:k≤V.H.length) {x:VV} {v:Value} (h:VR V x v):PM.below k x=true→VR (V.zU k) x v:=by
 have he:∀ {b:Nat},b<k→∀y,(V.zU k).H[b]? = some y→V.H[b]? = some y:=fun Vn y hy=>by
  have:(V.H.take k)[_]? = some y:=hy
  rw[List.getElem?_take,if_pos Vn] at this
  exact this
 have hT:∀ {b:Nat} {y:cN},(V.zU k).H[b]? = some y→V.H[b]? = some y:=fun {b y} hy=>by
  have h:(V.H.take k)[b]? = some y:=hy
  rw[List.getElem?_take] at h
  split at h
  ·exact h
  ·cases h
 induction h using VR.rec (motive_2:=fun xs vs _=>lO k xs=true→VL (V.zU k) xs vs) with
 | any=>intro _;exact .any _
 | sc _ h=>intro _;exact .sc _ h
 | agg cs ps _ ih=>intro hb;exact .agg _ _ (ih hb)
 | dT cs ps _ ih=>intro hb;exact .dT _ _ (ih hb)
 | oZ k hk=>intro _;exact .oZ k hk
 | tree es k b o c r e p TL uN ho hc he hk' _ ih=>intro hb;exact .tree es k b o c r e p TL uN ho hc he hk' (ih (Di hb))
 | cT x off b o r e p TL uN ho _ ih=>intro hb;exact .cT x off b o r e p TL uN ho (ih (Rw hb))
 |
  ref b g o n c a n' c' bI hg ha hq =>
  intro hb
  have Vn:b<k:=by simpa[PM.below] using hb
  exact .ref b g o n c a n' c' (by show b<(V.H.take k).length;simp;omega) (fun g' es e w hr=>hg _ _ _ _ (he Vn _ hr)) (fun es e w hr=>ha _ _ _ (he Vn _ hr)) fun a0 h=>⟨(hq a0 h).1,(hq a0 h).2.1,fun b' g' es e w hr=>(hq a0 h).2.2 b' g' es e w (hT hr)⟩
 |
  ptr b g j off a bI hg ha hq =>
  intro hb
  have Vn:b<k:=by simpa[PM.below] using hb
  exact .ptr b g j off a (by show b<(V.H.take k).length;simp;omega) (fun g' es e w hr=>hg _ _ _ _ (he Vn _ hr)) (fun es e w hr=>ha _ _ _ (he Vn _ hr)) fun a0 h=>⟨(hq a0 h).1,(hq a0 h).2.1,fun b' g' es e w hr=>(hq a0 h).2.2 b' g' es e w (hT hr)⟩
 | vP f fR ps _ ih=>intro hb;exact .vP _ _ _ (ih hb)
 | nil=>exact .nil
 |
  cons x v xs vs _ _ ih T7 =>
  rename_i hb
  simp only[lO,Bool.and_eq_true] at hb
  exact .cons _ _ _ _ (ih hb.1) (T7 hb.2)
theorem VL.zU {V:View} {k:Nat} (hk:k≤V.H.length) {xs:List VV} {vs:List Value} (h:VL V xs vs) (hb:lO k xs=true):VL (V.zU k) xs vs:=by
 induction xs generalizing vs with
 | nil=>cases h;exact .nil
 |
  cons x xs ih=>cases h with
  |
   cons _ v _ vs h hs =>
   simp only[lO,Bool.and_eq_true] at hb
   exact .cons _ _ _ _ (h.zU hk hb.1) (ih hs hb.2)
theorem Q1 {V V':View} (hS:SR V' lo dZ) {ρ:dQ} {kH:Env} (hE:ER V' ρ kH) (hx:EA lo V V') (hr:kJ V.H.length (V'.H.take V.H.length)=true) :
  SR (V'.zU V.H.length) lo dZ∧EA lo V (V'.zU V.H.length)∧ER (V'.zU V.H.length) (HB V.H.length ρ) kH:=by
 have hk:=hx.len
 have get:∀ {b:Nat} {y:cN},(V'.zU V.H.length).H[b]? = some y→V'.H[b]? = some y:=by
  intro b y h
  have h:(V'.H.take V.H.length)[b]? = some y:=h
  rw[List.getElem?_take] at h
  split at h
  ·exact h
  ·cases h
 refine⟨⟨fun b g es e w hb => ?_,fun b g es e hb=>hS.wr b g es e (get hb),fun a b g es e w g' mU e' w' ha hb hm=>hS.inj a b _ _ _ _ _ _ _ _ (get ha) (get hb) hm,hS.fr,hS.S3,hS.Kg⟩,
  { F:=hx.F,P:=hx.P,len:=by show V.H.length≤(V'.H.take V.H.length).length;simp;omega,row:=fun b g es e w bI hb=>hx.row b g es e w bI (get hb),Kg:=hx.Kg,D9:=hx.D9,BC:=fun b g es e w hb hm=>hx.BC b g es e w (get hb) hm,cJ:=hx.cJ,Cv:=hx.Cv },fun t => ?_⟩
 ·obtain⟨r,p,h1,h2,h3⟩:=hS.row b g es e w (get hb)
  refine⟨r,p,h1,h2,h3.zU hk (Di ?_)⟩
  have:=List.all_eq_true.1 hr _ (List.mem_of_getElem? (show (V'.H.take V.H.length)[b]? = some _ from hb))
  exact this
 ·unfold HB Js
  split
  ·rename_i hb
   exact(hE t).zU hk hb
  ·exact .any _
theorem Sw {c:aD} {Q:Ex→Env→aE→Prop} {ρ:Env} {H:aE} (h:W dZ c (apY (fun bK H'=>W dZ (.loop c) Q bK H') Q) ρ H):W dZ (.loop c) Q ρ H:=by
 obtain⟨x,bK,H',h1,h2⟩:=h
 unfold W
 rw[W7,h1]
 cases x with
 |
  normal =>
  obtain⟨y,El,H'',h3,h4⟩:=h2
  exact⟨y,El,H'',h3,h4⟩
 | exit i=>exact⟨_,_,_,rfl,h2⟩
 | ret=>exact⟨_,_,_,rfl,h2⟩
theorem uS {fl:Fl}:∀(c:aD) {V:View} {ρ:dQ} {kH:Env} {Q:VQ},SR V lo dZ→ER V ρ kH→VW fl lo c Q ρ V.H→Ae lo dZ V c Q kH
 |
  .skip,V,ρ,kH,Q,hS,hE,h=>by
  unfold Ae
  rw[akF]
  exact⟨V,ρ,rfl,hS,EA.refl _ _,hE,h⟩
 |
  .exit id,V,ρ,kH,Q,hS,hE,h=>by
  unfold Ae
  rw[akG]
  exact⟨V,ρ,rfl,hS,EA.refl _ _,hE,h⟩
 |
  .ret,V,ρ,kH,Q,hS,hE,h=>by
  unfold Ae
  rw[aqN]
  exact⟨V,ρ,rfl,hS,EA.refl _ _,hE,h⟩
 |
  .dG ops,V,ρ,kH,Q,hS,hE,h=>by
  unfold Ae
  rw[apM]
  exact MK ops hS hE h
 |
  .seq a b,V,ρ,kH,Q,hS,hE,h=>by
  unfold Ae
  rw[asR]
  refine(uS a hS hE h).mono ?_
  rintro x Nc P' ⟨V',bK,rfl,g2,g3,g4,g5⟩
  cases x with
  |
   normal =>
   refine(uS b g2 g4 g5).mono ?_
   rintro y WA Xt ⟨Se,El,k1,k2,k3,k4,k5⟩
   exact⟨Se,El,k1,k2,g3.trans k3,k4,k5⟩
  | exit i=>exact⟨V',bK,rfl,g2,g3,g4,g5⟩
  | ret=>exact⟨V',bK,rfl,g2,g3,g4,g5⟩
 |
  .cond c a b,V,ρ,kH,Q,hS,hE,h=>by
  unfold Ae
  rw[anO]
  unfold VW at h
  split at h
  ·rename_i t hc
   obtain⟨e,_⟩:=rA (hE.ev c) hc
   refine⟨t,e,fun ht => ?_,fun ht => ?_⟩
   ·rw[if_pos ht] at h
    exact uS a hS hE h
   ·rw[if_neg (by simp[ht])] at h
    exact uS b hS hE h
  ·cases h
 |
  .block id a,V,ρ,kH,Q,hS,hE,h=>by
  unfold Ae
  rw[afQ]
  refine(uS a hS hE h).mono ?_
  rintro x Nc P' ⟨V',bK,rfl,g2,g3,g4,g5⟩
  cases x with
  | normal=>exact⟨V',bK,rfl,g2,g3,g4,g5⟩
  |
   exit i =>
   rw[Hy]
   have g5:if i=id then Q .normal bK V'.H else Q (.exit i) bK V'.H:=g5
   split at g5
   ·rename_i hi
    rw[if_pos hi]
    exact⟨V',bK,rfl,g2,g3,g4,g5⟩
   ·rename_i hi
    rw[if_neg hi]
    exact⟨V',bK,rfl,g2,g3,g4,g5⟩
  | ret=>exact⟨V',bK,rfl,g2,g3,g4,g5⟩
 |
  .loop a,V,ρ,kH,Q,hS,hE,h=>by
  obtain⟨n,h⟩:=h
  have key:∀n {V:View} {ρ:dQ} {kH:Env},SR V lo dZ→ER V ρ kH→Sq (VW fl lo a) (fun x=>gh (Q x)) n ρ V.H→Ae lo dZ V (.loop a) Q kH:=by
   intro n
   induction n with
   | zero=>intro V ρ kH _ _ h;cases h
   |
    succ n ih =>
    intro V ρ kH hS hE h
    unfold Ae
    refine Sw ?_
    refine(uS a hS hE h).mono ?_
    rintro x Nc P' ⟨V',bK,rfl,g2,g3,g4,g5⟩
    cases x with
    |
     normal =>
     rcases g5 with g5 | ⟨g5,g6⟩
     ·refine(ih g2 g4 g5).mono ?_
      rintro y WA Xt ⟨Se,El,k1,k2,k3,k4,k5⟩
      exact⟨Se,El,k1,k2,g3.trans k3,k4,k5⟩
     ·obtain⟨t1,t2,t3⟩:=Q1 g2 g4 g3 g5
      refine(ih t1 t3 g6).mono ?_
      rintro y WA Xt ⟨Se,El,k1,k2,k3,k4,k5⟩
      exact⟨Se,El,k1,k2,t2.trans k3,k4,k5⟩
    |
     exit i =>
     obtain⟨Se,El,k1,k2,k3,k4,k5⟩:=QO g2 g4 g5
     exact⟨Se,El,k1,k2,g3.trans k3,k4,k5⟩
    |
     ret =>
     obtain⟨Se,El,k1,k2,k3,k4,k5⟩:=QO g2 g4 g5
     exact⟨Se,El,k1,k2,g3.trans k3,k4,k5⟩
  exact key n hS hE h
theorem wE {V:View} (hS:SR V lo dZ) {ρ:dQ} {kH:Env} (hE:ER V ρ kH) {res:List AH} {v:VV} (h:nR res ρ V.H=some v):∃pv,qN res kH V.P=some pv∧VR V v pv:=by
 have one:∀ {r:AH} {v:VV},EI ρ V.H r=some v→∃pv,Wr kH V.P r=some pv∧VR V v pv:=by
  intro r v h
  cases r with
  | tmp t=>cases h;exact⟨_,rfl,hE t⟩
  | cell t agg size=>exact Lc hS (hE t) h
 have all:∀ {rs:List AH} {vs:List VV},qS ρ V.H rs=some vs→∃ps,Bt kH V.P rs=some ps∧VL V vs ps:=by
  intro rs
  induction rs with
  | nil=>intro vs h;cases h;exact⟨[],rfl,.nil⟩
  |
   cons r rs ih =>
   intro vs h
   unfold qS at h
   split at h
   ·rename_i v vs' h1 h2
    cases h
    obtain⟨pv,k1,k2⟩:=one h1
    obtain⟨ps,k3,k4⟩:=ih h2
    exact⟨pv::ps,by unfold Bt;rw[k1,k3],.cons _ _ _ _ k2 k4⟩
   ·cases h
 unfold nR at h
 split at h
 ·rename_i v' hv
  cases h
  obtain⟨ps,k1,k2⟩:=all hv
  cases k2 with
  |
   cons _ pv _ _ hx Nr =>
   cases Nr
   exact⟨pv,by unfold qN;rw[k1],hx⟩
 ·rename_i vs fC hv
  cases h
  obtain⟨ps,k1,k2⟩:=all hv
  refine⟨.tuple ps.toArray,?_,.dT _ _ k2⟩
  unfold qN
  rw[k1]
  split
  ·rename_i pv he
   injection he with he
   subst he
   cases k2 with
   | cons x _ _ _ hx Nr=>cases Nr;exact absurd rfl (fC x)
  ·rename_i he
   injection he with he
   rw[he]
  ·rename_i he;cases he
 ·cases h
theorem R9 {V:View} {args:List VV} {eE:List Value} (h:VL V args eE):ER V (I8 args) (WX eE):=by
 intro t
 unfold I8 WX
 rw[List.getD_eq_getElem?_getD,List.getD_eq_getElem?_getD]
 cases hx:args[t]? with
 |
  none =>
  have:eE[t]? = none:=by
   rw[List.getElem?_eq_none_iff] at hx ⊢
   rw[h.length]
   exact hx
  rw[this]
  exact .dT [] [] .nil
 |
  some x =>
  obtain⟨v,h1,h2⟩:=h.get hx
  rw[h1]
  exact h2
theorem gU.walk {f:Nat} {pf:aR} {args:List VV} {H:aA} {K:VV→aA→Prop} (fl:Fl) (ht:fS f=some pf) (ha:args.length≤pf.ntmps) (h:VW fl lo pf.body (AB pf.res K) (I8 args) H):gU f args lo H K:=by
 intro V dZ eE hH hS hl
 subst hH
 obtain⟨x,Nc,P',h1,V',bK,rfl,g2,g3,g4,g5⟩:=uS pf.body hS (R9 hl) h
 have key:∃pv Xt,rC f eE dZ V.P=some (pv,Xt)∧Xt=V'.P∧∃r,VR V' r pv∧K r V'.H:=by
  refine abR ht (by rw[hl.length];exact ha) ?_
  refine⟨x,Nc,V'.P,h1,?_⟩
  cases x with
  | exit i=>exact g5.elim
  |
   normal =>
   simp only[AB,Gp] at g5
   split at g5
   ·rename_i v hv
    obtain⟨pv,k2,k3⟩:=wE g2 g4 hv
    exact⟨pv,k2,rfl,v,k3,g5⟩
   ·cases g5
  |
   ret =>
   simp only[AB,Gp] at g5
   split at g5
   ·rename_i v hv
    obtain⟨pv,k2,k3⟩:=wE g2 g4 hv
    exact⟨pv,k2,rfl,v,k3,g5⟩
   ·cases g5
 obtain⟨pv,Xt,k1,rfl,r,k2,k3⟩:=key
 exact⟨pv,V',r,k1,g2,g3,k2,k3⟩
theorem VT.walk {f:Nat} {pf:aR} {args:List VV} {r:VV} (fl:Fl) (ht:fS f=some pf) (ha:args.length≤pf.ntmps) (h:VW fl 0 pf.body (AB pf.res fun v H=>fz depth H v=some r) (I8 args) []):VT f args r:=by
 intro F P eE dZ hF hl aeR
 have hS:SR (bare F P) 0 dZ:=⟨fun b g es e w hb=>by simp[bare] at hb,fun b g es e hb=>by simp[bare] at hb,fun a b g es e w g' mU e' w' ha=>by simp[bare] at ha,hF,aeR,Nat.zero_le _⟩
 obtain⟨x,Nc,P',h1,V',bK,rfl,g2,g3,g4,g5⟩:=uS pf.body hS (R9 hl) h
 have fin:∀ {v:VV} {pv:Value},VR V' v pv→fz depth V'.H v=some r→VR (bare (fun q=>F q∨(P.length≤q∧q<V'.P.length)) V'.P) r pv:=by
  intro v pv hv hf
  refine KG g2 (fun q hq => ?_) depth v r pv hv hf fun i _ g es e w hr => ?_
  ·rcases g3.Cv q hq with h | h | ⟨b,g,es,e,w,h,_⟩
   ·exact .inl h
   ·exact .inr ⟨h,g2.fr q hq⟩
   ·simp[bare] at h
  ·rcases Nat.lt_or_ge (V'.m i) P.length with bI | EO
   ·obtain⟨g0,es0,w0,k1,_⟩:=g3.BC i g es e w hr bI
    simp[bare] at k1
   ·exact .inr ⟨EO,g2.mlt hr⟩
 have key:∃pv Xt,rC f eE dZ P=some (pv,Xt)∧Xt=V'.P∧VR (bare (fun q=>F q∨(P.length≤q∧q<V'.P.length)) V'.P) r pv:=by
  refine abR ht (by rw[hl.length];exact ha) ?_
  refine⟨x,Nc,V'.P,h1,?_⟩
  cases x with
  | exit i=>exact g5.elim
  |
   normal =>
   simp only[AB,Gp] at g5
   split at g5
   ·rename_i v hv
    obtain⟨pv,k2,k3⟩:=wE g2 g4 hv
    exact⟨pv,k2,rfl,fin k3 g5⟩
   ·cases g5
  |
   ret =>
   simp only[AB,Gp] at g5
   split at g5
   ·rename_i v hv
    obtain⟨pv,k2,k3⟩:=wE g2 g4 hv
    exact⟨pv,k2,rfl,fin k3 g5⟩
   ·cases g5
 obtain⟨pv,Xt,k1,rfl,k3⟩:=key
 refine⟨V'.P,pv,k1,?_,k3⟩
 refine⟨V'.P.drop P.length,List.ext_getElem? fun i => ?_⟩
 rcases Nat.lt_or_ge i P.length with hi | hi
 ·rw[List.getElem?_append_left hi]
  exact(g3.cJ i hi fun b g es e hb=>by simp[bare] at hb).symm
 ·rw[List.getElem?_append_right hi,List.getElem?_drop,show P.length+(i-P.length)=i by omega]
end
end Go.PM
namespace Go.PM
section
variable {fl:Fl} {lo:Nat} {ρ:dQ} {H:aA} {Q:VQ} {K:dQ→aA→Prop} {k:VV→aA→Prop} {a b:aD} {d:Option Nat} {is:List PI} {q:Bool} {op:nK}
def Si (fl:Fl) (lo:Nat) (d:Option Nat) (is:List PI) (K:dQ→aA→Prop) (ρ:dQ):VV→aA→Prop:=fun v H'=>VS fl lo is K (JE ρ d v) H'
def Pa (r:Option (VV×aA)) (k:VV→aA→Prop):Prop:=match r with
 | some (v,H')=>k v H'
 | none=>False
theorem OY {v:VV} {H':aA}:Si fl lo d is K ρ v H'=VS fl lo is K (JE ρ d v) H':=rfl
theorem Sc {v:VV}:J8 (some v) H k=k v H:=rfl
theorem NL {v:VV} {H':aA}:Pa (some (v,H')) k=k v H':=rfl
theorem ahJ {r:VV} {K:VV→Prop}:tk (some r) K=K r:=rfl
theorem We:VW fl lo .skip Q ρ H=Q .normal ρ H:=rfl
theorem U7 {i:Nat}:VW fl lo (.exit i) Q ρ H=Q (.exit i) ρ H:=rfl
theorem ZO:VW fl lo .ret Q ρ H=Q .ret ρ H:=rfl
theorem adD {ops:List PI}:VW fl lo (.dG ops) Q ρ H=VS fl lo ops (Q .normal) ρ H:=rfl
theorem aaN:VW fl lo (.seq a b) Q ρ H=VW fl lo a (mZ (VW fl lo b Q) Q) ρ H:=rfl
theorem R6 {i:Nat}:VW fl lo (.block i a) Q ρ H=VW fl lo a (Ab i Q) ρ H:=rfl
theorem Wz {c:Operand} {t:Bool} (h:eH ρ c = .sc (.bool t)):VW fl lo (.cond c a b) Q ρ H=if t=true then VW fl lo a Q ρ H else VW fl lo b Q ρ H:=by
 simp only[VW,h]
theorem Cc:mZ K Q .normal=K:=rfl
theorem EJ {i:Nat}:mZ K Q (.exit i)=Q (.exit i):=rfl
theorem Gu:mZ K Q .ret=Q .ret:=rfl
theorem EG {i:Nat}:Ab i Q .normal=Q .normal:=rfl
theorem C6 {i j:Nat}:Ab i Q (.exit j) ρ H=if j=i then Q .normal ρ H else Q (.exit j) ρ H:=rfl
theorem LH {i:Nat}:Ab i Q .ret=Q .ret:=rfl
theorem G5 {res:List AH} {R:VV→aA→Prop}:AB res R .normal ρ H=Gp R (nR res ρ H) H:=rfl
theorem OM {res:List AH} {R:VV→aA→Prop}:AB res R .ret ρ H=Gp R (nR res ρ H) H:=rfl
theorem MB {R:VV→aA→Prop} {v:VV}:Gp R (some v) H=R v H:=rfl
theorem QQ {t:Nat}:nR [.tmp t] ρ H=some (ρ t):=rfl
theorem R0 {t u:Nat}:nR [.tmp t,.tmp u] ρ H=some (.dT [ρ t,ρ u]):=rfl
theorem MC {t u v:Nat}:nR [.tmp t,.tmp u,.tmp v] ρ H=some (.dT [ρ t,ρ u,ρ v]):=rfl
theorem NR:nR [] ρ H=some (.dT []):=rfl
theorem YW:VS fl lo [] K ρ H=K ρ H:=rfl
theorem ajH:VS fl lo (⟨d,op,none,q,[]⟩::is) K ρ H=eG fl lo q op ρ H (Si fl lo d is K ρ):=by
 simp only[VS,BL,List.all_nil,true_and]
 rfl
theorem Ey {c:Operand×Operand} {cs:List (Operand×Operand)}:VS fl lo (⟨d,op,none,q,c::cs⟩::is) K ρ H=((c::cs).all (uA ρ H)=true∧eG fl lo q op ρ H (Si fl lo d is K ρ)):=by
 simp only[VS,BL]
 rfl
theorem Su {t:Nat} {want x:Bool} {cf:List (Operand×Operand)} (h:ρ t = .sc (.bool x)):VS fl lo (⟨d,op,some (t,want),q,cf⟩::is) K ρ H =
  if (x == want)=true then (cf.all (uA ρ H)=true∧eG fl lo q op ρ H (Si fl lo d is K ρ)) else VS fl lo is K (JE ρ d pR) H:=by
 simp only[VS,BL,h]
 cases (x == want)<;>rfl
theorem ZI {t:Nat} {want:Bool} (h:ρ t = .sc (.bool want)):VS fl lo (⟨d,op,some (t,want),q,[]⟩::is) K ρ H=eG fl lo q op ρ H (Si fl lo d is K ρ):=by
 rw[Su h]
 simp
theorem ajB {t:Nat} {want:Bool} {cf:List (Operand×Operand)} (h:ρ t = .sc (.bool (!want))):VS fl lo (⟨d,op,some (t,want),q,cf⟩::is) K ρ H=VS fl lo is K (JE ρ d pR) H:=by
 rw[Su h]
 cases want<;>rfl
theorem WD {c:Operand} (h:eH ρ c = .sc (.bool true)):VW fl lo (.cond c a b) Q ρ H=VW fl lo a Q ρ H:=by
 rw[Wz h,if_pos rfl]
theorem SJ {c:Operand} (h:eH ρ c = .sc (.bool false)):VW fl lo (.cond c a b) Q ρ H=VW fl lo b Q ρ H:=by
 rw[Wz h,if_neg (by decide)]
theorem JA {t:Nat} {want:Bool} {cf:List (Operand×Operand)} (h:ρ t=pR):VS fl lo (⟨d,op,some (t,want),q,cf⟩::is) K ρ H=VS fl lo is K (JE ρ d pR) H:=by
 simp only[VS,BL,h,pR]
theorem uW {d t:Nat} {v:VV}:JE ρ (some d) v t=if t=d then v else ρ t:=rfl
theorem N6 {v:VV}:JE ρ none v=ρ:=rfl
theorem Vm {t:Nat}:eH ρ (.tmp t)=ρ t:=rfl
theorem Oc {v:Value}:eH ρ (.const v)=inj v:=rfl
theorem R7 {f:Nat}:eH ρ (.func f) = .vP f []:=rfl
theorem U1 {k:IntKind} {n:Int}:inj (.int k n) = .sc (.int k n):=rfl
theorem Ro {t:Bool}:inj (.bool t) = .sc (.bool t):=rfl
theorem V4 {s:ByteArray}:inj (.string s) = .sc (.string s):=rfl
theorem VO:inj (.slice none 0 0) = .tree [] .nil:=rfl
theorem Wq {cs:Array Value}:inj (.agg cs) = .agg (cs.toList.map jD):=rfl
theorem Rz {k:IntKind} {n:Int}:jD (.int k n) = .sc (.int k n):=rfl
theorem N8 {t:Bool}:jD (.bool t) = .sc (.bool t):=rfl
theorem Q9 {s:ByteArray}:jD (.string s) = .sc (.string s):=rfl
theorem QE:jD (.slice none 0 0) = .tree [] .nil:=rfl
theorem Zt {x:Operand}:eG fl lo q (.mv x) ρ H k=k (eH ρ x) H:=rfl
theorem iB {r:Option VV}:(match r.map (fun v=>(v,H)) with | some (v,H')=>k v H' | none=>False)=J8 r H k:=by cases r<;>rfl
theorem Sn {c x y:Operand}:eG fl lo q (.pick c x y) ρ H k=J8 (RZ (eH ρ c) (eH ρ x) (eH ρ y)) H k:=iB
theorem VP {o:BinOp} {x y:Operand}:eG fl lo q (.bin o x y) ρ H k=J8 (Ik (dJ o) (eH ρ x) (eH ρ y)) H k:=iB
theorem VG {n:Bool} {x y:Operand}:eG fl lo q (.eqb n x y) ρ H k=J8 (Ik (M6 n) (eH ρ x) (eH ρ y)) H k:=iB
theorem NU {n:Bool} {x:Operand}:eG fl lo q (.isnil n x) ρ H k=J8 (Fc n (eH ρ x) H) H k:=iB
theorem NN {n:Bool} {ks:List CK} {x y:Operand}:eG fl lo q (.eqagg n ks x y) ρ H k=J8 (UT n ks (eH ρ x) (eH ρ y)) H k:=iB
theorem ZH {o:UnOp} {x:Operand}:eG fl lo q (.un o x) ρ H k=J8 (Kt (pun o) (eH ρ x)) H k:=iB
theorem Vg {o:IntKind} {x:Operand}:eG fl lo q (.cvt o x) ρ H k=J8 (Kt (Ts o) (eH ρ x)) H k:=iB
theorem VE {x:Operand}:eG fl lo q (.cvs x) ρ H k=J8 (Kt Yx (eH ρ x)) H k:=iB
theorem VA {x:Operand} {i:Nat}:eG fl lo q (.ext x i) ρ H k=J8 (ZL i (eH ρ x)) H k:=iB
theorem VH {g:Bool} {off size:Nat} {x:Operand}:eG fl lo q (.fld g off size x) ρ H k=J8 (afB g off size (eH ρ x)) H k:=iB
theorem NQ {z:List Value} {places:List (Nat×Nat)} {parts:List (Nat×Operand)}:eG fl lo q (.build z places parts) ρ H k=J8 ((xK places (z.map jD) (parts.map fun(i,x)=>(i,eH ρ x))).map .agg) H k:=by
 show (match (xK places (z.map jD) (parts.map fun(i,x)=>(i,eH ρ x))).map fun cs=>(VV.agg cs,H) with | some (v,H')=>k v H' | none=>False)=_
 cases xK places (z.map jD) (parts.map fun(i,x)=>(i,eH ρ x))<;>rfl
theorem Wc {x:Operand}:eG fl lo q (.chk x) ρ H k=J8 (Yh (eH ρ x) H) H k:=iB
theorem N0 {off:Nat} {x:Operand}:eG fl lo q (.faddr off x) ρ H k=J8 (HC off (eH ρ x) H) H k:=iB
theorem OK {size:Nat} {x i:Operand}:eG fl lo q (.iaddr size x i) ρ H k=J8 (bJ size (eH ρ x) (eH ρ i) H) H k:=iB
theorem Q5 {x i:Operand}:eG fl lo q (.sidx x i) ρ H k=J8 (Ik Gj (eH ρ x) (eH ρ i)) H k:=iB
theorem Rp {x:Operand} {l h:Option Operand}:eG fl lo q (.ssub x l h) ρ H k=J8 (uU (eH ρ x) (l.map (eH ρ)) (h.map (eH ρ))) H k:=iB
theorem Q4 {f:Nat} {fR:List Operand}:eG fl lo q (.mkfn f fR) ρ H k=k (.vP f (fR.map (eH ρ))) H:=rfl
theorem Wl {x:Operand}:eG fl lo q (.len x) ρ H k=J8 (oF (eH ρ x) H) H k:=iB
theorem QJ {x:Operand}:eG fl lo q (.slen x) ρ H k=J8 (Kt zR (eH ρ x)) H k:=iB
theorem VN {x y:Operand}:eG fl lo q (.min x y) ρ H k=J8 (Ik Rs (eH ρ x) (eH ρ y)) H k:=iB
theorem Vp {x y:Operand}:eG fl lo q (.max x y) ρ H k=J8 (Ik Rv (eH ρ x) (eH ρ y)) H k:=iB
theorem SK {g:Bool} {size:Nat} {p:Operand}:eG fl lo q (.load g size p) ρ H k=J8 (bT g size (eH ρ p) H) H k:=iB
theorem Vu {size:Nat} {x:Operand} {l h m:Option Operand}:eG fl lo q (.sub size x l h m) ρ H k=J8 (Fi size (eH ρ x) (l.map (eH ρ)) (h.map (eH ρ)) (m.map (eH ρ)) H) H k:=iB
theorem Vb {z:List Value}:eG fl lo q (.new z) ρ H k=Pa (if (z.map jD).all bO then some (.ptr H.length 0 0 0,H++[.row 0 [elemOf (z.map jD)] z.length true]) else none) k:=rfl
theorem U4 {x:Operand}:eG fl lo q (.box x) ρ H k=Pa (if (aB (eH ρ x)).all bO then (if fl.bf then some (.cT (eH ρ x) 0,H) else some (.ptr H.length 0 0 0,H++[.row 0 [eH ρ x] (aB (eH ρ x)).length true])) else none) k:=rfl
theorem SL {z:List Value} {bytes:Nat} {l c:Operand}:eG fl lo q (.make z bytes l c) ρ H k=Pa (if (z.map jD).all bO then AK z bytes (eH ρ l) (eH ρ c) H else none) k:=rfl
theorem Vi {z:List Value} {n:Nat} {parts:List (Nat×Operand)}:eG fl lo q (.lit z n parts) ρ H k=Pa (jE fl.lr z n (parts.map fun(i,x)=>(i,eH ρ x)) H) k:=rfl
def Wf (r:Option aA) (k:VV→aA→Prop):Prop:=match r with
 | some H'=>k pR H'
 | none=>False
theorem Ko {H':aA}:Wf (some H') k=k pR H':=rfl
theorem Od {r:Option aA}:(match r.map (fun H'=>(pR,H')) with | some (v,H')=>k v H' | none=>False)=Wf r k:=by cases r<;>rfl
theorem Om {size:Nat} {p v:Operand}:eG fl lo q (.store size p v) ρ H k=Wf (bR lo size (eH ρ p) (eH ρ v) H) k:=Od
def arN (lo size bytes:Nat) (x:VV) (new:Option (List VV)) (H:aA) (k:VV→aA→Prop):Prop:=match new with
 | some new=>Pa (eI lo size bytes x new H) k
 | none=>False
theorem Oa {size bytes:Nat} {x:VV} {new:List VV}:arN lo size bytes x (some new) H k=Pa (eI lo size bytes x new H) k:=rfl
theorem Wp {size bytes:Nat} {x y:Operand}:eG fl lo q (.app size bytes x y) ρ H k=arN lo size bytes (eH ρ x) (cU size (eH ρ y) H) H k:=by
 show (match (match cU size (eH ρ y) H with | some new=>eI lo size bytes (eH ρ x) new H | none=>none) with | some (v,H')=>k v H' | none=>False)=_
 cases cU size (eH ρ y) H<;>rfl
theorem QM {size:Nat} {x y:Operand}:eG fl lo q (.copy size x y) ρ H k=Pa (Jv lo size (eH ρ x) (eH ρ y) H) k:=rfl
theorem Ol {z:List Value} {x:Operand}:eG fl lo q (.clear z x) ρ H k=Wf (Ps lo z (eH ρ x) H) k:=Od
theorem Q0 {f:Nat} {args:List Operand}:eG fl lo q (.call f args) ρ H k=cS f (args.map (eH ρ)) (if q then H.length else lo) H k:=rfl
noncomputable def Tv (x:VV) (args:List VV) (lo:Nat) (H:aA) (k:VV→aA→Prop):Prop:=match x with
 | .vP f fR=>cS f (args++fR) lo H k
 | _=>False
theorem KA {f:Nat} {fR args:List VV}:Tv (.vP f fR) args lo H k=cS f (args++fR) lo H k:=rfl
theorem OE {fv:Operand} {args:List Operand}:eG fl lo q (.callv fv args) ρ H k=Tv (eH ρ fv) (args.map (eH ρ)) (if q then H.length else lo) H k:=by
 simp only[eG,Tv]
 all_goals (cases eH ρ fv<;>rfl)
theorem Pl {x:Operand}:eG fl lo q (.b2s x) ρ H k=Pa (vop fl lo (.b2s x) ρ H) k:=rfl
theorem Wu {f:Value→Option Value} {x:Value}:Kt f (.sc x)=(f x).map .sc:=rfl
theorem U8 {f:Value→Value→Option Value} {x y:Value}:Ik f (.sc x) (.sc y)=(f x y).map .sc:=rfl
theorem RD {t:Bool} {x y:VV}:RZ (.sc (.bool t)) x y=some (if t=true then x else y):=rfl
theorem RP {vs:List VV} {i:Nat}:ZL i (.dT vs)=vs[i]? := rfl
theorem Nv {es:List VV} {t:TK}:oF (.tree es t) H=some (.sc (.int .i64 es.length)):=rfl
theorem fP {b g o n c:Nat} {r:List VV×Nat×Bool} (h:aI H b g=some r):oF (.ref b g o n c) H=some (.sc (.int .i64 n)):=by
 simp only[oF,h,Option.map_some]
theorem RI {x:VV} {o off:Nat}:HC off (.cT x o) H=some (.cT x (o+off)):=rfl
theorem Y2 {x:VV} {o:Nat}:Yh (.cT x o) H=some (.cT x o):=rfl
theorem J4 {g:Bool} {size o:Nat} {x:VV}:bT g size (.cT x o) H=dD g size x o:=rfl
theorem PX {g:Bool} {size b gn j o:Nat} {es:List VV} {e:Nat} {w:Bool} {x:VV} (h:aI H b gn=some (es,e,w)) (hx:es[j]? = some x):bT g size (.ptr b gn j o) H=dD g size x o:=by
 simp only[bT,h,hx]
theorem Y9 {size:Nat} {v:Value}:dD false size (.sc v) 0=some (.sc v):=rfl
theorem WB {size:Nat} {es:List VV} {t:TK}:dD false size (.tree es t) 0=some (.tree es t):=rfl
theorem adK {size b g o n c:Nat}:dD false size (.ref b g o n c) 0=some (.ref b g o n c):=rfl
theorem ZW {size f:Nat} {fR:List VV}:dD false size (.vP f fR) 0=some (.vP f fR):=rfl
theorem PV {size o:Nat} {cs:List VV}:dD false size (.agg cs) o=cs[o]? := rfl
theorem abY {size:Nat} {cs:List VV} (h:cs.length=size):dD true size (.agg cs) 0=some (.agg cs):=by
 subst h
 simp[dD,aB]
theorem aaM {size:Nat} {es:List VV} {t:TK} {kk:IntKind} {i:Int} {x:VV} (h0:0≤i) (hx:es[i.toNat]? = some x) (hs:(aB x).length=size):bJ size (.tree es t) (.sc (.int kk i)) H=some (.cT x 0):=by
 simp only[bJ,h0,hx,hs,if_true]
theorem Yl {size:Nat} {es:List VV} {t:TK} {kk:IntKind} {i:Nat} {x:VV} (hx:es[i]? = some x) (hs:(aB x).length=size):bJ size (.tree es t) (.sc (.int kk (i:Int))) H=some (.cT x 0) :=
 aaM (by omega) (by simpa using hx) hs
theorem Zk {size b g o n c:Nat} {kk:IntKind} {i:Int} {es:List VV} {w:Bool} (h:aI H b g=some (es,size,w)) (h0:0≤i) (h1:i<n):bJ size (.ref b g o n c) (.sc (.int kk i)) H=some (.ptr b g (o+i.toNat) 0):=by
 simp only[bJ,h]
 rw[if_pos ⟨trivial,h0,h1⟩]
theorem W0 {size b g o n c:Nat} {kk:IntKind} {i:Nat} {es:List VV} {w:Bool} (h:aI H b g=some (es,size,w)) (h1:i<n):bJ size (.ref b g o n c) (.sc (.int kk (i:Int))) H=some (.ptr b g (o+i) 0):=by
 rw[Zk h (by omega) (by omega),Int.toNat_natCast]
abbrev TC (f:Nat) (args:List VV) (r:VV):Prop:=∀(lo:Nat) (H:aA) (k:VV→aA→Prop),cS f args lo H k=k r H
theorem TC.of {f:Nat} {args:List VV} {r:VV} (hr:Cy.contains f=false) (ha:aM args=true) (h:vT f args=some r):TC f args r:=by
 intro lo H k
 unfold cS Hj
 simp only[hr,ha,if_true,h,Bool.false_eq_true,if_false,ahJ]
theorem TC.walk {f:Nat} {pf:aR} {args:List VV} {r:VV} (fl:Fl) (ht:fS f=some pf) (hr:Cy.contains f=false) (hn:args.length≤pf.ntmps) (ha:aM args=true) (TX:gJ r=true) (h:VW fl 0 pf.body (AB pf.res fun v H=>fz depth H v=some r) (I8 args) []):TC f args r :=
 TC.of hr ha (aiM ha TX (VT.walk fl ht hn h))
theorem TC.DA {f:Nat} {args iJ:List VV} {r:VV} (h:TC f iJ r) (hr:Cy.contains f=false) (ha':aM iJ=true) (hf:args.mapM (fz depth H)=some iJ) (ha:aM args=false):cS f args lo H k=if Lb r=true then k r H else k r (dB H (args.flatMap (hC depth H))):=by
 have e:∀K,Hj f iJ K=K r:=fun K=>by
  have:=h 0 [] fun r _=>K r
  unfold cS at this
  simpa only[hr,ha',if_true,Bool.false_eq_true,if_false] using this
 unfold cS
 simp only[hr,ha,hf,Bool.false_eq_true,if_false]
 rw[e]
theorem aJ {n:Nat} {v:VV} (h:aN v=true):fz (n+1) H v=some v:=by
 unfold PM.fz
 rw[if_pos h]
theorem aF {v:VV} (h:aN v=true):fz depth H v=some v:=aJ h
theorem mapM_pure {n:Nat}:∀ {es:List VV},aM es=true→es.mapM (PM.fz (n+1) H)=some es
 | [],_=>rfl
 |
  x::xs,h=>by
  simp only[aM,Bool.and_eq_true] at h
  rw[List.mapM_cons,aJ h.1,mapM_pure h.2]
  rfl
theorem Li {b g n c e:Nat} {es:List VV} {w:Bool} (h:aI H b g=some (es,e,w)) (hn:n=es.length) (hc:n≤c) (hp:aM es=true):fz depth H (.ref b g 0 n c)=some (.tree es .op):=by
 have:aN (.ref b g 0 n c)=false:=rfl
 show fz (7+1) H _=_
 unfold PM.fz
 simp only[this,h,Bool.false_eq_true,if_false]
 subst hn
 rw[if_pos ⟨by omega,hc⟩,List.drop_zero,List.take_length,mapM_pure hp]
 rfl
theorem FE {n:Nat} {v:VV} (h:aN v=true):hC n H v=[]:=by
 cases n with
 | zero=>rfl
 | succ n=>unfold hC;rw[if_pos h]
theorem wM {n:Nat}:∀ {es:List VV},aM es=true→es.flatMap (hC n H)=[]
 | [],_=>rfl
 |
  x::xs,h=>by
  simp only[aM,Bool.and_eq_true] at h
  rw[List.flatMap_cons,FE h.1,wM h.2]
  rfl
theorem Oe {b g n c e:Nat} {es:List VV} {w:Bool} (h:aI H b g=some (es,e,w)) (hn:n=es.length) (hp:aM es=true):hC depth H (.ref b g 0 n c)=[b]:=by
 have:aN (.ref b g 0 n c)=false:=rfl
 show hC (7+1) H _=_
 unfold hC
 simp only[this,h,Bool.false_eq_true,if_false]
 subst hn
 rw[List.drop_zero,List.take_length,wM hp]
theorem Wb {r:Option VV} {K K':VV→Prop} (hk:∀v,K v→K' v) (h:tk r K):tk r K':=by
 cases r with
 | none=>exact h
 | some v=>exact hk _ h
theorem Jo {f:Nat} {args:List VV} {k k':VV→aA→Prop} (hk:∀v H,k v H→k' v H) (h:cS f args lo H k):cS f args lo H k':=by
 unfold cS at h ⊢
 split at h
 ·rename_i h1
  rw[if_pos h1]
  exact h.mono hk
 ·rename_i h1
  rw[if_neg h1]
  split at h
  ·rename_i h2
   rw[if_pos h2]
   exact Wb (fun v=>hk v H) h
  ·rename_i h2
   rw[if_neg h2]
   split at h
   ·refine Wb (fun v hv => ?_) h
    split at hv
    ·rename_i h3;rw[if_pos h3];exact hk _ _ hv
    ·rename_i h3;rw[if_neg h3];exact hk _ _ hv
   ·cases h
theorem Tn {k k':VV→aA→Prop} (hk:∀v H,k v H→k' v H) (h:eG fl lo q op ρ H k):eG fl lo q op ρ H k':=by
 unfold eG at h ⊢
 split at h
 ·exact Jo hk h
 ·split at h
  ·exact Jo hk h
  ·cases h
 ·split at h
  ·exact hk _ _ h
  ·cases h
theorem Pf {K K':dQ→aA→Prop} (hk:∀ρ H,K ρ H→K' ρ H):∀ {is:List PI} {ρ:dQ} {H:aA},VS fl lo is K ρ H→VS fl lo is K' ρ H
 | [],ρ,H,h=>hk _ _ h
 |
  i::is,ρ,H,h=>by
  unfold VS at h ⊢
  split at h
  ·cases h
  ·exact Pf hk h
  ·exact⟨h.1,Tn (fun v H' hv=>Pf hk hv) h.2⟩
theorem qH {K K':dQ→aA→Prop} {Q Q':VQ} (hk:∀ρ H,K ρ H→K' ρ H) (hq:∀x ρ H,Q x ρ H→Q' x ρ H):∀x ρ H,mZ K Q x ρ H→mZ K' Q' x ρ H
 | .normal,ρ,H,h=>hk _ _ h
 | .exit _,ρ,H,h=>hq _ _ _ h
 | .ret,ρ,H,h=>hq _ _ _ h
theorem agY {K K':dQ→aA→Prop} (hk:∀ρ H,K ρ H→K' ρ H) (h:gh K ρ H):gh K' ρ H:=by
 obtain⟨ts,bK,H',h1,h2⟩:=h
 exact⟨ts,bK,H',h1,hk _ _ h2⟩
theorem wH:∀ {c:aD} {Q Q':VQ} {ρ:dQ} {H:aA},(∀x ρ H,Q x ρ H→Q' x ρ H)→VW fl lo c Q ρ H→VW fl lo c Q' ρ H
 | .skip,_,_,_,_,hq,h=>hq _ _ _ h
 | .exit _,_,_,_,_,hq,h=>hq _ _ _ h
 | .ret,_,_,_,_,hq,h=>hq _ _ _ h
 | .dG _,_,_,_,_,hq,h=>Pf (fun ρ H=>hq .normal ρ H) h
 | .seq a b,Q,Q',_,_,hq,h=>wH (c:=a) (qH (fun ρ H h=>wH (c:=b) hq h) hq) h
 |
  .cond c a b,Q,Q',ρ,H,hq,h=>by
  unfold VW at h ⊢
  split at h
  ·split at h
   ·rename_i h1;rw[if_pos h1];exact wH (c:=a) hq h
   ·rename_i h1;rw[if_neg h1];exact wH (c:=b) hq h
  ·cases h
 |
  .block i a,Q,Q',_,_,hq,h=>by
  refine wH (c:=a) (fun x ρ H hx => ?_) h
  cases x with
  | normal=>exact hq _ _ _ hx
  | ret=>exact hq _ _ _ hx
  |
   exit j =>
   rw[C6] at hx ⊢
   split at hx
   ·rename_i h1;rw[if_pos h1];exact hq _ _ _ hx
   ·rename_i h1;rw[if_neg h1];exact hq _ _ _ hx
 |
  .loop a,Q,Q',ρ,H,hq,h=>by
  obtain⟨n,h⟩:=h
  refine⟨n,?_⟩
  induction n generalizing ρ H with
  | zero=>cases h
  |
   succ n ih =>
   refine wH (c:=a) (qH (fun ρ H h => ?_) fun x ρ H h=>agY (hq x) h) h
   rcases h with h | ⟨h1,h2⟩
   ·exact .inl (ih _ _ h)
   ·exact .inr ⟨h1,ih _ _ h2⟩
theorem ajI {K:dQ→aA→Prop} (h:K ρ H):gh K ρ H:=⟨[],ρ,H,rfl,h⟩
theorem Ri {α:Type} {c:aD} (I:α→dQ→aA→Prop) (μ:α→Nat) (s:α) (h0:I s ρ H)
  (round:∀s ρ H,I s ρ H→VW fl lo c (mZ (fun bK H'=>∃s',μ s'<μ s∧(I s' bK H'∨(kJ H.length (H'.take H.length)=true∧I s' (HB H.length bK) (H'.take H.length)))) (fun x=>gh (Q x))) ρ H):VW fl lo (.loop c) Q ρ H:=by
 refine⟨μ s+1,?_⟩
 have key:∀n s ρ H,μ s<n→I s ρ H→Sq (VW fl lo c) (fun x=>gh (Q x)) n ρ H:=by
  intro n
  induction n with
  | zero=>intro s ρ H h;omega
  |
   succ n ih =>
   intro s ρ H hn hI
   refine wH (qH (fun bK H' h => ?_) fun x ρ H h=>h) (round s ρ H hI)
   obtain⟨s',h1,h2 | ⟨h2,h3⟩⟩:=h
   ·exact .inl (ih s' _ _ (by omega) h2)
   ·exact .inr ⟨h2,ih s' _ _ (by omega) h3⟩
 exact key _ s ρ H (Nat.lt_succ_self _) h0
theorem aT {α:Type} {c:aD} (I:α→dQ→aA→Prop) (μ:α→Nat) (s:α) (h0:I s ρ H)
  (round:∀s ρ H,I s ρ H→VW fl lo c (mZ (fun bK H'=>∃s',μ s'<μ s∧I s' bK H') Q) ρ H):VW fl lo (.loop c) Q ρ H :=
 Ri I μ s h0 fun s ρ H h=>wH (qH (fun _ _ ⟨s',h1,h2⟩=>⟨s',h1,.inl h2⟩) fun _ _ _ h=>ajI h) (round s ρ H h)
theorem QF {α:Type} {c:aD} (I:α→dQ→aA→Prop) (μ:α→Nat) (s:α) (h0:I s ρ H)
  (round:∀s ρ H,I s ρ H→VW fl lo c (mZ (fun bK H'=>∃s',μ s'<μ s∧kJ H.length (H'.take H.length)=true∧I s' (HB H.length bK) (H'.take H.length)) Q) ρ H):VW fl lo (.loop c) Q ρ H :=
 Ri I μ s h0 fun s ρ H h=>wH (qH (fun _ _ ⟨s',h1,h2⟩=>⟨s',h1,.inr h2⟩) fun _ _ _ h=>ajI h) (round s ρ H h)
theorem Mu {n:Nat} {v:VV} (h:below n v=true):Js n v=v:=by
 unfold Js
 rw[if_pos h]
mutual
theorem Ff {n:Nat} (v:VV) (h:aN v=true):below n v=true:=by
 cases v with
 | any=>rfl
 | sc=>rfl
 | agg cs=>exact oG cs h
 | dT cs=>exact oG cs h
 | tree es t=>exact oG es (Hr h).2.1
 | cT x o=>exact Ff x h
 | ref=>cases h
 | ptr=>cases h
 | vP f fR=>exact oG fR h
theorem oG {n:Nat} (vs:List VV) (h:aM vs=true):lO n vs=true:=by
 cases vs with
 | nil=>rfl
 |
  cons x xs =>
  simp only[aM,Bool.and_eq_true] at h
  simp only[lO,Ff x h.1,oG xs h.2,Bool.and_self]
end
end
end Go.PM
namespace Go.PM
def val (b:Nat):List Nat→Nat
 | []=>0
 | d::ds=>d+b*val b ds
def aC (b n:Nat):List Nat:=if h:n=0∨b<2 then [] else n % b::aC b (n / b)
termination_by n
decreasing_by exact Nat.div_lt_self (by omega) (by omega)
section
variable {b:Nat}
theorem cC:aC b 0=[]:=by rw[aC];simp
theorem iW (hb:2≤b) {n:Nat} (hn:n≠0):aC b n=n % b::aC b (n / b):=by rw[aC,dif_neg (by omega)]
theorem sO {d:Nat} {ds:List Nat}:val b (d::ds)=d+b*val b ds:=rfl
theorem yF (xs ys:List Nat):val b (xs++ys)=val b xs+b^xs.length*val b ys:=by
 induction xs with
 | nil=>simp[val]
 |
  cons x xs ih =>
  simp only[List.cons_append,sO,ih,List.length_cons,Nat.pow_succ]
  rw[Nat.mul_add,Nat.mul_comm (b^xs.length) b,Nat.mul_assoc,Nat.add_assoc]
theorem val_one (d:Nat):val b [d]=d:=by simp[val]
theorem sQ (xs:List Nat) (d:Nat):val b (xs++[d])=val b xs+b^xs.length*d:=by rw[yF,val_one]
theorem qV (n:Nat):val b (List.replicate n 0)=0:=by
 induction n with
 | zero=>rfl
 | succ n ih=>simp[List.replicate_succ,val,ih]
theorem oI {xs:List Nat} (h:∀d∈xs,d<b):val b xs<b^xs.length:=by
 induction xs with
 | nil=>simp[val]
 |
  cons x xs ih =>
  have h1:=h x List.mem_cons_self
  have h2:=ih fun d hd=>h d (List.mem_cons_of_mem _ hd)
  simp only[sO,List.length_cons,Nat.pow_succ]
  have h3:b*(val b xs+1)≤b*b^xs.length:=Nat.mul_le_mul_left _ h2
  rw[Nat.mul_add,Nat.mul_one] at h3
  rw[Nat.mul_comm (b^xs.length) b]
  omega
theorem cI (hb:2≤b) (n:Nat):val b (aC b n)=n:=by
 induction n using Nat.strongRecOn with
 |
  _ n ih =>
  by_cases h:n=0
  ·subst h;rw[cC];rfl
  ·rw[iW hb h,sO,ih _ (Nat.div_lt_self (by omega) (by omega))]
   exact Nat.mod_add_div n b
theorem fE (hb:2≤b) (n:Nat):∀d∈aC b n,d<b:=by
 induction n using Nat.strongRecOn with
 |
  _ n ih =>
  by_cases h:n=0
  ·subst h;rw[cC];intro d hd;cases hd
  ·rw[iW hb h]
   intro d hd
   rcases List.mem_cons.1 hd with rfl | hd
   ·exact Nat.mod_lt _ (by omega)
   ·exact ih _ (Nat.div_lt_self (by omega) (by omega)) d hd
theorem lQ (hb:2≤b) {n:Nat}:aC b n=[]↔n=0:=by
 constructor
 ·intro h
  have:=cI hb n
  rw[h] at this
  exact this.symm
 ·rintro rfl;exact cC
theorem OA (hb:2≤b) (n:Nat):(aC b n).getLast? ≠ some 0:=by
 induction n using Nat.strongRecOn with
 |
  _ n ih =>
  by_cases h:n=0
  ·subst h;rw[cC];simp
  ·rw[iW hb h]
   have h1:=ih _ (Nat.div_lt_self (n:=n) (k:=b) (by omega) (by omega))
   by_cases h2:n / b=0
   ·rw[h2,cC]
    have:n<b:=by
     rcases Nat.div_eq_zero_iff.1 h2 with h | h<;>omega
    simp[Nat.mod_eq_of_lt this,h]
   ·have fC:aC b (n / b)≠[]:=fun h=>h2 ((lQ hb).1 h)
    obtain⟨x,xs,hx⟩:=List.exists_cons_of_ne_nil fC
    rw[hx] at h1 ⊢
    rw[List.getLast?_cons_cons]
    exact h1
theorem KT (hb:2≤b) {xs:List Nat} (h:∀d∈xs,d<b) (hl:xs.getLast? ≠ some 0):aC b (val b xs)=xs:=by
 induction xs with
 | nil=>exact cC
 |
  cons x xs ih =>
  have h1:=h x List.mem_cons_self
  have hr:(x+b*val b xs) % b=x:=by rw[Nat.add_mul_mod_self_left,Nat.mod_eq_of_lt h1]
  have hq:(x+b*val b xs) / b=val b xs:=by rw[Nat.add_mul_div_left _ _ (by omega),Nat.div_eq_of_lt h1,Nat.zero_add]
  cases xs with
  |
   nil =>
   have hx:x≠0:=by rintro rfl;simp at hl
   rw[val_one,iW hb hx,Nat.mod_eq_of_lt h1,Nat.div_eq_of_lt h1,cC]
  |
   cons y ys =>
   rw[List.getLast?_cons_cons] at hl
   have h2:=ih (fun d hd=>h d (List.mem_cons_of_mem _ hd)) hl
   have h3:val b (y::ys)≠0:=fun h0=>by rw[h0,cC] at h2;cases h2
   have h4:b*val b (y::ys)≠0:=Nat.mul_ne_zero (by omega) h3
   rw[sO,iW hb (by omega),hr,hq,h2]
theorem Kj (hb:2≤b) {n:Nat} (hn:n≠0):b^((aC b n).length-1)≤n:=by
 induction n using Nat.strongRecOn with
 |
  _ n ih =>
  rw[iW hb hn]
  by_cases h2:n / b=0
  ·rw[h2,cC];simp;omega
  ·have h3:=ih _ (Nat.div_lt_self (by omega) (by omega)) h2
   have fC:aC b (n / b)≠[]:=fun h=>h2 ((lQ hb).1 h)
   obtain⟨x,xs,hx⟩:=List.exists_cons_of_ne_nil fC
   rw[hx] at h3 ⊢
   simp only[List.length_cons,Nat.add_sub_cancel] at h3 ⊢
   rw[Nat.pow_succ]
   calc b^xs.length*b≤n / b*b:=Nat.mul_le_mul_right _ h3
    _≤n:=Nat.div_mul_le_self n b
theorem gL (hb:2≤b) (n:Nat):n<b^(aC b n).length:=by
 have:=oI (fE hb n)
 rwa [cI hb] at this
theorem lX (hb:2≤b) {n k:Nat} (h:n<b^k):(aC b n).length≤k:=by
 by_cases hn:n=0
 ·subst hn;rw[cC];simp
 ·have h1:=Kj hb hn
  have h2:b^((aC b n).length-1)<b^k:=Nat.lt_of_le_of_lt h1 h
  have h3:(aC b n).length-1<k:=(Nat.pow_lt_pow_iff_right (by omega)).1 h2
  have fC:aC b n≠[]:=fun h=>hn ((lQ hb).1 h)
  have:=List.length_pos_iff.2 fC
  omega
theorem dX (hb:2≤b) {m n:Nat} (h:m≤n):(aC b m).length≤(aC b n).length :=
 lX hb (Nat.lt_of_le_of_lt h (gL hb n))
theorem pE (xs:List Nat) (i:Nat):val b xs=val b (xs.take i)+b^(xs.take i).length*val b (xs.drop i):=by
 rw[←yF,List.take_append_drop]
theorem bD {xs:List Nat} {i d:Nat} (h:xs[i]? = some d):val b (xs.take (i+1))=val b (xs.take i)+b^i*d:=by
 have bI:=(List.getElem?_eq_some_iff.1 h).1
 rw[List.take_add_one,h]
 simp only[Option.toList_some]
 rw[sQ,List.length_take,Nat.min_eq_left (by omega)]
theorem sH {xs:List Nat} {i d:Nat} (h:xs[i]? = some d):val b (xs.drop i)=d+b*val b (xs.drop (i+1)):=by
 obtain⟨bI,he⟩:=List.getElem?_eq_some_iff.1 h
 rw[List.drop_eq_getElem_cons bI,he,sO]
theorem E9 {P A B O c x y s q r W:Nat} (h:A+B=O+P*c) (hs:c+x+y=s) (hr:r+W*q=s):(A+P*x)+(B+P*y)=(O+P*r)+(P*W)*q:=by grind
theorem Jp {P A B O l x y r W l':Nat} (h:A+P*l=O+B) (hd:r+y+l=x+W*l'):(A+P*x)+(P*W)*l'=(O+P*r)+(B+P*y):=by grind
theorem acQ {xs:List Nat} {i d:Nat} (h:i<xs.length):(xs.set i d).take (i+1)=xs.take i++[d]:=by
 rw[List.set_eq_take_append_cons_drop,if_pos h,List.take_append]
 simp[List.take_take,Nat.min_eq_left (by omega:i≤xs.length),Nat.min_eq_right (by omega:i≤i+1)]
theorem eK {xs:List Nat} {i d:Nat} (h:i<xs.length):val b ((xs.set i d).take (i+1))=val b (xs.take i)+b^i*d:=by
 rw[acQ h,sQ,List.length_take,Nat.min_eq_left (by omega)]
theorem lS {xs:List Nat} {i d:Nat} (h:∀x∈xs,x<b) (hd:d<b):∀x∈xs.set i d,x<b:=by
 intro x hx
 rcases List.mem_or_eq_of_mem_set hx with h1 | h1
 ·exact h x h1
 ·subst h1;exact hd
theorem jF {xs:List Nat} {i:Nat} (h:xs.length≤i):val b (xs.take i)=val b xs:=by rw[List.take_of_length_le h]
theorem Ah (hb:0<b) (n:Nat):∀x∈List.replicate n 0,x<b:=by
 intro x hx
 rw[List.eq_of_mem_replicate hx]
 exact hb
theorem XW {P x y R t:Nat} (ht:t<P) (h:x<y):t+P*(x+R)<P*(y+R):=by
 have h1:P*(x+R+1)≤P*(y+R):=Nat.mul_le_mul_left _ (by omega)
 rw[Nat.mul_add,Nat.mul_one] at h1
 omega
theorem DL {xs ys:List Nat} {i x y:Nat} (hx:∀d∈xs,d<b) (hl:xs.length=ys.length) (hi:xs[i]? = some x) (hj:ys[i]? = some y) (hd:xs.drop (i+1)=ys.drop (i+1)) (h:x<y):val b xs<val b ys:=by
 have h1:=(List.getElem?_eq_some_iff.1 hi).1
 have ht:(xs.take i).length=i:=by simp;omega
 have ht':(ys.take i).length=i:=by simp;omega
 have h2:=oI (b:=b) (xs:=xs.take i) fun d hd=>hx d (List.mem_of_mem_take hd)
 rw[ht] at h2
 rw[pE xs i,pE ys i,ht,ht',sH hi,sH hj,hd]
 have:=XW (R:=b*val b (ys.drop (i+1))) h2 h
 omega
theorem Sm (hb:2≤b) {m n:Nat} (h:aC b m=aC b n):m=n:=by
 have:=congrArg (val b) h
 rwa [cI hb,cI hb] at this
def eW (a b:Nat):Int:=if a<b then -1 else if a=b then 0 else 1
theorem DG (hb:2≤b) {m n:Nat} (h:(aC b m).length<(aC b n).length):m<n:=by
 rcases Nat.lt_or_ge m n with h1 | h1
 ·exact h1
 ·have:=dX hb h1
  omega
end
end Go.PM
namespace Go.PM
abbrev VI (n:Int):VV := .sc (.int .i64 n)
abbrev VK (k:IntKind) (n:Int):VV := .sc (.int k n)
abbrev VB (t:Bool):VV := .sc (.bool t)
abbrev aS {α:Type} (f:α→VV) (xs:List α):VV := .tree (xs.map f) .op
section
variable {α:Type} {f:α→VV} {xs ys:List α} {x:α} {t:TK} {H:aA} {size i:Nat} {k:IntKind}
theorem dV:oF (.tree (xs.map f) t) H=some (VI xs.length):=by simp[oF]
theorem aK (hx:xs[i]? = some x) (hs:(aB (f x)).length=size):bJ size (.tree (xs.map f) t) (VK k (i:Int)) H=some (.cT (f x) 0) :=
 Yl (by simp[hx]) hs
theorem R1 (hs:∀x,(aB (f x)).length=size):∀y∈xs.map f,(aB y).length=size:=by
 intro y hy
 obtain⟨x,_,rfl⟩:=List.mem_map.1 hy
 exact hs x
theorem gQ (hp:∀x,aN (f x)=true):aM (xs.map f)=true:=by
 rw[A7]
 intro y hy
 obtain⟨x,_,rfl⟩:=List.mem_map.1 hy
 exact hp x
theorem afR (hp:∀x,gJ (f x)=true):qE (xs.map f)=true:=by
 rw[LR]
 intro y hy
 obtain⟨x,_,rfl⟩:=List.mem_map.1 hy
 exact hp x
theorem Va {size:Nat} (hs:∀x,(aB (f x)).length=size):uni (xs.map f)=true:=by
 cases xs with
 | nil=>rfl
 |
  cons x xs =>
  simp only[List.map_cons,uni,List.all_eq_true]
  intro y hy
  obtain⟨z,_,rfl⟩:=List.mem_map.1 hy
  simp[hs]
theorem lT {size:Nat} (hs:∀x,(aB (f x)).length=size) (hp:∀x,aN (f x)=true):aN (aS f xs)=true:=by
 simp only[aS,aN,gQ hp,Va hs,decide_true,Bool.and_self]
theorem xZ {size:Nat} (hs:∀x,(aB (f x)).length=size) (hp:∀x,gJ (f x)=true) (he:∀x,Aa (f x)=true):gJ (aS f xs)=true:=by
 have h4:(xs.map f).all Aa=true:=by
  rw[List.all_eq_true]
  intro y hy
  obtain⟨z,_,rfl⟩:=List.mem_map.1 hy
  exact he z
 simp only[aS,gJ,afR hp,Va hs,h4,decide_true,Bool.and_self]
theorem agQ {es:List VV} {h:Nat} (fC:0<es.length) (hs:∀x∈es,(aB x).length=size) (hh:h≤es.length) {k2:IntKind} :
  Fi size (.tree es t) none (some (VK k2 h)) none H=some (.tree (es.take h) .op):=by
 cases es with
 | nil=>simp at fC
 |
  cons y ys =>
  have hy:=hs y List.mem_cons_self
  simp only[List.length_cons] at hh
  have e1:(0:Int)≤h∧(h:Int)≤((ys.length+1:Nat):Int):=by omega
  simp only[Fi,FG,hy,if_true,eR,e1,Int.toNat_natCast,Option.isSome_none,Bool.false_eq_true,false_and,if_false]
  simp
theorem RH (h:0<xs.length):0<(xs.map f).length:=by simpa using h
theorem aaK {b g o n c:Nat} {es:List VV} {w:Bool} {l h:Nat} (hr:aI H b g=some (es,size,w)) (hl:l≤h) (hh:h≤c) {k1 k2:IntKind} :
  Fi size (.ref b g o n c) (some (VK k1 l)) (some (VK k2 h)) none H=some (.ref b g (o+l) (h-l) (c-l)):=by
 have e1:(0:Int)≤h∧(h:Int)≤(c:Int):=by omega
 have e2:(0:Int)≤l∧(l:Int)≤(h:Int):=by omega
 simp only[Fi,FG,hr,if_true,eR,e1,e2,Int.toNat_natCast,Option.isSome_none,Bool.false_eq_true,false_and,if_false]
 simp[hl]
theorem IX {b g o n c:Nat} {es:List VV} {w:Bool} {h:Nat} (hr:aI H b g=some (es,size,w)) (hh:h≤c) {k2:IntKind} :
  Fi size (.ref b g o n c) none (some (VK k2 h)) none H=some (.ref b g o h c):=by
 have e1:(0:Int)≤h∧(h:Int)≤(c:Int):=by omega
 simp only[Fi,FG,hr,if_true,eR,e1,Int.toNat_natCast,Option.isSome_none,Bool.false_eq_true,false_and,if_false]
 simp
theorem Np {b g o n c:Nat} {es:List VV} {w:Bool} {l:Nat} (hr:aI H b g=some (es,size,w)) (hl:l≤n) (hn:n≤c) {k1:IntKind} :
  Fi size (.ref b g o n c) (some (VK k1 l)) none none H=some (.ref b g (o+l) (n-l) (c-l)):=by
 have e2:(0:Int)≤l∧(l:Int)≤(n:Int):=by omega
 simp only[Fi,FG,hr,if_true,eR,e2,Int.toNat_natCast,Option.isSome_none,Bool.false_eq_true,false_and,if_false]
 simp
theorem Jh {h:Nat} (hs:∀x,(aB (f x)).length=size) (fC:0<xs.length) (hh:h≤xs.length) {k2:IntKind} :
  Fi size (.tree (xs.map f) t) none (some (VK k2 h)) none H=some (aS f (xs.take h)):=by
 rw[agQ (RH fC) (R1 hs) (by simpa using hh)]
 simp[aS]
theorem abN {b g e:Nat} {es:List VV} {w:Bool} {L K:aA} (h:b=L.length):aI (L ++ .row g es e w::K) b g=some (es,e,w):=by
 subst h
 simp[aI]
theorem bA {g e:Nat} {es:List VV} {w:Bool} {K:aA}:aI (.row g es e w::K) 0 g=some (es,e,w):=by simp[aI]
theorem nC {n:Nat}:(n=n+1)=False:=eq_false fun h=>by omega
theorem aaR {g g' e:Nat} {es:List VV} {w:Bool} {K:aA} (h:g'≠g):aI (.row g' es e w::K) 0 g=none:=by simp[aI,h]
theorem kZ {g e:Nat} {es:List VV} {w:Bool} {K:aA}:aI (.row (g+1) es e w::K) 0 g=none:=aaR (Nat.succ_ne_self g)
theorem lP {b g:Nat} {x:cN} {K:aA}:aI (x::K) (b+1) g=aI K b g:=by simp[aI]
theorem bE {b g o n c e:Nat} {es:List VV} {w:Bool} (h:aI H b g=some (es,e,w)) (hi:i<n):bJ e (.ref b g o n c) (VK k (i:Int)) H=some (.ptr b g (o+i) 0):=W0 h hi
theorem bX {b g j e lo:Nat} {es:List VV} {v:VV} (h:aI H b g=some (es,e,true)) (hj:j<es.length) (dK:lo≤b) (hv:(aB v).length=e) (hs:(aB v).all bO=true):bR lo e (.ptr b g j 0) v H=some (H.set b (.row g (es.set j v) e true)):=by
 obtain⟨x,hx⟩:∃x,es[j]? = some x:=⟨_,List.getElem?_eq_getElem hj⟩
 simp only[bR,h,hx]
 rw[if_pos ⟨hv,dK,hs⟩,if_pos ⟨trivial,trivial⟩]
theorem tY {z:List Value} {bytes n:Nat} (hz:elemOf (z.map jD)=f x) (hn:n*bytes≤281474976710656) (hm:n≤9223372036854775807):AK z bytes (VI n) (VI n) H=some (.ref H.length 0 0 n n,H++[.row 0 ((List.replicate n x).map f) z.length true]):=by
 simp only[AK]
 rw[if_pos ⟨by omega,by omega,by omega,by omega⟩,hz]
 simp
theorem pL {ag w:Bool} {b gn e j o:Nat} (h:aI H b gn=some (xs.map f,e,w)) (hx:xs[j]? = some x):bT ag size (.ptr b gn j o) H=dD ag size (f x) o :=
 PX h (by simp[hx])
theorem fI {b g j e lo:Nat} (h:aI H b g=some (xs.map f,e,true)) (hj:j<xs.length) (dK:lo≤b) (hv:(aB (f x)).length=e) (hs:(aB (f x)).all bO=true):bR lo e (.ptr b g j 0) (f x) H=some (H.set b (.row g ((xs.set j x).map f) e true)):=by
 rw[bX h (by simpa using hj) dK hv hs,List.map_set]
theorem Vo {b gn n c e:Nat} {es:List VV} {w:Bool} (h:aI H b gn=some (es,e,w)) (hn:n≤es.length) (hc:n≤c) (hp:aM es=true):fz depth H (.ref b gn 0 n c)=some (.tree (es.take n) .op):=by
 have:aN (.ref b gn 0 n c)=false:=rfl
 show fz (7+1) H _=_
 unfold fz
 simp only[this,h,Bool.false_eq_true,if_false]
 have Cs:aM (es.take n)=true:=A7.2 fun x hx=>A7.1 hp x (List.mem_of_mem_take hx)
 rw[if_pos ⟨by omega,hc⟩,List.drop_zero,mapM_pure Cs]
 rfl
theorem TC.flat {fn:Nat} {args iJ:List VV} {r:VV} (h:TC fn iJ r) (yG:Cy.contains fn=false) (ha':aM iJ=true) (hf:args.mapM (fz depth H)=some iJ) (hr:Lb r=true) :
  ∀(lo:Nat) (K:VV→aA→Prop),cS fn args lo H K=K r H:=by
 intro lo K
 cases hp:aM args with
 |
  true =>
  have:=mapM_pure (n:=7) (H:=H) hp
  rw[show fz depth H=fz (7+1) H from rfl,this] at hf
  cases hf
  exact h lo H K
 | false=>rw[h.DA yG ha' hf hp,hr,if_pos rfl]
theorem fz1 {v v':VV} (h:fz depth H v=some v'):[v].mapM (fz depth H)=some [v']:=by rw[List.mapM_cons,h];rfl
theorem fz2 {v v' u u':VV} (h:fz depth H v=some v') (hu:fz depth H u=some u'):[v,u].mapM (fz depth H)=some [v',u']:=by rw[List.mapM_cons,h,fz1 hu];rfl
theorem TC.aeV {fn b gn n c e size:Nat} {w:Bool} {r:VV} (h:TC fn [aS f xs] r) (hr:aI H b gn=some (xs.map f,e,w)) (hn:n=xs.length) (hc:n≤c) (hs:∀x,(aB (f x)).length=size) (hp:∀x,aN (f x)=true) (yG:Cy.contains fn=false) (hf:Lb r=false) :
  ∀(lo:Nat) (K:VV→aA→Prop),cS fn [.ref b gn 0 n c] lo H K=K r (dB H [b]):=by
 intro lo K
 have e1:fz depth H (.ref b gn 0 n c)=some (aS f xs):=Li hr (by simpa using hn) hc (gQ hp)
 have e2:hC depth H (.ref b gn 0 n c)=[b]:=Oe hr (by simpa using hn) (gQ hp)
 have e3:[VV.ref b gn 0 n c].mapM (fz depth H)=some [aS f xs]:=by rw[List.mapM_cons,e1];rfl
 rw[h.DA yG (by simp only[aM,lT hs hp,Bool.and_self]) e3 rfl,hf]
 simp only[Bool.false_eq_true,if_false,List.flatMap_cons,List.flatMap_nil,e2,List.append_nil]
theorem ajP {es:List VV} {e:Nat} (hp:aM es=true):fz depth H (.tree es (.cl e))=some (.tree es .op):=by
 show fz (7+1) H _=_
 unfold fz
 have:aN (.tree es (.cl e))=false:=by simp[aN]
 simp only[this,Bool.false_eq_true,if_false,mapM_pure hp]
 rfl
theorem YO {es:List VV} {e:Nat} (hp:aM es=true):hC depth H (.tree es (.cl e))=[]:=by
 show hC (7+1) H _=_
 unfold hC
 have:aN (.tree es (.cl e))=false:=by simp[aN]
 simp only[this,Bool.false_eq_true,if_false,wM hp]
theorem TY:fz depth H (.tree [] .nil)=some (.tree [] .op):=by
 show fz (7+1) H _=_
 unfold fz
 have:aN (.tree [] .nil)=false:=by simp[aN]
 simp only[this,Bool.false_eq_true,if_false]
 rfl
theorem TC.args {fn:Nat} {args iJ:List VV} {r:VV} (h:TC fn iJ r) (yG:Cy.contains fn=false) (ha':aM iJ=true) (hf:args.mapM (fz depth H)=some iJ) (hi:args.flatMap (hC depth H)=[]) :
  ∀(lo:Nat) (K:VV→aA→Prop),cS fn args lo H K=K r H:=by
 intro lo K
 cases hp:aM args with
 |
  true =>
  have:=mapM_pure (n:=7) (H:=H) hp
  rw[show fz depth H=fz (7+1) H from rfl,this] at hf
  cases hf
  exact h lo H K
 |
  false =>
  rw[h.DA yG ha' hf hp,hi]
  split<;>rfl
theorem iH {lr:Bool} {z:List Value} (hz:(z.map jD).all bO=true):jE lr z 0 [] H=some (.ref H.length 0 0 0 0,H++[.row 0 [] z.length true]):=by
 simp[jE,uG,hz]
theorem fZ {z:List Value} {v:VV} (hz:(z.map jD).all bO=true) (hv:(aB v).length=z.length) (hs:(aB v).all bO=true):jE false z 1 [(0,v)] H=some (.tree [v] (.cl z.length),H):=by
 simp only[jE,uG,List.replicate_succ,List.replicate_zero,List.length_cons,List.length_nil,hv,hs,and_self,if_true,List.set_cons_zero,hz]
 simp[hs]
theorem Zs {z:List Value} {u v:VV} (hz:(z.map jD).all bO=true) (hu:(aB u).length=z.length) (hus:(aB u).all bO=true) (hv:(aB v).length=z.length) (hs:(aB v).all bO=true):jE false z 2 [(0,u),(1,v)] H=some (.tree [u,v] (.cl z.length),H):=by
 simp[jE,uG,hv,hs,hu,hus,hz,List.replicate_succ]
end
theorem wrap32 (n:Nat):IntKind.u32.wrap (n:Int)=((n % 4294967296:Nat):Int):=by rw[IntKind.wrap_u32];omega
theorem wrap_u64 (n:Int):IntKind.u64.wrap n=n % 18446744073709551616:=by simp[IntKind.wrap,IntKind.bits,IntKind.signed]
theorem dW (n:Nat) (h:n<18446744073709551616):IntKind.u64.wrap (n:Int)=(n:Int):=by rw[wrap_u64];omega
theorem wrapN {x:Int} (n:Nat) (h:x=n) (hn:n≤9223372036854775807):IntKind.i64.wrap x=(n:Int):=by subst h;exact wrap64 (by omega) (by omega)
theorem nP (n:Nat) (k:IntKind):dJ .shr (.int .u64 (n:Int)) (.int k 32)=some (.int .u64 ((n / 4294967296:Nat):Int)):=by
 simp only[dJ]
 have h1:¬((32:Int)<0):=by decide
 have h2:Nat.min (Int.toNat 32) IntKind.u64.bits=32:=by decide
 rw[if_neg h1,h2]
 congr 2
 rw[Int.fdiv_eq_ediv_of_nonneg _ (by decide)]
 omega
theorem DM (n:Nat) (k:IntKind) (h:n<4294967296):dJ .shl (.int .u64 (n:Int)) (.int k 32)=some (.int .u64 ((n*4294967296:Nat):Int)):=by
 simp only[dJ]
 have h1:¬((32:Int)<0):=by decide
 have h2:Nat.min (Int.toNat 32) IntKind.u64.bits=32:=by decide
 rw[if_neg h1,h2]
 congr 2
 have:(n:Int)*2^32=((n*4294967296:Nat):Int):=by omega
 rw[this]
 exact dW _ (by omega)
section
variable {n k g:Nat} {K:aA} {x y:cN}
theorem BF:aI (List.replicate n cN.dead++K) n g=aI K 0 g:=by
 unfold aI
 rw[List.getElem?_append_right (by simp)]
 simp
theorem D2:aI (List.replicate n cN.dead++K) (n+k) g=aI K k g:=by
 unfold aI
 rw[List.getElem?_append_right (by simp)]
 simp
theorem Br:(List.replicate n cN.dead++K).set n y=List.replicate n cN.dead++K.set 0 y:=by
 rw[List.set_append_right _ _ (by simp)]
 simp
theorem UP:(List.replicate n cN.dead++K).set (n+k) y=List.replicate n cN.dead++K.set k y:=by
 rw[List.set_append_right _ _ (by simp)]
 simp
theorem EY:(List.replicate n cN.dead++K).length=n+K.length:=by simp
theorem afT:kJ k (List.replicate n cN.dead++K)=kJ k K:=by
 induction n with
 | zero=>rfl
 | succ n ih=>rw[List.replicate_succ,List.cons_append,←ih];rfl
end
theorem DX {k g e:Nat} {es:List VV} {w:Bool} {K:aA} (h:lO k es=true):kJ k (.row g es e w::K)=kJ k K:=by
 unfold kJ
 rw[List.all_cons]
 simp only[h,Bool.true_and]
theorem Oy {k:Nat}:kJ k []=true:=rfl
theorem dP {size:Nat} {v:VV} {t:TK} {H:aA} (h:(aB v).length=size) (hs:(aB v).all bO=true):cU size (.tree [v] t) H=some [v]:=by
 simp[cU,h,hs]
theorem iE {α:Type} {f:α→VV} {xs:List α} {x:α} {lo b g n e bytes:Nat} {H:aA} (h:aI H b g=some (xs.map f,e,true)) (hn:n=xs.length) (dK:lo≤b) (he:1≤e) (hb:1≤bytes) (Bj:(n+1)*bytes≤140737488355328) :
  eI lo e bytes (.ref b g 0 n n) [f x] H=some (.ref b (g+1) 0 (n+1) (n+1),H.set b (.row (g+1) ((xs++[x]).map f) e true)):=by
 subst hn
 simp only[eI,h,List.length_cons,List.length_nil,Nat.zero_add]
 rw[if_pos ⟨hb,he⟩,if_pos ⟨trivial,dK,by simp⟩,if_neg (by omega),if_pos Bj,List.drop_zero,List.take_of_length_le (by simp)]
 simp
section
variable {H:aA} {b g o n c j lo size:Nat} {neg ag:Bool} {k:IntKind} {i:Int} {v:VV}
theorem bQ:bT ag size (.ptr b g j o) H=(match aI H b g with
 |
  some (es,_,_)=>match es[j]? with
  | some x=>dD ag size x o
  | none=>none
 | none=>none):=rfl
theorem Ja:bR lo size (.ptr b g j o) v H=(match aI H b g with
 |
  some (es,e,true)=>match es[j]? with
  |
   some x =>
   if (aB v).length=size∧lo≤b∧(aB v).all bO then
    if o=0∧size=e then some (H.set b (.row g (es.set j v) e true))
    else if 2≤e∧o+size≤e then some (H.set b (.row g (es.set j (.agg (cW (aB x) o (aB v)))) e true))
    else none
   else none
  | none=>none
 | _=>none):=rfl
theorem OF:oF (.ref b g o n c) H=(aI H b g).map fun _ => .sc (.int .i64 n):=rfl
theorem zD:HC size (.ptr b g j o) H=(aI H b g).map fun _ => .ptr b g j (o+size):=rfl
theorem N3:Yh (.ptr b g j o) H=(aI H b g).map fun _ => .ptr b g j o:=rfl
theorem Ji:Fc neg (.ref b g o n c) H=(aI H b g).map fun _ => .sc (.bool (false != neg)):=rfl
theorem Ly:Fc neg (.tree [] .nil) H=some (.sc (.bool (true != neg))):=rfl
theorem Jx {x:VV} {xs:List VV} {t:TK}:Fc neg (.tree (x::xs) t) H=some (.sc (.bool (false != neg))):=rfl
theorem I5:bJ size (.ref b g o n c) (.sc (.int k i)) H=(match aI H b g with
 | some (_,e,_)=>if e=size∧0≤i∧i<n then some (.ptr b g (o+i.toNat) 0) else none
 | none=>none):=rfl
end
theorem F8 {v:Value}:isAny (.sc v)=false:=rfl
theorem BQ {es:List VV} {t:TK}:isAny (.tree es t)=false:=rfl
theorem DO {b g o n c:Nat}:isAny (.ref b g o n c)=false:=rfl
theorem DT {cs:List VV}:isAny (.agg cs)=false:=rfl
theorem NO {f:Nat} {cs:List VV}:isAny (.vP f cs)=false:=rfl
theorem gE {x:VV}:elemOf [x]=x:=rfl
theorem BG {x y:VV} {cs:List VV}:elemOf (x::y::cs) = .agg (x::y::cs):=rfl
theorem Bs {k t:Nat} {ρ:dQ}:HB k ρ t=Js k (ρ t):=rfl
theorem QN {k:Nat} {v:Value}:Js k (.sc v) = .sc v:=rfl
theorem F7 {k:Nat} {v:VV} (h:aN v=true):Js k v=v:=Mu (Ff v h)
theorem Ob {k b g o n c:Nat} (h:b<k):Js k (.ref b g o n c) = .ref b g o n c:=Mu (by simp[below,h])
theorem RF {v:Value}:bO (.sc v)=true:=rfl
theorem KE {es:List VV} {t:TK}:bO (.tree es t)=true:=rfl
theorem Nw {b g o n c:Nat}:bO (.ref b g o n c)=true:=rfl
theorem NM {b g o n:Nat}:bO (.ptr b g o n)=true:=rfl
theorem Ky {x:VV} {o:Nat}:bO (.cT x o)=true:=rfl
theorem Of {f:Nat} {cs:List VV}:bO (.vP f cs)=true:=rfl
theorem Nz {v:Value}:aB (.sc v)=[.sc v]:=rfl
theorem Fb {cs:List VV}:aB (.agg cs)=cs:=rfl
theorem Jl {es:List VV} {t:TK}:aB (.tree es t)=[.tree es t]:=rfl
theorem ME {b g o n c:Nat}:aB (.ref b g o n c)=[.ref b g o n c]:=rfl
theorem QR {k k':IntKind} {n:Int}:Ts k (.int k' n)=some (.int k (k.wrap n)):=rfl
theorem Oo {args:List VV} {t:Nat}:I8 args t=args.getD t pR:=rfl
theorem apR {n:Nat}:LT n = .tmp n:=rfl
theorem arG {n:Int}:LI n = .const (.int .i64 n):=rfl
theorem aqV:LG = .const (.bool true):=rfl
theorem apC:LF = .const (.bool false):=rfl
theorem arA {n:Nat}:LL n = .load false 1 (.tmp n):=rfl
theorem apE {n:Nat}:LK n = .load true 3 (.tmp n):=rfl
theorem aqF {n k:Nat}:LX n k = .ext (.tmp n) k:=rfl
theorem arD {k n:Nat}:LA k n = .faddr k (.tmp n):=rfl
theorem aqC {d:Nat} {p:nK}:LO d p=⟨some d,p,none,false,[]⟩:=rfl
theorem arS {d:Nat} {p:nK}:LQ d p=⟨some d,p,none,true,[]⟩:=rfl
theorem arE {p:nK}:LN p=⟨none,p,none,false,[]⟩:=rfl
theorem aqD {d s:Nat}:LM d s=⟨some d,.mv (.tmp s),none,false,[]⟩:=rfl
theorem arU {g d:Nat} {p:nK}:LY g d p=⟨some d,p,some (g,true),false,[]⟩:=rfl
theorem aqL {g d:Nat} {p:nK}:LZ g d p=⟨some d,p,some (g,false),false,[]⟩:=rfl
theorem asT {l:List PI} {c:aD}:LS l c = .seq (.dG l) c:=rfl
theorem VX:type_of% (
 And.intro @aaN<|And.intro @adD<|And.intro @R6<|And.intro @We<|And.intro @U7<|And.intro @ZO<|And.intro @WD <|
 And.intro @SJ<|And.intro @Cc<|And.intro @EJ<|And.intro @Gu<|And.intro @EG<|And.intro @C6 <|
 And.intro @LH<|And.intro @G5<|And.intro @OM<|And.intro @MB<|And.intro @QQ<|And.intro @R0 <|
 And.intro @MC<|And.intro @NR<|And.intro @YW<|And.intro @ajH<|And.intro @ZI<|And.intro @ajB<|And.intro @JA <|
 And.intro @Zt<|And.intro @Sn<|And.intro @VP<|And.intro @VG<|And.intro @NU<|And.intro @NN<|And.intro @ZH <|
 And.intro @Vg<|And.intro @VE<|And.intro @VA<|And.intro @VH<|And.intro @NQ<|And.intro @Wc<|And.intro @N0 <|
 And.intro @OK<|And.intro @Q5<|And.intro @Rp<|And.intro @Q4<|And.intro @Wl<|And.intro @QJ<|And.intro @VN <|
 And.intro @Vp<|And.intro @SK<|And.intro @Vu<|And.intro @Vb<|And.intro @U4<|And.intro @SL<|And.intro @Vi <|
 And.intro @Om<|And.intro @Wp<|And.intro @QM<|And.intro @Ol<|And.intro @Q0<|And.intro @OE <|
 And.intro @KA<|And.intro @OY<|And.intro @Sc<|And.intro @NL<|And.intro @Ko<|And.intro @Oa <|
 And.intro @uW<|And.intro @N6<|And.intro @Vm<|And.intro @Oc<|And.intro @R7<|And.intro @U1<|And.intro @Ro <|
 And.intro @V4<|And.intro @VO<|And.intro @Wq<|And.intro @Rz<|And.intro @N8<|And.intro @Q9<|And.intro @QE <|
 And.intro @Wu<|And.intro @U8<|And.intro @RD<|And.intro @RP<|And.intro @Nv<|And.intro @RI<|And.intro @Y2 <|
 And.intro @J4<|And.intro @Y9<|And.intro @WB<|And.intro @adK<|And.intro @ZW<|And.intro @PV<|And.intro @abY <|
 And.intro @List.length_map.{0,0}<|And.intro @List.all_cons.{0}<|And.intro @List.all_nil.{0}<|And.intro @RF<|And.intro @Bool.and_self <|
 And.intro @Bool.and_true<|And.intro @QR<|And.intro @Wj<|And.intro @Vk<|And.intro @SW<|And.intro @Rb <|
 And.intro @QG<|And.intro @RW<|And.intro @Qu<|And.intro @Rf<|And.intro @Sd<|And.intro @SU<|And.intro @S0 <|
 And.intro @U6<|And.intro @WE<|And.intro @Value.bool.injEq<|And.intro @decide_eq_true_eq<|And.intro @decide_eq_false_iff_not <|
 And.intro @Bool.not_true<|And.intro @Bool.not_false<|And.intro @decide_true<|And.intro @decide_false<|And.intro @Bool.not_eq_true' <|
 And.intro @Bool.not_eq_false'<|And.intro @Bool.false_eq_true<|And.intro @false_and<|And.intro @and_false<|And.intro @Option.map_some.{0,0} <|
 And.intro @Option.map_none.{0,0}<|And.intro @if_true.{1}<|And.intro @if_false.{1}<|And.intro @List.map_cons.{0,0}<|And.intro @List.map_nil.{0,0} <|
 And.intro @List.cons_append.{0}<|And.intro @List.nil_append.{0}<|And.intro @and_true<|And.intro @true_and<|And.intro @Nat.zero_add <|
 And.intro @Nat.add_zero<|And.intro @List.length_cons.{0}<|And.intro @List.length_nil.{0}<|And.intro @Oo<|And.intro @List.getD_cons_zero.{0} <|
 And.intro @List.getD_cons_succ.{0}<|And.intro @List.getD_nil.{0}<|And.intro @VV.sc.injEq<|And.intro @List.getElem?_cons_zero.{0} <|
 And.intro @List.getElem?_cons_succ.{0}<|And.intro @KE<|And.intro @Nw<|And.intro @NM<|And.intro @Ky <|
 And.intro @Of<|And.intro @Nz<|And.intro @Fb<|And.intro @Jl<|And.intro @ME<|And.intro @apR<|And.intro @arG <|
 And.intro @aqV<|And.intro @apC<|And.intro @arA<|And.intro @apE<|And.intro @aqF<|And.intro @arD<|And.intro @aqC<|And.intro @arS <|
 And.intro @arE<|And.intro @aqD<|And.intro @arU<|And.intro @aqL <| @asT) :=
 And.intro @aaN<|And.intro @adD<|And.intro @R6<|And.intro @We<|And.intro @U7<|And.intro @ZO<|And.intro @WD <|
 And.intro @SJ<|And.intro @Cc<|And.intro @EJ<|And.intro @Gu<|And.intro @EG<|And.intro @C6 <|
 And.intro @LH<|And.intro @G5<|And.intro @OM<|And.intro @MB<|And.intro @QQ<|And.intro @R0 <|
 And.intro @MC<|And.intro @NR<|And.intro @YW<|And.intro @ajH<|And.intro @ZI<|And.intro @ajB<|And.intro @JA <|
 And.intro @Zt<|And.intro @Sn<|And.intro @VP<|And.intro @VG<|And.intro @NU<|And.intro @NN<|And.intro @ZH <|
 And.intro @Vg<|And.intro @VE<|And.intro @VA<|And.intro @VH<|And.intro @NQ<|And.intro @Wc<|And.intro @N0 <|
 And.intro @OK<|And.intro @Q5<|And.intro @Rp<|And.intro @Q4<|And.intro @Wl<|And.intro @QJ<|And.intro @VN <|
 And.intro @Vp<|And.intro @SK<|And.intro @Vu<|And.intro @Vb<|And.intro @U4<|And.intro @SL<|And.intro @Vi <|
 And.intro @Om<|And.intro @Wp<|And.intro @QM<|And.intro @Ol<|And.intro @Q0<|And.intro @OE <|
 And.intro @KA<|And.intro @OY<|And.intro @Sc<|And.intro @NL<|And.intro @Ko<|And.intro @Oa <|
 And.intro @uW<|And.intro @N6<|And.intro @Vm<|And.intro @Oc<|And.intro @R7<|And.intro @U1<|And.intro @Ro <|
 And.intro @V4<|And.intro @VO<|And.intro @Wq<|And.intro @Rz<|And.intro @N8<|And.intro @Q9<|And.intro @QE <|
 And.intro @Wu<|And.intro @U8<|And.intro @RD<|And.intro @RP<|And.intro @Nv<|And.intro @RI<|And.intro @Y2 <|
 And.intro @J4<|And.intro @Y9<|And.intro @WB<|And.intro @adK<|And.intro @ZW<|And.intro @PV<|And.intro @abY <|
 And.intro @List.length_map.{0,0}<|And.intro @List.all_cons.{0}<|And.intro @List.all_nil.{0}<|And.intro @RF<|And.intro @Bool.and_self <|
 And.intro @Bool.and_true<|And.intro @QR<|And.intro @Wj<|And.intro @Vk<|And.intro @SW<|And.intro @Rb <|
 And.intro @QG<|And.intro @RW<|And.intro @Qu<|And.intro @Rf<|And.intro @Sd<|And.intro @SU<|And.intro @S0 <|
 And.intro @U6<|And.intro @WE<|And.intro @Value.bool.injEq<|And.intro @decide_eq_true_eq<|And.intro @decide_eq_false_iff_not <|
 And.intro @Bool.not_true<|And.intro @Bool.not_false<|And.intro @decide_true<|And.intro @decide_false<|And.intro @Bool.not_eq_true' <|
 And.intro @Bool.not_eq_false'<|And.intro @Bool.false_eq_true<|And.intro @false_and<|And.intro @and_false<|And.intro @Option.map_some.{0,0} <|
 And.intro @Option.map_none.{0,0}<|And.intro @if_true.{1}<|And.intro @if_false.{1}<|And.intro @List.map_cons.{0,0}<|And.intro @List.map_nil.{0,0} <|
 And.intro @List.cons_append.{0}<|And.intro @List.nil_append.{0}<|And.intro @and_true<|And.intro @true_and<|And.intro @Nat.zero_add <|
 And.intro @Nat.add_zero<|And.intro @List.length_cons.{0}<|And.intro @List.length_nil.{0}<|And.intro @Oo<|And.intro @List.getD_cons_zero.{0} <|
 And.intro @List.getD_cons_succ.{0}<|And.intro @List.getD_nil.{0}<|And.intro @VV.sc.injEq<|And.intro @List.getElem?_cons_zero.{0} <|
 And.intro @List.getElem?_cons_succ.{0}<|And.intro @KE<|And.intro @Nw<|And.intro @NM<|And.intro @Ky <|
 And.intro @Of<|And.intro @Nz<|And.intro @Fb<|And.intro @Jl<|And.intro @ME<|And.intro @apR<|And.intro @arG <|
 And.intro @aqV<|And.intro @apC<|And.intro @arA<|And.intro @apE<|And.intro @aqF<|And.intro @arD<|And.intro @aqC<|And.intro @arS <|
 And.intro @arE<|And.intro @aqD<|And.intro @arU<|And.intro @aqL <| @asT
theorem iS:type_of% (
 And.intro @bQ<|And.intro @Ja<|And.intro @I5<|And.intro @OF<|And.intro @zD<|And.intro @N3 <|
 And.intro @Ji<|And.intro @Ly<|And.intro @Jx<|And.intro @bA<|And.intro @lP<|And.intro @List.set_cons_zero.{0} <|
 And.intro @List.set_cons_succ.{0}<|And.intro @gE<|And.intro @BG<|And.intro @nR.eq_1<|And.intro @qS.eq_1 <|
 And.intro @qS.eq_2<|And.intro @EI.eq_1<|And.intro @EI.eq_2<|And.intro @xK.eq_1<|And.intro @xK.eq_2<|And.intro @F8 <|
 And.intro @BQ<|And.intro @DO<|And.intro @DT<|And.intro @NO<|And.intro @List.take_zero.{0} <|
 And.intro @List.take_succ_cons.{0}<|And.intro @List.take_nil.{0}<|And.intro @List.drop_zero.{0}<|And.intro @List.drop_succ_cons.{0} <|
 And.intro @List.drop_nil.{0}<|And.intro @List.append_nil.{0}<|And.intro @Nat.le_refl<|And.intro @cW.eq_1<|And.intro @Int.toNat_natCast <|
 And.intro @eq_self.{1}<|And.intro @ge_iff_le.{0} <| @Bool.and_eq_true) :=
 And.intro @bQ<|And.intro @Ja<|And.intro @I5<|And.intro @OF<|And.intro @zD<|And.intro @N3 <|
 And.intro @Ji<|And.intro @Ly<|And.intro @Jx<|And.intro @bA<|And.intro @lP<|And.intro @List.set_cons_zero.{0} <|
 And.intro @List.set_cons_succ.{0}<|And.intro @gE<|And.intro @BG<|And.intro @nR.eq_1<|And.intro @qS.eq_1 <|
 And.intro @qS.eq_2<|And.intro @EI.eq_1<|And.intro @EI.eq_2<|And.intro @xK.eq_1<|And.intro @xK.eq_2<|And.intro @F8 <|
 And.intro @BQ<|And.intro @DO<|And.intro @DT<|And.intro @NO<|And.intro @List.take_zero.{0} <|
 And.intro @List.take_succ_cons.{0}<|And.intro @List.take_nil.{0}<|And.intro @List.drop_zero.{0}<|And.intro @List.drop_succ_cons.{0} <|
 And.intro @List.drop_nil.{0}<|And.intro @List.append_nil.{0}<|And.intro @Nat.le_refl<|And.intro @cW.eq_1<|And.intro @Int.toNat_natCast <|
 And.intro @eq_self.{1}<|And.intro @ge_iff_le.{0} <| @Bool.and_eq_true
end Go.PM
namespace Go.PM
theorem TC.vt {f:Nat} {args:List VV} {r:VV} (h:TC f args r) (yG:Cy.contains f=false) (hp:aM args=true):VT f args r:=by
 have h1:=h 0 [] fun x _=>x=r
 unfold cS at h1
 simp only[yG,hp,Bool.false_eq_true,if_false,if_true] at h1
 have h2:Hj f args fun x=>x=r:=by rw[h1];trivial
 unfold Hj tk at h2
 split at h2
 ·rename_i x hx
  rw[←h2]
  exact(O9 hx).2.2
 ·exact h2.elim
theorem TC.yes {f:Nat} {args:List VV} {eE:List Value} {H:aE} (h:TC f args (.sc (.bool true))) (yG:Cy.contains f=false) (hp:aM args=true) (hl:VL (bare (· < H.length) H) args eE) :
  ∃v H',rC f eE H.length H=some (v,H')∧v = .bool true:=by
 obtain⟨P',pv,h1,_,h2⟩:=h.vt yG hp (· < H.length) H eE H.length (fun _ h=>h) hl (Nat.le_refl _)
 cases h2
 exact⟨_,P',h1,rfl⟩
theorem VR.grow {H L:aE} {x:VV} {v:Value} (h:VR (bare (· < H.length) H) x v):VR (bare (· < (H++L).length) (H++L)) x v :=
 h.C8 fun b hb=>⟨by show b<_;rw[List.length_append];omega,List.getElem?_append_left hb⟩
end Go.PM
namespace Go.PM
mutual
def fA (n:Nat):VV→Bool
 | .any=>false
 | .sc v=>kC v
 | .agg cs=>oA n cs
 | .dT vs=>oA n vs
 | .tree es k=>es.isEmpty&&decide (k = .nil)
 | .cT _ _=>false
 | .ref b _ _ _ _=>decide (n≤b)
 | .ptr b _ _ _=>decide (n≤b)
 | .vP _ _=>false
def oA (n:Nat):List VV→Bool
 | []=>true
 | x::xs=>fA n x&&oA n xs
end
theorem Df {n:Nat} {es:List VV}:oA n es=true↔∀x∈es,fA n x=true:=by
 induction es with
 | nil=>simp[oA]
 | cons x xs ih=>simp[oA,ih]
theorem WZ {n:Nat} {es:List VV} (h:oA n es=true):oA n (es.flatMap aB)=true:=by
 rw[Df] at h ⊢
 intro x hx
 obtain⟨y,hy,An⟩:=List.mem_flatMap.1 hx
 have:=h y hy
 unfold aB at An
 split at An
 ·exact Df.1 (by simpa[fA] using this) x An
 ·rw[List.mem_singleton] at An;subst An;exact this
def eT (n:Nat) (L:aA):Bool:=L.all fun
 | .row _ es _ _=>oA n es
 | .dead=>true
theorem VR.own {V V':View} {k0:Nat} (Qm:∀q,V.base≤q∧q<V.P.length→V'.base≤q∧q<V'.P.length∧∀b' g' es e w,b'<k0→V'.H[b']? = some (.row g' es e w)→V'.m b'≠q) (hl:V.H.length≤V'.H.length) (hH:∀b,k0≤b→V'.H[b]? = V.H[b]?) (hm:∀b,k0≤b→V'.m b=V.m b) {x:VV} {v:Value} (h:VR V x v):fA k0 x=true→VR V' x v:=by
 induction h using VR.rec (motive_2:=fun xs vs _=>oA k0 xs=true→VL V' xs vs) with
 | any=>intro hx;cases hx
 | sc _ h=>intro _;exact .sc _ h
 | agg cs ps _ ih=>intro hx;exact .agg _ _ (ih hx)
 | dT cs ps _ ih=>intro hx;exact .dT _ _ (ih hx)
 | oZ k hk=>intro _;exact .oZ k hk
 |
  tree es k b o c r e p hF hb ho hc he hk _ _ =>
  intro hx
  simp only[fA,Bool.and_eq_true,decide_eq_true_eq] at hx
  obtain⟨_,rfl⟩:=hx
  exact hk.elim
 | cT=>intro hx;cases hx
 |
  ref b g o n c a n' c' bI hg ha hq =>
  intro hx
  have hb:k0≤b:=by simpa[fA] using hx
  exact .ref b g o n c a n' c' (Nat.lt_of_lt_of_le bI hl) (fun g' es e w hr=>hg g' es e w (by rw[←hH b hb];exact hr)) (fun es e w hr=>by rw[hm b hb];exact ha es e w (by rw[←hH b hb];exact hr)) fun a0 h=>by
   obtain⟨q1,q2,q3⟩:=hq a0 h
   obtain⟨q4,q5,q6⟩:=Qm _ ⟨q1,q2⟩
   refine⟨q4,q5,fun b' g' es e w hr fC => ?_⟩
   rcases Nat.lt_or_ge b' k0 with Kw | EO
   ·exact q6 b' g' es e w Kw hr
   ·rw[hm b' EO]
    exact q3 b' g' es e w (by rw[←hH b' EO];exact hr) fC
 |
  ptr b g j off a bI hg ha hq =>
  intro hx
  have hb:k0≤b:=by simpa[fA] using hx
  exact .ptr b g j off a (Nat.lt_of_lt_of_le bI hl) (fun g' es e w hr=>hg g' es e w (by rw[←hH b hb];exact hr)) (fun es e w hr=>by rw[hm b hb];exact ha es e w (by rw[←hH b hb];exact hr)) fun a0 h=>by
   obtain⟨q1,q2,q3⟩:=hq a0 h
   obtain⟨q4,q5,q6⟩:=Qm _ ⟨q1,q2⟩
   refine⟨q4,q5,fun b' g' es e w hr fC => ?_⟩
   rcases Nat.lt_or_ge b' k0 with Kw | EO
   ·exact q6 b' g' es e w Kw hr
   ·rw[hm b' EO]
    exact q3 b' g' es e w (by rw[←hH b' EO];exact hr) fC
 | vP=>intro hx;cases hx
 | nil=>exact .nil
 |
  cons x v xs vs _ _ ih T7 =>
  rename_i hx
  simp only[oA,Bool.and_eq_true] at hx
  exact .cons _ _ _ _ (ih hx.1) (T7 hx.2)
theorem VL.own {V V':View} {n:Nat} (Qm:∀q,V.base≤q∧q<V.P.length→V'.base≤q∧q<V'.P.length∧∀b' g' es e w,b'<n→V'.H[b']? = some (.row g' es e w)→V'.m b'≠q) (hl:V.H.length≤V'.H.length) (hH:∀b,n≤b→V'.H[b]? = V.H[b]?) (hm:∀b,n≤b→V'.m b=V.m b) {xs:List VV} {vs:List Value} (h:VL V xs vs) (hx:oA n xs=true):VL V' xs vs:=by
 induction xs generalizing vs with
 | nil=>cases h;exact .nil
 |
  cons x xs ih=>cases h with
  |
   cons _ v _ vs h hs =>
   simp only[oA,Bool.and_eq_true] at hx
   exact .cons _ _ _ _ (h.own Qm hl hH hm hx.1) (ih hs hx.2)
theorem VL.C8 {V':View} {G:Nat→Prop} {P:aE} {xs:List VV} {vs:List Value} (hF:∀b,G b→V'.F b∧V'.P[b]? = P[b]?) (h:VL (bare G P) xs vs):VL V' xs vs:=by
 induction xs generalizing vs with
 | nil=>cases h;exact .nil
 |
  cons x xs ih=>cases h with
  | cons _ v _ vs h hs=>exact .cons _ _ _ _ (h.C8 hF) (ih hs)
def FC (f:Nat) (args:List VV) (R:Nat→VV→aA→Prop):Prop :=
 ∀n,gU f args n (List.replicate n .dead) fun r H'=>∃L,H'=List.replicate n .dead++L∧fA n r=true∧eT n L=true∧R n r L
theorem FC.walk {f:Nat} {pf:aR} {args:List VV} {R:Nat→VV→aA→Prop} (fl:Fl) (ht:fS f=some pf) (hn:args.length≤pf.ntmps)
  (h:∀n,VW fl n pf.body (AB pf.res fun r H'=>∃L,H'=List.replicate n .dead++L∧fA n r=true∧eT n L=true∧R n r L) (I8 args) (List.replicate n .dead)):FC f args R :=
 fun n=>gU.walk fl ht hn (h n)
theorem FC.raw {f:Nat} {args iJ:List VV} {R:Nat→VV→aA→Prop} {H:aA} {lo:Nat} (h:FC f iJ R) (hf:args.mapM (fz depth H)=some iJ):gU f args lo H fun r H'=>∃L,H'=H++L∧R H.length r L∧fA H.length r=true∧eT H.length L=true:=by
 intro V dZ eE hH hS hl
 have h1:=h H.length
 let V0:View:={ m:=V.m,F:=(· < V.P.length),H:=List.replicate H.length .dead,P:=V.P,base:=V.P.length }
 have Mw:∀(b g:Nat) (es:List VV) (e:Nat) (w:Bool),V0.H[b]? ≠ some (.row g es e w):=by
  intro b g es e w hb
  have:=List.eq_of_mem_replicate (List.mem_of_getElem? hb)
  cases this
 have hS0:SR V0 H.length dZ:=⟨fun b g es e w hb=>absurd hb (Mw _ _ _ _ _),fun b g es e hb=>absurd hb (Mw _ _ _ _ _),fun a b g es e w _ _ _ _ ha=>absurd ha (Mw _ _ _ _ _),fun b hb=>hb,hS.S3,Nat.le_refl _⟩
 have Bk:VL V0 iJ eE:=by
  have:=D7 hS (G:=(· < V.P.length)) (fun q hq=>hS.fr q hq) hl (by rw[hH];exact hf) (fun i _ g es e w hb=>hS.mlt hb)
  exact VL.C8 (V':=V0) (fun b hb=>⟨hb,rfl⟩) this
 obtain⟨pv,V1,r,k1,k3,k4,k5,L,k2,h2,h3,hR⟩:=h1 V0 dZ eE rfl hS0 Bk
 have V5:∀b g es e w,V1.H[b]? = some (.row g es e w)→V.P.length≤V1.m b:=by
  intro b g es e w hb
  rcases Nat.lt_or_ge (V1.m b) V.P.length with bI | EO
  ·obtain⟨g0,es0,w0,j1,_⟩:=k4.BC b g es e w hb bI
   exact absurd j1 (Mw _ _ _ _ _)
  ·exact EO
 have aqG:V1.H.length=H.length+(L).length:=by rw[k2];simp
 have JD:∀q,q<V.P.length→V1.P[q]? = V.P[q]? := fun q hq=>k4.cJ q hq fun b g es e hb=>absurd hb (Mw _ _ _ _ _)
 let V2:View:={ m:=fun b=>if b<H.length then V.m b else V1.m b,F:=V.F,H:=H++L,P:=V1.P,base:=V.base }
 have agI:∀b,H.length≤b→V2.H[b]? = V1.H[b]? := fun b hb=>by
  show (H++L)[b]? = _
  rw[k2,List.getElem?_append_right hb,List.getElem?_append_right (by simpa using hb),List.length_replicate]
 have mL:∀b,H.length≤b→V2.m b=V1.m b:=fun b hb=>by
  show (if b<H.length then V.m b else V1.m b)=_
  rw[if_neg (by omega)]
 have ahI:∀b,b<H.length→V2.H[b]? = V.H[b]? := fun b hb=>by
  show (H++L)[b]? = _
  rw[List.getElem?_append_left hb,hH]
 have mS:∀b,b<H.length→V2.m b=V.m b:=fun b hb=>by
  show (if b<H.length then V.m b else V1.m b)=_
  rw[if_pos hb]
 have hU:Up V V2:=⟨fun _ h=>h,fun b hb=>JD b (hS.fr b hb),by show V.H.length≤(H++L).length;rw[hH];simp,fun b g es e w bI hb=>⟨g,es,w,by rw[←ahI b (by rw[←hH];exact bI)];exact hb,Nat.le_refl _,fun _=>mS b (by rw[←hH];exact bI)⟩,rfl,k4.D9,fun b g es e w hb hm=>by
   rcases Nat.lt_or_ge b H.length with h | h
   ·exact⟨g,es,w,by rw[←ahI b h];exact hb,mS b h,id⟩
   ·rw[mL b h] at hm
    have:=V5 b g es e w (by rw[←agI b h];exact hb)
    omega⟩
 have Vf:∀ {b g es e w},V2.H[b]? = some (.row g es e w)→(b<H.length∧V.H[b]? = some (.row g es e w))∨(H.length≤b∧V1.H[b]? = some (.row g es e w)):=by
  intro b g es e w hb
  rcases Nat.lt_or_ge b H.length with h | h
  ·exact .inl ⟨h,by rw[←ahI b h];exact hb⟩
  ·exact .inr ⟨h,by rw[←agI b h];exact hb⟩
 have aiL:V1.H.length≤V2.H.length:=by show _≤(H++L).length;rw[aqG];simp
 have asP:∀ {b g es e w},H.length≤b→V1.H[b]? = some (.row g es e w)→oA H.length es=true:=by
  intro b g es e w hb hr
  rw[k2,List.getElem?_append_right (by simpa using hb)] at hr
  exact List.all_eq_true.1 h3 _ (List.mem_of_getElem? hr)
 have Qm:∀q,V1.base≤q∧q<V1.P.length→V2.base≤q∧q<V2.P.length∧∀b' g' es e w,b'<H.length→V2.H[b']? = some (.row g' es e w)→V2.m b'≠q:=by
  intro q hq
  have Eb:V.P.length≤q:=by have:=k4.Kg;rw[this] at hq;exact hq.1
  refine⟨Nat.le_trans hS.Kg Eb,hq.2,fun b' g' es e w bI hr hm => ?_⟩
  rw[mS b' bI] at hm
  have:=hS.mlt (by rw[←ahI b' bI];exact hr)
  omega
 refine⟨pv,V2,r,k1,⟨fun b g es e w hb => ?_,fun b g es e hb => ?_,fun a b g es e w g' mU e' w' ha hb hm => ?_,fun b hb => ?_,?_,Nat.le_trans hS.Kg k4.D9⟩,{ hU with cJ:=fun q hq _=>JD q hq,Cv:=fun q hq => .inl hq },?_,L,rfl,hR,h2,h3⟩
 ·rcases Vf hb with⟨h,hb⟩ | ⟨h,hb⟩
  ·obtain⟨r,p,j1,j2,j3⟩:=hS.row b g es e w hb
   exact⟨r,p,by rw[mS b h];exact(JD _ (hS.mlt hb)).trans j1,j2,j3.mono hU⟩
  ·obtain⟨r,p,j1,j2,j3⟩:=k3.row b g es e w hb
   exact⟨r,p,by rw[mL b h];exact j1,j2,j3.own Qm aiL (fun b hb=>agI b hb) (fun b hb=>mL b hb) (WZ (asP h hb))⟩
 ·rcases Vf hb with⟨h,hb⟩ | ⟨h,hb⟩
  ·rw[mS b h]
   exact hS.wr b g es e hb
  ·rw[mL b h]
   have:=V5 b g es e true hb
   exact⟨fun hF=>by have:=hS.fr _ hF;omega,fun _=>Nat.le_trans hS.S3 this⟩
 ·rcases Vf ha with⟨h,ha⟩ | ⟨h,ha⟩<;>rcases Vf hb with⟨h',hb⟩ | ⟨h',hb⟩
  ·rw[mS a h,mS b h'] at hm
   exact hS.inj a b _ _ _ _ _ _ _ _ ha hb hm
  ·rw[mS a h,mL b h'] at hm
   have:=V5 b _ _ _ _ hb
   have:=hS.mlt ha
   omega
  ·rw[mL a h,mS b h'] at hm
   have:=V5 a _ _ _ _ ha
   have:=hS.mlt hb
   omega
  ·rw[mL a h,mL b h'] at hm
   exact k3.inj a b _ _ _ _ _ _ _ _ ha hb hm
 ·exact Nat.lt_of_lt_of_le (hS.fr b hb) k4.D9
 ·exact Nat.le_trans hS.S3 k4.D9
 ·exact k5.own Qm aiL (fun b hb=>agI b hb) (fun b hb=>mL b hb) h2
theorem gI {f:Nat} {args:List VV} {lo:Nat} {H:aA} {K:VV→aA→Prop} (yG:Cy.contains f=true) (h:gU f args lo H K):cS f args lo H K:=by
 unfold cS
 rw[if_pos yG]
 exact h
theorem FC.call {f:Nat} {args iJ:List VV} {R:Nat→VV→aA→Prop} {H:aA} {lo:Nat} {K:VV→aA→Prop} (h:FC f iJ R) (yG:Cy.contains f=true) (hf:args.mapM (fz depth H)=some iJ) (hk:∀r L,R H.length r L→K r (H++L)):cS f args lo H K :=
 gI yG ((h.raw hf).mono fun r H' ⟨L,h1,h2,_⟩=>by subst h1;exact hk r L h2)
theorem FC.aaX {f:Nat} {args iJ:List VV} {R:Nat→VV→aA→Prop} {H:aA} {lo:Nat} {K:VV→aA→Prop} (h:FC f iJ R) (yG:Cy.contains f=true) (hf:args.mapM (fz depth H)=some iJ) (hk:∀r L,R H.length r L→fA H.length r=true→eT H.length L=true→K r (H++L)):cS f args lo H K :=
 gI yG ((h.raw hf).mono fun r H' ⟨L,h1,h2,h3,h4⟩=>by subst h1;exact hk r L h2 h3 h4)
def GN (H K:aA):Prop:=K.length=H.length∧∀(b g:Nat) (es:List VV) (e:Nat) (w:Bool),K[b]? = some (.row g es e w)→H[b]? = some (.row g es e w)
theorem VR.kill {V:View} {K:aA} (hK:GN V.H K) {x:VV} {v:Value} (h:VR V x v):VR { V with H:=K } x v:=by
 induction h using VR.rec (motive_2:=fun xs vs _=>VL { V with H:=K } xs vs) with
 | any=>exact .any _
 | sc _ h=>exact .sc _ h
 | agg cs ps _ ih=>exact .agg _ _ ih
 | dT cs ps _ ih=>exact .dT _ _ ih
 | oZ k hk=>exact .oZ k hk
 | tree es k b o c r e p hF hb ho hc he hk _ ih=>exact .tree es k b o c r e p hF hb ho hc he hk ih
 | cT x off b o r e p hF hb ho _ ih=>exact .cT x off b o r e p hF hb ho ih
 |
  ref b g o n c a n' c' bI hg ha hq =>
  exact .ref b g o n c a n' c' (by show b<K.length;rw[hK.1];exact bI) (fun g' es e w hr=>hg g' es e w (hK.2 _ _ _ _ _ hr)) (fun es e w hr=>ha es e w (hK.2 _ _ _ _ _ hr)) fun a0 h=>⟨(hq a0 h).1,(hq a0 h).2.1,fun b' g' es e w hr=>(hq a0 h).2.2 b' g' es e w (hK.2 _ _ _ _ _ hr)⟩
 |
  ptr b g j off a bI hg ha hq =>
  exact .ptr b g j off a (by show b<K.length;rw[hK.1];exact bI) (fun g' es e w hr=>hg g' es e w (hK.2 _ _ _ _ _ hr)) (fun es e w hr=>ha es e w (hK.2 _ _ _ _ _ hr)) fun a0 h=>⟨(hq a0 h).1,(hq a0 h).2.1,fun b' g' es e w hr=>(hq a0 h).2.2 b' g' es e w (hK.2 _ _ _ _ _ hr)⟩
 | vP f fR ps _ ih=>exact .vP _ _ _ ih
 | nil=>exact .nil
 | cons x v xs vs _ _ ih T7=>exact .cons _ _ _ _ ih T7
theorem VL.kill {V:View} {K:aA} (hK:GN V.H K) {xs:List VV} {vs:List Value} (h:VL V xs vs):VL { V with H:=K } xs vs:=by
 induction xs generalizing vs with
 | nil=>cases h;exact .nil
 |
  cons x xs ih=>cases h with
  | cons _ v _ vs h hs=>exact .cons _ _ _ _ (h.kill hK) (ih hs)
theorem gU.kill {f:Nat} {args:List VV} {lo:Nat} {H:aA} {P P':VV→aA→Prop} (h:gU f args lo H P) (hk:∀v H',P v H'→∃K,GN H' K∧P' v K):gU f args lo H P':=by
 intro V dZ eE hH hS hl
 obtain⟨pv,V',v,h1,h2,h3,h4,h5⟩:=h V dZ eE hH hS hl
 obtain⟨K,hK,h6⟩:=hk _ _ h5
 refine⟨pv,{ V' with H:=K },v,h1,⟨fun b g es e w hb => ?_,fun b g es e hb=>h2.wr b g es e (hK.2 _ _ _ _ _ hb),fun a b g es e w g' mU e' w' ha hb hm=>h2.inj a b _ _ _ _ _ _ _ _ (hK.2 _ _ _ _ _ ha) (hK.2 _ _ _ _ _ hb) hm,h2.fr,h2.S3,h2.Kg⟩,
  { F:=h3.F,P:=h3.P,len:=by show V.H.length≤K.length;rw[hK.1];exact h3.len,row:=fun b g es e w bI hb=>h3.row b g es e w bI (hK.2 _ _ _ _ _ hb),Kg:=h3.Kg,D9:=h3.D9,BC:=fun b g es e w hb hm=>h3.BC b g es e w (hK.2 _ _ _ _ _ hb) hm,cJ:=h3.cJ,Cv:=h3.Cv },h4.kill hK,h6⟩
 obtain⟨r,p,j1,j2,j3⟩:=h2.row b g es e w (hK.2 _ _ _ _ _ hb)
 exact⟨r,p,j1,j2,j3.kill hK⟩
theorem FC.Jt {f:Nat} {pf:aR} {args:List VV} {R:Nat→VV→aA→Prop} (fl:Fl) (ht:fS f=some pf) (hn:args.length≤pf.ntmps)
  (h:∀n,VW fl n pf.body (AB pf.res fun r H'=>∃L,GN H' (List.replicate n .dead++L)∧fA n r=true∧eT n L=true∧R n r L) (I8 args) (List.replicate n .dead)):FC f args R :=
 fun n=>(gU.walk fl ht hn (h n)).kill fun _ _ ⟨L,h1,h2,h3,h4⟩=>⟨_,h1,L,rfl,h2,h3,h4⟩
end Go.PM
namespace Go.PM
open Go.ChangeShapes Go.WideShapes Go.ChangeAt Go.RowKit
open Go.Proofs
structure IJ (m m':dN) (H L:aE) (W:World) (cs pcs:List Value) (vs:List VV):Prop where
 inn:In m' (H++L) W
 ext:∀b l,m b=some l→m' b=some l
 len:pcs.length=cs.length
 rv:∀i,i<cs.length→RV m' (pcs.getD i Go.undef) (cs.getD i Go.undef)
 sc:∀v∈pcs,PM.fT v=true
 tree:VL (bare (· < (H++L).length) (H++L)) vs pcs
theorem VL.grow {H L:aE} {xs:List VV} {vs:List Value} (h:VL (bare (· < H.length) H) xs vs):VL (bare (· < (H++L).length) (H++L)) xs vs :=
 h.C8 fun b hb=>⟨by show b<_;rw[List.length_append];omega,List.getElem?_append_left hb⟩
theorem VL.app {V:View} {xs ys:List VV} {vs ws:List Value} (h:VL V xs vs) (h':VL V ys ws):VL V (xs++ys) (vs++ws):=by
 induction xs generalizing vs with
 | nil=>cases h;exact h'
 |
  cons x xs ih=>cases h with
  | cons _ v _ vs h hs=>exact .cons _ _ _ _ h (ih hs)
theorem OU {cs ds:List Value} {i:Nat} (h:i<cs.length):(cs++ds).getD i Go.undef=cs.getD i Go.undef:=by
 simp only[List.getD_eq_getElem?_getD,List.getElem?_append_left h]
theorem Le {cs ds:List Value} {i:Nat} (h:cs.length≤i):(cs++ds).getD i Go.undef=ds.getD (i-cs.length) Go.undef:=by
 simp only[List.getD_eq_getElem?_getD,List.getElem?_append_right h]
theorem IJ.both {m m1 m2:dN} {H L1 L2:aE} {W:World} {cs pcs As apH:List Value} {vs vs':List VV} (h:IJ m m1 H L1 W cs pcs vs) (h':IJ m1 m2 (H++L1) L2 W As apH vs'):IJ m m2 H (L1++L2) W (cs++As) (pcs++apH) (vs++vs'):=by
 refine⟨by rw[←List.append_assoc];exact h'.inn,fun b l hb=>h'.ext _ _ (h.ext _ _ hb),by simp[h.len,h'.len],fun i hi => ?_,fun v hv => ?_,?_⟩
 ·rcases Nat.lt_or_ge i cs.length with bI | EO
  ·rw[OU bI,OU (by rw[h.len];exact bI)]
   exact(h.rv i bI).mono h'.ext
  ·rw[Le EO,Le (by rw[h.len];exact EO),h.len]
   exact h'.rv _ (by rw[List.length_append] at hi;omega)
 ·rcases List.mem_append.1 hv with hv | hv
  ·exact h.sc v hv
  ·exact h'.sc v hv
 ·rw[←List.append_assoc]
  exact h.tree.grow.app h'.tree
theorem IJ.none {m:dN} {H:aE} {W:World} (hI:In m H W):IJ m m H [] W [] [] [] :=
 ⟨by rw[List.append_nil];exact hI,fun _ _ h=>h,rfl,fun i hi=>absurd hi (Nat.not_lt_zero _),fun v hv=>(by cases hv),.nil⟩
end Go.PM
namespace Go.PM
def nN:aD:=(.seq (LS [LM 11 5,LM 12 0,LO 13 (.len (LT 12)),LO 14 (.bin .lss (LT 11) (LT 13))] (.cond (LT 14) .skip (.exit 0))) (.seq (.block 1 (LS [LM 17 0,LM 18 5,LO 19 (.iaddr 1 (LT 17) (LT 18)),LO 20 (LL 19),LM 21 1,LM 22 5,LO 23 (.iaddr 1 (LT 21) (LT 22)),LO 24 (LL 23),LO 25 (.bin .neq (LT 20) (LT 24))] (.cond (LT 25) (LS [LO 4 (.mv LF)] .ret) .skip))) (.dG [LM 15 5,LO 16 (.bin .add (LT 15) (LI 1)),LM 5 16])))
def uE:aD:=(LS [LO 4 (.mv LF)] (.seq (LS [LM 6 0,LO 7 (.len (LT 6)),LM 8 1,LO 9 (.len (LT 8)),LO 10 (.bin .neq (LT 7) (LT 9))] (.cond (LT 10) (LS [LO 4 (.mv LF)] .ret) .skip)) (.seq (LS [LO 5 (.mv (LI 0))] (.block 0 (.loop nN))) (LS [LO 4 (.mv LG)] .ret))))
def xF:aR:=⟨26,[(.tmp 4)],uE⟩
theorem Ib:fS 100=some xF:=by kernel_rfl
def pV:aD:=(.seq (LS [LM 6 5,LM 7 0,LO 8 (.len (LT 7)),LO 9 (.bin .lss (LT 6) (LT 8))] (.cond (LT 9) .skip (.exit 0))) (.seq (.block 1 (LS [LM 12 0,LM 13 5,LM 14 1,LO 15 (.call 101 [(LT 14)]),LO 16 (.iaddr 1 (LT 12) (LT 13)),LN (.store 1 (LT 16) (LT 15))] (.dG [LM 17 1,LO 18 (.bin .add (LT 17) (LI 1)),LM 1 18]))) (.dG [LM 10 5,LO 11 (.bin .add (LT 10) (LI 1)),LM 5 11])))
def yD:aD:=(LS [LO 4 (.mv (LI 0))] (.seq (LS [LO 5 (.mv (LI 0))] (.block 0 (.loop pV))) (LS [LM 19 1,LM 4 19] .ret)))
def AF:aR:=⟨20,[(.tmp 4)],yD⟩
theorem Fo:fS 37=some AF:=by kernel_rfl
def pX:aD:=(.seq (LS [LM 6 5,LM 7 0,LO 8 (.len (LT 7)),LO 9 (.bin .lss (LT 6) (LT 8))] (.cond (LT 9) .skip (.exit 0))) (.seq (.block 1 (.seq (LS [LM 12 0,LM 13 5,LO 14 (.iaddr 1 (LT 12) (LT 13)),LO 15 (LL 14),LM 16 1,LQ 17 (.call 101 [(LT 16)]),LO 18 (.bin .neq (LT 15) (LT 17))] (.cond (LT 18) (LS [LO 4 (.mv (LI (-1)))] .ret) .skip)) (.dG [LM 19 1,LO 20 (.bin .add (LT 19) (LI 1)),LM 1 20]))) (.dG [LM 10 5,LO 11 (.bin .add (LT 10) (LI 1)),LM 5 11])))
def xG:aD:=(LS [LO 4 (.mv (LI 0))] (.seq (LS [LO 5 (.mv (LI 0))] (.block 0 (.loop pX))) (LS [LM 21 1,LM 4 21] .ret)))
def AQ:aR:=⟨22,[(.tmp 4)],xG⟩
theorem Fm:fS 150=some AQ:=by kernel_rfl
def xT:aD:=(LS [LO 2 (.box (LT 0)),LO 3 (.box (LT 1)),LO 4 (.mv LF)] (.seq (LS [LO 5 (LA 0 2),LO 6 (LL 5),LO 7 (LA 0 3),LO 8 (LL 7),LO 9 (.call 73 [(LT 6),(LT 8)]),LO 10 (.un .not (LT 9))] (.cond (LT 10) (LS [LO 4 (.mv LF)] .ret) .skip)) (LS [LO 4 (.mv LG)] .ret)))
def Bu:aR:=⟨11,[(.tmp 4)],xT⟩
theorem Ks:fS 19=some Bu:=by kernel_rfl
def kM:aD:=(.seq (LS [LM 6 5,LM 7 0,LO 8 (.len (LT 7)),LO 9 (.bin .lss (LT 6) (LT 8))] (.cond (LT 9) .skip (.exit 0))) (.seq (.block 1 (.dG [LM 12 0,LM 13 5,LO 14 (.iaddr 1 (LT 12) (LT 13)),LO 15 (LL 14),LM 16 1,LO 17 (.call 37 [(LT 15),(LT 16)]),LM 1 17])) (.dG [LM 10 5,LO 11 (.bin .add (LT 10) (LI 1)),LM 5 11])))
def pU:aD:=(LS [LO 4 (.mv (LI 0))] (.seq (LS [LO 5 (.mv (LI 0))] (.block 0 (.loop kM))) (LS [LM 18 1,LM 4 18] .ret)))
def sG:aR:=⟨19,[(.tmp 4)],pU⟩
theorem vX:fS 21=some sG:=by kernel_rfl
def Bd:aD:=(LS [LO 2 (.box (LT 0)),LO 4 (.mv (LI 0))] (LS [LO 5 (LA 0 2),LO 6 (LL 5),LM 7 1,LO 8 (.call 21 [(LT 6),(LT 7)]),LM 1 8] (LS [LM 9 1,LM 4 9] .ret)))
def DB:aR:=⟨10,[(.tmp 4)],Bd⟩
theorem Hq:fS 22=some DB:=by kernel_rfl
def Av:aD:=(LS [LO 2 (.box (LT 0)),LO 4 (.mv (LI 0))] (LS [LO 5 (LA 0 2),LO 6 (LL 5),LM 7 1,LO 8 (.call 74 [(LT 6),(LT 7)]),LM 1 8] (.seq (LS [LM 9 1,LO 10 (.bin .lss (LT 9) (LI 0))] (.cond (LT 10) (LS [LO 4 (.mv (LI (-1)))] .ret) .skip)) (LS [LM 11 1,LM 4 11] .ret))))
def Dr:aR:=⟨12,[(.tmp 4)],Av⟩
theorem Ie:fS 23=some Dr:=by kernel_rfl
def tP:aD:=(.seq (LS [LM 6 0,LO 7 (.bin .gtr (LT 6) (LI 0))] (.cond (LT 7) .skip (.exit 0))) (.block 1 (LS [LM 8 0,LO 9 (.bin .rem (LT 8) (LI 10)),LO 10 (.bin .add (LI 48) (LT 9)),LO 11 (.cvt .u8 (LT 10)),LO 12 (.lit [(.int .u8 0)] 1 [(0,(LT 11))]),LO 13 (.b2s (LT 12)),LM 14 3,LO 15 (.bin .add (LT 13) (LT 14)),LM 3 15] (.dG [LM 16 0,LO 17 (.bin .quo (LT 16) (LI 10)),LM 0 17]))))
def vD:aD:=(LS [LO 2 (.mv (.const (.string ⟨#[]⟩)))] (.seq (LS [LM 4 0,LO 5 (.bin .leq (LT 4) (LI 0))] (.cond (LT 5) (LS [LO 2 (.mv (.const (.string ⟨#[109,48]⟩)))] .ret) .skip)) (LS [LO 3 (.mv (.const (.string ⟨#[]⟩)))] (.seq (.block 0 (.loop tP)) (LS [LM 18 3,LO 19 (.bin .add (.const (.string ⟨#[109]⟩)) (LT 18)),LM 2 19] .ret)))))
def Ai:aR:=⟨20,[(.tmp 2)],vD⟩
theorem JY:fS 101=some Ai:=by kernel_rfl
def mJ:aD:=(.seq (LS [LM 11 5,LM 12 0,LO 13 (.len (LT 12)),LO 14 (.bin .lss (LT 11) (LT 13))] (.cond (LT 14) .skip (.exit 0))) (.seq (.block 1 (LS [LM 17 0,LM 18 5,LO 19 (.iaddr 1 (LT 17) (LT 18)),LO 20 (LL 19),LM 21 1,LM 22 5,LO 23 (.iaddr 1 (LT 21) (LT 22)),LO 24 (LL 23),LQ 25 (.call 100 [(LT 20),(LT 24)]),LO 26 (.un .not (LT 25))] (.cond (LT 26) (LS [LO 4 (.mv LF)] .ret) .skip))) (.dG [LM 15 5,LO 16 (.bin .add (LT 15) (LI 1)),LM 5 16])))
def sP:aD:=(LS [LO 4 (.mv LF)] (.seq (LS [LM 6 0,LO 7 (.len (LT 6)),LM 8 1,LO 9 (.len (LT 8)),LO 10 (.bin .neq (LT 7) (LT 9))] (.cond (LT 10) (LS [LO 4 (.mv LF)] .ret) .skip)) (.seq (LS [LO 5 (.mv (LI 0))] (.block 0 (.loop mJ))) (LS [LO 4 (.mv LG)] .ret))))
def vL:aR:=⟨27,[(.tmp 4)],sP⟩
theorem Gz:fS 73=some vL:=by kernel_rfl
def oO:aD:=(.seq (LS [LM 6 5,LM 7 0,LO 8 (.len (LT 7)),LO 9 (.bin .lss (LT 6) (LT 8))] (.cond (LT 9) .skip (.exit 0))) (.seq (.block 1 (LS [LM 12 0,LM 13 5,LO 14 (.iaddr 1 (LT 12) (LT 13)),LO 15 (LL 14),LM 16 1,LO 17 (.call 150 [(LT 15),(LT 16)]),LM 1 17] (LS [LM 18 1,LO 19 (.bin .lss (LT 18) (LI 0))] (.cond (LT 19) (LS [LO 4 (.mv (LI (-1)))] .ret) .skip)))) (.dG [LM 10 5,LO 11 (.bin .add (LT 10) (LI 1)),LM 5 11])))
def vU:aD:=(LS [LO 4 (.mv (LI 0))] (.seq (LS [LO 5 (.mv (LI 0))] (.block 0 (.loop oO))) (LS [LM 20 1,LM 4 20] .ret)))
def yZ:aR:=⟨21,[(.tmp 4)],vU⟩
theorem Ea:fS 74=some yZ:=by kernel_rfl
end Go.PM
namespace Go.PM
def room (n:Nat):Nat:=if n % 6=5 then 0 else if n % 3=0 then 1 else n
abbrev nV (n:Int):VV := .sc (.int .i64 n)
abbrev apD (xs:List Int):VV:=aS nV xs
def iota (k:Int) (n:Nat):List Int:=(List.range n).map fun(j:Nat)=>k+(j:Int)
theorem Rj (k:Int) (n:Nat):(iota k n).length=n:=by simp[iota]
def zM {α:Type} (fill:α) (xs:List α):List α:=xs++List.replicate (room xs.length) fill
theorem Qh {α:Type} (fill:α) (xs:List α):(zM fill xs).take xs.length=xs:=by simp[zM]
def ToR {α:Type} (f:α→VV) (e:Nat) (fill:α) (xs:List α) (bare:Bool) (n:Nat) (r:VV) (L:aA):Prop :=
 (bare=true∧xs=[]∧r = .tree [] .nil∧L=[])∨(r = .ref n 0 0 xs.length (xs.length+room xs.length)∧L=[.row 0 ((zM fill xs).map f) e true])
theorem ToR.no {α:Type} {f:α→VV} {e:Nat} {fill:α} {xs:List α} {n:Nat} {r:VV} {L:aA} (h:ToR f e fill xs false n r L):r = .ref n 0 0 xs.length (xs.length+room xs.length)∧L=[.row 0 ((zM fill xs).map f) e true]:=by
 rcases h with h | h
 ·cases h.1
 ·exact h
theorem SB {α:Type} {f:α→VV} {n:Nat} (hf:∀x,fA n (f x)=true) (xs:List α):oA n (xs.map f)=true:=by
 rw[Df]
 intro x hx
 obtain⟨y,_,rfl⟩:=List.mem_map.1 hx
 exact hf y
end Go.PM
namespace Go.PM
abbrev sV (s:ByteArray):VV := .sc (.string s)
theorem anH:∀s:ByteArray,(aB (sV s)).length=1:=fun _=>rfl
abbrev qD (xs:List ByteArray):VV:=aS sV xs
theorem qY (xs:List ByteArray):aN (qD xs)=true:=lT anH fun _=>rfl
def Rm:ByteArray:=⟨#[126,115,112,97,114,101,126]⟩
instance:Inhabited ByteArray:=⟨ByteArray.empty⟩
theorem acP {a b:ByteArray}:(a.toList == b.toList)=decide (a=b):=by
 by_cases h:a=b
 ·subst h;simp
 ·rw[decide_eq_false h,beq_eq_false_iff_ne]
  intro he
  apply h
  obtain⟨⟨x⟩⟩:=a
  obtain⟨⟨y⟩⟩:=b
  rw[ByteArray.toList_eq,ByteArray.toList_eq] at he
  simp at he
  rw[he]
theorem FZ {a b:ByteArray}:dJ .neq (.string a) (.string b)=some (.bool (!decide (a=b))):=by
 rw[←acP];rfl
end Go.PM
namespace Go.PM
theorem It (xs ys:List ByteArray) (hn:xs.length≤1000000000):TC 100 [qD xs,qD ys] (.sc (.bool (decide (xs=ys)))):=by
 refine TC.walk ⟨true,false⟩ Ib rfl (Nat.le_of_ble_eq_true rfl) (by simp[aM,qY]) rfl ?_
 by_cases hl:(xs.length:Int)=(ys.length:Int)
 ·simp only[xF,uE,hl,VX,Nat.reduceEqDiff,Nat.reduceAdd]
  refine aT (fun(i:Nat) ρ H=>i≤xs.length∧H=[]∧xs.take i=ys.take i∧ρ 0=qD xs∧ρ 1=qD ys∧ρ 5=VI i) (fun i=>xs.length-i) 0 ⟨Nat.zero_le _,rfl,by simp,rfl,rfl,rfl⟩ ?_
  rintro i ρ H ⟨hi,rfl,ht,h0,h1,h5⟩
  by_cases dA:(i:Int)<(xs.length:Int)
  ·obtain⟨x,hx⟩:∃x,xs[i]? = some x:=⟨_,List.getElem?_eq_getElem (by omega)⟩
   obtain⟨y,hy⟩:∃y,ys[i]? = some y:=⟨_,List.getElem?_eq_getElem (by omega)⟩
   have e1:=aK (f:=sV) (t := .op) (H:=[]) (size:=1) (k := .i64) hx rfl
   have e2:=aK (f:=sV) (t := .op) (H:=[]) (size:=1) (k := .i64) hy rfl
   have wi:IntKind.i64.wrap ((i:Int)+1)=((i+1:Nat):Int):=wrapN (i+1) (by omega) (by omega)
   by_cases An:x=y
   ·simp only[nN,FZ,h0,h1,h5,dA,e1,e2,An,wi,VX,Nat.reduceEqDiff,Nat.reduceAdd]
    refine⟨i+1,by omega,by omega,?_⟩
    rw[List.take_add_one,List.take_add_one,hx,hy,ht,An]
    (repeat' apply And.intro)<;>first | rfl | trivial
   ·simp only[nN,FZ,h0,h1,h5,dA,e1,e2,An,VX,Nat.reduceEqDiff,Nat.reduceAdd]
    have:¬xs=ys:=fun h=>An (by rw[h,hy] at hx;injection hx with hx;exact hx.symm)
    simp only[this,decide_false]
    exact aF rfl
  ·simp only[nN,h0,h1,h5,dA,VX,Nat.reduceEqDiff,Nat.reduceAdd]
   have:xs=ys:=by
    rw[List.take_of_length_le (by omega),List.take_of_length_le (by omega)] at ht
    exact ht
   simp only[this,decide_true]
   exact aF rfl
 ·simp only[xF,uE,hl,VX,Nat.reduceEqDiff,Nat.reduceAdd]
  have:¬xs=ys:=fun h=>hl (by rw[h])
  simp only[this,decide_false]
  exact aF rfl
end Go.PM
namespace Go.PM
end Go.PM
namespace Go.PM
end Go.PM
namespace Go.PM
end Go.PM
namespace Go.PM
theorem cF {H L:aA} {b g:Nat} {x:List VV×Nat×Bool} (h:aI H b g=some x):aI (H++L) b g=some x:=by
 obtain⟨es,e,w⟩:=x
 rw[cH] at h ⊢
 rw[List.getElem?_append_left (List.getElem?_eq_some_iff.1 h).1]
 exact h
theorem RA {H L:aA} {i g e:Nat} {es:List VV} {w:Bool} (h:L[i]? = some (.row g es e w)):aI (H++L) (H.length+i) g=some (es,e,w):=by
 rw[cH,List.getElem?_append_right (Nat.le_add_right _ _),Nat.add_sub_cancel_left]
 exact h
theorem cD {H:aA} {b b' g:Nat} {x:cN} {y:List VV×Nat×Bool} (hn:b'≠b) (h:aI H b g=some y):aI (H.set b' x) b g=some y:=by
 obtain⟨es,e,w⟩:=y
 rw[cH] at h ⊢
 rw[List.getElem?_set_ne hn]
 exact h
theorem bZ {H:aA} {b g e:Nat} {es:List VV} {w:Bool} {y:List VV×Nat×Bool} {g':Nat} (h:aI H b g'=some y):aI (H.set b (.row g es e w)) b g=some (es,e,w):=by
 obtain⟨mU,e',w'⟩:=y
 rw[cH] at h ⊢
 rw[List.getElem?_set_self (List.getElem?_eq_some_iff.1 h).1]
theorem gN {H:aA} {b g:Nat} {x:List VV×Nat×Bool} (h:aI H b g=some x):b<H.length:=by
 obtain⟨es,e,w⟩:=x
 exact(List.getElem?_eq_some_iff.1 (cH.1 h)).1
end Go.PM