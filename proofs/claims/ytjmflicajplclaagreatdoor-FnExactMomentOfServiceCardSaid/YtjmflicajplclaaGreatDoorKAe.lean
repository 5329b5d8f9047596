/- Texts of a claim, in one: part 5. -/
import Derived.Test.YtjmflicajplclaaGreatDoorKAd
open And renaming intro → aMk
open Bool renaming and_eq_true → aLc,and_self → aL2,false_eq_true → aLg
open Int renaming toNat_natCast → aL0
open List renaming all_cons → aLw,all_eq_true → aKS,all_nil → aLY,append_assoc → aMq,append_nil → aLM,cons_append → aL4,drop_succ_cons → aMp,drop_zero → aLQ,eq_of_mem_replicate → aLP,exists_cons_of_ne_nil → aL9,flatten_cons → aMr,getD_cons_succ → aMn,getD_cons_zero → aMm,getD_eq_getElem?_getD → aKB,getElem?_append_left → aKV,getElem?_append_right → aKW,getElem?_cons_succ → aMo,getElem?_cons_zero → aKY,getElem?_eq_getElem → aKL,getElem?_eq_some_iff → aKD,getElem?_take → aLX,getLast?_cons_cons → aMa,length_append → aKP,length_cons → aKO,length_map → aMl,length_nil → aMh,length_take → aMd,mapM_cons → aL1,map_cons → aMg,mem_cons → aLS,mem_cons_of_mem → aLd,mem_cons_self → aLe,mem_map → aMf,mem_of_getElem? → aLy,mem_of_mem_take → aLB,mem_singleton → aLK,nil_append → aLW,replicate → aLu,replicate_succ → aLO,set_append_right → aMj,set_cons_zero → aMi,take_append → aMe,take_of_length_le → aLx,take_succ_cons → aLr
open Nat renaming div_eq_of_lt → aMb,div_lt_self → aL3,le_refl → aKE,le_trans → aKF,lt_of_lt_of_le → aKG,lt_or_ge → aKH,min_eq_left → aLF,mod_eq_of_lt → aL8,mul_comm → aL6,mul_le_mul_right → aK5,not_lt_zero → aLV,pow_succ → aL5,strongRecOn → aL7,succ_mul → aLt,zero_add → aMc,zero_le → aK8
open Option renaming isSome_none → aLj,map_some → aLZ
set_option linter.unusedSimpArgs false
set_option linter.unusedVariables false
namespace Go.PM
def VT (f:Nat) (args:List VV) (r:VV):Prop :=
 ∀(F:Nat→Prop) (P:aI) (fA:List Value) (fB:Nat),(∀b,F b→b<P.length)→VL (bare F P) args fA→fB≤P.length →
  ∃P' pv,uQ f fA fB P=some (pv,P')∧P <+: P'∧VR (bare (fun q=>F q∨(P.length≤q∧q<P'.length)) P') r pv
def Tp (lo fB:Nat) (V:View) (r:Option (Value×aI)) (K:VV→aA→Prop):Prop :=
 ∃pv V' v,r=some (pv,V'.P)∧SR V' lo fB∧HL lo V V'∧VR V' v pv∧K v V'.H
def jD (f:Nat) (args:List VV) (lo:Nat) (H:aA) (K:VV→aA→Prop):Prop :=
 ∀(V:View) (fB:Nat) (fA:List Value),V.H=H→SR V lo fB→VL V args fA→Tp lo fB V (uQ f fA fB V.P) K
theorem jD.mono {f:Nat} {args:List VV} {lo:Nat} {H:aA} {K K':VV→aA→Prop} (hk:∀v H,K v H→K' v H) (h:jD f args lo H K):jD f args lo H K':=by
 intro V fB fA hH hS hl
 obtain⟨pv,V',v,h1,h2,h3,h4,h5⟩:=h V fB fA hH hS hl
 exact⟨pv,V',v,h1,h2,h3,h4,hk _ _ h5⟩
theorem VT.uniq {f:Nat} {args:List VV} {r r':VV} (h:VT f args r) (h':VT f args r') (ha:aO args=true) (hr:gU r=true) (JC:gU r'=true):r=r':=by
 obtain⟨P,ps,_,hl⟩:=Q5 args ha []
 obtain⟨P',pv,h1,_,h2⟩:=h (· < P.length) P ps 0 (fun _ h=>h) hl (aK8 _)
 obtain⟨P'',pv',h3,_,h4⟩:=h' (· < P.length) P ps 0 (fun _ h=>h) hl (aK8 _)
 rw[h1] at h3
 injection h3 with h3
 injection h3 with h3 h5
 subst h3 h5
 exact h2.uniq h4 hr JC
open Classical in
noncomputable def vT (f:Nat) (args:List VV):Option VV:=if h:∃r,aO args=true∧gU r=true∧VT f args r then some (Classical.choose h) else none
theorem SK {f:Nat} {args:List VV} {r:VV} (h:vT f args=some r):aO args=true∧gU r=true∧VT f args r:=by
 unfold vT at h
 split at h
 ·rename_i hx
  cases h
  exact Classical.choose_spec hx
 ·cases h
theorem avB {f:Nat} {args:List VV} {r:VV} (ha:aO args=true) (hr:gU r=true) (h:VT f args r):vT f args=some r:=by
 have hx:∃r,aO args=true∧gU r=true∧VT f args r:=⟨r,ha,hr,h⟩
 unfold vT
 rw[dif_pos hx]
 obtain⟨_,h2,h3⟩:=Classical.choose_spec hx
 rw[h3.uniq h ha h2 hr]
def tk (r:Option VV) (K:VV→Prop):Prop:=match r with
 | some r=>K r
 | none=>False
noncomputable def I3 (f:Nat) (args:List VV) (K:VV→Prop):Prop:=tk (vT f args) K
noncomputable def dH (f:Nat) (args:List VV) (lo:Nat) (H:aA) (K:VV→aA→Prop):Prop :=
 if Gi.contains f=true then jD f args lo H K
 else if aO args=true then I3 f args fun r=>K r H
 else match args.mapM (fz depth H) with
  | some mF=>I3 f mF fun r=>if Jh r=true then K r H else K r (dC H (args.flatMap (iT depth H)))
  | none=>False
noncomputable def eZ (fl:Fl) (lo:Nat) (q:Bool) (op:qK) (ρ:cV) (H:aA) (K:VV→aA→Prop):Prop :=
 match op with
 | .call f args=>dH f (args.map (fJ ρ)) (if q then H.length else lo) H K
 |
  .callv fv args=>match fJ ρ fv with
  | .xZ f gB=>dH f (args.map (fJ ρ)++gB) (if q then H.length else lo) H K
  | _=>False
 |
  o=>match vop fl lo o ρ H with
  | some (v,H')=>K v H'
  | none=>False
noncomputable def VS (fl:Fl) (lo:Nat):List PI→(cV→aA→Prop)→cV→aA→Prop
 | [],K,ρ,H=>K ρ H
 |
  i::is,K,ρ,H=>match Eg i.g ρ with
  | none=>False
  | some false=>VS fl lo is K (Nh ρ i.dst tI) H
  | some true=>i.cf.all (gN ρ H)=true∧eZ fl lo i.quiet i.op ρ H fun v H'=>VS fl lo is K (Nh ρ i.dst v) H'
def arE:List Nat→cV→aA→Option (cV×aA)
 | [],ρ,H=>some (ρ,H)
 |
  t::ts,ρ,H=>match fz depth H (ρ t) with
  | some v=>arE ts (Nh ρ (some t) v) (dC H (iT depth H (ρ t)))
  | none=>none
def NL (r:Option VV) (H:aA) (K:VV→aA→Prop):Prop:=match r with
 | some v=>K v H
 | none=>False
def gh (K:cV→aA→Prop) (ρ:cV) (H:aA):Prop:=∃ts aQ H',arE ts ρ H=some (aQ,H')∧K aQ H'
def nZ (k:Nat) (H:aA):Bool:=H.all fun
 | .row _ es _ _=>oK k es
 | .dead=>true
def sF (k:Nat) (ρ:cV):cV:=fun t=>MI k (ρ t)
abbrev VQ:=Ex→cV→aA→Prop
def pR (K:cV→aA→Prop) (Q:VQ):VQ
 | .normal=>K
 | x=>Q x
def tH (id:Nat) (Q:VQ):VQ
 | .exit UI=>fun ρ H=>if UI=id then Q .normal ρ H else Q (.exit UI) ρ H
 | x=>Q x
def Vu (body:VQ→cV→aA→Prop) (Q:VQ):Nat→cV→aA→Prop
 | 0,_,_=>False
 | n+1,ρ,H=>body (pR (fun aQ H'=>Vu body Q n aQ H'∨(nZ H.length (H'.take H.length)=true∧Vu body Q n (sF H.length aQ) (H'.take H.length))) Q) ρ H
noncomputable def VW (fl:Fl) (lo:Nat):aE→VQ→cV→aA→Prop
 | .skip,Q,ρ,H=>Q .normal ρ H
 | .cT ops,Q,ρ,H=>VS fl lo ops (Q .normal) ρ H
 | .seq a b,Q,ρ,H=>VW fl lo a (pR (VW fl lo b Q) Q) ρ H
 |
  .cond c a b,Q,ρ,H=>match fJ ρ c with
  | .sc (.bool t)=>if t=true then VW fl lo a Q ρ H else VW fl lo b Q ρ H
  | _=>False
 | .block id a,Q,ρ,H=>VW fl lo a (tH id Q) ρ H
 | .loop a,Q,ρ,H=>∃n,Vu (VW fl lo a) (fun x=>gh (Q x)) n ρ H
 | .exit id,Q,ρ,H=>Q (.exit id) ρ H
 | .ret,Q,ρ,H=>Q .ret ρ H
def Ga (ρ:cV) (H:aA):Dh→Option VV
 | .tmp t=>some (ρ t)
 | .cell t agg size=>bF agg size (ρ t) H
def sQ (ρ:cV) (H:aA):List Dh→Option (List VV)
 | []=>some []
 |
  r::rs=>match Ga ρ H r,sQ ρ H rs with
  | some v,some vs=>some (v::vs)
  | _,_=>none
def pE (res:List Dh) (ρ:cV) (H:aA):Option VV :=
 match sQ ρ H res with
 | some [v]=>some v
 | some vs=>some (.dW vs)
 | none=>none
def JS (R:VV→aA→Prop):Option VV→aA→Prop
 | some v,H=>R v H
 | none,_=>False
def Dp (res:List Dh) (R:VV→aA→Prop):VQ
 | .exit _,_,_=>False
 | .normal,ρ,H=>JS R (pE res ρ H) H
 | .ret,ρ,H=>JS R (pE res ρ H) H
def MB (args:List VV):cV:=fun k=>args.getD k tI
section
variable {lo fB:Nat}
theorem Ii {V:View} (hS:SR V lo fB) {P':aI} (hp:V.P <+: P'):SR { V with P:=P',F:=fun q=>V.F q∨(V.P.length≤q∧q<P'.length) } lo fB∧HL lo V { V with P:=P',F:=fun q=>V.F q∨(V.P.length≤q∧q<P'.length) }:=by
 obtain⟨L,rfl⟩:=hp
 have hU:Up V { V with P:=V.P++L,F:=fun q=>V.F q∨(V.P.length≤q∧q<(V.P++L).length) }:=⟨fun _ h => .inl h,fun b hb=>aKV (hS.fr b hb),aKE _,fun b g es e w _ h=>⟨g,es,w,h,aKE _,fun _=>rfl⟩,rfl,by simp,fun b g es e w hb _=>⟨g,es,w,hb,rfl,id⟩⟩
 refine⟨⟨fun b g es e w hb => ?_,fun b g es e hb=>⟨fun hF => ?_,(hS.wr b g es e hb).2⟩,hS.inj,fun b hb => ?_,by have:=hS.W5;simp;omega,by have:=hS.NG;simp;omega⟩,{ hU with dB:=fun q hq _=>aKV hq,Fc:=fun q hq => ?_ }⟩
 ·obtain⟨r,p,h1,h2,h3⟩:=hS.row b g es e w hb
  exact⟨r,p,by rw[←h1];exact aKV (hS.mlt hb),h2,h3.mono hU⟩
 ·rcases hF with hF | hF
  ·exact(hS.wr b g es e hb).1 hF
  ·have h1:=hS.mlt hb
   have h2:V.P.length≤V.m b:=hF.1
   omega
 ·rcases hb with hb | hb
  ·have:=hS.fr b hb
   simp;omega
  ·exact hb.2
 ·rcases hq with hq | hq
  ·exact .inl hq
  ·exact .inr (.inl hq.1)
theorem akQ {V V':View} {x:VV} {v:Value} (h:VR V x v):Jh x=true→VR V' x v:=by
 induction h using VR.rec (motive_2:=fun xs vs _=>Wn xs=true→VL V' xs vs) with
 | sc _ h=>intro _;exact .sc _ h
 | agg cs ps _ ih=>intro hx;exact .agg _ _ (ih hx)
 | dW cs ps _ ih=>intro hx;exact .dW _ _ (ih hx)
 | any=>intro hx;cases hx
 | pT=>intro hx;cases hx
 | tree=>intro hx;cases hx
 | cG=>intro hx;cases hx
 | ref=>intro hx;cases hx
 | ptr=>intro hx;cases hx
 | xZ=>intro hx;cases hx
 | nil=>exact .nil
 |
  cons x v xs vs _ _ ih Yw =>
  rename_i hx
  simp only[Wn,aLc] at hx
  exact .cons _ _ _ _ (ih hx.1) (Yw hx.2)
theorem VR.F6 {V':View} {G:Nat→Prop} {P:aI} {x:VV} {v:Value} (hF:∀b,G b→V'.F b∧V'.P[b]? = P[b]?) (h:VR (bare G P) x v):VR V' x v:=by
 induction h using VR.rec (motive_2:=fun xs vs _=>VL V' xs vs) with
 | any=>exact .any _
 | sc _ h=>exact .sc _ h
 | agg cs ps _ ih=>exact .agg _ _ ih
 | dW cs ps _ ih=>exact .dW _ _ ih
 | pT k hk=>exact .pT k hk
 | tree es k b o c r e p Xu hb ho hc he hk _ ih=>exact .tree es k b o c r e p (hF _ Xu).1 (by rw[(hF _ Xu).2];exact hb) ho hc he hk ih
 | cG x off b o r e p Xu hb ho _ ih=>exact .cG x off b o r e p (hF _ Xu).1 (by rw[(hF _ Xu).2];exact hb) ho ih
 | ref b g o n c a n' c' bI hg ha hq=>exact absurd bI (aLV _)
 | ptr b g j off a bI hg ha hq=>exact absurd bI (aLV _)
 | xZ f gB ps _ ih=>exact .xZ _ _ _ ih
 | nil=>exact .nil
 | cons x v xs vs _ _ ih Yw=>exact .cons _ _ _ _ ih Yw
theorem WB {V:View} (hS:SR V lo fB) {f asP:Nat} (apL:asP≤V.P.length) {args:List VV} {fA:List Value} {G:Nat→Prop} (hG:∀b,G b→b<V.P.length) (hl:VL (bare G V.P) args fA) {K:VV→Prop} (h:I3 f args K) :
  ∃P' pv r,uQ f fA asP V.P=some (pv,P')∧V.P <+: P'∧VR (bare (fun q=>G q∨(V.P.length≤q∧q<P'.length)) P') r pv∧aY r=true∧K r:=by
 unfold I3 tk at h
 split at h
 ·rename_i r hr
  obtain⟨h1,h2,h3⟩:=SK hr
  obtain⟨P',pv,h4,h5,h6⟩:=h3 G V.P fA asP hG hl apL
  exact⟨P',pv,r,h4,h5,h6,Uw r h2,h⟩
 ·cases h
theorem J3 {V:View} (hS:SR V lo fB) {f:Nat} {args:List VV} {fA:List Value} (hl:VL V args fA) {q:Bool} {K:VV→aA→Prop} (h:dH f args (if q then V.H.length else lo) V.H K):Tp lo fB V (uQ f fA (if q then V.P.length else fB) V.P) K:=by
 have hlq:(if q=true then V.P.length else fB)≤V.P.length:=by split;exact aKE _;exact hS.W5
 unfold dH at h
 split at h
 ·cases q with
  | false=>exact h V fB fA rfl hS hl
  |
   true =>
   have hS':SR V V.H.length V.P.length:=⟨hS.row,fun b g es e hb=>⟨(hS.wr b g es e hb).1,fun hl=>by have:=(aKD.1 hb).1;omega⟩,hS.inj,hS.fr,aKE _,hS.NG⟩
   obtain⟨pv,V',r,g1,g3,g4,g5,g6⟩:=h V V.P.length fA rfl hS' hl
   refine⟨pv,V',r,g1,⟨g3.row,fun b g es e hb=>⟨(g3.wr b g es e hb).1,fun HM => ?_⟩,g3.inj,g3.fr,aKF hS.W5 g4.Hr,g3.NG⟩,{ g4.toUp with dB:=fun p hp _=>g4.dB p hp fun b g es e hb HM => ?_,Fc:=g4.Fc },g5,g6⟩
   ·rcases aKH (V'.m b) V.P.length with bI | Hp
    ·obtain⟨g0,es0,w0,k1,k2,k3⟩:=g4.D3 b g es e true hb bI
     have:=k3 rfl
     subst this
     rw[k2]
     exact(hS.wr _ _ _ _ k1).2 HM
    ·exact aKF hS.W5 Hp
   ·have:=(aKD.1 hb).1
    have HM:V.H.length≤b:=HM
    omega
 ·split at h
  ·rename_i hp
   obtain⟨P',pv,r,g1,g2,g3,g4,g5⟩:=WB hS (asP:=if q=true then V.P.length else fB) hlq (G:=V.F) hS.fr (VL.pure (V:=V) (V':=bare V.F V.P) (fun b hb=>⟨hb,rfl⟩) hl hp) h
   obtain⟨k1,k2⟩:=Ii hS g2
   exact⟨pv,_,r,g1,k1,k2,g3.F6 (fun b hb=>⟨hb,rfl⟩),g5⟩
  ·split at h
   case h_2=>cases h
   rename_i mF hfz
   unfold I3 tk at h
   split at h
   case h_2=>cases h
   rename_i r hr
   obtain⟨h1,h2,h3⟩:=SK hr
   split at h
   ·rename_i hfl
    have Gd:=Gt hS (G:=(· < V.P.length)) (fun q hq=>hS.fr q hq) hl hfz (fun i _ g es e w hb=>hS.mlt hb)
    obtain⟨P',pv,g1,g2,g3⟩:=h3 _ V.P fA _ (fun _ h=>h) Gd hlq
    obtain⟨k1,k2⟩:=Ii hS g2
    exact⟨pv,_,r,g1,k1,k2,akQ g3 hfl,h⟩
   ·obtain⟨k1,k2,k3,k4,k5,k6⟩:=Ag (args.flatMap (iT depth V.H)) hS
    have Gd:=Gt hS (G:=(V.dC (args.flatMap (iT depth V.H))).F) (fun q hq=>k2.F q hq) hl hfz k6
    rw[←k4] at Gd
    obtain⟨P',pv,g1,g2,g3⟩:=h3 _ _ fA _ k1.fr Gd (by rw[k4];exact hlq)
    obtain⟨j1,j2⟩:=Ii k1 g2
    rw[k4] at g1
    refine⟨pv,_,r,g1,j1,k2.trans j2,g3.F6 (fun b hb=>⟨hb,rfl⟩),?_⟩
    show K r (V.dC (args.flatMap (iT depth V.H))).H
    rw[k3]
    exact h
def CH (lo fB:Nat) (V:View) (c:aE) (Q:VQ) (mN:Env):Prop :=
 W fB c (fun x Qz P'=>∃V' aQ,V'.P=P'∧SR V' lo fB∧HL lo V V'∧ER V' aQ Qz∧Q x aQ V'.H) mN V.P
theorem Jz {V:View} {ρ:cV} {mN:Env} (hE:ER V ρ mN) {g:Option (Nat×Bool)} {t:Bool} (h:Eg g ρ=some t):Cj g mN=some t:=by
 unfold Eg at h
 unfold Cj
 split at h
 ·exact h
 ·rename_i t' want
  have ht:=hE t'
  split at h
  ·rename_i b hb
   obtain⟨e,_⟩:=uS ht hb
   simp only[e]
   exact h
  ·rename_i vs hb
   rw[hb] at ht
   generalize hu:mN t'=u at ht
   cases ht with
   | dW cs ps hl=>simp only[hu];exact h
  ·cases h
theorem XH {V:View} (hS:SR V lo fB) {x y:VV} {u w:Value} (hx:VR V x u) (hy:VR V y w) (h:lY V.H x y=true):aCe u w=true:=by
 have key:∀ {z:VV} {v:Value},VR V z v→(match pS V.H z with
   | .bad=>True
   | .no=>kP v=none
   | .row i wr=>kP v=some (V.m i)∧∃g es e,V.H[i]? = some (.row g es e wr)
   | .D3 i=>∀q,kP v=some q→∀b' g' es e w,V.H[b']? = some (.row g' es e w)→b'≠i→V.m b'≠q
   | .tree=>∀b,kP v=some b→V.F b):=by
  intro z v hz
  cases hz with
  | any=>simp only[pS]
  | sc v h =>
      cases v<;>first | rfl | cases h | skip
      rename_i a;cases a<;>first | rfl | cases h
  | agg=>rfl
  | dW=>rfl
  | pT k hk =>
       rcases hk with rfl | rfl
       ·intro b hb;cases hb
       ·rfl
  |
   tree es k b o c r e p hF hb ho hc he hk hl =>
   cases es with
   |
    nil=>cases k with
    | nil=>exact hk.elim
    | op=>intro b' xM;cases xM;exact hF
    | cl=>intro b' xM;cases xM;exact hF
   | cons=>intro b' xM;cases xM;exact hF
  | cG x off b o r e p hF hb ho hl=>intro b' xM;cases xM;exact hF
  |
   ref b g o n c a n' c' bI hg ha hq =>
   simp only[pS]
   cases hr:aG V.H b g with
   | none=>exact fun q h=>(by
     cases a with
     | none=>cases h
     | some a0=>cases h;exact(hq a0 rfl).2.2)
   |
    some q =>
    obtain⟨es,e,wr⟩:=q
    rw[cB] at hr
    obtain⟨rfl,rfl,rfl⟩:=ha _ _ _ hr
    exact⟨rfl,g,es,e,hr⟩
  |
   ptr b g j off a bI hg ha hq =>
   simp only[pS]
   cases hr:aG V.H b g with
   | none=>exact fun q h=>(by
     cases a with
     | none=>cases h
     | some a0=>cases h;exact(hq a0 rfl).2.2)
   |
    some q =>
    obtain⟨es,e,wr⟩:=q
    rw[cB] at hr
    have:=ha _ _ _ hr
    subst this
    exact⟨rfl,g,es,e,hr⟩
  | xZ=>rfl
 have kx:=key hx
 have ky:=key hy
 unfold lY at h
 unfold aCe
 cases hbx:pS V.H x with
 | bad=>rw[hbx] at h;have h:false=true:=h;cases h
 |
  no =>
  rw[hbx] at kx
  have kx:kP u=none:=kx
  rw[kx]
 |
  D3 i =>
  rw[hbx] at kx h
  have kx:∀q,kP u=some q→∀b' g' es e w,V.H[b']? = some (.row g' es e w)→b'≠i→V.m b'≠q:=kx
  cases Vf:pS V.H y with
  | bad=>rw[Vf] at h;have h:false=true:=h;cases h
  |
   no =>
   rw[Vf] at ky
   have ky:kP w=none:=ky
   rw[ky]
   cases kP u<;>rfl
  | D3 j=>rw[Vf] at h;have h:false=true:=h;cases h
  | tree=>rw[Vf] at h;have h:false=true:=h;cases h
  |
   row j wj =>
   rw[Vf] at ky h
   obtain⟨k3,g2,SE,e2,k4⟩:kP w=some (V.m j)∧∃g es e,V.H[j]? = some (.row g es e wj):=ky
   have h:(i != j)=true:=h
   simp only[bne_iff_ne,ne_eq] at h
   rw[k3]
   cases hu:kP u with
   | none=>rfl
   |
    some q =>
    simp only[bne_iff_ne,ne_eq]
    exact fun hm=>kx q hu j _ _ _ _ k4 (Ne.symm h) hm.symm
 |
  row i wi =>
  rw[hbx] at kx h
  obtain⟨k1,g1,EI,e1,k2⟩:kP u=some (V.m i)∧∃g es e,V.H[i]? = some (.row g es e wi):=kx
  cases Vf:pS V.H y with
  | bad=>rw[Vf] at h;have h:false=true:=h;cases h
  |
   no =>
   rw[Vf] at ky
   have ky:kP w=none:=ky
   rw[ky]
   cases kP u<;>rfl
  |
   D3 j =>
   rw[Vf] at ky h
   have ky:∀q,kP w=some q→∀b' g' es e w,V.H[b']? = some (.row g' es e w)→b'≠j→V.m b'≠q:=ky
   have h:(i != j)=true:=h
   simp only[bne_iff_ne,ne_eq] at h
   rw[k1]
   cases hw:kP w with
   | none=>rfl
   |
    some q =>
    simp only[bne_iff_ne,ne_eq]
    exact fun hm=>ky q hw i _ _ _ _ k2 h hm
  |
   row j wj =>
   rw[Vf] at ky h
   obtain⟨k3,g2,SE,e2,k4⟩:kP w=some (V.m j)∧∃g es e,V.H[j]? = some (.row g es e wj):=ky
   rw[k1,k3]
   have h:(i != j)=true:=h
   simp only[bne_iff_ne,ne_eq] at h ⊢
   exact fun hm=>h (hS.inj _ _ _ _ _ _ _ _ _ _ k2 k4 hm)
  |
   tree =>
   rw[Vf] at ky h
   have ky:∀b,kP w=some b→V.F b:=ky
   have h:wi=true:=h
   subst h
   cases hw:kP w with
   | none=>rw[k1]
   |
    some b =>
    rw[k1]
    simp only[bne_iff_ne,ne_eq]
    exact fun hm=>(hS.wr _ _ _ _ k2).1 (by rw[hm];exact ky b hw)
 |
  tree =>
  rw[hbx] at kx h
  have kx:∀b,kP u=some b→V.F b:=kx
  cases Vf:pS V.H y with
  | bad=>rw[Vf] at h;have h:false=true:=h;cases h
  |
   no =>
   rw[Vf] at ky
   have ky:kP w=none:=ky
   rw[ky]
   cases kP u<;>rfl
  | tree=>rw[Vf] at h;have h:false=true:=h;cases h
  | D3 j=>rw[Vf] at h;have h:false=true:=h;cases h
  |
   row j wj =>
   rw[Vf] at ky h
   obtain⟨k1,g1,EI,e1,k2⟩:kP w=some (V.m j)∧∃g es e,V.H[j]? = some (.row g es e wj):=ky
   have h:wj=true:=h
   subst h
   cases hw:kP u with
   | none=>rfl
   |
    some b =>
    rw[k1]
    simp only[bne_iff_ne,ne_eq]
    exact fun hm=>(hS.wr _ _ _ _ k2).1 (by rw[←hm];exact kx b hw)
theorem VH {V:View} (hS:SR V lo fB) {ρ:cV} {mN:Env} (hE:ER V ρ mN) {fl:Fl} {q:Bool} {op:qK} {K:VV→aA→Prop} (h:eZ fl lo q op ρ V.H K):Tp lo fB V (lM fB q op mN V.P) K:=by
 have other:∀ {v H'},vop fl lo op ρ V.H=some (v,H')→K v H'→Tp lo fB V (lM fB q op mN V.P) K:=by
  intro v H' h1 h2
  obtain⟨pv,V',g1,g2,g3,g4,g5⟩:=aeA hS hE (q:=q) h1
  exact⟨pv,V',v,g1,g3,g4,g5,by rw[g2];exact h2⟩
 unfold eZ at h
 split at h
 ·rw[acL]
  exact J3 hS (hE.evs _) h
 ·rename_i fv args
  rw[YQ]
  have hf:=hE.ev fv
  split at h
  ·rename_i f gB hfv
   rw[hfv] at hf
   generalize ev mN fv=u at hf ⊢
   cases hf with
   |
    xZ f gB ps hl =>
    unfold ahN
    simp only[aLW]
    exact J3 hS ((hE.evs args).append hl) h
  ·cases h
 ·split at h
  ·rename_i v H' h1
   exact other h1 h
  ·cases h
theorem NT {fl:Fl} {K:cV→aA→Prop}:∀(is:List PI) {V:View} {ρ:cV} {mN:Env},SR V lo fB→ER V ρ mN→VS fl lo is K ρ V.H →
  WS fB is (fun Qz P'=>∃V' aQ,V'.P=P'∧SR V' lo fB∧HL lo V V'∧ER V' aQ Qz∧K aQ V'.H) mN V.P
 |
  [],V,ρ,mN,hS,hE,h=>by
  rw[axP]
  exact⟨V,ρ,rfl,hS,HL.refl _ _,hE,h⟩
 |
  i::is,V,ρ,mN,hS,hE,h=>by
  unfold VS at h
  rw[aBD]
  unfold BX
  split at h
  ·cases h
  ·rename_i hw
   rw[Jz hE hw]
   exact⟨_,_,rfl,NT is hS (hE.put (.dW [] [] .nil)) h⟩
  ·rename_i hw
   rw[Jz hE hw]
   obtain⟨TY,h⟩:=h
   have aDO:i.cf.all (Dr mN)=true:=by
    rw[aKS] at TY ⊢
    intro c hc
    exact XH hS (hE.ev c.1) (hE.ev c.2) (TY c hc)
   simp only[aDO,if_true]
   obtain⟨pv,V',v,g1,g2,g3,g4,g5⟩:=VH hS hE h
   refine⟨pv,V'.P,?_,?_⟩
   ·unfold lM at g1
    exact g1
   ·obtain⟨Zy,P'',k1,UL,BW,k2,k3,k4,k5,k6⟩:=NT is g2 ((hE.mono g3.toUp).put g4) g5
    exact⟨Zy,P'',k1,UL,BW,k2,k3,g3.trans k4,k5,k6⟩
theorem PZ:∀(ts:List Nat) {V:View} {ρ aQ:cV} {mN:Env} {H':aA},SR V lo fB→ER V ρ mN→arE ts ρ V.H=some (aQ,H')→∃V',V'.P=V.P∧V'.H=H'∧SR V' lo fB∧HL lo V V'∧ER V' aQ mN
 |
  [],V,ρ,aQ,mN,H',hS,hE,h=>by
  cases h
  exact⟨V,rfl,rfl,hS,HL.refl _ _,hE⟩
 |
  t::ts,V,ρ,aQ,mN,H',hS,hE,h=>by
  unfold arE at h
  split at h
  case h_2=>cases h
  rename_i v hv
  obtain⟨k1,k2,k3,k4,k5,k6⟩:=Ag (iT depth V.H (ρ t)) hS
  have hx:=OY hS (G:=(V.dC (iT depth V.H (ρ t))).F) (fun q hq=>k2.F q hq) depth (ρ t) v (mN t) (hE t) hv k6
  have I4:VR (V.dC (iT depth V.H (ρ t))) v (mN t):=hx.F6 (fun b hb=>⟨hb,by rw[k4]⟩)
  rw[←k3] at h
  obtain⟨V',g1,g2,g3,g4,g5⟩:=PZ ts (mN:=mN) k1 (by
   have e:=(hE.mono k2.toUp).put (d:=some t) I4
   have ee:put mN (some t) (mN t)=mN:=by
    funext k
    simp only[put]
    split
    ·rename_i hk;rw[hk]
    ·rfl
   rw[ee] at e
   exact e) h
  exact⟨V',g1.trans k4,g2,g3,k2.trans g4,g5⟩
theorem WY {V:View} (hS:SR V lo fB) {ρ:cV} {mN:Env} (hE:ER V ρ mN) {K:cV→aA→Prop} (h:gh K ρ V.H):∃V' aQ,V'.P=V.P∧SR V' lo fB∧HL lo V V'∧ER V' aQ mN∧K aQ V'.H:=by
 obtain⟨ts,aQ,H',h1,h2⟩:=h
 obtain⟨V',g1,g2,g3,g4,g5⟩:=PZ ts hS hE h1
 exact⟨V',aQ,g1,g3,g4,g5,by rw[g2];exact h2⟩
theorem NO {k:Nat} {es:List VV}:oK k es=true↔∀x∈es,below k x=true:=by
 induction es with
 | nil=>simp[oK]
 | cons x xs ih=>simp[oK,ih]
theorem Gj {k:Nat} {es:List VV} (h:oK k es=true):oK k (es.flatMap aB)=true:=by
 rw[NO] at h ⊢
 intro x hx
 obtain⟨y,hy,CQ⟩:=List.mem_flatMap.1 hx
 have:=h y hy
 unfold aB at CQ
 split at CQ
 ·exact NO.1 (by simpa[below] using this) x CQ
 ·rw[aLK] at CQ;subst CQ;exact this
theorem UF {k:Nat} {x:VV} (h:below k x=true):oK k (aB x)=true:=by
 have:=Gj (k:=k) (es:=[x]) (by simp[oK,h])
 simpa using this
def View.B1 (V:View) (k:Nat):View:={ V with H:=V.H.take k }
theorem VR.B1 {V:View} {k:Nat} (hk:k≤V.H.length) {x:VV} {v:Value} (h:VR V x v):PM.below k x=true→VR (V.B1 k) x v:=by
 have he:∀ {b:Nat},b<k→∀y,(V.B1 k).H[b]? = some y→V.H[b]? = some y:=fun Zu y hy=>by
  have:(V.H.take k)[_]? = some y:=hy
  rw[aLX,if_pos Zu] at this
  exact this
 have hT:∀ {b:Nat} {y:fO},(V.B1 k).H[b]? = some y→V.H[b]? = some y:=fun {b y} hy=>by
  have h:(V.H.take k)[b]? = some y:=hy
  rw[aLX] at h
  split at h
  ·exact h
  ·cases h
 induction h using VR.rec (motive_2:=fun xs vs _=>oK k xs=true→VL (V.B1 k) xs vs) with
 | any=>intro _;exact .any _
 | sc _ h=>intro _;exact .sc _ h
 | agg cs ps _ ih=>intro hb;exact .agg _ _ (ih hb)
 | dW cs ps _ ih=>intro hb;exact .dW _ _ (ih hb)
 | pT k hk=>intro _;exact .pT k hk
 | tree es k b o c r e p Xu zD ho hc he hk' _ ih=>intro hb;exact .tree es k b o c r e p Xu zD ho hc he hk' (ih (Gj hb))
 | cG x off b o r e p Xu zD ho _ ih=>intro hb;exact .cG x off b o r e p Xu zD ho (ih (UF hb))
 |
  ref b g o n c a n' c' bI hg ha hq =>
  intro hb
  have Zu:b<k:=by simpa[PM.below] using hb
  exact .ref b g o n c a n' c' (by show b<(V.H.take k).length;simp;omega) (fun g' es e w hr=>hg _ _ _ _ (he Zu _ hr)) (fun es e w hr=>ha _ _ _ (he Zu _ hr)) fun a0 h=>⟨(hq a0 h).1,(hq a0 h).2.1,fun b' g' es e w hr=>(hq a0 h).2.2 b' g' es e w (hT hr)⟩
 |
  ptr b g j off a bI hg ha hq =>
  intro hb
  have Zu:b<k:=by simpa[PM.below] using hb
  exact .ptr b g j off a (by show b<(V.H.take k).length;simp;omega) (fun g' es e w hr=>hg _ _ _ _ (he Zu _ hr)) (fun es e w hr=>ha _ _ _ (he Zu _ hr)) fun a0 h=>⟨(hq a0 h).1,(hq a0 h).2.1,fun b' g' es e w hr=>(hq a0 h).2.2 b' g' es e w (hT hr)⟩
 | xZ f gB ps _ ih=>intro hb;exact .xZ _ _ _ (ih hb)
 | nil=>exact .nil
 |
  cons x v xs vs _ _ ih Yw =>
  rename_i hb
  simp only[oK,aLc] at hb
  exact .cons _ _ _ _ (ih hb.1) (Yw hb.2)
theorem VL.B1 {V:View} {k:Nat} (hk:k≤V.H.length) {xs:List VV} {vs:List Value} (h:VL V xs vs) (hb:oK k xs=true):VL (V.B1 k) xs vs:=by
 induction xs generalizing vs with
 | nil=>cases h;exact .nil
 |
  cons x xs ih=>cases h with
  |
   cons _ v _ vs h hs =>
   simp only[oK,aLc] at hb
   exact .cons _ _ _ _ (h.B1 hk hb.1) (ih hs hb.2)
theorem WK {V V':View} (hS:SR V' lo fB) {ρ:cV} {mN:Env} (hE:ER V' ρ mN) (hx:HL lo V V') (hr:nZ V.H.length (V'.H.take V.H.length)=true) :
  SR (V'.B1 V.H.length) lo fB∧HL lo V (V'.B1 V.H.length)∧ER (V'.B1 V.H.length) (sF V.H.length ρ) mN:=by
 have hk:=hx.len
 have get:∀ {b:Nat} {y:fO},(V'.B1 V.H.length).H[b]? = some y→V'.H[b]? = some y:=by
  intro b y h
  have h:(V'.H.take V.H.length)[b]? = some y:=h
  rw[aLX] at h
  split at h
  ·exact h
  ·cases h
 refine⟨⟨fun b g es e w hb => ?_,fun b g es e hb=>hS.wr b g es e (get hb),fun a b g es e w g' pK e' w' ha hb hm=>hS.inj a b _ _ _ _ _ _ _ _ (get ha) (get hb) hm,hS.fr,hS.W5,hS.NG⟩,
  { F:=hx.F,P:=hx.P,len:=by show V.H.length≤(V'.H.take V.H.length).length;simp;omega,row:=fun b g es e w bI hb=>hx.row b g es e w bI (get hb),NG:=hx.NG,Hr:=hx.Hr,D3:=fun b g es e w hb hm=>hx.D3 b g es e w (get hb) hm,dB:=hx.dB,Fc:=hx.Fc },fun t => ?_⟩
 ·obtain⟨r,p,h1,h2,h3⟩:=hS.row b g es e w (get hb)
  refine⟨r,p,h1,h2,h3.B1 hk (Gj ?_)⟩
  have:=aKS.1 hr _ (aLy (show (V'.H.take V.H.length)[b]? = some _ from hb))
  exact this
 ·unfold sF MI
  split
  ·rename_i hb
   exact(hE t).B1 hk hb
  ·exact .any _
theorem T9 {c:aE} {Q:Ex→Env→aI→Prop} {ρ:Env} {H:aI} (h:W fB c (aAZ (fun aQ H'=>W fB (.loop c) Q aQ H') Q) ρ H):W fB (.loop c) Q ρ H:=by
 obtain⟨x,aQ,H',h1,h2⟩:=h
 unfold W
 rw[acX,h1]
 cases x with
 |
  normal =>
  obtain⟨y,BW,Uo,h3,h4⟩:=h2
  exact⟨y,BW,Uo,h3,h4⟩
 | exit i=>exact⟨_,_,_,rfl,h2⟩
 | ret=>exact⟨_,_,_,rfl,h2⟩
theorem zV {fl:Fl}:∀(c:aE) {V:View} {ρ:cV} {mN:Env} {Q:VQ},SR V lo fB→ER V ρ mN→VW fl lo c Q ρ V.H→CH lo fB V c Q mN
 |
  .skip,V,ρ,mN,Q,hS,hE,h=>by
  unfold CH
  rw[ayJ]
  exact⟨V,ρ,rfl,hS,HL.refl _ _,hE,h⟩
 |
  .exit id,V,ρ,mN,Q,hS,hE,h=>by
  unfold CH
  rw[azG]
  exact⟨V,ρ,rfl,hS,HL.refl _ _,hE,h⟩
 |
  .ret,V,ρ,mN,Q,hS,hE,h=>by
  unfold CH
  rw[aBK]
  exact⟨V,ρ,rfl,hS,HL.refl _ _,hE,h⟩
 |
  .cT ops,V,ρ,mN,Q,hS,hE,h=>by
  unfold CH
  rw[aB6]
  exact NT ops hS hE h
 |
  .seq a b,V,ρ,mN,Q,hS,hE,h=>by
  unfold CH
  rw[aBW]
  refine(zV a hS hE h).mono ?_
  rintro x Qz P' ⟨V',aQ,rfl,g2,g3,g4,g5⟩
  cases x with
  |
   normal =>
   refine(zV b g2 g4 g5).mono ?_
   rintro y Zy P'' ⟨UL,BW,k1,k2,k3,k4,k5⟩
   exact⟨UL,BW,k1,k2,g3.trans k3,k4,k5⟩
  | exit i=>exact⟨V',aQ,rfl,g2,g3,g4,g5⟩
  | ret=>exact⟨V',aQ,rfl,g2,g3,g4,g5⟩
 |
  .cond c a b,V,ρ,mN,Q,hS,hE,h=>by
  unfold CH
  rw[awQ]
  unfold VW at h
  split at h
  ·rename_i t hc
   obtain⟨e,_⟩:=uS (hE.ev c) hc
   refine⟨t,e,fun ht => ?_,fun ht => ?_⟩
   ·rw[if_pos ht] at h
    exact zV a hS hE h
   ·rw[if_neg (by simp[ht])] at h
    exact zV b hS hE h
  ·cases h
 |
  .block id a,V,ρ,mN,Q,hS,hE,h=>by
  unfold CH
  rw[apY]
  refine(zV a hS hE h).mono ?_
  rintro x Qz P' ⟨V',aQ,rfl,g2,g3,g4,g5⟩
  cases x with
  | normal=>exact⟨V',aQ,rfl,g2,g3,g4,g5⟩
  |
   exit i =>
   rw[Ls]
   have g5:if i=id then Q .normal aQ V'.H else Q (.exit i) aQ V'.H:=g5
   split at g5
   ·rename_i hi
    rw[if_pos hi]
    exact⟨V',aQ,rfl,g2,g3,g4,g5⟩
   ·rename_i hi
    rw[if_neg hi]
    exact⟨V',aQ,rfl,g2,g3,g4,g5⟩
  | ret=>exact⟨V',aQ,rfl,g2,g3,g4,g5⟩
 |
  .loop a,V,ρ,mN,Q,hS,hE,h=>by
  obtain⟨n,h⟩:=h
  have key:∀n {V:View} {ρ:cV} {mN:Env},SR V lo fB→ER V ρ mN→Vu (VW fl lo a) (fun x=>gh (Q x)) n ρ V.H→CH lo fB V (.loop a) Q mN:=by
   intro n
   induction n with
   | zero=>intro V ρ mN _ _ h;cases h
   |
    succ n ih =>
    intro V ρ mN hS hE h
    unfold CH
    refine T9 ?_
    refine(zV a hS hE h).mono ?_
    rintro x Qz P' ⟨V',aQ,rfl,g2,g3,g4,g5⟩
    cases x with
    |
     normal =>
     rcases g5 with g5 | ⟨g5,g6⟩
     ·refine(ih g2 g4 g5).mono ?_
      rintro y Zy P'' ⟨UL,BW,k1,k2,k3,k4,k5⟩
      exact⟨UL,BW,k1,k2,g3.trans k3,k4,k5⟩
     ·obtain⟨t1,t2,t3⟩:=WK g2 g4 g3 g5
      refine(ih t1 t3 g6).mono ?_
      rintro y Zy P'' ⟨UL,BW,k1,k2,k3,k4,k5⟩
      exact⟨UL,BW,k1,k2,t2.trans k3,k4,k5⟩
    |
     exit i =>
     obtain⟨UL,BW,k1,k2,k3,k4,k5⟩:=WY g2 g4 g5
     exact⟨UL,BW,k1,k2,g3.trans k3,k4,k5⟩
    |
     ret =>
     obtain⟨UL,BW,k1,k2,k3,k4,k5⟩:=WY g2 g4 g5
     exact⟨UL,BW,k1,k2,g3.trans k3,k4,k5⟩
  exact key n hS hE h
theorem AM {V:View} (hS:SR V lo fB) {ρ:cV} {mN:Env} (hE:ER V ρ mN) {res:List Dh} {v:VV} (h:pE res ρ V.H=some v):∃pv,uJ res mN V.P=some pv∧VR V v pv:=by
 have one:∀ {r:Dh} {v:VV},Ga ρ V.H r=some v→∃pv,Y3 mN V.P r=some pv∧VR V v pv:=by
  intro r v h
  cases r with
  | tmp t=>cases h;exact⟨_,rfl,hE t⟩
  | cell t agg size=>exact Oz hS (hE t) h
 have all:∀ {rs:List Dh} {vs:List VV},sQ ρ V.H rs=some vs→∃ps,Ez mN V.P rs=some ps∧VL V vs ps:=by
  intro rs
  induction rs with
  | nil=>intro vs h;cases h;exact⟨[],rfl,.nil⟩
  |
   cons r rs ih =>
   intro vs h
   unfold sQ at h
   split at h
   ·rename_i v vs' h1 h2
    cases h
    obtain⟨pv,k1,k2⟩:=one h1
    obtain⟨ps,k3,k4⟩:=ih h2
    exact⟨pv::ps,by unfold Ez;rw[k1,k3],.cons _ _ _ _ k2 k4⟩
   ·cases h
 unfold pE at h
 split at h
 ·rename_i v' hv
  cases h
  obtain⟨ps,k1,k2⟩:=all hv
  cases k2 with
  |
   cons _ pv _ _ hx MY =>
   cases MY
   exact⟨pv,by unfold uJ;rw[k1],hx⟩
 ·rename_i vs gF hv
  cases h
  obtain⟨ps,k1,k2⟩:=all hv
  refine⟨.tuple ps.toArray,?_,.dW _ _ k2⟩
  unfold uJ
  rw[k1]
  split
  ·rename_i pv he
   injection he with he
   subst he
   cases k2 with
   | cons x _ _ _ hx MY=>cases MY;exact absurd rfl (gF x)
  ·rename_i he
   injection he with he
   rw[he]
  ·rename_i he;cases he
 ·cases h
theorem V7 {V:View} {args:List VV} {fA:List Value} (h:VL V args fA):ER V (MB args) (acH fA):=by
 intro t
 unfold MB acH
 rw[aKB,aKB]
 cases hx:args[t]? with
 |
  none =>
  have:fA[t]? = none:=by
   rw[List.getElem?_eq_none_iff] at hx ⊢
   rw[h.length]
   exact hx
  rw[this]
  exact .dW [] [] .nil
 |
  some x =>
  obtain⟨v,h1,h2⟩:=h.get hx
  rw[h1]
  exact h2
theorem jD.walk {f:Nat} {pf:aT} {args:List VV} {H:aA} {K:VV→aA→Prop} (fl:Fl) (ht:fP f=some pf) (ha:args.length≤pf.ntmps) (h:VW fl lo pf.body (Dp pf.res K) (MB args) H):jD f args lo H K:=by
 intro V fB fA hH hS hl
 subst hH
 obtain⟨x,Qz,P',h1,V',aQ,rfl,g2,g3,g4,g5⟩:=zV pf.body hS (V7 hl) h
 have key:∃pv P'',uQ f fA fB V.P=some (pv,P'')∧P''=V'.P∧∃r,VR V' r pv∧K r V'.H:=by
  refine aiE ht (by rw[hl.length];exact ha) ?_
  refine⟨x,Qz,V'.P,h1,?_⟩
  cases x with
  | exit i=>exact g5.elim
  |
   normal =>
   simp only[Dp,JS] at g5
   split at g5
   ·rename_i v hv
    obtain⟨pv,k2,k3⟩:=AM g2 g4 hv
    exact⟨pv,k2,rfl,v,k3,g5⟩
   ·cases g5
  |
   ret =>
   simp only[Dp,JS] at g5
   split at g5
   ·rename_i v hv
    obtain⟨pv,k2,k3⟩:=AM g2 g4 hv
    exact⟨pv,k2,rfl,v,k3,g5⟩
   ·cases g5
 obtain⟨pv,P'',k1,rfl,r,k2,k3⟩:=key
 exact⟨pv,V',r,k1,g2,g3,k2,k3⟩
theorem VT.walk {f:Nat} {pf:aT} {args:List VV} {r:VV} (fl:Fl) (ht:fP f=some pf) (ha:args.length≤pf.ntmps) (h:VW fl 0 pf.body (Dp pf.res fun v H=>fz depth H v=some r) (MB args) []):VT f args r:=by
 intro F P fA fB hF hl apL
 have hS:SR (bare F P) 0 fB:=⟨fun b g es e w hb=>by simp[bare] at hb,fun b g es e hb=>by simp[bare] at hb,fun a b g es e w g' pK e' w' ha=>by simp[bare] at ha,hF,apL,aK8 _⟩
 obtain⟨x,Qz,P',h1,V',aQ,rfl,g2,g3,g4,g5⟩:=zV pf.body hS (V7 hl) h
 have fin:∀ {v:VV} {pv:Value},VR V' v pv→fz depth V'.H v=some r→VR (bare (fun q=>F q∨(P.length≤q∧q<V'.P.length)) V'.P) r pv:=by
  intro v pv hv hf
  refine OY g2 (fun q hq => ?_) depth v r pv hv hf fun i _ g es e w hr => ?_
  ·rcases g3.Fc q hq with h | h | ⟨b,g,es,e,w,h,_⟩
   ·exact .inl h
   ·exact .inr ⟨h,g2.fr q hq⟩
   ·simp[bare] at h
  ·rcases aKH (V'.m i) P.length with bI | Hp
   ·obtain⟨g0,es0,w0,k1,_⟩:=g3.D3 i g es e w hr bI
    simp[bare] at k1
   ·exact .inr ⟨Hp,g2.mlt hr⟩
 have key:∃pv P'',uQ f fA fB P=some (pv,P'')∧P''=V'.P∧VR (bare (fun q=>F q∨(P.length≤q∧q<V'.P.length)) V'.P) r pv:=by
  refine aiE ht (by rw[hl.length];exact ha) ?_
  refine⟨x,Qz,V'.P,h1,?_⟩
  cases x with
  | exit i=>exact g5.elim
  |
   normal =>
   simp only[Dp,JS] at g5
   split at g5
   ·rename_i v hv
    obtain⟨pv,k2,k3⟩:=AM g2 g4 hv
    exact⟨pv,k2,rfl,fin k3 g5⟩
   ·cases g5
  |
   ret =>
   simp only[Dp,JS] at g5
   split at g5
   ·rename_i v hv
    obtain⟨pv,k2,k3⟩:=AM g2 g4 hv
    exact⟨pv,k2,rfl,fin k3 g5⟩
   ·cases g5
 obtain⟨pv,P'',k1,rfl,k3⟩:=key
 refine⟨V'.P,pv,k1,?_,k3⟩
 refine⟨V'.P.drop P.length,List.ext_getElem? fun i => ?_⟩
 rcases aKH i P.length with hi | hi
 ·rw[aKV hi]
  exact(g3.dB i hi fun b g es e hb=>by simp[bare] at hb).symm
 ·rw[aKW hi,List.getElem?_drop,show P.length+(i-P.length)=i by omega]
end
end Go.PM
namespace Go.PM
section
variable {fl:Fl} {lo:Nat} {ρ:cV} {H:aA} {Q:VQ} {K:cV→aA→Prop} {k:VV→aA→Prop} {a b:aE} {d:Option Nat} {is:List PI} {q:Bool} {op:qK}
def Uu (fl:Fl) (lo:Nat) (d:Option Nat) (is:List PI) (K:cV→aA→Prop) (ρ:cV):VV→aA→Prop:=fun v H'=>VS fl lo is K (Nh ρ d v) H'
def Sv (r:Option (VV×aA)) (k:VV→aA→Prop):Prop:=match r with
 | some (v,H')=>k v H'
 | none=>False
theorem RE {v:VV} {H':aA}:Uu fl lo d is K ρ v H'=VS fl lo is K (Nh ρ d v) H':=rfl
theorem Ue {v:VV}:NL (some v) H k=k v H:=rfl
theorem RY {v:VV} {H':aA}:Sv (some (v,H')) k=k v H':=rfl
theorem asE {r:VV} {K:VV→Prop}:tk (some r) K=K r:=rfl
theorem ZK:VW fl lo .skip Q ρ H=Q .normal ρ H:=rfl
theorem Z7 {i:Nat}:VW fl lo (.exit i) Q ρ H=Q (.exit i) ρ H:=rfl
theorem ahQ:VW fl lo .ret Q ρ H=Q .ret ρ H:=rfl
theorem ahZ {ops:List PI}:VW fl lo (.cT ops) Q ρ H=VS fl lo ops (Q .normal) ρ H:=rfl
theorem aoH:VW fl lo (.seq a b) Q ρ H=VW fl lo a (pR (VW fl lo b Q) Q) ρ H:=rfl
theorem UE {i:Nat}:VW fl lo (.block i a) Q ρ H=VW fl lo a (tH i Q) ρ H:=rfl
theorem Z6 {c:Operand} {t:Bool} (h:fJ ρ c = .sc (.bool t)):VW fl lo (.cond c a b) Q ρ H=if t=true then VW fl lo a Q ρ H else VW fl lo b Q ρ H:=by
 simp only[VW,h]
theorem ES:pR K Q .normal=K:=rfl
theorem HR {i:Nat}:pR K Q (.exit i)=Q (.exit i):=rfl
theorem JD:pR K Q .ret=Q .ret:=rfl
theorem HB {i:Nat}:tH i Q .normal=Q .normal:=rfl
theorem Ft {i j:Nat}:tH i Q (.exit j) ρ H=if j=i then Q .normal ρ H else Q (.exit j) ρ H:=rfl
theorem On {i:Nat}:tH i Q .ret=Q .ret:=rfl
theorem JV {res:List Dh} {R:VV→aA→Prop}:Dp res R .normal ρ H=JS R (pE res ρ H) H:=rfl
theorem QR {res:List Dh} {R:VV→aA→Prop}:Dp res R .ret ρ H=JS R (pE res ρ H) H:=rfl
theorem OQ {R:VV→aA→Prop} {v:VV}:JS R (some v) H=R v H:=rfl
theorem VP {t:Nat}:pE [.tmp t] ρ H=some (ρ t):=rfl
theorem UG {t u:Nat}:pE [.tmp t,.tmp u] ρ H=some (.dW [ρ t,ρ u]):=rfl
theorem Pq {t u v:Nat}:pE [.tmp t,.tmp u,.tmp v] ρ H=some (.dW [ρ t,ρ u,ρ v]):=rfl
theorem Ri:pE [] ρ H=some (.dW []):=rfl
theorem anJ:VS fl lo [] K ρ H=K ρ H:=rfl
theorem avP:VS fl lo (⟨d,op,none,q,[]⟩::is) K ρ H=eZ fl lo q op ρ H (Uu fl lo d is K ρ):=by
 simp only[VS,Eg,aLY,true_and]
 rfl
theorem nM {c:Operand×Operand} {cs:List (Operand×Operand)}:VS fl lo (⟨d,op,none,q,c::cs⟩::is) K ρ H=((c::cs).all (gN ρ H)=true∧eZ fl lo q op ρ H (Uu fl lo d is K ρ)):=by
 simp only[VS,Eg]
 rfl
theorem UH {t:Nat} {want x:Bool} {cf:List (Operand×Operand)} (h:ρ t = .sc (.bool x)):VS fl lo (⟨d,op,some (t,want),q,cf⟩::is) K ρ H =
  if (x == want)=true then (cf.all (gN ρ H)=true∧eZ fl lo q op ρ H (Uu fl lo d is K ρ)) else VS fl lo is K (Nh ρ d tI) H:=by
 simp only[VS,Eg,h]
 cases (x == want)<;>rfl
theorem akR {t:Nat} {want:Bool} (h:ρ t = .sc (.bool want)):VS fl lo (⟨d,op,some (t,want),q,[]⟩::is) K ρ H=eZ fl lo q op ρ H (Uu fl lo d is K ρ):=by
 rw[UH h]
 simp
theorem atY {t:Nat} {want:Bool} {cf:List (Operand×Operand)} (h:ρ t = .sc (.bool (!want))):VS fl lo (⟨d,op,some (t,want),q,cf⟩::is) K ρ H=VS fl lo is K (Nh ρ d tI) H:=by
 rw[UH h]
 cases want<;>rfl
theorem Z2 {c:Operand} (h:fJ ρ c = .sc (.bool true)):VW fl lo (.cond c a b) Q ρ H=VW fl lo a Q ρ H:=by
 rw[Z6 h,if_pos rfl]
theorem UQ {c:Operand} (h:fJ ρ c = .sc (.bool false)):VW fl lo (.cond c a b) Q ρ H=VW fl lo b Q ρ H:=by
 rw[Z6 h,if_neg (by decide)]
theorem Mv {t:Nat} {want:Bool} {cf:List (Operand×Operand)} (h:ρ t=tI):VS fl lo (⟨d,op,some (t,want),q,cf⟩::is) K ρ H=VS fl lo is K (Nh ρ d tI) H:=by
 simp only[VS,Eg,h,tI]
theorem zF {d t:Nat} {v:VV}:Nh ρ (some d) v t=if t=d then v else ρ t:=rfl
theorem Rx {v:VV}:Nh ρ none v=ρ:=rfl
theorem Zi {t:Nat}:fJ ρ (.tmp t)=ρ t:=rfl
theorem Rr {v:Value}:fJ ρ (.const v)=inj v:=rfl
theorem U6 {f:Nat}:fJ ρ (.func f) = .xZ f []:=rfl
theorem YZ {k:IntKind} {n:Int}:inj (.int k n) = .sc (.int k n):=rfl
theorem Wo {t:Bool}:inj (.bool t) = .sc (.bool t):=rfl
theorem aaZ {s:ByteArray}:inj (.string s) = .sc (.string s):=rfl
theorem aaO:inj (.slice none 0 0) = .tree [] .nil:=rfl
theorem aaI {cs:Array Value}:inj (.agg cs) = .agg (cs.toList.map kW):=rfl
theorem Ww {k:IntKind} {n:Int}:kW (.int k n) = .sc (.int k n):=rfl
theorem Rn {t:Bool}:kW (.bool t) = .sc (.bool t):=rfl
theorem Vb {s:ByteArray}:kW (.string s) = .sc (.string s):=rfl
theorem VU:kW (.slice none 0 0) = .tree [] .nil:=rfl
theorem akT {x:Operand}:eZ fl lo q (.mv x) ρ H k=k (fJ ρ x) H:=rfl
theorem jN {r:Option VV}:(match r.map (fun v=>(v,H)) with | some (v,H')=>k v H' | none=>False)=NL r H k:=by cases r<;>rfl
theorem VZ {c x y:Operand}:eZ fl lo q (.pick c x y) ρ H k=NL (Wx (fJ ρ c) (fJ ρ x) (fJ ρ y)) H k:=jN
theorem ZW {o:BinOp} {x y:Operand}:eZ fl lo q (.bin o x y) ρ H k=NL (KB (dK o) (fJ ρ x) (fJ ρ y)) H k:=jN
theorem Zl {n:Bool} {x y:Operand}:eZ fl lo q (.eqb n x y) ρ H k=NL (KB (OO n) (fJ ρ x) (fJ ρ y)) H k:=jN
theorem Rb {n:Bool} {x:Operand}:eZ fl lo q (.isnil n x) ρ H k=NL (Ie n (fJ ρ x) H) H k:=jN
theorem Ru {n:Bool} {ks:List CK} {x y:Operand}:eZ fl lo q (.eqagg n ks x y) ρ H k=NL (X0 n ks (fJ ρ x) (fJ ρ y)) H k:=jN
theorem amB {o:UnOp} {x:Operand}:eZ fl lo q (.un o x) ρ H k=NL (Po (pun o) (fJ ρ x)) H k:=jN
theorem ZO {o:IntKind} {x:Operand}:eZ fl lo q (.cvt o x) ρ H k=NL (Po (Xg o) (fJ ρ x)) H k:=jN
theorem Zx {x:Operand}:eZ fl lo q (.cvs x) ρ H k=NL (Po acB (fJ ρ x)) H k:=jN
theorem Z5 {x:Operand} {i:Nat}:eZ fl lo q (.ext x i) ρ H k=NL (aiM i (fJ ρ x)) H k:=jN
theorem Zw {g:Bool} {off size:Nat} {x:Operand}:eZ fl lo q (.fld g off size x) ρ H k=NL (arD g off size (fJ ρ x)) H k:=jN
theorem Sh {z:List Value} {places:List (Nat×Nat)} {parts:List (Nat×Operand)}:eZ fl lo q (.build z places parts) ρ H k=NL ((BC places (z.map kW) (parts.map fun(i,x)=>(i,fJ ρ x))).map .agg) H k:=by
 show (match (BC places (z.map kW) (parts.map fun(i,x)=>(i,fJ ρ x))).map fun cs=>(VV.agg cs,H) with | some (v,H')=>k v H' | none=>False)=_
 cases BC places (z.map kW) (parts.map fun(i,x)=>(i,fJ ρ x))<;>rfl
theorem Zh {x:Operand}:eZ fl lo q (.chk x) ρ H k=NL (MV (fJ ρ x) H) H k:=jN
theorem Q9 {off:Nat} {x:Operand}:eZ fl lo q (.faddr off x) ρ H k=NL (yP off (fJ ρ x) H) H k:=jN
theorem Sf {size:Nat} {x i:Operand}:eZ fl lo q (.iaddr size x i) ρ H k=NL (bJ size (fJ ρ x) (fJ ρ i) H) H k:=jN
theorem Wg {x i:Operand}:eZ fl lo q (.sidx x i) ρ H k=NL (KB Ke (fJ ρ x) (fJ ρ i)) H k:=jN
theorem Wl {x:Operand} {l h:Option Operand}:eZ fl lo q (.ssub x l h) ρ H k=NL (zO (fJ ρ x) (l.map (fJ ρ)) (h.map (fJ ρ))) H k:=jN
theorem WD {f:Nat} {gB:List Operand}:eZ fl lo q (.mkfn f gB) ρ H k=k (.xZ f (gB.map (fJ ρ))) H:=rfl
theorem Z3 {x:Operand}:eZ fl lo q (.len x) ρ H k=NL (sE (fJ ρ x) H) H k:=jN
theorem Vh {x:Operand}:eZ fl lo q (.slen x) ρ H k=NL (Po DE (fJ ρ x)) H k:=jN
theorem abF {x y:Operand}:eZ fl lo q (.min x y) ρ H k=NL (KB WE (fJ ρ x) (fJ ρ y)) H k:=jN
theorem abE {x y:Operand}:eZ fl lo q (.max x y) ρ H k=NL (KB V8 (fJ ρ x) (fJ ρ y)) H k:=jN
theorem Ws {g:Bool} {size:Nat} {p:Operand}:eZ fl lo q (.load g size p) ρ H k=NL (bF g size (fJ ρ p) H) H k:=jN
theorem aaE {size:Nat} {x:Operand} {l h m:Option Operand}:eZ fl lo q (.sub size x l h m) ρ H k=NL (Hl size (fJ ρ x) (l.map (fJ ρ)) (h.map (fJ ρ)) (m.map (fJ ρ)) H) H k:=jN
theorem aaB {z:List Value}:eZ fl lo q (.new z) ρ H k=Sv (if (z.map kW).all bP then some (.ptr H.length 0 0 0,H++[.row 0 [elemOf (z.map kW)] z.length true]) else none) k:=rfl
theorem ZX {x:Operand}:eZ fl lo q (.box x) ρ H k=Sv (if (aB (fJ ρ x)).all bP then (if fl.bf then some (.cG (fJ ρ x) 0,H) else some (.ptr H.length 0 0 0,H++[.row 0 [fJ ρ x] (aB (fJ ρ x)).length true])) else none) k:=rfl
theorem WH {z:List Value} {bytes:Nat} {l c:Operand}:eZ fl lo q (.make z bytes l c) ρ H k=Sv (if (z.map kW).all bP then Bc z bytes (fJ ρ l) (fJ ρ c) H else none) k:=rfl
theorem Zq {z:List Value} {n:Nat} {parts:List (Nat×Operand)}:eZ fl lo q (.lit z n parts) ρ H k=Sv (mV fl.lr z n (parts.map fun(i,x)=>(i,fJ ρ x)) H) k:=rfl
def ZJ (r:Option aA) (k:VV→aA→Prop):Prop:=match r with
 | some H'=>k tI H'
 | none=>False
theorem N3 {H':aA}:ZJ (some H') k=k tI H':=rfl
theorem RW {r:Option aA}:(match r.map (fun H'=>(tI,H')) with | some (v,H')=>k v H' | none=>False)=ZJ r k:=by cases r<;>rfl
theorem R6 {size:Nat} {p v:Operand}:eZ fl lo q (.store size p v) ρ H k=ZJ (bL lo size (fJ ρ p) (fJ ρ v) H) k:=RW
def aAQ (lo size bytes:Nat) (x:VV) (new:Option (List VV)) (H:aA) (k:VV→aA→Prop):Prop:=match new with
 | some new=>Sv (dO lo size bytes x new H) k
 | none=>False
theorem Sb {size bytes:Nat} {x:VV} {new:List VV}:aAQ lo size bytes x (some new) H k=Sv (dO lo size bytes x new H) k:=rfl
theorem abB {size bytes:Nat} {x y:Operand}:eZ fl lo q (.app size bytes x y) ρ H k=aAQ lo size bytes (fJ ρ x) (cW size (fJ ρ y) H) H k:=by
 show (match (match cW size (fJ ρ y) H with | some new=>dO lo size bytes (fJ ρ x) new H | none=>none) with | some (v,H')=>k v H' | none=>False)=_
 cases cW size (fJ ρ y) H<;>rfl
theorem WU {size:Nat} {x y:Operand}:eZ fl lo q (.copy size x y) ρ H k=Sv (LH lo size (fJ ρ x) (fJ ρ y) H) k:=rfl
theorem RD {z:List Value} {x:Operand}:eZ fl lo q (.clear z x) ρ H k=ZJ (Ta lo z (fJ ρ x) H) k:=RW
theorem VF {f:Nat} {args:List Operand}:eZ fl lo q (.call f args) ρ H k=dH f (args.map (fJ ρ)) (if q then H.length else lo) H k:=rfl
noncomputable def XP (x:VV) (args:List VV) (lo:Nat) (H:aA) (k:VV→aA→Prop):Prop:=match x with
 | .xZ f gB=>dH f (args++gB) lo H k
 | _=>False
theorem Ew {f:Nat} {gB args:List VV}:XP (.xZ f gB) args lo H k=dH f (args++gB) lo H k:=rfl
theorem Q7 {fv:Operand} {args:List Operand}:eZ fl lo q (.callv fv args) ρ H k=XP (fJ ρ fv) (args.map (fJ ρ)) (if q then H.length else lo) H k:=by
 simp only[eZ,XP]
 all_goals (cases fJ ρ fv<;>rfl)
theorem Z8 {x:Operand}:eZ fl lo q (.b2s x) ρ H k=Sv (vop fl lo (.b2s x) ρ H) k:=rfl
theorem ZD {f:Value→Option Value} {x:Value}:Po f (.sc x)=(f x).map .sc:=rfl
theorem ZB {f:Value→Value→Option Value} {x y:Value}:KB f (.sc x) (.sc y)=(f x y).map .sc:=rfl
theorem U1 {t:Bool} {x y:VV}:Wx (.sc (.bool t)) x y=some (if t=true then x else y):=rfl
theorem V4 {vs:List VV} {i:Nat}:aiM i (.dW vs)=vs[i]? := rfl
theorem RT {es:List VV} {t:TK}:sE (.tree es t) H=some (.sc (.int .i64 es.length)):=rfl
theorem eI {b g o n c:Nat} {r:List VV×Nat×Bool} (h:aG H b g=some r):sE (.ref b g o n c) H=some (.sc (.int .i64 n)):=by
 simp only[sE,h,aLZ]
theorem WT {x:VV} {o off:Nat}:yP off (.cG x o) H=some (.cG x (o+off)):=rfl
theorem FF {b g j o off:Nat} {r:List VV×Nat×Bool} (h:aG H b g=some r):yP off (.ptr b g j o) H=some (.ptr b g j (o+off)):=by
 simp only[yP,h,aLZ]
theorem aiX {x:VV} {o:Nat}:MV (.cG x o) H=some (.cG x o):=rfl
theorem NA {g:Bool} {size o:Nat} {x:VV}:bF g size (.cG x o) H=dQ g size x o:=rfl
theorem TI {g:Bool} {size b gn j o:Nat} {es:List VV} {e:Nat} {w:Bool} {x:VV} (h:aG H b gn=some (es,e,w)) (hx:es[j]? = some x):bF g size (.ptr b gn j o) H=dQ g size x o:=by
 simp only[bF,h,hx]
theorem anS {size:Nat} {v:Value}:dQ false size (.sc v) 0=some (.sc v):=rfl
theorem Y9 {size:Nat} {es:List VV} {t:TK}:dQ false size (.tree es t) 0=some (.tree es t):=rfl
theorem anF {size b g o n c:Nat}:dQ false size (.ref b g o n c) 0=some (.ref b g o n c):=rfl
theorem ajX {size f:Nat} {gB:List VV}:dQ false size (.xZ f gB) 0=some (.xZ f gB):=rfl
theorem dU {size o:Nat} {cs:List VV}:dQ false size (.agg cs) o=cs[o]? := rfl
theorem aiA {size:Nat} {cs:List VV} (h:cs.length=size):dQ true size (.agg cs) 0=some (.agg cs):=by
 subst h
 simp[dQ,aB]
theorem ajP {size:Nat} {es:List VV} {t:TK} {kk:IntKind} {i:Int} {x:VV} (h0:0≤i) (hx:es[i.toNat]? = some x) (hs:(aB x).length=size):bJ size (.tree es t) (.sc (.int kk i)) H=some (.cG x 0):=by
 simp only[bJ,h0,hx,hs,if_true]
theorem afN {size:Nat} {es:List VV} {t:TK} {kk:IntKind} {i:Nat} {x:VV} (hx:es[i]? = some x) (hs:(aB x).length=size):bJ size (.tree es t) (.sc (.int kk (i:Int))) H=some (.cG x 0) :=
 ajP (by omega) (by simpa using hx) hs
theorem amR {size b g o n c:Nat} {kk:IntKind} {i:Int} {es:List VV} {w:Bool} (h:aG H b g=some (es,size,w)) (h0:0≤i) (h1:i<n):bJ size (.ref b g o n c) (.sc (.int kk i)) H=some (.ptr b g (o+i.toNat) 0):=by
 simp only[bJ,h]
 rw[if_pos ⟨trivial,h0,h1⟩]
theorem adR {size b g o n c:Nat} {kk:IntKind} {i:Nat} {es:List VV} {w:Bool} (h:aG H b g=some (es,size,w)) (h1:i<n):bJ size (.ref b g o n c) (.sc (.int kk (i:Int))) H=some (.ptr b g (o+i) 0):=by
 rw[amR h (by omega) (by omega),aL0]
abbrev TC (f:Nat) (args:List VV) (r:VV):Prop:=∀(lo:Nat) (H:aA) (k:VV→aA→Prop),dH f args lo H k=k r H
theorem TC.of {f:Nat} {args:List VV} {r:VV} (hr:Gi.contains f=false) (ha:aO args=true) (h:vT f args=some r):TC f args r:=by
 intro lo H k
 unfold dH I3
 simp only[hr,ha,if_true,h,aLg,if_false,asE]
theorem TC.walk {f:Nat} {pf:aT} {args:List VV} {r:VV} (fl:Fl) (ht:fP f=some pf) (hr:Gi.contains f=false) (hn:args.length≤pf.ntmps) (ha:aO args=true) (XD:gU r=true) (h:VW fl 0 pf.body (Dp pf.res fun v H=>fz depth H v=some r) (MB args) []):TC f args r :=
 TC.of hr ha (avB ha XD (VT.walk fl ht hn h))
theorem TC.Dj {f:Nat} {args mF:List VV} {r:VV} (h:TC f mF r) (hr:Gi.contains f=false) (ha':aO mF=true) (hf:args.mapM (fz depth H)=some mF) (ha:aO args=false):dH f args lo H k=if Jh r=true then k r H else k r (dC H (args.flatMap (iT depth H))):=by
 have e:∀K,I3 f mF K=K r:=fun K=>by
  have:=h 0 [] fun r _=>K r
  unfold dH at this
  simpa only[hr,ha',if_true,aLg,if_false] using this
 unfold dH
 simp only[hr,ha,hf,aLg,if_false]
 rw[e]
theorem aM {n:Nat} {v:VV} (h:aY v=true):fz (n+1) H v=some v:=by
 unfold PM.fz
 rw[if_pos h]
theorem aJ {v:VV} (h:aY v=true):fz depth H v=some v:=aM h
theorem mapM_pure {n:Nat}:∀ {es:List VV},aO es=true→es.mapM (PM.fz (n+1) H)=some es
 | [],_=>rfl
 |
  x::xs,h=>by
  simp only[aO,aLc] at h
  rw[aL1,aM h.1,mapM_pure h.2]
  rfl
theorem IA {b g n c e:Nat} {es:List VV} {w:Bool} (h:aG H b g=some (es,e,w)) (hn:n=es.length) (hc:n≤c) (hp:aO es=true):fz depth H (.ref b g 0 n c)=some (.tree es .op):=by
 have:aY (.ref b g 0 n c)=false:=rfl
 show fz (7+1) H _=_
 unfold PM.fz
 simp only[this,h,aLg,if_false]
 subst hn
 rw[if_pos ⟨by omega,hc⟩,aLQ,List.take_length,mapM_pure hp]
 rfl
theorem Ec {n:Nat} {v:VV} (h:aY v=true):iT n H v=[]:=by
 cases n with
 | zero=>rfl
 | succ n=>unfold iT;rw[if_pos h]
theorem AN {n:Nat}:∀ {es:List VV},aO es=true→es.flatMap (iT n H)=[]
 | [],_=>rfl
 |
  x::xs,h=>by
  simp only[aO,aLc] at h
  rw[List.flatMap_cons,Ec h.1,AN h.2]
  rfl
theorem K9 {b g n c e:Nat} {es:List VV} {w:Bool} (h:aG H b g=some (es,e,w)) (hn:n=es.length) (hp:aO es=true):iT depth H (.ref b g 0 n c)=[b]:=by
 have:aY (.ref b g 0 n c)=false:=rfl
 show iT (7+1) H _=_
 unfold iT
 simp only[this,h,aLg,if_false]
 subst hn
 rw[aLQ,List.take_length,AN hp]
theorem aaC {r:Option VV} {K K':VV→Prop} (hk:∀v,K v→K' v) (h:tk r K):tk r K':=by
 cases r with
 | none=>exact h
 | some v=>exact hk _ h
theorem Mw {f:Nat} {args:List VV} {k k':VV→aA→Prop} (hk:∀v H,k v H→k' v H) (h:dH f args lo H k):dH f args lo H k':=by
 unfold dH at h ⊢
 split at h
 ·rename_i h1
  rw[if_pos h1]
  exact h.mono hk
 ·rename_i h1
  rw[if_neg h1]
  split at h
  ·rename_i h2
   rw[if_pos h2]
   exact aaC (fun v=>hk v H) h
  ·rename_i h2
   rw[if_neg h2]
   split at h
   ·refine aaC (fun v hv => ?_) h
    split at hv
    ·rename_i h3;rw[if_pos h3];exact hk _ _ hv
    ·rename_i h3;rw[if_neg h3];exact hk _ _ hv
   ·cases h
theorem Yo {k k':VV→aA→Prop} (hk:∀v H,k v H→k' v H) (h:eZ fl lo q op ρ H k):eZ fl lo q op ρ H k':=by
 unfold eZ at h ⊢
 split at h
 ·exact Mw hk h
 ·split at h
  ·exact Mw hk h
  ·cases h
 ·split at h
  ·exact hk _ _ h
  ·cases h
theorem SO {K K':cV→aA→Prop} (hk:∀ρ H,K ρ H→K' ρ H):∀ {is:List PI} {ρ:cV} {H:aA},VS fl lo is K ρ H→VS fl lo is K' ρ H
 | [],ρ,H,h=>hk _ _ h
 |
  i::is,ρ,H,h=>by
  unfold VS at h ⊢
  split at h
  ·cases h
  ·exact SO hk h
  ·exact⟨h.1,Yo (fun v H' hv=>SO hk hv) h.2⟩
theorem tQ {K K':cV→aA→Prop} {Q Q':VQ} (hk:∀ρ H,K ρ H→K' ρ H) (hq:∀x ρ H,Q x ρ H→Q' x ρ H):∀x ρ H,pR K Q x ρ H→pR K' Q' x ρ H
 | .normal,ρ,H,h=>hk _ _ h
 | .exit _,ρ,H,h=>hq _ _ _ h
 | .ret,ρ,H,h=>hq _ _ _ h
theorem aqE {K K':cV→aA→Prop} (hk:∀ρ H,K ρ H→K' ρ H) (h:gh K ρ H):gh K' ρ H:=by
 obtain⟨ts,aQ,H',h1,h2⟩:=h
 exact⟨ts,aQ,H',h1,hk _ _ h2⟩
theorem AE:∀ {c:aE} {Q Q':VQ} {ρ:cV} {H:aA},(∀x ρ H,Q x ρ H→Q' x ρ H)→VW fl lo c Q ρ H→VW fl lo c Q' ρ H
 | .skip,_,_,_,_,hq,h=>hq _ _ _ h
 | .exit _,_,_,_,_,hq,h=>hq _ _ _ h
 | .ret,_,_,_,_,hq,h=>hq _ _ _ h
 | .cT _,_,_,_,_,hq,h=>SO (fun ρ H=>hq .normal ρ H) h
 | .seq a b,Q,Q',_,_,hq,h=>AE (c:=a) (tQ (fun ρ H h=>AE (c:=b) hq h) hq) h
 |
  .cond c a b,Q,Q',ρ,H,hq,h=>by
  unfold VW at h ⊢
  split at h
  ·split at h
   ·rename_i h1;rw[if_pos h1];exact AE (c:=a) hq h
   ·rename_i h1;rw[if_neg h1];exact AE (c:=b) hq h
  ·cases h
 |
  .block i a,Q,Q',_,_,hq,h=>by
  refine AE (c:=a) (fun x ρ H hx => ?_) h
  cases x with
  | normal=>exact hq _ _ _ hx
  | ret=>exact hq _ _ _ hx
  |
   exit j =>
   rw[Ft] at hx ⊢
   split at hx
   ·rename_i h1;rw[if_pos h1];exact hq _ _ _ hx
   ·rename_i h1;rw[if_neg h1];exact hq _ _ _ hx
 |
  .loop a,Q,Q',ρ,H,hq,h=>by
  obtain⟨n,h⟩:=h
  refine⟨n,?_⟩
  induction n generalizing ρ H with
  | zero=>cases h
  |
   succ n ih =>
   refine AE (c:=a) (tQ (fun ρ H h => ?_) fun x ρ H h=>aqE (hq x) h) h
   rcases h with h | ⟨h1,h2⟩
   ·exact .inl (ih _ _ h)
   ·exact .inr ⟨h1,ih _ _ h2⟩
theorem avC {K:cV→aA→Prop} (h:K ρ H):gh K ρ H:=⟨[],ρ,H,rfl,h⟩
theorem Uc {α:Type} {c:aE} (I:α→cV→aA→Prop) (μ:α→Nat) (s:α) (h0:I s ρ H)
  (round:∀s ρ H,I s ρ H→VW fl lo c (pR (fun aQ H'=>∃s',μ s'<μ s∧(I s' aQ H'∨(nZ H.length (H'.take H.length)=true∧I s' (sF H.length aQ) (H'.take H.length)))) (fun x=>gh (Q x))) ρ H):VW fl lo (.loop c) Q ρ H:=by
 refine⟨μ s+1,?_⟩
 have key:∀n s ρ H,μ s<n→I s ρ H→Vu (VW fl lo c) (fun x=>gh (Q x)) n ρ H:=by
  intro n
  induction n with
  | zero=>intro s ρ H h;omega
  |
   succ n ih =>
   intro s ρ H hn hI
   refine AE (tQ (fun aQ H' h => ?_) fun x ρ H h=>h) (round s ρ H hI)
   obtain⟨s',h1,h2 | ⟨h2,h3⟩⟩:=h
   ·exact .inl (ih s' _ _ (by omega) h2)
   ·exact .inr ⟨h2,ih s' _ _ (by omega) h3⟩
 exact key _ s ρ H (Nat.lt_succ_self _) h0
theorem aP {α:Type} {c:aE} (I:α→cV→aA→Prop) (μ:α→Nat) (s:α) (h0:I s ρ H)
  (round:∀s ρ H,I s ρ H→VW fl lo c (pR (fun aQ H'=>∃s',μ s'<μ s∧I s' aQ H') Q) ρ H):VW fl lo (.loop c) Q ρ H :=
 Uc I μ s h0 fun s ρ H h=>AE (tQ (fun _ _ ⟨s',h1,h2⟩=>⟨s',h1,.inl h2⟩) fun _ _ _ h=>avC h) (round s ρ H h)
theorem O7 {α:Type} {c:aE} (I:α→cV→aA→Prop) (μ:α→Nat) (s:α) (h0:I s ρ H)
  (round:∀s ρ H,I s ρ H→VW fl lo c (pR (fun aQ H'=>∃s',μ s'<μ s∧nZ H.length (H'.take H.length)=true∧I s' (sF H.length aQ) (H'.take H.length)) Q) ρ H):VW fl lo (.loop c) Q ρ H :=
 Uc I μ s h0 fun s ρ H h=>AE (tQ (fun _ _ ⟨s',h1,h2⟩=>⟨s',h1,.inr h2⟩) fun _ _ _ h=>avC h) (round s ρ H h)
theorem NV {n:Nat} {v:VV} (h:below n v=true):MI n v=v:=by
 unfold MI
 rw[if_pos h]
mutual
theorem IQ {n:Nat} (v:VV) (h:aY v=true):below n v=true:=by
 cases v with
 | any=>rfl
 | sc=>rfl
 | agg cs=>exact oR cs h
 | dW cs=>exact oR cs h
 | tree es t=>exact oR es (KW h).2.1
 | cG x o=>exact IQ x h
 | ref=>cases h
 | ptr=>cases h
 | xZ f gB=>exact oR gB h
theorem oR {n:Nat} (vs:List VV) (h:aO vs=true):oK n vs=true:=by
 cases vs with
 | nil=>rfl
 |
  cons x xs =>
  simp only[aO,aLc] at h
  simp only[oK,IQ x h.1,oR xs h.2,aL2]
end
end
end Go.PM
namespace Go.PM
def val (b:Nat):List Nat→Nat
 | []=>0
 | d::ds=>d+b*val b ds
def aD (b n:Nat):List Nat:=if h:n=0∨b<2 then [] else n % b::aD b (n / b)
termination_by n
decreasing_by exact aL3 (by omega) (by omega)
section
variable {b:Nat}
theorem cE:aD b 0=[]:=by rw[aD];simp
theorem kU (hb:2≤b) {n:Nat} (hn:n≠0):aD b n=n % b::aD b (n / b):=by rw[aD,dif_neg (by omega)]
theorem vS {d:Nat} {ds:List Nat}:val b (d::ds)=d+b*val b ds:=rfl
theorem Bh (xs ys:List Nat):val b (xs++ys)=val b xs+b^xs.length*val b ys:=by
 induction xs with
 | nil=>simp[val]
 |
  cons x xs ih =>
  simp only[aL4,vS,ih,aKO,aL5]
  rw[Nat.mul_add,aL6 (b^xs.length) b,Nat.mul_assoc,Nat.add_assoc]
theorem val_one (d:Nat):val b [d]=d:=by simp[val]
theorem vO (xs:List Nat) (d:Nat):val b (xs++[d])=val b xs+b^xs.length*d:=by rw[Bh,val_one]
theorem uY (n:Nat):val b (aLu n 0)=0:=by
 induction n with
 | zero=>rfl
 | succ n ih=>simp[aLO,val,ih]
theorem sH {xs:List Nat} (h:∀d∈xs,d<b):val b xs<b^xs.length:=by
 induction xs with
 | nil=>simp[val]
 |
  cons x xs ih =>
  have h1:=h x aLe
  have h2:=ih fun d hd=>h d (aLd _ hd)
  simp only[vS,aKO,aL5]
  have h3:b*(val b xs+1)≤b*b^xs.length:=Nat.mul_le_mul_left _ h2
  rw[Nat.mul_add,Nat.mul_one] at h3
  rw[aL6 (b^xs.length) b]
  omega
theorem cL (hb:2≤b) (n:Nat):val b (aD b n)=n:=by
 induction n using aL7 with
 |
  _ n ih =>
  by_cases h:n=0
  ·subst h;rw[cE];rfl
  ·rw[kU hb h,vS,ih _ (aL3 (by omega) (by omega))]
   exact Nat.mod_add_div n b
theorem gH (hb:2≤b) (n:Nat):∀d∈aD b n,d<b:=by
 induction n using aL7 with
 |
  _ n ih =>
  by_cases h:n=0
  ·subst h;rw[cE];intro d hd;cases hd
  ·rw[kU hb h]
   intro d hd
   rcases aLS.1 hd with rfl | hd
   ·exact Nat.mod_lt _ (by omega)
   ·exact ih _ (aL3 (by omega) (by omega)) d hd
theorem nU (hb:2≤b) {n:Nat}:aD b n=[]↔n=0:=by
 constructor
 ·intro h
  have:=cL hb n
  rw[h] at this
  exact this.symm
 ·rintro rfl;exact cE
theorem Q2 (hb:2≤b) (n:Nat):(aD b n).getLast? ≠ some 0:=by
 induction n using aL7 with
 |
  _ n ih =>
  by_cases h:n=0
  ·subst h;rw[cE];simp
  ·rw[kU hb h]
   have h1:=ih _ (aL3 (n:=n) (k:=b) (by omega) (by omega))
   by_cases h2:n / b=0
   ·rw[h2,cE]
    have:n<b:=by
     rcases Nat.div_eq_zero_iff.1 h2 with h | h<;>omega
    simp[aL8 this,h]
   ·have gF:aD b (n / b)≠[]:=fun h=>h2 ((nU hb).1 h)
    obtain⟨x,xs,hx⟩:=aL9 gF
    rw[hx] at h1 ⊢
    rw[aMa]
    exact h1
theorem PH (hb:2≤b) {xs:List Nat} (h:∀d∈xs,d<b) (hl:xs.getLast? ≠ some 0):aD b (val b xs)=xs:=by
 induction xs with
 | nil=>exact cE
 |
  cons x xs ih =>
  have h1:=h x aLe
  have hr:(x+b*val b xs) % b=x:=by rw[Nat.add_mul_mod_self_left,aL8 h1]
  have hq:(x+b*val b xs) / b=val b xs:=by rw[Nat.add_mul_div_left _ _ (by omega),aMb h1,aMc]
  cases xs with
  |
   nil =>
   have hx:x≠0:=by rintro rfl;simp at hl
   rw[val_one,kU hb hx,aL8 h1,aMb h1,cE]
  |
   cons y ys =>
   rw[aMa] at hl
   have h2:=ih (fun d hd=>h d (aLd _ hd)) hl
   have h3:val b (y::ys)≠0:=fun h0=>by rw[h0,cE] at h2;cases h2
   have h4:b*val b (y::ys)≠0:=Nat.mul_ne_zero (by omega) h3
   rw[vS,kU hb (by omega),hr,hq,h2]
theorem NC (hb:2≤b) {n:Nat} (hn:n≠0):b^((aD b n).length-1)≤n:=by
 induction n using aL7 with
 |
  _ n ih =>
  rw[kU hb hn]
  by_cases h2:n / b=0
  ·rw[h2,cE];simp;omega
  ·have h3:=ih _ (aL3 (by omega) (by omega)) h2
   have gF:aD b (n / b)≠[]:=fun h=>h2 ((nU hb).1 h)
   obtain⟨x,xs,hx⟩:=aL9 gF
   rw[hx] at h3 ⊢
   simp only[aKO,Nat.add_sub_cancel] at h3 ⊢
   rw[aL5]
   calc b^xs.length*b≤n / b*b:=aK5 _ h3
    _≤n:=Nat.div_mul_le_self n b
theorem iN (hb:2≤b) (n:Nat):n<b^(aD b n).length:=by
 have:=sH (gH hb n)
 rwa [cL hb] at this
theorem oP (hb:2≤b) {n k:Nat} (h:n<b^k):(aD b n).length≤k:=by
 by_cases hn:n=0
 ·subst hn;rw[cE];simp
 ·have h1:=NC hb hn
  have h2:b^((aD b n).length-1)<b^k:=Nat.lt_of_le_of_lt h1 h
  have h3:(aD b n).length-1<k:=(Nat.pow_lt_pow_iff_right (by omega)).1 h2
  have gF:aD b n≠[]:=fun h=>hn ((nU hb).1 h)
  have:=List.length_pos_iff.2 gF
  omega
theorem eW (hb:2≤b) {m n:Nat} (h:m≤n):(aD b m).length≤(aD b n).length :=
 oP hb (Nat.lt_of_le_of_lt h (iN hb n))
theorem tB (xs:List Nat) (i:Nat):val b xs=val b (xs.take i)+b^(xs.take i).length*val b (xs.drop i):=by
 rw[←Bh,List.take_append_drop]
theorem bE {xs:List Nat} {i d:Nat} (h:xs[i]? = some d):val b (xs.take (i+1))=val b (xs.take i)+b^i*d:=by
 have bI:=(aKD.1 h).1
 rw[List.take_add_one,h]
 simp only[Option.toList_some]
 rw[vO,aMd,aLF (by omega)]
theorem wD {xs:List Nat} {i d:Nat} (h:xs[i]? = some d):val b (xs.drop i)=d+b*val b (xs.drop (i+1)):=by
 obtain⟨bI,he⟩:=aKD.1 h
 rw[List.drop_eq_getElem_cons bI,he,vS]
theorem Iw {P A B O c x y s q r W:Nat} (h:A+B=O+P*c) (hs:c+x+y=s) (hr:r+W*q=s):(A+P*x)+(B+P*y)=(O+P*r)+(P*W)*q:=by grind
theorem Mc {P A B O l x y r W l':Nat} (h:A+P*l=O+B) (hd:r+y+l=x+W*l'):(A+P*x)+(P*W)*l'=(O+P*r)+(B+P*y):=by grind
theorem aiJ {xs:List Nat} {i d:Nat} (h:i<xs.length):(xs.set i d).take (i+1)=xs.take i++[d]:=by
 rw[List.set_eq_take_append_cons_drop,if_pos h,aMe]
 simp[List.take_take,aLF (by omega:i≤xs.length),Nat.min_eq_right (by omega:i≤i+1)]
theorem fF {xs:List Nat} {i d:Nat} (h:i<xs.length):val b ((xs.set i d).take (i+1))=val b (xs.take i)+b^i*d:=by
 rw[aiJ h,vO,aMd,aLF (by omega)]
theorem nW {xs:List Nat} {i d:Nat} (h:∀x∈xs,x<b) (hd:d<b):∀x∈xs.set i d,x<b:=by
 intro x hx
 rcases List.mem_or_eq_of_mem_set hx with h1 | h1
 ·exact h x h1
 ·subst h1;exact hd
theorem lD {xs:List Nat} {i:Nat} (h:xs.length≤i):val b (xs.take i)=val b xs:=by rw[aLx h]
theorem CA (hb:0<b) (n:Nat):∀x∈aLu n 0,x<b:=by
 intro x hx
 rw[aLP hx]
 exact hb
theorem afJ {P x y R t:Nat} (ht:t<P) (h:x<y):t+P*(x+R)<P*(y+R):=by
 have h1:P*(x+R+1)≤P*(y+R):=Nat.mul_le_mul_left _ (by omega)
 rw[Nat.mul_add,Nat.mul_one] at h1
 omega
theorem Hf {xs ys:List Nat} {i x y:Nat} (hx:∀d∈xs,d<b) (hl:xs.length=ys.length) (hi:xs[i]? = some x) (hj:ys[i]? = some y) (hd:xs.drop (i+1)=ys.drop (i+1)) (h:x<y):val b xs<val b ys:=by
 have h1:=(aKD.1 hi).1
 have ht:(xs.take i).length=i:=by simp;omega
 have ht':(ys.take i).length=i:=by simp;omega
 have h2:=sH (b:=b) (xs:=xs.take i) fun d hd=>hx d (aLB hd)
 rw[ht] at h2
 rw[tB xs i,tB ys i,ht,ht',wD hi,wD hj,hd]
 have:=afJ (R:=b*val b (ys.drop (i+1))) h2 h
 omega
theorem Ut (hb:2≤b) {m n:Nat} (h:aD b m=aD b n):m=n:=by
 have:=congrArg (val b) h
 rwa [cL hb,cL hb] at this
def gC (a b:Nat):Int:=if a<b then -1 else if a=b then 0 else 1
theorem GG (hb:2≤b) {m n:Nat} (h:(aD b m).length<(aD b n).length):m<n:=by
 rcases aKH m n with h1 | h1
 ·exact h1
 ·have:=eW hb h1
  omega
end
end Go.PM
namespace Go.PM
abbrev VI (n:Int):VV := .sc (.int .i64 n)
abbrev VK (k:IntKind) (n:Int):VV := .sc (.int k n)
abbrev VB (t:Bool):VV := .sc (.bool t)
abbrev aC {α:Type} (f:α→VV) (xs:List α):VV := .tree (xs.map f) .op
section
variable {α:Type} {f:α→VV} {xs ys:List α} {x:α} {t:TK} {H:aA} {size i:Nat} {k:IntKind}
theorem eR:sE (.tree (xs.map f) t) H=some (VI xs.length):=by simp[sE]
theorem aH (hx:xs[i]? = some x) (hs:(aB (f x)).length=size):bJ size (.tree (xs.map f) t) (VK k (i:Int)) H=some (.cG (f x) 0) :=
 afN (by simp[hx]) hs
theorem Vy (hs:∀x,(aB (f x)).length=size):∀y∈xs.map f,(aB y).length=size:=by
 intro y hy
 obtain⟨x,_,rfl⟩:=aMf.1 hy
 exact hs x
theorem fN (hp:∀x,aY (f x)=true):aO (xs.map f)=true:=by
 rw[Ds]
 intro y hy
 obtain⟨x,_,rfl⟩:=aMf.1 hy
 exact hp x
theorem asQ (hp:∀x,gU (f x)=true):sO (xs.map f)=true:=by
 rw[NU]
 intro y hy
 obtain⟨x,_,rfl⟩:=aMf.1 hy
 exact hp x
theorem abD {size:Nat} (hs:∀x,(aB (f x)).length=size):uni (xs.map f)=true:=by
 cases xs with
 | nil=>rfl
 |
  cons x xs =>
  simp only[aMg,uni,aKS]
  intro y hy
  obtain⟨z,_,rfl⟩:=aMf.1 hy
  simp[hs]
theorem mR {size:Nat} (hs:∀x,(aB (f x)).length=size) (hp:∀x,aY (f x)=true):aY (aC f xs)=true:=by
 simp only[aC,aY,fN hp,abD hs,decide_true,aL2]
theorem Aa {size:Nat} (hs:∀x,(aB (f x)).length=size) (hp:∀x,gU (f x)=true) (he:∀x,Cr (f x)=true):gU (aC f xs)=true:=by
 have h4:(xs.map f).all Cr=true:=by
  rw[aKS]
  intro y hy
  obtain⟨z,_,rfl⟩:=aMf.1 hy
  exact he z
 simp only[aC,gU,asQ hp,abD hs,h4,decide_true,aL2]
theorem arV {es:List VV} {h:Nat} (gF:0<es.length) (hs:∀x∈es,(aB x).length=size) (hh:h≤es.length) {k2:IntKind} :
  Hl size (.tree es t) none (some (VK k2 h)) none H=some (.tree (es.take h) .op):=by
 cases es with
 | nil=>simp at gF
 |
  cons y ys =>
  have hy:=hs y aLe
  simp only[aKO] at hh
  have e1:(0:Int)≤h∧(h:Int)≤((ys.length+1:Nat):Int):=by omega
  simp only[Hl,IH,hy,if_true,fC,e1,aL0,aLj,aLg,false_and,if_false]
  simp
theorem Ua (h:0<xs.length):0<(xs.map f).length:=by simpa using h
theorem PF {b g o n c:Nat} {es:List VV} {w:Bool} {l h:Nat} (hr:aG H b g=some (es,size,w)) (hl:l≤h) (hh:h≤c) {k1 k2:IntKind} :
  Hl size (.ref b g o n c) (some (VK k1 l)) (some (VK k2 h)) none H=some (.ref b g (o+l) (h-l) (c-l)):=by
 have e1:(0:Int)≤h∧(h:Int)≤(c:Int):=by omega
 have e2:(0:Int)≤l∧(l:Int)≤(h:Int):=by omega
 simp only[Hl,IH,hr,if_true,fC,e1,e2,aL0,aLj,aLg,false_and,if_false]
 simp[hl]
theorem rM {b g o n c:Nat} {es:List VV} {w:Bool} {h:Nat} (hr:aG H b g=some (es,size,w)) (hh:h≤c) {k2:IntKind} :
  Hl size (.ref b g o n c) none (some (VK k2 h)) none H=some (.ref b g o h c):=by
 have e1:(0:Int)≤h∧(h:Int)≤(c:Int):=by omega
 simp only[Hl,IH,hr,if_true,fC,e1,aL0,aLj,aLg,false_and,if_false]
 simp
theorem Qg {b g o n c:Nat} {es:List VV} {w:Bool} {l:Nat} (hr:aG H b g=some (es,size,w)) (hl:l≤n) (hn:n≤c) {k1:IntKind} :
  Hl size (.ref b g o n c) (some (VK k1 l)) none none H=some (.ref b g (o+l) (n-l) (c-l)):=by
 have e2:(0:Int)≤l∧(l:Int)≤(n:Int):=by omega
 simp only[Hl,IH,hr,if_true,fC,e2,aL0,aLj,aLg,false_and,if_false]
 simp
theorem LP {h:Nat} (hs:∀x,(aB (f x)).length=size) (gF:0<xs.length) (hh:h≤xs.length) {k2:IntKind} :
  Hl size (.tree (xs.map f) t) none (some (VK k2 h)) none H=some (aC f (xs.take h)):=by
 rw[arV (Ua gF) (Vy hs) (by simpa using hh)]
 simp[aC]
theorem T6 {b g e:Nat} {es:List VV} {w:Bool} {L K:aA} (h:b=L.length):aG (L ++ .row g es e w::K) b g=some (es,e,w):=by
 subst h
 simp[aG]
theorem aU {g e:Nat} {es:List VV} {w:Bool} {K:aA}:aG (.row g es e w::K) 0 g=some (es,e,w):=by simp[aG]
theorem cP {n:Nat}:(n=n+1)=False:=eq_false fun h=>by omega
theorem akL {g g' e:Nat} {es:List VV} {w:Bool} {K:aA} (h:g'≠g):aG (.row g' es e w::K) 0 g=none:=by simp[aG,h]
theorem cD {g e:Nat} {es:List VV} {w:Bool} {K:aA}:aG (.row (g+1) es e w::K) 0 g=none:=akL (Nat.succ_ne_self g)
theorem eO {b g:Nat} {x:fO} {K:aA}:aG (x::K) (b+1) g=aG K b g:=by simp[aG]
theorem bB {b g o n c e:Nat} {es:List VV} {w:Bool} (h:aG H b g=some (es,e,w)) (hi:i<n):bJ e (.ref b g o n c) (VK k (i:Int)) H=some (.ptr b g (o+i) 0):=adR h hi
theorem bS {b g j e lo:Nat} {es:List VV} {v:VV} (h:aG H b g=some (es,e,true)) (hj:j<es.length) (dS:lo≤b) (hv:(aB v).length=e) (hs:(aB v).all bP=true):bL lo e (.ptr b g j 0) v H=some (H.set b (.row g (es.set j v) e true)):=by
 obtain⟨x,hx⟩:∃x,es[j]? = some x:=⟨_,aKL hj⟩
 simp only[bL,h,hx]
 rw[if_pos ⟨hv,dS,hs⟩,if_pos ⟨trivial,trivial⟩]
theorem oB {z:List Value} {bytes n:Nat} (hz:elemOf (z.map kW)=f x) (hn:n*bytes≤281474976710656) (hm:n≤9223372036854775807):Bc z bytes (VI n) (VI n) H=some (.ref H.length 0 0 n n,H++[.row 0 ((aLu n x).map f) z.length true]):=by
 simp only[Bc]
 rw[if_pos ⟨by omega,by omega,by omega,by omega⟩,hz]
 simp
theorem qB {ag w:Bool} {b gn e j o:Nat} (h:aG H b gn=some (xs.map f,e,w)) (hx:xs[j]? = some x):bF ag size (.ptr b gn j o) H=dQ ag size (f x) o :=
 TI h (by simp[hx])
theorem dP {b g j e lo:Nat} (h:aG H b g=some (xs.map f,e,true)) (hj:j<xs.length) (dS:lo≤b) (hv:(aB (f x)).length=e) (hs:(aB (f x)).all bP=true):bL lo e (.ptr b g j 0) (f x) H=some (H.set b (.row g ((xs.set j x).map f) e true)):=by
 rw[bS h (by simpa using hj) dS hv hs,List.map_set]
theorem ZN {b gn n c e:Nat} {es:List VV} {w:Bool} (h:aG H b gn=some (es,e,w)) (hn:n≤es.length) (hc:n≤c) (hp:aO es=true):fz depth H (.ref b gn 0 n c)=some (.tree (es.take n) .op):=by
 have:aY (.ref b gn 0 n c)=false:=rfl
 show fz (7+1) H _=_
 unfold fz
 simp only[this,h,aLg,if_false]
 have BY:aO (es.take n)=true:=Ds.2 fun x hx=>Ds.1 hp x (aLB hx)
 rw[if_pos ⟨by omega,hc⟩,aLQ,mapM_pure BY]
 rfl
theorem TC.flat {fn:Nat} {args mF:List VV} {r:VV} (h:TC fn mF r) (CO:Gi.contains fn=false) (ha':aO mF=true) (hf:args.mapM (fz depth H)=some mF) (hr:Jh r=true) :
  ∀(lo:Nat) (K:VV→aA→Prop),dH fn args lo H K=K r H:=by
 intro lo K
 cases hp:aO args with
 |
  true =>
  have:=mapM_pure (n:=7) (H:=H) hp
  rw[show fz depth H=fz (7+1) H from rfl,this] at hf
  cases hf
  exact h lo H K
 | false=>rw[h.Dj CO ha' hf hp,hr,if_pos rfl]
theorem fz1 {v v':VV} (h:fz depth H v=some v'):[v].mapM (fz depth H)=some [v']:=by rw[aL1,h];rfl
theorem fz2 {v v' u u':VV} (h:fz depth H v=some v') (hu:fz depth H u=some u'):[v,u].mapM (fz depth H)=some [v',u']:=by rw[aL1,h,fz1 hu];rfl
theorem TC.aqF {fn b gn n c e size:Nat} {w:Bool} {r:VV} (h:TC fn [aC f xs] r) (hr:aG H b gn=some (xs.map f,e,w)) (hn:n=xs.length) (hc:n≤c) (hs:∀x,(aB (f x)).length=size) (hp:∀x,aY (f x)=true) (CO:Gi.contains fn=false) (hf:Jh r=false) :
  ∀(lo:Nat) (K:VV→aA→Prop),dH fn [.ref b gn 0 n c] lo H K=K r (dC H [b]):=by
 intro lo K
 have e1:fz depth H (.ref b gn 0 n c)=some (aC f xs):=IA hr (by simpa using hn) hc (fN hp)
 have e2:iT depth H (.ref b gn 0 n c)=[b]:=K9 hr (by simpa using hn) (fN hp)
 have e3:[VV.ref b gn 0 n c].mapM (fz depth H)=some [aC f xs]:=by rw[aL1,e1];rfl
 rw[h.Dj CO (by simp only[aO,mR hs hp,aL2]) e3 rfl,hf]
 simp only[aLg,if_false,List.flatMap_cons,List.flatMap_nil,e2,aLM]
theorem avO {es:List VV} {e:Nat} (hp:aO es=true):fz depth H (.tree es (.cl e))=some (.tree es .op):=by
 show fz (7+1) H _=_
 unfold fz
 have:aY (.tree es (.cl e))=false:=by simp[aY]
 simp only[this,aLg,if_false,mapM_pure hp]
 rfl
theorem anU {es:List VV} {e:Nat} (hp:aO es=true):iT depth H (.tree es (.cl e))=[]:=by
 show iT (7+1) H _=_
 unfold iT
 have:aY (.tree es (.cl e))=false:=by simp[aY]
 simp only[this,aLg,if_false,AN hp]
theorem Yf:fz depth H (.tree [] .nil)=some (.tree [] .op):=by
 show fz (7+1) H _=_
 unfold fz
 have:aY (.tree [] .nil)=false:=by simp[aY]
 simp only[this,aLg,if_false]
 rfl
theorem TC.args {fn:Nat} {args mF:List VV} {r:VV} (h:TC fn mF r) (CO:Gi.contains fn=false) (ha':aO mF=true) (hf:args.mapM (fz depth H)=some mF) (hi:args.flatMap (iT depth H)=[]) :
  ∀(lo:Nat) (K:VV→aA→Prop),dH fn args lo H K=K r H:=by
 intro lo K
 cases hp:aO args with
 |
  true =>
  have:=mapM_pure (n:=7) (H:=H) hp
  rw[show fz depth H=fz (7+1) H from rfl,this] at hf
  cases hf
  exact h lo H K
 |
  false =>
  rw[h.Dj CO ha' hf hp,hi]
  split<;>rfl
theorem mX {lr:Bool} {z:List Value} (hz:(z.map kW).all bP=true):mV lr z 0 [] H=some (.ref H.length 0 0 0 0,H++[.row 0 [] z.length true]):=by
 simp[mV,yW,hz]
theorem iU {z:List Value} {v:VV} (hz:(z.map kW).all bP=true) (hv:(aB v).length=z.length) (hs:(aB v).all bP=true):mV false z 1 [(0,v)] H=some (.tree [v] (.cl z.length),H):=by
 simp only[mV,yW,aLO,List.replicate_zero,aKO,aMh,hv,hs,and_self,if_true,aMi,hz]
 simp[hs]
theorem alS {z:List Value} {u v:VV} (hz:(z.map kW).all bP=true) (hu:(aB u).length=z.length) (hus:(aB u).all bP=true) (hv:(aB v).length=z.length) (hs:(aB v).all bP=true):mV false z 2 [(0,u),(1,v)] H=some (.tree [u,v] (.cl z.length),H):=by
 simp[mV,yW,hv,hs,hu,hus,hz,aLO]
end
theorem wrap32 (n:Nat):IntKind.u32.wrap (n:Int)=((n % 4294967296:Nat):Int):=by rw[IntKind.wrap_u32];omega
theorem wrap_u64 (n:Int):IntKind.u64.wrap n=n % 18446744073709551616:=by simp[IntKind.wrap,IntKind.bits,IntKind.signed]
theorem eT (n:Nat) (h:n<18446744073709551616):IntKind.u64.wrap (n:Int)=(n:Int):=by rw[wrap_u64];omega
theorem wrapN {x:Int} (n:Nat) (h:x=n) (hn:n≤9223372036854775807):IntKind.i64.wrap x=(n:Int):=by subst h;exact wrap64 (by omega) (by omega)
theorem qX (n:Nat) (k:IntKind):dK .shr (.int .u64 (n:Int)) (.int k 32)=some (.int .u64 ((n / 4294967296:Nat):Int)):=by
 simp only[dK]
 have h1:¬((32:Int)<0):=by decide
 have h2:Nat.min (Int.toNat 32) IntKind.u64.bits=32:=by decide
 rw[if_neg h1,h2]
 congr 2
 rw[Int.fdiv_eq_ediv_of_nonneg _ (by decide)]
 omega
theorem Gv (n:Nat) (k:IntKind) (h:n<4294967296):dK .shl (.int .u64 (n:Int)) (.int k 32)=some (.int .u64 ((n*4294967296:Nat):Int)):=by
 simp only[dK]
 have h1:¬((32:Int)<0):=by decide
 have h2:Nat.min (Int.toNat 32) IntKind.u64.bits=32:=by decide
 rw[if_neg h1,h2]
 congr 2
 have:(n:Int)*2^32=((n*4294967296:Nat):Int):=by omega
 rw[this]
 exact eT _ (by omega)
section
variable {n k g:Nat} {K:aA} {x y:fO}
theorem Nv:aG (aLu n fO.dead++K) n g=aG K 0 g:=by
 unfold aG
 rw[aKW (by simp)]
 simp
theorem aaQ:aG (aLu n fO.dead++K) (n+k) g=aG K k g:=by
 unfold aG
 rw[aKW (by simp)]
 simp
theorem aiB:(aLu n fO.dead++K).set n y=aLu n fO.dead++K.set 0 y:=by
 rw[aMj _ _ (by simp)]
 simp
theorem aAb:(aLu n fO.dead++K).set (n+k) y=aLu n fO.dead++K.set k y:=by
 rw[aMj _ _ (by simp)]
 simp
theorem aBL:(aLu n fO.dead++K).length=n+K.length:=by simp
theorem aqL:(aLu n fO.dead++K).take (n+k)=aLu n fO.dead++K.take k:=by
 rw[aMe]
 simp
theorem arC:(aLu n fO.dead++K).take n=aLu n fO.dead:=by
 rw[aMe]
 simp
end
theorem DK {k g e:Nat} {es:List VV} {w:Bool} {K:aA} (h:oK k es=true):nZ k (.row g es e w::K)=nZ k K:=by
 unfold nZ
 rw[aLw]
 simp only[h,Bool.true_and]
theorem Km {k:Nat}:nZ k []=true:=rfl
theorem eU {size:Nat} {v:VV} {t:TK} {H:aA} (h:(aB v).length=size) (hs:(aB v).all bP=true):cW size (.tree [v] t) H=some [v]:=by
 simp[cW,h,hs]
theorem jV {α:Type} {f:α→VV} {xs:List α} {x:α} {lo b g n e bytes:Nat} {H:aA} (h:aG H b g=some (xs.map f,e,true)) (hn:n=xs.length) (dS:lo≤b) (he:1≤e) (hb:1≤bytes) (E7:(n+1)*bytes≤140737488355328) :
  dO lo e bytes (.ref b g 0 n n) [f x] H=some (.ref b (g+1) 0 (n+1) (n+1),H.set b (.row (g+1) ((xs++[x]).map f) e true)):=by
 subst hn
 simp only[dO,h,aKO,aMh,aMc]
 rw[if_pos ⟨hb,he⟩,if_pos ⟨trivial,dS,by simp⟩,if_neg (by omega),if_pos E7,aLQ,aLx (by simp)]
 simp
section
variable {H:aA} {b g o n c j lo size:Nat} {neg ag:Bool} {k:IntKind} {i:Int} {v:VV}
theorem bK:bF ag size (.ptr b g j o) H=(match aG H b g with
 |
  some (es,_,_)=>match es[j]? with
  | some x=>dQ ag size x o
  | none=>none
 | none=>none):=rfl
theorem Gf:bL lo size (.ptr b g j o) v H=(match aG H b g with
 |
  some (es,e,true)=>match es[j]? with
  |
   some x =>
   if (aB v).length=size∧lo≤b∧(aB v).all bP then
    if o=0∧size=e then some (H.set b (.row g (es.set j v) e true))
    else if 2≤e∧o+size≤e then some (H.set b (.row g (es.set j (.agg (dE (aB x) o (aB v)))) e true))
    else none
   else none
  | none=>none
 | _=>none):=rfl
theorem R4:sE (.ref b g o n c) H=(aG H b g).map fun _ => .sc (.int .i64 n):=rfl
theorem zR:yP size (.ptr b g j o) H=(aG H b g).map fun _ => .ptr b g j (o+size):=rfl
theorem Rl:MV (.ptr b g j o) H=(aG H b g).map fun _ => .ptr b g j o:=rfl
theorem Mu:Ie neg (.ref b g o n c) H=(aG H b g).map fun _ => .sc (.bool (false != neg)):=rfl
theorem NQ:Ie neg (.tree [] .nil) H=some (.sc (.bool (true != neg))):=rfl
theorem Mn {x:VV} {xs:List VV} {t:TK}:Ie neg (.tree (x::xs) t) H=some (.sc (.bool (false != neg))):=rfl
theorem Mi:bJ size (.ref b g o n c) (.sc (.int k i)) H=(match aG H b g with
 | some (_,e,_)=>if e=size∧0≤i∧i<n then some (.ptr b g (o+i.toNat) 0) else none
 | none=>none):=rfl
end
theorem Jj {v:Value}:isAny (.sc v)=false:=rfl
theorem Eh {es:List VV} {t:TK}:isAny (.tree es t)=false:=rfl
theorem GH {b g o n c:Nat}:isAny (.ref b g o n c)=false:=rfl
theorem GL {cs:List VV}:isAny (.agg cs)=false:=rfl
theorem RP {f:Nat} {cs:List VV}:isAny (.xZ f cs)=false:=rfl
theorem uP {x:VV}:elemOf [x]=x:=rfl
theorem sI {x y:VV} {cs:List VV}:elemOf (x::y::cs) = .agg (x::y::cs):=rfl
theorem BG {k t:Nat} {ρ:cV}:sF k ρ t=MI k (ρ t):=rfl
theorem Py {k:Nat} {v:Value}:MI k (.sc v) = .sc v:=rfl
theorem C4 {k:Nat} {v:VV} (h:aY v=true):MI k v=v:=NV (IQ v h)
theorem Kl {k b g o n c:Nat} (h:b<k):MI k (.ref b g o n c) = .ref b g o n c:=NV (by simp[below,h])
theorem Un {v:Value}:bP (.sc v)=true:=rfl
theorem Pr {es:List VV} {t:TK}:bP (.tree es t)=true:=rfl
theorem RM {b g o n c:Nat}:bP (.ref b g o n c)=true:=rfl
theorem Rt {b g o n:Nat}:bP (.ptr b g o n)=true:=rfl
theorem Oc {x:VV} {o:Nat}:bP (.cG x o)=true:=rfl
theorem Sc {f:Nat} {cs:List VV}:bP (.xZ f cs)=true:=rfl
theorem QU {v:Value}:aB (.sc v)=[.sc v]:=rfl
theorem Oj {cs:List VV}:aB (.agg cs)=cs:=rfl
theorem Mj {es:List VV} {t:TK}:aB (.tree es t)=[.tree es t]:=rfl
theorem Oo {b g o n c:Nat}:aB (.ref b g o n c)=[.ref b g o n c]:=rfl
theorem Uh {k k':IntKind} {n:Int}:Xg k (.int k' n)=some (.int k (k.wrap n)):=rfl
theorem Rg {args:List VV} {t:Nat}:MB args t=args.getD t tI:=rfl
theorem aCx {n:Nat}:LT n = .tmp n:=rfl
theorem aA4 {n:Int}:LI n = .const (.int .i64 n):=rfl
theorem aBt:LG = .const (.bool true):=rfl
theorem aA5:LF = .const (.bool false):=rfl
theorem aBv {n:Nat}:LL n = .load false 1 (.tmp n):=rfl
theorem aBS {n:Nat}:LK n = .load true 3 (.tmp n):=rfl
theorem aA2 {n k:Nat}:LX n k = .ext (.tmp n) k:=rfl
theorem aCb {k n:Nat}:LA k n = .faddr k (.tmp n):=rfl
theorem aCd {d:Nat} {p:qK}:LO d p=⟨some d,p,none,false,[]⟩:=rfl
theorem aBw {d:Nat} {p:qK}:LQ d p=⟨some d,p,none,true,[]⟩:=rfl
theorem aBP {p:qK}:LN p=⟨none,p,none,false,[]⟩:=rfl
theorem aBB {d s:Nat}:LM d s=⟨some d,.mv (.tmp s),none,false,[]⟩:=rfl
theorem aAJ {g d:Nat} {p:qK}:LY g d p=⟨some d,p,some (g,true),false,[]⟩:=rfl
theorem aBc {g d:Nat} {p:qK}:LZ g d p=⟨some d,p,some (g,false),false,[]⟩:=rfl
theorem aBM {l:List PI} {c:aE}:LS l c = .seq (.cT l) c:=rfl
theorem VX:type_of% (
 aMk @aoH<|aMk @ahZ<|aMk @UE<|aMk @ZK<|aMk @Z7<|aMk @ahQ<|aMk @Z2 <|
 aMk @UQ<|aMk @ES<|aMk @HR<|aMk @JD<|aMk @HB<|aMk @Ft <|
 aMk @On<|aMk @JV<|aMk @QR<|aMk @OQ<|aMk @VP<|aMk @UG <|
 aMk @Pq<|aMk @Ri<|aMk @anJ<|aMk @avP<|aMk @akR<|aMk @atY<|aMk @Mv <|
 aMk @akT<|aMk @VZ<|aMk @ZW<|aMk @Zl<|aMk @Rb<|aMk @Ru<|aMk @amB <|
 aMk @ZO<|aMk @Zx<|aMk @Z5<|aMk @Zw<|aMk @Sh<|aMk @Zh<|aMk @Q9 <|
 aMk @Sf<|aMk @Wg<|aMk @Wl<|aMk @WD<|aMk @Z3<|aMk @Vh<|aMk @abF <|
 aMk @abE<|aMk @Ws<|aMk @aaE<|aMk @aaB<|aMk @ZX<|aMk @WH<|aMk @Zq <|
 aMk @R6<|aMk @abB<|aMk @WU<|aMk @RD<|aMk @VF<|aMk @Q7 <|
 aMk @Ew<|aMk @RE<|aMk @Ue<|aMk @RY<|aMk @N3<|aMk @Sb <|
 aMk @zF<|aMk @Rx<|aMk @Zi<|aMk @Rr<|aMk @U6<|aMk @YZ<|aMk @Wo <|
 aMk @aaZ<|aMk @aaO<|aMk @aaI<|aMk @Ww<|aMk @Rn<|aMk @Vb<|aMk @VU <|
 aMk @ZD<|aMk @ZB<|aMk @U1<|aMk @V4<|aMk @RT<|aMk @WT<|aMk @aiX <|
 aMk @NA<|aMk @anS<|aMk @Y9<|aMk @anF<|aMk @ajX<|aMk @dU<|aMk @aiA <|
 aMk @aMl.{0,0}<|aMk @aLw.{0}<|aMk @aLY.{0}<|aMk @Un<|aMk @aL2 <|
 aMk @Bool.and_true<|aMk @Uh<|aMk @aaT<|aMk @aaD<|aMk @Ul<|aMk @Vj <|
 aMk @UC<|aMk @Vz<|aMk @Vr<|aMk @Wj<|aMk @Vi<|aMk @WC<|aMk @Ux <|
 aMk @aaU<|aMk @ZY<|aMk @Value.bool.injEq<|aMk @decide_eq_true_eq<|aMk @decide_eq_false_iff_not <|
 aMk @Bool.not_true<|aMk @Bool.not_false<|aMk @decide_true<|aMk @decide_false<|aMk @Bool.not_eq_true' <|
 aMk @Bool.not_eq_false'<|aMk @aLg<|aMk @false_and<|aMk @and_false<|aMk @aLZ.{0,0} <|
 aMk @Option.map_none.{0,0}<|aMk @if_true.{1}<|aMk @if_false.{1}<|aMk @aMg.{0,0}<|aMk @List.map_nil.{0,0} <|
 aMk @aL4.{0}<|aMk @aLW.{0}<|aMk @and_true<|aMk @true_and<|aMk @aMc <|
 aMk @Nat.add_zero<|aMk @aKO.{0}<|aMk @aMh.{0}<|aMk @Rg<|aMk @aMm.{0} <|
 aMk @aMn.{0}<|aMk @List.getD_nil.{0}<|aMk @VV.sc.injEq<|aMk @aKY.{0} <|
 aMk @aMo.{0}<|aMk @Pr<|aMk @RM<|aMk @Rt<|aMk @Oc <|
 aMk @Sc<|aMk @QU<|aMk @Oj<|aMk @Mj<|aMk @Oo<|aMk @aCx<|aMk @aA4 <|
 aMk @aBt<|aMk @aA5<|aMk @aBv<|aMk @aBS<|aMk @aA2<|aMk @aCb<|aMk @aCd<|aMk @aBw <|
 aMk @aBP<|aMk @aBB<|aMk @aAJ<|aMk @aBc <| @aBM) :=
 aMk @aoH<|aMk @ahZ<|aMk @UE<|aMk @ZK<|aMk @Z7<|aMk @ahQ<|aMk @Z2 <|
 aMk @UQ<|aMk @ES<|aMk @HR<|aMk @JD<|aMk @HB<|aMk @Ft <|
 aMk @On<|aMk @JV<|aMk @QR<|aMk @OQ<|aMk @VP<|aMk @UG <|
 aMk @Pq<|aMk @Ri<|aMk @anJ<|aMk @avP<|aMk @akR<|aMk @atY<|aMk @Mv <|
 aMk @akT<|aMk @VZ<|aMk @ZW<|aMk @Zl<|aMk @Rb<|aMk @Ru<|aMk @amB <|
 aMk @ZO<|aMk @Zx<|aMk @Z5<|aMk @Zw<|aMk @Sh<|aMk @Zh<|aMk @Q9 <|
 aMk @Sf<|aMk @Wg<|aMk @Wl<|aMk @WD<|aMk @Z3<|aMk @Vh<|aMk @abF <|
 aMk @abE<|aMk @Ws<|aMk @aaE<|aMk @aaB<|aMk @ZX<|aMk @WH<|aMk @Zq <|
 aMk @R6<|aMk @abB<|aMk @WU<|aMk @RD<|aMk @VF<|aMk @Q7 <|
 aMk @Ew<|aMk @RE<|aMk @Ue<|aMk @RY<|aMk @N3<|aMk @Sb <|
 aMk @zF<|aMk @Rx<|aMk @Zi<|aMk @Rr<|aMk @U6<|aMk @YZ<|aMk @Wo <|
 aMk @aaZ<|aMk @aaO<|aMk @aaI<|aMk @Ww<|aMk @Rn<|aMk @Vb<|aMk @VU <|
 aMk @ZD<|aMk @ZB<|aMk @U1<|aMk @V4<|aMk @RT<|aMk @WT<|aMk @aiX <|
 aMk @NA<|aMk @anS<|aMk @Y9<|aMk @anF<|aMk @ajX<|aMk @dU<|aMk @aiA <|
 aMk @aMl.{0,0}<|aMk @aLw.{0}<|aMk @aLY.{0}<|aMk @Un<|aMk @aL2 <|
 aMk @Bool.and_true<|aMk @Uh<|aMk @aaT<|aMk @aaD<|aMk @Ul<|aMk @Vj <|
 aMk @UC<|aMk @Vz<|aMk @Vr<|aMk @Wj<|aMk @Vi<|aMk @WC<|aMk @Ux <|
 aMk @aaU<|aMk @ZY<|aMk @Value.bool.injEq<|aMk @decide_eq_true_eq<|aMk @decide_eq_false_iff_not <|
 aMk @Bool.not_true<|aMk @Bool.not_false<|aMk @decide_true<|aMk @decide_false<|aMk @Bool.not_eq_true' <|
 aMk @Bool.not_eq_false'<|aMk @aLg<|aMk @false_and<|aMk @and_false<|aMk @aLZ.{0,0} <|
 aMk @Option.map_none.{0,0}<|aMk @if_true.{1}<|aMk @if_false.{1}<|aMk @aMg.{0,0}<|aMk @List.map_nil.{0,0} <|
 aMk @aL4.{0}<|aMk @aLW.{0}<|aMk @and_true<|aMk @true_and<|aMk @aMc <|
 aMk @Nat.add_zero<|aMk @aKO.{0}<|aMk @aMh.{0}<|aMk @Rg<|aMk @aMm.{0} <|
 aMk @aMn.{0}<|aMk @List.getD_nil.{0}<|aMk @VV.sc.injEq<|aMk @aKY.{0} <|
 aMk @aMo.{0}<|aMk @Pr<|aMk @RM<|aMk @Rt<|aMk @Oc <|
 aMk @Sc<|aMk @QU<|aMk @Oj<|aMk @Mj<|aMk @Oo<|aMk @aCx<|aMk @aA4 <|
 aMk @aBt<|aMk @aA5<|aMk @aBv<|aMk @aBS<|aMk @aA2<|aMk @aCb<|aMk @aCd<|aMk @aBw <|
 aMk @aBP<|aMk @aBB<|aMk @aAJ<|aMk @aBc <| @aBM
theorem gG:type_of% (
 aMk @bK<|aMk @Gf<|aMk @Mi<|aMk @R4<|aMk @zR<|aMk @Rl <|
 aMk @Mu<|aMk @NQ<|aMk @Mn<|aMk @aU<|aMk @eO<|aMk @aMi.{0} <|
 aMk @List.set_cons_succ.{0}<|aMk @uP<|aMk @sI<|aMk @pE.eq_1<|aMk @sQ.eq_1 <|
 aMk @sQ.eq_2<|aMk @Ga.eq_1<|aMk @Ga.eq_2<|aMk @BC.eq_1<|aMk @BC.eq_2<|aMk @Jj <|
 aMk @Eh<|aMk @GH<|aMk @GL<|aMk @RP<|aMk @List.take_zero.{0} <|
 aMk @aLr.{0}<|aMk @List.take_nil.{0}<|aMk @aLQ.{0}<|aMk @aMp.{0} <|
 aMk @List.drop_nil.{0}<|aMk @aLM.{0}<|aMk @aKE<|aMk @dE.eq_1<|aMk @aL0 <|
 aMk @eq_self.{1}<|aMk @ge_iff_le.{0} <| @aLc) :=
 aMk @bK<|aMk @Gf<|aMk @Mi<|aMk @R4<|aMk @zR<|aMk @Rl <|
 aMk @Mu<|aMk @NQ<|aMk @Mn<|aMk @aU<|aMk @eO<|aMk @aMi.{0} <|
 aMk @List.set_cons_succ.{0}<|aMk @uP<|aMk @sI<|aMk @pE.eq_1<|aMk @sQ.eq_1 <|
 aMk @sQ.eq_2<|aMk @Ga.eq_1<|aMk @Ga.eq_2<|aMk @BC.eq_1<|aMk @BC.eq_2<|aMk @Jj <|
 aMk @Eh<|aMk @GH<|aMk @GL<|aMk @RP<|aMk @List.take_zero.{0} <|
 aMk @aLr.{0}<|aMk @List.take_nil.{0}<|aMk @aLQ.{0}<|aMk @aMp.{0} <|
 aMk @List.drop_nil.{0}<|aMk @aLM.{0}<|aMk @aKE<|aMk @dE.eq_1<|aMk @aL0 <|
 aMk @eq_self.{1}<|aMk @ge_iff_le.{0} <| @aLc
end Go.PM
namespace Go.PM
theorem TC.vt {f:Nat} {args:List VV} {r:VV} (h:TC f args r) (CO:Gi.contains f=false) (hp:aO args=true):VT f args r:=by
 have h1:=h 0 [] fun x _=>x=r
 unfold dH at h1
 simp only[CO,hp,aLg,if_false,if_true] at h1
 have h2:I3 f args fun x=>x=r:=by rw[h1];trivial
 unfold I3 tk at h2
 split at h2
 ·rename_i x hx
  rw[←h2]
  exact(SK hx).2.2
 ·exact h2.elim
theorem TC.yes {f:Nat} {args:List VV} {fA:List Value} {H:aI} (h:TC f args (.sc (.bool true))) (CO:Gi.contains f=false) (hp:aO args=true) (hl:VL (bare (· < H.length) H) args fA) :
  ∃v H',uQ f fA H.length H=some (v,H')∧v = .bool true:=by
 obtain⟨P',pv,h1,_,h2⟩:=h.vt CO hp (· < H.length) H fA H.length (fun _ h=>h) hl (aKE _)
 cases h2
 exact⟨_,P',h1,rfl⟩
theorem VR.grow {H L:aI} {x:VV} {v:Value} (h:VR (bare (· < H.length) H) x v):VR (bare (· < (H++L).length) (H++L)) x v :=
 h.F6 fun b hb=>⟨by show b<_;rw[aKP];omega,aKV hb⟩
end Go.PM
namespace Go.PM
mutual
def jW (n:Nat):VV→Bool
 | .any=>false
 | .sc v=>qH v
 | .agg cs=>AF n cs
 | .dW vs=>AF n vs
 | .tree es k=>es.isEmpty&&decide (k = .nil)
 | .cG _ _=>false
 | .ref b _ _ _ _=>decide (n≤b)
 | .ptr b _ _ _=>decide (n≤b)
 | .xZ _ _=>false
def AF (n:Nat):List VV→Bool
 | []=>true
 | x::xs=>jW n x&&AF n xs
end
theorem zZ {n:Nat} {es:List VV}:AF n es=true↔∀x∈es,jW n x=true:=by
 induction es with
 | nil=>simp[AF]
 | cons x xs ih=>simp[AF,ih]
theorem adS {n:Nat} {es:List VV} (h:AF n es=true):AF n (es.flatMap aB)=true:=by
 rw[zZ] at h ⊢
 intro x hx
 obtain⟨y,hy,CQ⟩:=List.mem_flatMap.1 hx
 have:=h y hy
 unfold aB at CQ
 split at CQ
 ·exact zZ.1 (by simpa[jW] using this) x CQ
 ·rw[aLK] at CQ;subst CQ;exact this
def mZ (n:Nat) (L:aA):Bool:=L.all fun
 | .row _ es _ _=>AF n es
 | .dead=>true
theorem VR.own {V V':View} {k0:Nat} (T0:∀q,V.base≤q∧q<V.P.length→V'.base≤q∧q<V'.P.length∧∀b' g' es e w,b'<k0→V'.H[b']? = some (.row g' es e w)→V'.m b'≠q) (hl:V.H.length≤V'.H.length) (hH:∀b,k0≤b→V'.H[b]? = V.H[b]?) (hm:∀b,k0≤b→V'.m b=V.m b) {x:VV} {v:Value} (h:VR V x v):jW k0 x=true→VR V' x v:=by
 induction h using VR.rec (motive_2:=fun xs vs _=>AF k0 xs=true→VL V' xs vs) with
 | any=>intro hx;cases hx
 | sc _ h=>intro _;exact .sc _ h
 | agg cs ps _ ih=>intro hx;exact .agg _ _ (ih hx)
 | dW cs ps _ ih=>intro hx;exact .dW _ _ (ih hx)
 | pT k hk=>intro _;exact .pT k hk
 |
  tree es k b o c r e p hF hb ho hc he hk _ _ =>
  intro hx
  simp only[jW,aLc,decide_eq_true_eq] at hx
  obtain⟨_,rfl⟩:=hx
  exact hk.elim
 | cG=>intro hx;cases hx
 |
  ref b g o n c a n' c' bI hg ha hq =>
  intro hx
  have hb:k0≤b:=by simpa[jW] using hx
  exact .ref b g o n c a n' c' (aKG bI hl) (fun g' es e w hr=>hg g' es e w (by rw[←hH b hb];exact hr)) (fun es e w hr=>by rw[hm b hb];exact ha es e w (by rw[←hH b hb];exact hr)) fun a0 h=>by
   obtain⟨q1,q2,q3⟩:=hq a0 h
   obtain⟨q4,q5,q6⟩:=T0 _ ⟨q1,q2⟩
   refine⟨q4,q5,fun b' g' es e w hr gF => ?_⟩
   rcases aKH b' k0 with N2 | Hp
   ·exact q6 b' g' es e w N2 hr
   ·rw[hm b' Hp]
    exact q3 b' g' es e w (by rw[←hH b' Hp];exact hr) gF
 |
  ptr b g j off a bI hg ha hq =>
  intro hx
  have hb:k0≤b:=by simpa[jW] using hx
  exact .ptr b g j off a (aKG bI hl) (fun g' es e w hr=>hg g' es e w (by rw[←hH b hb];exact hr)) (fun es e w hr=>by rw[hm b hb];exact ha es e w (by rw[←hH b hb];exact hr)) fun a0 h=>by
   obtain⟨q1,q2,q3⟩:=hq a0 h
   obtain⟨q4,q5,q6⟩:=T0 _ ⟨q1,q2⟩
   refine⟨q4,q5,fun b' g' es e w hr gF => ?_⟩
   rcases aKH b' k0 with N2 | Hp
   ·exact q6 b' g' es e w N2 hr
   ·rw[hm b' Hp]
    exact q3 b' g' es e w (by rw[←hH b' Hp];exact hr) gF
 | xZ=>intro hx;cases hx
 | nil=>exact .nil
 |
  cons x v xs vs _ _ ih Yw =>
  rename_i hx
  simp only[AF,aLc] at hx
  exact .cons _ _ _ _ (ih hx.1) (Yw hx.2)
theorem VL.own {V V':View} {n:Nat} (T0:∀q,V.base≤q∧q<V.P.length→V'.base≤q∧q<V'.P.length∧∀b' g' es e w,b'<n→V'.H[b']? = some (.row g' es e w)→V'.m b'≠q) (hl:V.H.length≤V'.H.length) (hH:∀b,n≤b→V'.H[b]? = V.H[b]?) (hm:∀b,n≤b→V'.m b=V.m b) {xs:List VV} {vs:List Value} (h:VL V xs vs) (hx:AF n xs=true):VL V' xs vs:=by
 induction xs generalizing vs with
 | nil=>cases h;exact .nil
 |
  cons x xs ih=>cases h with
  |
   cons _ v _ vs h hs =>
   simp only[AF,aLc] at hx
   exact .cons _ _ _ _ (h.own T0 hl hH hm hx.1) (ih hs hx.2)
theorem VL.F6 {V':View} {G:Nat→Prop} {P:aI} {xs:List VV} {vs:List Value} (hF:∀b,G b→V'.F b∧V'.P[b]? = P[b]?) (h:VL (bare G P) xs vs):VL V' xs vs:=by
 induction xs generalizing vs with
 | nil=>cases h;exact .nil
 |
  cons x xs ih=>cases h with
  | cons _ v _ vs h hs=>exact .cons _ _ _ _ (h.F6 hF) (ih hs)
def FC (f:Nat) (args:List VV) (R:Nat→VV→aA→Prop):Prop :=
 ∀n,jD f args n (aLu n .dead) fun r H'=>∃L,H'=aLu n .dead++L∧jW n r=true∧mZ n L=true∧R n r L
theorem FC.walk {f:Nat} {pf:aT} {args:List VV} {R:Nat→VV→aA→Prop} (fl:Fl) (ht:fP f=some pf) (hn:args.length≤pf.ntmps)
  (h:∀n,VW fl n pf.body (Dp pf.res fun r H'=>∃L,H'=aLu n .dead++L∧jW n r=true∧mZ n L=true∧R n r L) (MB args) (aLu n .dead)):FC f args R :=
 fun n=>jD.walk fl ht hn (h n)
theorem FC.raw {f:Nat} {args mF:List VV} {R:Nat→VV→aA→Prop} {H:aA} {lo:Nat} (h:FC f mF R) (hf:args.mapM (fz depth H)=some mF):jD f args lo H fun r H'=>∃L,H'=H++L∧R H.length r L∧jW H.length r=true∧mZ H.length L=true:=by
 intro V fB fA hH hS hl
 have h1:=h H.length
 let V0:View:={ m:=V.m,F:=(· < V.P.length),H:=aLu H.length .dead,P:=V.P,base:=V.P.length }
 have PS:∀(b g:Nat) (es:List VV) (e:Nat) (w:Bool),V0.H[b]? ≠ some (.row g es e w):=by
  intro b g es e w hb
  have:=aLP (aLy hb)
  cases this
 have hS0:SR V0 H.length fB:=⟨fun b g es e w hb=>absurd hb (PS _ _ _ _ _),fun b g es e hb=>absurd hb (PS _ _ _ _ _),fun a b g es e w _ _ _ _ ha=>absurd ha (PS _ _ _ _ _),fun b hb=>hb,hS.W5,aKE _⟩
 have Ci:VL V0 mF fA:=by
  have:=Gt hS (G:=(· < V.P.length)) (fun q hq=>hS.fr q hq) hl (by rw[hH];exact hf) (fun i _ g es e w hb=>hS.mlt hb)
  exact VL.F6 (V':=V0) (fun b hb=>⟨hb,rfl⟩) this
 obtain⟨pv,V1,r,k1,k3,k4,k5,L,k2,h2,h3,hR⟩:=h1 V0 fB fA rfl hS0 Ci
 have Y5:∀b g es e w,V1.H[b]? = some (.row g es e w)→V.P.length≤V1.m b:=by
  intro b g es e w hb
  rcases aKH (V1.m b) V.P.length with bI | Hp
  ·obtain⟨g0,es0,w0,j1,_⟩:=k4.D3 b g es e w hb bI
   exact absurd j1 (PS _ _ _ _ _)
  ·exact Hp
 have aAV:V1.H.length=H.length+(L).length:=by rw[k2];simp
 have tX:∀q,q<V.P.length→V1.P[q]? = V.P[q]? := fun q hq=>k4.dB q hq fun b g es e hb=>absurd hb (PS _ _ _ _ _)
 let V2:View:={ m:=fun b=>if b<H.length then V.m b else V1.m b,F:=V.F,H:=H++L,P:=V1.P,base:=V.base }
 have aqJ:∀b,H.length≤b→V2.H[b]? = V1.H[b]? := fun b hb=>by
  show (H++L)[b]? = _
  rw[k2,aKW hb,aKW (by simpa using hb),List.length_replicate]
 have mL:∀b,H.length≤b→V2.m b=V1.m b:=fun b hb=>by
  show (if b<H.length then V.m b else V1.m b)=_
  rw[if_neg (by omega)]
 have arH:∀b,b<H.length→V2.H[b]? = V.H[b]? := fun b hb=>by
  show (H++L)[b]? = _
  rw[aKV hb,hH]
 have mS:∀b,b<H.length→V2.m b=V.m b:=fun b hb=>by
  show (if b<H.length then V.m b else V1.m b)=_
  rw[if_pos hb]
 have hU:Up V V2:=⟨fun _ h=>h,fun b hb=>tX b (hS.fr b hb),by show V.H.length≤(H++L).length;rw[hH];simp,fun b g es e w bI hb=>⟨g,es,w,by rw[←arH b (by rw[←hH];exact bI)];exact hb,aKE _,fun _=>mS b (by rw[←hH];exact bI)⟩,rfl,k4.Hr,fun b g es e w hb hm=>by
   rcases aKH b H.length with h | h
   ·exact⟨g,es,w,by rw[←arH b h];exact hb,mS b h,id⟩
   ·rw[mL b h] at hm
    have:=Y5 b g es e w (by rw[←aqJ b h];exact hb)
    omega⟩
 have Z4:∀ {b g es e w},V2.H[b]? = some (.row g es e w)→(b<H.length∧V.H[b]? = some (.row g es e w))∨(H.length≤b∧V1.H[b]? = some (.row g es e w)):=by
  intro b g es e w hb
  rcases aKH b H.length with h | h
  ·exact .inl ⟨h,by rw[←arH b h];exact hb⟩
  ·exact .inr ⟨h,by rw[←aqJ b h];exact hb⟩
 have auK:V1.H.length≤V2.H.length:=by show _≤(H++L).length;rw[aAV];simp
 have Rf:∀ {b g es e w},H.length≤b→V1.H[b]? = some (.row g es e w)→AF H.length es=true:=by
  intro b g es e w hb hr
  rw[k2,aKW (by simpa using hb)] at hr
  exact aKS.1 h3 _ (aLy hr)
 have T0:∀q,V1.base≤q∧q<V1.P.length→V2.base≤q∧q<V2.P.length∧∀b' g' es e w,b'<H.length→V2.H[b']? = some (.row g' es e w)→V2.m b'≠q:=by
  intro q hq
  have GJ:V.P.length≤q:=by have:=k4.NG;rw[this] at hq;exact hq.1
  refine⟨aKF hS.NG GJ,hq.2,fun b' g' es e w bI hr hm => ?_⟩
  rw[mS b' bI] at hm
  have:=hS.mlt (by rw[←arH b' bI];exact hr)
  omega
 refine⟨pv,V2,r,k1,⟨fun b g es e w hb => ?_,fun b g es e hb => ?_,fun a b g es e w g' pK e' w' ha hb hm => ?_,fun b hb => ?_,?_,aKF hS.NG k4.Hr⟩,{ hU with dB:=fun q hq _=>tX q hq,Fc:=fun q hq => .inl hq },?_,L,rfl,hR,h2,h3⟩
 ·rcases Z4 hb with⟨h,hb⟩ | ⟨h,hb⟩
  ·obtain⟨r,p,j1,j2,j3⟩:=hS.row b g es e w hb
   exact⟨r,p,by rw[mS b h];exact(tX _ (hS.mlt hb)).trans j1,j2,j3.mono hU⟩
  ·obtain⟨r,p,j1,j2,j3⟩:=k3.row b g es e w hb
   exact⟨r,p,by rw[mL b h];exact j1,j2,j3.own T0 auK (fun b hb=>aqJ b hb) (fun b hb=>mL b hb) (adS (Rf h hb))⟩
 ·rcases Z4 hb with⟨h,hb⟩ | ⟨h,hb⟩
  ·rw[mS b h]
   exact hS.wr b g es e hb
  ·rw[mL b h]
   have:=Y5 b g es e true hb
   exact⟨fun hF=>by have:=hS.fr _ hF;omega,fun _=>aKF hS.W5 this⟩
 ·rcases Z4 ha with⟨h,ha⟩ | ⟨h,ha⟩<;>rcases Z4 hb with⟨h',hb⟩ | ⟨h',hb⟩
  ·rw[mS a h,mS b h'] at hm
   exact hS.inj a b _ _ _ _ _ _ _ _ ha hb hm
  ·rw[mS a h,mL b h'] at hm
   have:=Y5 b _ _ _ _ hb
   have:=hS.mlt ha
   omega
  ·rw[mL a h,mS b h'] at hm
   have:=Y5 a _ _ _ _ ha
   have:=hS.mlt hb
   omega
  ·rw[mL a h,mL b h'] at hm
   exact k3.inj a b _ _ _ _ _ _ _ _ ha hb hm
 ·exact aKG (hS.fr b hb) k4.Hr
 ·exact aKF hS.W5 k4.Hr
 ·exact k5.own T0 auK (fun b hb=>aqJ b hb) (fun b hb=>mL b hb) h2
theorem fU {f:Nat} {args:List VV} {lo:Nat} {H:aA} {K:VV→aA→Prop} (CO:Gi.contains f=true) (h:jD f args lo H K):dH f args lo H K:=by
 unfold dH
 rw[if_pos CO]
 exact h
theorem FC.call {f:Nat} {args mF:List VV} {R:Nat→VV→aA→Prop} {H:aA} {lo:Nat} {K:VV→aA→Prop} (h:FC f mF R) (CO:Gi.contains f=true) (hf:args.mapM (fz depth H)=some mF) (hk:∀r L,R H.length r L→K r (H++L)):dH f args lo H K :=
 fU CO ((h.raw hf).mono fun r H' ⟨L,h1,h2,_⟩=>by subst h1;exact hk r L h2)
theorem FC.auD {f:Nat} {args mF:List VV} {R:Nat→VV→aA→Prop} {H:aA} {lo:Nat} {K:VV→aA→Prop} (h:FC f mF R) (CO:Gi.contains f=true) (hf:args.mapM (fz depth H)=some mF) (hk:∀r L,R H.length r L→jW H.length r=true→mZ H.length L=true→K r (H++L)):dH f args lo H K :=
 fU CO ((h.raw hf).mono fun r H' ⟨L,h1,h2,h3,h4⟩=>by subst h1;exact hk r L h2 h3 h4)
def VC (H K:aA):Prop:=K.length=H.length∧∀(b g:Nat) (es:List VV) (e:Nat) (w:Bool),K[b]? = some (.row g es e w)→H[b]? = some (.row g es e w)
theorem VR.kill {V:View} {K:aA} (hK:VC V.H K) {x:VV} {v:Value} (h:VR V x v):VR { V with H:=K } x v:=by
 induction h using VR.rec (motive_2:=fun xs vs _=>VL { V with H:=K } xs vs) with
 | any=>exact .any _
 | sc _ h=>exact .sc _ h
 | agg cs ps _ ih=>exact .agg _ _ ih
 | dW cs ps _ ih=>exact .dW _ _ ih
 | pT k hk=>exact .pT k hk
 | tree es k b o c r e p hF hb ho hc he hk _ ih=>exact .tree es k b o c r e p hF hb ho hc he hk ih
 | cG x off b o r e p hF hb ho _ ih=>exact .cG x off b o r e p hF hb ho ih
 |
  ref b g o n c a n' c' bI hg ha hq =>
  exact .ref b g o n c a n' c' (by show b<K.length;rw[hK.1];exact bI) (fun g' es e w hr=>hg g' es e w (hK.2 _ _ _ _ _ hr)) (fun es e w hr=>ha es e w (hK.2 _ _ _ _ _ hr)) fun a0 h=>⟨(hq a0 h).1,(hq a0 h).2.1,fun b' g' es e w hr=>(hq a0 h).2.2 b' g' es e w (hK.2 _ _ _ _ _ hr)⟩
 |
  ptr b g j off a bI hg ha hq =>
  exact .ptr b g j off a (by show b<K.length;rw[hK.1];exact bI) (fun g' es e w hr=>hg g' es e w (hK.2 _ _ _ _ _ hr)) (fun es e w hr=>ha es e w (hK.2 _ _ _ _ _ hr)) fun a0 h=>⟨(hq a0 h).1,(hq a0 h).2.1,fun b' g' es e w hr=>(hq a0 h).2.2 b' g' es e w (hK.2 _ _ _ _ _ hr)⟩
 | xZ f gB ps _ ih=>exact .xZ _ _ _ ih
 | nil=>exact .nil
 | cons x v xs vs _ _ ih Yw=>exact .cons _ _ _ _ ih Yw
theorem VL.kill {V:View} {K:aA} (hK:VC V.H K) {xs:List VV} {vs:List Value} (h:VL V xs vs):VL { V with H:=K } xs vs:=by
 induction xs generalizing vs with
 | nil=>cases h;exact .nil
 |
  cons x xs ih=>cases h with
  | cons _ v _ vs h hs=>exact .cons _ _ _ _ (h.kill hK) (ih hs)
theorem jD.kill {f:Nat} {args:List VV} {lo:Nat} {H:aA} {P P':VV→aA→Prop} (h:jD f args lo H P) (hk:∀v H',P v H'→∃K,VC H' K∧P' v K):jD f args lo H P':=by
 intro V fB fA hH hS hl
 obtain⟨pv,V',v,h1,h2,h3,h4,h5⟩:=h V fB fA hH hS hl
 obtain⟨K,hK,h6⟩:=hk _ _ h5
 refine⟨pv,{ V' with H:=K },v,h1,⟨fun b g es e w hb => ?_,fun b g es e hb=>h2.wr b g es e (hK.2 _ _ _ _ _ hb),fun a b g es e w g' pK e' w' ha hb hm=>h2.inj a b _ _ _ _ _ _ _ _ (hK.2 _ _ _ _ _ ha) (hK.2 _ _ _ _ _ hb) hm,h2.fr,h2.W5,h2.NG⟩,
  { F:=h3.F,P:=h3.P,len:=by show V.H.length≤K.length;rw[hK.1];exact h3.len,row:=fun b g es e w bI hb=>h3.row b g es e w bI (hK.2 _ _ _ _ _ hb),NG:=h3.NG,Hr:=h3.Hr,D3:=fun b g es e w hb hm=>h3.D3 b g es e w (hK.2 _ _ _ _ _ hb) hm,dB:=h3.dB,Fc:=h3.Fc },h4.kill hK,h6⟩
 obtain⟨r,p,j1,j2,j3⟩:=h2.row b g es e w (hK.2 _ _ _ _ _ hb)
 exact⟨r,p,j1,j2,j3.kill hK⟩
theorem FC.aAX {f:Nat} {pf:aT} {args:List VV} {R:Nat→VV→aA→Prop} (fl:Fl) (ht:fP f=some pf) (hn:args.length≤pf.ntmps)
  (h:∀n,VW fl n pf.body (Dp pf.res fun r H'=>∃L,VC H' (aLu n .dead++L)∧jW n r=true∧mZ n L=true∧R n r L) (MB args) (aLu n .dead)):FC f args R :=
 fun n=>(jD.walk fl ht hn (h n)).kill fun _ _ ⟨L,h1,h2,h3,h4⟩=>⟨_,h1,L,rfl,h2,h3,h4⟩
end Go.PM
namespace Go.PM
open Go.ChangeShapes Go.WideShapes Go.ChangeAt Go.RowKit
open Go.Proofs
def GD (W:World):Prop:=∃(rb:Nat) (arr:Array Value) (e:TypeId) (fz:Nat×Nat),W.heap[rb]? = some (.cells arr e fz)
structure Ev (m m':dL) (H L:aI) (W:World) (cs KK:List Value) (vs:List VV):Prop where
 inn:In m' (H++L) W
 ext:∀b l,m b=some l→m' b=some l
 len:KK.length=cs.length
 rv:∀i,i<cs.length→RV m' (KK.getD i Go.undef) (cs.getD i Go.undef)
 sc:∀v∈KK,PM.iQ v=true
 tree:VL (bare (· < (H++L).length) (H++L)) vs KK
def FK {T:Type} (Aj:TypeId×Value→T) (P:Program) (W:World) (t:TypeId) (k:Nat) (S:List VV→Prop):Prop :=
 ∀fuel cs y,DataW.trod Aj P W 0 (fun _=>true) true fuel t cs=some y→∀(m:dL) (H:aI),In m H W→cs.length=k∧∃m' L KK vs,Ev m m' H L W cs KK vs∧S vs
theorem VL.grow {H L:aI} {xs:List VV} {vs:List Value} (h:VL (bare (· < H.length) H) xs vs):VL (bare (· < (H++L).length) (H++L)) xs vs :=
 h.F6 fun b hb=>⟨by show b<_;rw[aKP];omega,aKV hb⟩
theorem VL.app {V:View} {xs ys:List VV} {vs ws:List Value} (h:VL V xs vs) (h':VL V ys ws):VL V (xs++ys) (vs++ws):=by
 induction xs generalizing vs with
 | nil=>cases h;exact h'
 |
  cons x xs ih=>cases h with
  | cons _ v _ vs h hs=>exact .cons _ _ _ _ h (ih hs)
theorem LB {cs ds:List Value} {i:Nat} (h:i<cs.length):(cs++ds).getD i Go.undef=cs.getD i Go.undef:=by
 simp only[aKB,aKV h]
theorem ID {cs ds:List Value} {i:Nat} (h:cs.length≤i):(cs++ds).getD i Go.undef=ds.getD (i-cs.length) Go.undef:=by
 simp only[aKB,aKW h]
theorem Ev.both {m m1 m2:dL} {H L1 L2:aI} {W:World} {cs KK Cx aBA:List Value} {vs vs':List VV} (h:Ev m m1 H L1 W cs KK vs) (h':Ev m1 m2 (H++L1) L2 W Cx aBA vs'):Ev m m2 H (L1++L2) W (cs++Cx) (KK++aBA) (vs++vs'):=by
 refine⟨by rw[←aMq];exact h'.inn,fun b l hb=>h'.ext _ _ (h.ext _ _ hb),by simp[h.len,h'.len],fun i hi => ?_,fun v hv => ?_,?_⟩
 ·rcases aKH i cs.length with bI | Hp
  ·rw[LB bI,LB (by rw[h.len];exact bI)]
   exact(h.rv i bI).mono h'.ext
  ·rw[ID Hp,ID (by rw[h.len];exact Hp),h.len]
   exact h'.rv _ (by rw[aKP] at hi;omega)
 ·rcases List.mem_append.1 hv with hv | hv
  ·exact h.sc v hv
  ·exact h'.sc v hv
 ·rw[←aMq]
  exact h.tree.grow.app h'.tree
theorem Ev.none {m:dL} {H:aI} {W:World} (hI:In m H W):Ev m m H [] W [] [] [] :=
 ⟨by rw[aLM];exact hI,fun _ _ h=>h,rfl,fun i hi=>absurd hi (aLV _),fun v hv=>(by cases hv),.nil⟩
theorem TB {T:Type} {Aj:TypeId×Value→T} {P:Program} {W:World} {t:TypeId} (ht:P.underlying t=some .string):FK Aj P W t 1 (fun vs=>∃s:ByteArray,s.size≤maxLen∧vs=[.sc (.string s)]):=by
 intro fuel cs y h m H hI
 obtain⟨s,rfl,_,hs⟩:=DataW.trod_string ht h
 refine⟨rfl,m,[],[.string s],[.sc (.string s)],⟨by rw[aLM];exact hI,fun _ _ h=>h,rfl,fun i hi => ?_,fun v hv => ?_,.cons _ _ _ _ (.sc _ rfl) .nil⟩,s,hs,rfl⟩
 ·have:i=0:=by simpa using hi
  subst this
  exact .str s
 ·rw[aLK] at hv
  subst hv
  rfl
theorem N6 {T:Type} {Aj:TypeId×Value→T} {P:Program} {W:World} {e:TypeId} {gR:Nat} {S:List VV→Prop} (ho:FK Aj P W e gR S):∀(W6:List (List Value)),(∀cs∈W6,∃fuel y,DataW.trod Aj P W 0 (fun _=>true) true fuel e cs=some y)→∀(m:dL) (H:aI),In m H W →
  ∃(m':dL) (L:aI) (KK:List Value) (gs:List (List VV)),Ev m m' H L W W6.flatten KK gs.flatten∧gs.length=W6.length∧(∀g∈gs,S g)∧∀cs∈W6,cs.length=gR
 | [],_,m,H,hI=>⟨m,[],[],[],Ev.none hI,rfl,fun g hg=>(by cases hg),fun cs OR=>(by cases OR)⟩
 |
  cs::W6,h,m,H,hI=>by
  obtain⟨fuel,y,hy⟩:=h cs aLe
  obtain⟨hl,m1,L1,aFr,g,h1,hS⟩:=ho fuel cs y hy m H hI
  obtain⟨m2,L2,aFm,gs,h2,h3,h4,h5⟩:=N6 ho W6 (fun cs OR=>h cs (aLd _ OR)) m1 (H++L1) h1.inn
  refine⟨m2,L1++L2,aFr++aFm,g::gs,?_,by simp[h3],fun g' hg' => ?_,fun Cx awI => ?_⟩
  ·rw[aMr,aMr]
   exact h1.both h2
  ·rcases aLS.1 hg' with rfl | hg'
   ·exact hS
   ·exact h4 _ hg'
  ·rcases aLS.1 awI with rfl | awI
   ·exact hl
   ·exact h5 _ awI
theorem Fs {α:Type} {k:Nat}:∀ {xss:List (List α)},(∀xs∈xss,xs.length=k)→xss.flatten.length=xss.length*k
 | [],_=>by simp
 |
  xs::xss,h=>by
  rw[aMr,aKP,h xs aLe,Fs fun y hy=>h y (aLd _ hy),aKO,aLt,Nat.add_comm]
theorem JE {α:Type} {k:Nat}:∀ {xss:List (List α)} (n:Nat),(∀xs∈xss,xs.length=k)→xss.flatten.take (n*k)=(xss.take n).flatten
 | [],n,_=>by simp
 | xs::xss,0,_=>by simp
 |
  xs::xss,n+1,h=>by
  have hl:=h xs aLe
  rw[aMr,aLr,aMr,←JE n fun y hy=>h y (aLd _ hy),show (n+1)*k=xs.length+n*k by rw[hl,aLt,Nat.add_comm],List.take_length_add_append]
theorem TL {k:Nat} (hk:1≤k) {W6:List (List Value)} (h:∀cs∈W6,cs.length=k) {i:Nat} (hi:i<W6.length*k):∃cs,W6[i / k]? = some cs∧W6.flatten.getD i Go.undef=cs.getD (i % k) Go.undef:=by
 induction W6 generalizing i with
 | nil=>simp at hi
 |
  cons cs W6 ih =>
  have hl:=h cs aLe
  rw[aMr]
  rcases aKH i k with bI | Hp
  ·refine⟨cs,by rw[aMb bI];rfl,?_⟩
   rw[LB (by omega),aL8 bI]
  ·obtain⟨c',h1,h2⟩:=ih (fun y hy=>h y (aLd _ hy)) (i:=i-k) (by rw[aKO,aLt] at hi;omega)
   have e1:i / k=(i-k) / k+1:=by rw[Nat.div_eq_sub_div (by omega) Hp]
   have e2:i % k=(i-k) % k:=by rw[Nat.mod_eq_sub_mod Hp]
   exact⟨c',by rw[e1];exact h1,by rw[ID (by omega),hl,h2,e2]⟩
theorem Mr {T:Type} {Aj:TypeId×Value→T} {α:Type} {f:α→VV} {ajL:α→Prop} {P:Program} {W:World} {t e:TypeId} {gR:Nat} (ht:P.underlying t=some (.slice e)) (aFh:P.cellsOf e=gR) (pos:1≤gR) (hB:GD W)
  (hf:∀x,(aB (f x)).length=gR) (ho:FK Aj P W e gR fun g=>∃x:α,ajL x∧g=aB (f x)):FK Aj P W t 1 fun vs=>∃xs:List α,xs.length≤maxLen∧(∀x∈xs,ajL x)∧vs=[aC f xs]:=by
 intro fuel cs y h m H hI
 rcases DataW.trod_slice ht h with⟨rfl,_⟩ | ⟨a,n,c,elems,rest,k,_,rfl,_,_,hnc,hmx,hlen,hE,hR,_⟩
 ·refine⟨rfl,m,[],[.slice none 0 0],[.tree [] .op],⟨by rw[aLM];exact hI,fun _ _ h=>h,rfl,fun i hi => ?_,fun v hv => ?_,.cons _ _ _ _ (.pT _ (.inl rfl)) .nil⟩,[],aK8 _,fun x hx=>(by cases hx),rfl⟩
  ·have:i=0:=by simpa using hi
   subst this
   exact .MS
  ·rw[aLK] at hv
   subst hv
   rfl
 ·obtain⟨BZ,hR⟩:=hR rfl
  have Y4:∀i,i<c→∃cs,W.cells? 0 (a.add (i*gR)) gR=some cs∧∃fuel y,DataW.trod Aj P W 0 (fun _=>true) true fuel e cs=some y:=by
   intro i hi
   have key:∃y,(W.cells? 0 (a.add (i*P.cellsOf e)) (P.cellsOf e)).bind (DataW.trod Aj P W 0 (fun _=>true) true k e)=some y:=by
    rcases aKH i n with bW | bW
    ·exact⟨elems[i]'(by omega),by rw[hE i bW];exact aKL _⟩
    ·have:=hR (i-n) (by omega)
     rw[show n+(i-n)=i by omega] at this
     exact⟨rest[i-n]'(by omega),by rw[this];exact aKL _⟩
   obtain⟨y,hy⟩:=key
   rw[Option.bind_eq_some_iff,aFh] at hy
   obtain⟨cs,h1,h2⟩:=hy
   exact⟨cs,h1,k,y,h2⟩
  obtain⟨W6,mM,OR⟩:=aaH (fun i cs=>W.cells? 0 (a.add (i*gR)) gR=some cs∧∃fuel y,DataW.trod Aj P W 0 (fun _=>true) true fuel e cs=some y) c Y4
  obtain⟨m1,L1,KK,gs,hO,hgl,hgS,axD⟩:=N6 ho W6 (fun cs hc=>by
   obtain⟨i,hi⟩:=List.getElem?_of_mem hc
   exact(OR i cs hi).2) m H hI
  obtain⟨xs,hxg,MY⟩:∃xs:List α,(∀x∈xs,ajL x)∧gs=xs.map fun x=>aB (f x):=by
   clear hO hgl
   induction gs with
   | nil=>exact⟨[],fun x hx=>(by cases hx),rfl⟩
   |
    cons g gs ih =>
    obtain⟨xs,h1,h2⟩:=ih fun g hg=>hgS g (aLd _ hg)
    obtain⟨x,h3,h4⟩:=hgS g aLe
    exact⟨x::xs,fun y hy=>by
     rcases aLS.1 hy with rfl | hy
     ·exact h3
     ·exact h1 y hy,by rw[aMg,←h2,h4]⟩
  have hxl:xs.length=c:=by rw[←mM,←hgl,MY,aMl]
  have Qa:KK.length=c*gR:=by rw[hO.len,Fs axD,mM]
  obtain⟨rb,base,arr,e',fz,aBj,Qn,GJ⟩:∃(rb base:Nat) (arr:Array Value) (e':TypeId) (fz:Nat×Nat),W.heap[rb]? = some (.cells arr e' fz)∧(c=0→base=0)∧(c≠0→a=⟨rb,base,none⟩):=by
   by_cases h0:c=0
   ·obtain⟨rb,arr,e',fz,hb⟩:=hB
    exact⟨rb,0,arr,e',fz,hb,fun _=>rfl,fun h=>absurd h0 h⟩
   ·obtain⟨cs,h1,_⟩:=Y4 0 (by omega)
    have h2:=(World.cells?_some h1).2
    have h3:=h2.2 0 (by omega)
    rw[aKL (by omega)] at h3
    have:(a.add (0*gR)).add 0=a:=by simp[Addr.add]
    rw[this] at h3
    unfold World.cell? at h3
    split at h3
    ·rename_i arr e' fz hb
     split at h3
     ·cases h3
     ·rename_i Ud
      refine⟨a.block,a.off,arr,e',fz,hb,fun h=>absurd h h0,fun _ => ?_⟩
      obtain⟨b,o,sp⟩:=a
      cases sp with
      | none=>rfl
      | some x=>simp at Ud
    ·cases h3
  have TX:∀i,i<c*gR→W.cell? ⟨rb,base+i,none⟩=some (W6.flatten.getD i Go.undef):=by
   intro i hi
   obtain⟨cs,h1,h2⟩:=TL pos axD (i:=i) (by rw[mM];exact hi)
   have h0:c≠0:=by intro h0;rw[h0] at hi;simp at hi
   have ha:=GJ h0
   have h3:=(World.cells?_some (OR _ _ h1).1).2
   have hr:i % gR<gR:=Nat.mod_lt _ pos
   have h4:=h3.2 (i % gR) hr
   have Qh:∀o k:Nat,(⟨rb,o,none⟩:Addr).add k=⟨rb,o+k,none⟩:=by
    intro o k
    unfold Addr.add
    split
    ·rename_i h0;subst h0;rfl
    ·rfl
   have Xz:i / gR*gR+i % gR=i:=by rw[aL6];exact Nat.div_add_mod i gR
   rw[ha,Qh,Qh,Nat.add_assoc,Xz] at h4
   rw[h2,aKB,h4]
   have bI:i % gR<cs.length:=by rw[h3.1];exact hr
   rw[aKL bI]
   rfl
  have xE:base+KK.length≤arr.size:=by
   rw[Qa]
   by_cases h0:c=0
   ·rw[Qn h0,h0];simp
   ·have Qo:1≤c*gR:=Nat.mul_pos (by omega) pos
    have h3:=TX (c*gR-1) (by omega)
    unfold World.cell? at h3
    simp only[aBj,aLj,aLg,if_false] at h3
    have:=(Array.getElem?_eq_some_iff.1 h3).1
    omega
  have Qh:=hO.inn.add (gR:=gR) (cs:=KK) (base:=base) aBj xE (fun i hi=>by
   rw[Qa] at hi
   refine⟨_,TX i hi,(hO.rv i (by rw[Fs axD,mM];exact hi)).mono (yE (hO.inn.Wa (aKE _))),?_⟩
   rw[aKB,aKL (by rw[Qa];exact hi)]
   exact hO.sc _ (List.getElem_mem _))
  refine⟨rfl,_,L1++[.row KK gR false],[.slice (some ⟨(H++L1).length,0,none⟩) n c],[aC f (xs.take n)],⟨by rw[←aMq];exact Qh,fun b l hb=>yE (hO.inn.Wa (aKE _)) _ _ (hO.ext b l hb),rfl,fun i hi => ?_,fun v hv => ?_,?_⟩,xs.take n,by rw[aMd];omega,fun x hx=>hxg x (aLB hx),rfl⟩
  ·have:i=0:=by simpa using hi
   subst this
   refine .slice (H++L1).length 0 n c _ _ c (cC _ _ _) hnc (aKE _) (fun _=>rfl) ?_
   by_cases h0:c=0
   ·exact .inl h0
   ·exact .inr ⟨by simpa using GJ h0,by simpa[Qa] using xE⟩
  ·rw[aLK] at hv
   subst hv
   rfl
  ·rw[←aMq]
   refine .cons _ _ _ _ ?_ .nil
   have hl:(xs.take n).length=n:=by rw[aMd];omega
   have HF:∀g∈gs,g.length=gR:=fun g hg=>by
    obtain⟨x,_,rfl⟩:=hgS g hg
    exact hf x
   have key:=hO.tree.grow (L:=[Qc.row KK gR false])
   have key:=key.take (n*gR)
   rw[JE n HF,MY,←List.map_take] at key
   have:=VR.tree (V:=bare (· < (H++L1++[Qc.row KK gR false]).length) (H++L1++[Qc.row KK gR false])) ((xs.take n).map f) .op (H++L1).length 0 c KK gR false (by show (H++L1).length<_;simp) (by show (H++L1++[Qc.row KK gR false])[(H++L1).length]? = _;rw[aKW (aKE _),Nat.sub_self];rfl)
    (by rw[aMl,hl,Qa];simp only[aMc];exact aK5 _ hnc) (by rw[aMl,hl];exact hnc) (fun y hy=>by
     obtain⟨x,_,rfl⟩:=aMf.1 hy
     exact hf x) trivial (by rw[aMl,hl,aLQ,List.flatMap_map,List.flatMap_def];exact key)
   rw[aMl,hl] at this
   exact this
theorem Wb {T:Type} {Aj:TypeId×Value→T} {P:Program} {W:World} {t t0 t1 t2:TypeId} {fs:Array Field} {S0 S1 S2:List VV→Prop} (ht:P.underlying t=some (.struct fs)) (hc:P.cellsOf t=3)
  (h0:∃f,fs[0]? = some f∧f.type=t0∧f.offset=0) (h1:∃f,fs[1]? = some f∧f.type=t1∧f.offset=1) (h2:∃f,fs[2]? = some f∧f.type=t2∧f.offset=2) (hs:fs.size=3) (c0:P.cellsOf t0=1) (c1:P.cellsOf t1=1) (c2:P.cellsOf t2=1)
  (o0:FK Aj P W t0 1 S0) (o1:FK Aj P W t1 1 S1) (o2:FK Aj P W t2 1 S2):FK Aj P W t 3 fun vs=>∃a b c,S0 a∧S1 b∧S2 c∧vs=a++(b++c):=by
 intro fuel cs y h m H hI
 obtain⟨xs,n,_,_,hl,hlen,hf⟩:=DataW.trod_struct ht h
 rw[hc] at hl
 obtain⟨f0,g0,rfl,z0⟩:=h0
 obtain⟨f1,g1,rfl,z1⟩:=h1
 obtain⟨f2,g2,rfl,z2⟩:=h2
 have k0:=hf 0 f0 g0
 have k1:=hf 1 f1 g1
 have k2:=hf 2 f2 g2
 rw[z0,c0,aKL (by omega)] at k0
 rw[z1,c1,aKL (by omega)] at k1
 rw[z2,c2,aKL (by omega)] at k2
 match cs,hl with
 |
  [u,v,w],_ =>
  obtain⟨_,m1,L1,p1,v1,q1,s1⟩:=o0 _ _ _ k0 m H hI
  obtain⟨_,m2,L2,p2,v2,q2,s2⟩:=o1 _ _ _ k1 m1 (H++L1) q1.inn
  obtain⟨_,m3,L3,p3,v3,q3,s3⟩:=o2 _ _ _ k2 m2 (H++L1++L2) q2.inn
  exact⟨rfl,m3,L1++(L2++L3),p1++(p2++p3),v1++(v2++v3),q1.both (q2.both q3),v1,v2,v3,s1,s2,s3,rfl⟩
end Go.PM