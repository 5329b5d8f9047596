/- Texts of a claim, in one: part 5. -/
import Derived.Test.YtjmflicajplclaaGreatDoorKCd
open And renaming intro → aMd
open Bool renaming and_eq_true → aK5,and_self → aLV,false_eq_true → aK9
open Int renaming toNat_natCast → aLT
open List renaming all_cons → aLp,all_eq_true → aKL,all_nil → aLR,append_assoc → aMj,append_nil → aLF,cons_append → aLX,drop_succ_cons → aMi,drop_zero → aLJ,eq_of_mem_replicate → aLI,exists_cons_of_ne_nil → aL2,flatten_cons → aMk,getD_cons_succ → aMg,getD_cons_zero → aMf,getD_eq_getElem?_getD → aKu,getElem?_append_left → aKO,getElem?_append_right → aKP,getElem?_cons_succ → aMh,getElem?_cons_zero → aKR,getElem?_eq_getElem → aKE,getElem?_eq_some_iff → aKw,getElem?_take → aLQ,getLast?_cons_cons → aL3,length_append → aKI,length_cons → aKH,length_map → aMe,length_nil → aMa,length_take → aL6,mapM_cons → aLU,map_cons → aL9,mem_cons → aLL,mem_cons_of_mem → aK6,mem_cons_self → aK7,mem_map → aL8,mem_of_getElem? → aLr,mem_of_mem_take → aLu,mem_singleton → aLD,nil_append → aLP,replicate → aLn,replicate_succ → aLH,set_append_right → aMc,set_cons_zero → aMb,take_append → aL7,take_of_length_le → aLq,take_succ_cons → aLk
open Nat renaming div_eq_of_lt → aL4,div_lt_self → aLW,le_refl → aKx,le_trans → aKy,lt_of_lt_of_le → aKz,lt_or_ge → aKA,min_eq_left → aLy,mod_eq_of_lt → aL1,mul_comm → aLZ,mul_le_mul_right → aKY,not_lt_zero → aLO,pow_succ → aLY,strongRecOn → aL0,succ_mul → aLm,zero_add → aL5,zero_le → aK1
open Option renaming isSome_none → aLc,map_some → aLS
set_option linter.unusedSimpArgs false
set_option linter.unusedVariables false
namespace Go.PM
def VT (f:Nat) (args:List VV) (r:VV):Prop :=
 ∀(F:Nat→Prop) (P:aI) (fC:List Value) (fA:Nat),(∀b,F b→b<P.length)→VL (bare F P) args fC→fA≤P.length →
  ∃P' pv,uN f fC fA P=some (pv,P')∧P <+: P'∧VR (bare (fun q=>F q∨(P.length≤q∧q<P'.length)) P') r pv
def SA (lo fA:Nat) (V:View) (r:Option (Value×aI)) (K:VV→aA→Prop):Prop :=
 ∃pv V' v,r=some (pv,V'.P)∧SR V' lo fA∧Hp lo V V'∧VR V' v pv∧K v V'.H
def jE (f:Nat) (args:List VV) (lo:Nat) (H:aA) (K:VV→aA→Prop):Prop :=
 ∀(V:View) (fA:Nat) (fC:List Value),V.H=H→SR V lo fA→VL V args fC→SA lo fA V (uN f fC fA V.P) K
theorem jE.mono {f:Nat} {args:List VV} {lo:Nat} {H:aA} {K K':VV→aA→Prop} (hk:∀v H,K v H→K' v H) (h:jE f args lo H K):jE f args lo H K':=by
 intro V fA fC hH hS hl
 obtain⟨pv,V',v,h1,h2,h3,h4,h5⟩:=h V fA fC hH hS hl
 exact⟨pv,V',v,h1,h2,h3,h4,hk _ _ h5⟩
theorem VT.uniq {f:Nat} {args:List VV} {r r':VV} (h:VT f args r) (h':VT f args r') (ha:aO args=true) (hr:gZ r=true) (Jc:gZ r'=true):r=r':=by
 obtain⟨P,ps,_,hl⟩:=R1 args ha []
 obtain⟨P',pv,h1,_,h2⟩:=h (· < P.length) P ps 0 (fun _ h=>h) hl (aK1 _)
 obtain⟨P'',pv',h3,_,h4⟩:=h' (· < P.length) P ps 0 (fun _ h=>h) hl (aK1 _)
 rw[h1] at h3
 injection h3 with h3
 injection h3 with h3 h5
 subst h3 h5
 exact h2.uniq h4 hr Jc
open Classical in
noncomputable def vT (f:Nat) (args:List VV):Option VV:=if h:∃r,aO args=true∧gZ r=true∧VT f args r then some (Classical.choose h) else none
theorem SC {f:Nat} {args:List VV} {r:VV} (h:vT f args=some r):aO args=true∧gZ r=true∧VT f args r:=by
 unfold vT at h
 split at h
 ·rename_i hx
  cases h
  exact Classical.choose_spec hx
 ·cases h
theorem auY {f:Nat} {args:List VV} {r:VV} (ha:aO args=true) (hr:gZ r=true) (h:VT f args r):vT f args=some r:=by
 have hx:∃r,aO args=true∧gZ r=true∧VT f args r:=⟨r,ha,hr,h⟩
 unfold vT
 rw[dif_pos hx]
 obtain⟨_,h2,h3⟩:=Classical.choose_spec hx
 rw[h3.uniq h ha h2 hr]
def tk (r:Option VV) (K:VV→Prop):Prop:=match r with
 | some r=>K r
 | none=>False
noncomputable def Jo (f:Nat) (args:List VV) (K:VV→Prop):Prop:=tk (vT f args) K
noncomputable def dH (f:Nat) (args:List VV) (lo:Nat) (H:aA) (K:VV→aA→Prop):Prop :=
 if Fv.contains f=true then jE f args lo H K
 else if aO args=true then Jo f args fun r=>K r H
 else match args.mapM (fz depth H) with
  | some mB=>Jo f mB fun r=>if Ja r=true then K r H else K r (dA H (args.flatMap (iT depth H)))
  | none=>False
noncomputable def fB (fl:Fl) (lo:Nat) (q:Bool) (op:qE) (ρ:cV) (H:aA) (K:VV→aA→Prop):Prop :=
 match op with
 | .call f args=>dH f (args.map (fG ρ)) (if q then H.length else lo) H K
 |
  .callv fv args=>match fG ρ fv with
  | .xT f gD=>dH f (args.map (fG ρ)++gD) (if q then H.length else lo) H K
  | _=>False
 |
  o=>match vop fl lo o ρ H with
  | some (v,H')=>K v H'
  | none=>False
noncomputable def VS (fl:Fl) (lo:Nat):List PI→(cV→aA→Prop)→cV→aA→Prop
 | [],K,ρ,H=>K ρ H
 |
  i::is,K,ρ,H=>match D6 i.g ρ with
  | none=>False
  | some false=>VS fl lo is K (MX ρ i.dst tE) H
  | some true=>i.cf.all (gP ρ H)=true∧fB fl lo i.quiet i.op ρ H fun v H'=>VS fl lo is K (MX ρ i.dst v) H'
def arD:List Nat→cV→aA→Option (cV×aA)
 | [],ρ,H=>some (ρ,H)
 |
  t::ts,ρ,H=>match fz depth H (ρ t) with
  | some v=>arD ts (MX ρ (some t) v) (dA H (iT depth H (ρ t)))
  | none=>none
def Nx (r:Option VV) (H:aA) (K:VV→aA→Prop):Prop:=match r with
 | some v=>K v H
 | none=>False
def gh (K:cV→aA→Prop) (ρ:cV) (H:aA):Prop:=∃ts aQ H',arD ts ρ H=some (aQ,H')∧K aQ H'
def oC (k:Nat) (H:aA):Bool:=H.all fun
 | .row _ es _ _=>nQ k es
 | .dead=>true
def rQ (k:Nat) (ρ:cV):cV:=fun t=>ME k (ρ t)
abbrev VQ:=Ex→cV→aA→Prop
def pP (K:cV→aA→Prop) (Q:VQ):VQ
 | .normal=>K
 | x=>Q x
def tI (id:Nat) (Q:VQ):VQ
 | .exit Vq=>fun ρ H=>if Vq=id then Q .normal ρ H else Q (.exit Vq) ρ H
 | x=>Q x
def WD (body:VQ→cV→aA→Prop) (Q:VQ):Nat→cV→aA→Prop
 | 0,_,_=>False
 | n+1,ρ,H=>body (pP (fun aQ H'=>WD body Q n aQ H'∨(oC H.length (H'.take H.length)=true∧WD body Q n (rQ H.length aQ) (H'.take H.length))) Q) ρ H
noncomputable def VW (fl:Fl) (lo:Nat):aE→VQ→cV→aA→Prop
 | .skip,Q,ρ,H=>Q .normal ρ H
 | .cT ops,Q,ρ,H=>VS fl lo ops (Q .normal) ρ H
 | .seq a b,Q,ρ,H=>VW fl lo a (pP (VW fl lo b Q) Q) ρ H
 |
  .cond c a b,Q,ρ,H=>match fG ρ c with
  | .sc (.bool t)=>if t=true then VW fl lo a Q ρ H else VW fl lo b Q ρ H
  | _=>False
 | .block id a,Q,ρ,H=>VW fl lo a (tI id Q) ρ H
 | .loop a,Q,ρ,H=>∃n,WD (VW fl lo a) (fun x=>gh (Q x)) n ρ H
 | .exit id,Q,ρ,H=>Q (.exit id) ρ H
 | .ret,Q,ρ,H=>Q .ret ρ H
def FV (ρ:cV) (H:aA):Di→Option VV
 | .tmp t=>some (ρ t)
 | .cell t agg size=>bF agg size (ρ t) H
def sH (ρ:cV) (H:aA):List Di→Option (List VV)
 | []=>some []
 |
  r::rs=>match FV ρ H r,sH ρ H rs with
  | some v,some vs=>some (v::vs)
  | _,_=>none
def pA (res:List Di) (ρ:cV) (H:aA):Option VV :=
 match sH ρ H res with
 | some [v]=>some v
 | some vs=>some (.eG vs)
 | none=>none
def JJ (R:VV→aA→Prop):Option VV→aA→Prop
 | some v,H=>R v H
 | none,_=>False
def CW (res:List Di) (R:VV→aA→Prop):VQ
 | .exit _,_,_=>False
 | .normal,ρ,H=>JJ R (pA res ρ H) H
 | .ret,ρ,H=>JJ R (pA res ρ H) H
def LU (args:List VV):cV:=fun k=>args.getD k tE
section
variable {lo fA:Nat}
theorem IF {V:View} (hS:SR V lo fA) {P':aI} (hp:V.P <+: P'):SR { V with P:=P',F:=fun q=>V.F q∨(V.P.length≤q∧q<P'.length) } lo fA∧Hp lo V { V with P:=P',F:=fun q=>V.F q∨(V.P.length≤q∧q<P'.length) }:=by
 obtain⟨L,rfl⟩:=hp
 have hU:Up V { V with P:=V.P++L,F:=fun q=>V.F q∨(V.P.length≤q∧q<(V.P++L).length) }:=⟨fun _ h => .inl h,fun b hb=>aKO (hS.fr b hb),aKx _,fun b g es e w _ h=>⟨g,es,w,h,aKx _,fun _=>rfl⟩,rfl,by simp,fun b g es e w hb _=>⟨g,es,w,hb,rfl,id⟩⟩
 refine⟨⟨fun b g es e w hb => ?_,fun b g es e hb=>⟨fun hF => ?_,(hS.wr b g es e hb).2⟩,hS.inj,fun b hb => ?_,by have:=hS.W3;simp;omega,by have:=hS.NC;simp;omega⟩,{ hU with dC:=fun q hq _=>aKO hq,E5:=fun q hq => ?_ }⟩
 ·obtain⟨r,p,h1,h2,h3⟩:=hS.row b g es e w hb
  exact⟨r,p,by rw[←h1];exact aKO (hS.mlt hb),h2,h3.mono hU⟩
 ·rcases hF with hF | hF
  ·exact(hS.wr b g es e hb).1 hF
  ·have h1:=hS.mlt hb
   have h2:V.P.length≤V.m b:=hF.1
   omega
 ·rcases hb with hb | hb
  ·have:=hS.fr b hb
   simp;omega
  ·exact hb.2
 ·rcases hq with hq | hq
  ·exact .inl hq
  ·exact .inr (.inl hq.1)
theorem amW {V V':View} {x:VV} {v:Value} (h:VR V x v):Ja x=true→VR V' x v:=by
 induction h using VR.rec (motive_2:=fun xs vs _=>Vs xs=true→VL V' xs vs) with
 | sc _ h=>intro _;exact .sc _ h
 | agg cs ps _ ih=>intro hx;exact .agg _ _ (ih hx)
 | eG cs ps _ ih=>intro hx;exact .eG _ _ (ih hx)
 | any=>intro hx;cases hx
 | pM=>intro hx;cases hx
 | tree=>intro hx;cases hx
 | cI=>intro hx;cases hx
 | ref=>intro hx;cases hx
 | ptr=>intro hx;cases hx
 | xT=>intro hx;cases hx
 | nil=>exact .nil
 |
  cons x v xs vs _ _ ih Xb =>
  rename_i hx
  simp only[Vs,aK5] at hx
  exact .cons _ _ _ _ (ih hx.1) (Xb hx.2)
theorem VR.FN {V':View} {G:Nat→Prop} {P:aI} {x:VV} {v:Value} (hF:∀b,G b→V'.F b∧V'.P[b]? = P[b]?) (h:VR (bare G P) x v):VR V' x v:=by
 induction h using VR.rec (motive_2:=fun xs vs _=>VL V' xs vs) with
 | any=>exact .any _
 | sc _ h=>exact .sc _ h
 | agg cs ps _ ih=>exact .agg _ _ ih
 | eG cs ps _ ih=>exact .eG _ _ ih
 | pM k hk=>exact .pM k hk
 | tree es k b o c r e p Yc hb ho hc he hk _ ih=>exact .tree es k b o c r e p (hF _ Yc).1 (by rw[(hF _ Yc).2];exact hb) ho hc he hk ih
 | cI x off b o r e p Yc hb ho _ ih=>exact .cI x off b o r e p (hF _ Yc).1 (by rw[(hF _ Yc).2];exact hb) ho ih
 | ref b g o n c a n' c' bH hg ha hq=>exact absurd bH (aLO _)
 | ptr b g j off a bH hg ha hq=>exact absurd bH (aLO _)
 | xT f gD ps _ ih=>exact .xT _ _ _ ih
 | nil=>exact .nil
 | cons x v xs vs _ _ ih Xb=>exact .cons _ _ _ _ ih Xb
theorem Vo {V:View} (hS:SR V lo fA) {f asO:Nat} (aqN:asO≤V.P.length) {args:List VV} {fC:List Value} {G:Nat→Prop} (hG:∀b,G b→b<V.P.length) (hl:VL (bare G V.P) args fC) {K:VV→Prop} (h:Jo f args K) :
  ∃P' pv r,uN f fC asO V.P=some (pv,P')∧V.P <+: P'∧VR (bare (fun q=>G q∨(V.P.length≤q∧q<P'.length)) P') r pv∧aY r=true∧K r:=by
 unfold Jo tk at h
 split at h
 ·rename_i r hr
  obtain⟨h1,h2,h3⟩:=SC hr
  obtain⟨P',pv,h4,h5,h6⟩:=h3 G V.P fC asO hG hl aqN
  exact⟨P',pv,r,h4,h5,h6,VE r h2,h⟩
 ·cases h
theorem Kb {V:View} (hS:SR V lo fA) {f:Nat} {args:List VV} {fC:List Value} (hl:VL V args fC) {q:Bool} {K:VV→aA→Prop} (h:dH f args (if q then V.H.length else lo) V.H K):SA lo fA V (uN f fC (if q then V.P.length else fA) V.P) K:=by
 have hlq:(if q=true then V.P.length else fA)≤V.P.length:=by split;exact aKx _;exact hS.W3
 unfold dH at h
 split at h
 ·cases q with
  | false=>exact h V fA fC rfl hS hl
  |
   true =>
   have hS':SR V V.H.length V.P.length:=⟨hS.row,fun b g es e hb=>⟨(hS.wr b g es e hb).1,fun hl=>by have:=(aKw.1 hb).1;omega⟩,hS.inj,hS.fr,aKx _,hS.NC⟩
   obtain⟨pv,V',r,g1,g3,g4,g5,g6⟩:=h V V.P.length fC rfl hS' hl
   refine⟨pv,V',r,g1,⟨g3.row,fun b g es e hb=>⟨(g3.wr b g es e hb).1,fun Hy => ?_⟩,g3.inj,g3.fr,aKy hS.W3 g4.Hm,g3.NC⟩,{ g4.toUp with dC:=fun p hp _=>g4.dC p hp fun b g es e hb Hy => ?_,E5:=g4.E5 },g5,g6⟩
   ·rcases aKA (V'.m b) V.P.length with bH | Hj
    ·obtain⟨g0,es0,w0,k1,k2,k3⟩:=g4.Ec b g es e true hb bH
     have:=k3 rfl
     subst this
     rw[k2]
     exact(hS.wr _ _ _ _ k1).2 Hy
    ·exact aKy hS.W3 Hj
   ·have:=(aKw.1 hb).1
    have Hy:V.H.length≤b:=Hy
    omega
 ·split at h
  ·rename_i hp
   obtain⟨P',pv,r,g1,g2,g3,g4,g5⟩:=Vo hS (asO:=if q=true then V.P.length else fA) hlq (G:=V.F) hS.fr (VL.pure (V:=V) (V':=bare V.F V.P) (fun b hb=>⟨hb,rfl⟩) hl hp) h
   obtain⟨k1,k2⟩:=IF hS g2
   exact⟨pv,_,r,g1,k1,k2,g3.FN (fun b hb=>⟨hb,rfl⟩),g5⟩
  ·split at h
   case h_2=>cases h
   rename_i mB hfz
   unfold Jo tk at h
   split at h
   case h_2=>cases h
   rename_i r hr
   obtain⟨h1,h2,h3⟩:=SC hr
   split at h
   ·rename_i hfl
    have Ge:=GM hS (G:=(· < V.P.length)) (fun q hq=>hS.fr q hq) hl hfz (fun i _ g es e w hb=>hS.mlt hb)
    obtain⟨P',pv,g1,g2,g3⟩:=h3 _ V.P fC _ (fun _ h=>h) Ge hlq
    obtain⟨k1,k2⟩:=IF hS g2
    exact⟨pv,_,r,g1,k1,k2,amW g3 hfl,h⟩
   ·obtain⟨k1,k2,k3,k4,k5,k6⟩:=Ah (args.flatMap (iT depth V.H)) hS
    have Ge:=GM hS (G:=(V.dA (args.flatMap (iT depth V.H))).F) (fun q hq=>k2.F q hq) hl hfz k6
    rw[←k4] at Ge
    obtain⟨P',pv,g1,g2,g3⟩:=h3 _ _ fC _ k1.fr Ge (by rw[k4];exact hlq)
    obtain⟨j1,j2⟩:=IF k1 g2
    rw[k4] at g1
    refine⟨pv,_,r,g1,j1,k2.trans j2,g3.FN (fun b hb=>⟨hb,rfl⟩),?_⟩
    show K r (V.dA (args.flatMap (iT depth V.H))).H
    rw[k3]
    exact h
def CL (lo fA:Nat) (V:View) (c:aE) (Q:VQ) (mO:Env):Prop :=
 W fA c (fun x Qb P'=>∃V' aQ,V'.P=P'∧SR V' lo fA∧Hp lo V V'∧ER V' aQ Qb∧Q x aQ V'.H) mO V.P
theorem Jk {V:View} {ρ:cV} {mO:Env} (hE:ER V ρ mO) {g:Option (Nat×Bool)} {t:Bool} (h:D6 g ρ=some t):B8 g mO=some t:=by
 unfold D6 at h
 unfold B8
 split at h
 ·exact h
 ·rename_i t' want
  have ht:=hE t'
  split at h
  ·rename_i b hb
   obtain⟨e,_⟩:=uL ht hb
   simp only[e]
   exact h
  ·rename_i vs hb
   rw[hb] at ht
   generalize hu:mO t'=u at ht
   cases ht with
   | eG cs ps hl=>simp only[hu];exact h
  ·cases h
theorem Yz {V:View} (hS:SR V lo fA) {x y:VV} {u w:Value} (hx:VR V x u) (hy:VR V y w) (h:lO V.H x y=true):aA5 u w=true:=by
 have key:∀ {z:VV} {v:Value},VR V z v→(match pN V.H z with
   | .bad=>True
   | .no=>kP v=none
   | .row i wr=>kP v=some (V.m i)∧∃g es e,V.H[i]? = some (.row g es e wr)
   | .Ec i=>∀q,kP v=some q→∀b' g' es e w,V.H[b']? = some (.row g' es e w)→b'≠i→V.m b'≠q
   | .tree=>∀b,kP v=some b→V.F b):=by
  intro z v hz
  cases hz with
  | any=>simp only[pN]
  | sc v h =>
      cases v<;>first | rfl | cases h | skip
      rename_i a;cases a<;>first | rfl | cases h
  | agg=>rfl
  | eG=>rfl
  | pM k hk =>
       rcases hk with rfl | rfl
       ·intro b hb;cases hb
       ·rfl
  |
   tree es k b o c r e p hF hb ho hc he hk hl =>
   cases es with
   |
    nil=>cases k with
    | nil=>exact hk.elim
    | op=>intro b' xF;cases xF;exact hF
    | cl=>intro b' xF;cases xF;exact hF
   | cons=>intro b' xF;cases xF;exact hF
  | cI x off b o r e p hF hb ho hl=>intro b' xF;cases xF;exact hF
  |
   ref b g o n c a n' c' bH hg ha hq =>
   simp only[pN]
   cases hr:aG V.H b g with
   | none=>exact fun q h=>(by
     cases a with
     | none=>cases h
     | some a0=>cases h;exact(hq a0 rfl).2.2)
   |
    some q =>
    obtain⟨es,e,wr⟩:=q
    rw[cB] at hr
    obtain⟨rfl,rfl,rfl⟩:=ha _ _ _ hr
    exact⟨rfl,g,es,e,hr⟩
  |
   ptr b g j off a bH hg ha hq =>
   simp only[pN]
   cases hr:aG V.H b g with
   | none=>exact fun q h=>(by
     cases a with
     | none=>cases h
     | some a0=>cases h;exact(hq a0 rfl).2.2)
   |
    some q =>
    obtain⟨es,e,wr⟩:=q
    rw[cB] at hr
    have:=ha _ _ _ hr
    subst this
    exact⟨rfl,g,es,e,hr⟩
  | xT=>rfl
 have kx:=key hx
 have ky:=key hy
 unfold lO at h
 unfold aA5
 cases hbx:pN V.H x with
 | bad=>rw[hbx] at h;have h:false=true:=h;cases h
 |
  no =>
  rw[hbx] at kx
  have kx:kP u=none:=kx
  rw[kx]
 |
  Ec i =>
  rw[hbx] at kx h
  have kx:∀q,kP u=some q→∀b' g' es e w,V.H[b']? = some (.row g' es e w)→b'≠i→V.m b'≠q:=kx
  cases WU:pN V.H y with
  | bad=>rw[WU] at h;have h:false=true:=h;cases h
  |
   no =>
   rw[WU] at ky
   have ky:kP w=none:=ky
   rw[ky]
   cases kP u<;>rfl
  | Ec j=>rw[WU] at h;have h:false=true:=h;cases h
  | tree=>rw[WU] at h;have h:false=true:=h;cases h
  |
   row j wj =>
   rw[WU] at ky h
   obtain⟨k3,g2,SN,e2,k4⟩:kP w=some (V.m j)∧∃g es e,V.H[j]? = some (.row g es e wj):=ky
   have h:(i != j)=true:=h
   simp only[bne_iff_ne,ne_eq] at h
   rw[k3]
   cases hu:kP u with
   | none=>rfl
   |
    some q =>
    simp only[bne_iff_ne,ne_eq]
    exact fun hm=>kx q hu j _ _ _ _ k4 (Ne.symm h) hm.symm
 |
  row i wi =>
  rw[hbx] at kx h
  obtain⟨k1,g1,EL,e1,k2⟩:kP u=some (V.m i)∧∃g es e,V.H[i]? = some (.row g es e wi):=kx
  cases WU:pN V.H y with
  | bad=>rw[WU] at h;have h:false=true:=h;cases h
  |
   no =>
   rw[WU] at ky
   have ky:kP w=none:=ky
   rw[ky]
   cases kP u<;>rfl
  |
   Ec j =>
   rw[WU] at ky h
   have ky:∀q,kP w=some q→∀b' g' es e w,V.H[b']? = some (.row g' es e w)→b'≠j→V.m b'≠q:=ky
   have h:(i != j)=true:=h
   simp only[bne_iff_ne,ne_eq] at h
   rw[k1]
   cases hw:kP w with
   | none=>rfl
   |
    some q =>
    simp only[bne_iff_ne,ne_eq]
    exact fun hm=>ky q hw i _ _ _ _ k2 h hm
  |
   row j wj =>
   rw[WU] at ky h
   obtain⟨k3,g2,SN,e2,k4⟩:kP w=some (V.m j)∧∃g es e,V.H[j]? = some (.row g es e wj):=ky
   rw[k1,k3]
   have h:(i != j)=true:=h
   simp only[bne_iff_ne,ne_eq] at h ⊢
   exact fun hm=>h (hS.inj _ _ _ _ _ _ _ _ _ _ k2 k4 hm)
  |
   tree =>
   rw[WU] at ky h
   have ky:∀b,kP w=some b→V.F b:=ky
   have h:wi=true:=h
   subst h
   cases hw:kP w with
   | none=>rw[k1]
   |
    some b =>
    rw[k1]
    simp only[bne_iff_ne,ne_eq]
    exact fun hm=>(hS.wr _ _ _ _ k2).1 (by rw[hm];exact ky b hw)
 |
  tree =>
  rw[hbx] at kx h
  have kx:∀b,kP u=some b→V.F b:=kx
  cases WU:pN V.H y with
  | bad=>rw[WU] at h;have h:false=true:=h;cases h
  |
   no =>
   rw[WU] at ky
   have ky:kP w=none:=ky
   rw[ky]
   cases kP u<;>rfl
  | tree=>rw[WU] at h;have h:false=true:=h;cases h
  | Ec j=>rw[WU] at h;have h:false=true:=h;cases h
  |
   row j wj =>
   rw[WU] at ky h
   obtain⟨k1,g1,EL,e1,k2⟩:kP w=some (V.m j)∧∃g es e,V.H[j]? = some (.row g es e wj):=ky
   have h:wj=true:=h
   subst h
   cases hw:kP u with
   | none=>rfl
   |
    some b =>
    rw[k1]
    simp only[bne_iff_ne,ne_eq]
    exact fun hm=>(hS.wr _ _ _ _ k2).1 (by rw[←hm];exact kx b hw)
theorem UZ {V:View} (hS:SR V lo fA) {ρ:cV} {mO:Env} (hE:ER V ρ mO) {fl:Fl} {q:Bool} {op:qE} {K:VV→aA→Prop} (h:fB fl lo q op ρ V.H K):SA lo fA V (lI fA q op mO V.P) K:=by
 have other:∀ {v H'},vop fl lo op ρ V.H=some (v,H')→K v H'→SA lo fA V (lI fA q op mO V.P) K:=by
  intro v H' h1 h2
  obtain⟨pv,V',g1,g2,g3,g4,g5⟩:=adG hS hE (q:=q) h1
  exact⟨pv,V',v,g1,g3,g4,g5,by rw[g2];exact h2⟩
 unfold fB at h
 split at h
 ·rw[acG]
  exact Kb hS (hE.evs _) h
 ·rename_i fv args
  rw[XX]
  have hf:=hE.ev fv
  split at h
  ·rename_i f gD hfv
   rw[hfv] at hf
   generalize ev mO fv=u at hf ⊢
   cases hf with
   |
    xT f gD ps hl =>
    unfold amJ
    simp only[aLP]
    exact Kb hS ((hE.evs args).append hl) h
  ·cases h
 ·split at h
  ·rename_i v H' h1
   exact other h1 h
  ·cases h
theorem N4 {fl:Fl} {K:cV→aA→Prop}:∀(is:List PI) {V:View} {ρ:cV} {mO:Env},SR V lo fA→ER V ρ mO→VS fl lo is K ρ V.H →
  WS fA is (fun Qb P'=>∃V' aQ,V'.P=P'∧SR V' lo fA∧Hp lo V V'∧ER V' aQ Qb∧K aQ V'.H) mO V.P
 |
  [],V,ρ,mO,hS,hE,h=>by
  rw[ayF]
  exact⟨V,ρ,rfl,hS,Hp.refl _ _,hE,h⟩
 |
  i::is,V,ρ,mO,hS,hE,h=>by
  unfold VS at h
  rw[aA2]
  unfold BW
  split at h
  ·cases h
  ·rename_i hw
   rw[Jk hE hw]
   exact⟨_,_,rfl,N4 is hS (hE.put (.eG [] [] .nil)) h⟩
  ·rename_i hw
   rw[Jk hE hw]
   obtain⟨TV,h⟩:=h
   have aD2:i.cf.all (DG mO)=true:=by
    rw[aKL] at TV ⊢
    intro c hc
    exact Yz hS (hE.ev c.1) (hE.ev c.2) (TV c hc)
   simp only[aD2,if_true]
   obtain⟨pv,V',v,g1,g2,g3,g4,g5⟩:=UZ hS hE h
   refine⟨pv,V'.P,?_,?_⟩
   ·unfold lI at g1
    exact g1
   ·obtain⟨abC,P'',k1,UY,BZ,k2,k3,k4,k5,k6⟩:=N4 is g2 ((hE.mono g3.toUp).put g4) g5
    exact⟨abC,P'',k1,UY,BZ,k2,k3,g3.trans k4,k5,k6⟩
theorem Pr:∀(ts:List Nat) {V:View} {ρ aQ:cV} {mO:Env} {H':aA},SR V lo fA→ER V ρ mO→arD ts ρ V.H=some (aQ,H')→∃V',V'.P=V.P∧V'.H=H'∧SR V' lo fA∧Hp lo V V'∧ER V' aQ mO
 |
  [],V,ρ,aQ,mO,H',hS,hE,h=>by
  cases h
  exact⟨V,rfl,rfl,hS,Hp.refl _ _,hE⟩
 |
  t::ts,V,ρ,aQ,mO,H',hS,hE,h=>by
  unfold arD at h
  split at h
  case h_2=>cases h
  rename_i v hv
  obtain⟨k1,k2,k3,k4,k5,k6⟩:=Ah (iT depth V.H (ρ t)) hS
  have hx:=PV hS (G:=(V.dA (iT depth V.H (ρ t))).F) (fun q hq=>k2.F q hq) depth (ρ t) v (mO t) (hE t) hv k6
  have JK:VR (V.dA (iT depth V.H (ρ t))) v (mO t):=hx.FN (fun b hb=>⟨hb,by rw[k4]⟩)
  rw[←k3] at h
  obtain⟨V',g1,g2,g3,g4,g5⟩:=Pr ts (mO:=mO) k1 (by
   have e:=(hE.mono k2.toUp).put (d:=some t) JK
   have ee:put mO (some t) (mO t)=mO:=by
    funext k
    simp only[put]
    split
    ·rename_i hk;rw[hk]
    ·rfl
   rw[ee] at e
   exact e) h
  exact⟨V',g1.trans k4,g2,g3,k2.trans g4,g5⟩
theorem WQ {V:View} (hS:SR V lo fA) {ρ:cV} {mO:Env} (hE:ER V ρ mO) {K:cV→aA→Prop} (h:gh K ρ V.H):∃V' aQ,V'.P=V.P∧SR V' lo fA∧Hp lo V V'∧ER V' aQ mO∧K aQ V'.H:=by
 obtain⟨ts,aQ,H',h1,h2⟩:=h
 obtain⟨V',g1,g2,g3,g4,g5⟩:=Pr ts hS hE h1
 exact⟨V',aQ,g1,g3,g4,g5,by rw[g2];exact h2⟩
theorem Pw {k:Nat} {es:List VV}:nQ k es=true↔∀x∈es,below k x=true:=by
 induction es with
 | nil=>simp[nQ]
 | cons x xs ih=>simp[nQ,ih]
theorem FK {k:Nat} {es:List VV} (h:nQ k es=true):nQ k (es.flatMap aB)=true:=by
 rw[Pw] at h ⊢
 intro x hx
 obtain⟨y,hy,CR⟩:=List.mem_flatMap.1 hx
 have:=h y hy
 unfold aB at CR
 split at CR
 ·exact Pw.1 (by simpa[below] using this) x CR
 ·rw[aLD] at CR;subst CR;exact this
theorem WX {k:Nat} {x:VV} (h:below k x=true):nQ k (aB x)=true:=by
 have:=FK (k:=k) (es:=[x]) (by simp[nQ,h])
 simpa using this
def View.Cc (V:View) (k:Nat):View:={ V with H:=V.H.take k }
theorem VR.Cc {V:View} {k:Nat} (hk:k≤V.H.length) {x:VV} {v:Value} (h:VR V x v):PM.below k x=true→VR (V.Cc k) x v:=by
 have he:∀ {b:Nat},b<k→∀y,(V.Cc k).H[b]? = some y→V.H[b]? = some y:=fun Zu y hy=>by
  have:(V.H.take k)[_]? = some y:=hy
  rw[aLQ,if_pos Zu] at this
  exact this
 have hT:∀ {b:Nat} {y:fN},(V.Cc k).H[b]? = some y→V.H[b]? = some y:=fun {b y} hy=>by
  have h:(V.H.take k)[b]? = some y:=hy
  rw[aLQ] at h
  split at h
  ·exact h
  ·cases h
 induction h using VR.rec (motive_2:=fun xs vs _=>nQ k xs=true→VL (V.Cc k) xs vs) with
 | any=>intro _;exact .any _
 | sc _ h=>intro _;exact .sc _ h
 | agg cs ps _ ih=>intro hb;exact .agg _ _ (ih hb)
 | eG cs ps _ ih=>intro hb;exact .eG _ _ (ih hb)
 | pM k hk=>intro _;exact .pM k hk
 | tree es k b o c r e p Yc zB ho hc he hk' _ ih=>intro hb;exact .tree es k b o c r e p Yc zB ho hc he hk' (ih (FK hb))
 | cI x off b o r e p Yc zB ho _ ih=>intro hb;exact .cI x off b o r e p Yc zB ho (ih (WX hb))
 |
  ref b g o n c a n' c' bH hg ha hq =>
  intro hb
  have Zu:b<k:=by simpa[PM.below] using hb
  exact .ref b g o n c a n' c' (by show b<(V.H.take k).length;simp;omega) (fun g' es e w hr=>hg _ _ _ _ (he Zu _ hr)) (fun es e w hr=>ha _ _ _ (he Zu _ hr)) fun a0 h=>⟨(hq a0 h).1,(hq a0 h).2.1,fun b' g' es e w hr=>(hq a0 h).2.2 b' g' es e w (hT hr)⟩
 |
  ptr b g j off a bH hg ha hq =>
  intro hb
  have Zu:b<k:=by simpa[PM.below] using hb
  exact .ptr b g j off a (by show b<(V.H.take k).length;simp;omega) (fun g' es e w hr=>hg _ _ _ _ (he Zu _ hr)) (fun es e w hr=>ha _ _ _ (he Zu _ hr)) fun a0 h=>⟨(hq a0 h).1,(hq a0 h).2.1,fun b' g' es e w hr=>(hq a0 h).2.2 b' g' es e w (hT hr)⟩
 | xT f gD ps _ ih=>intro hb;exact .xT _ _ _ (ih hb)
 | nil=>exact .nil
 |
  cons x v xs vs _ _ ih Xb =>
  rename_i hb
  simp only[nQ,aK5] at hb
  exact .cons _ _ _ _ (ih hb.1) (Xb hb.2)
theorem VL.Cc {V:View} {k:Nat} (hk:k≤V.H.length) {xs:List VV} {vs:List Value} (h:VL V xs vs) (hb:nQ k xs=true):VL (V.Cc k) xs vs:=by
 induction xs generalizing vs with
 | nil=>cases h;exact .nil
 |
  cons x xs ih=>cases h with
  |
   cons _ v _ vs h hs =>
   simp only[nQ,aK5] at hb
   exact .cons _ _ _ _ (h.Cc hk hb.1) (ih hs hb.2)
theorem Ug {V V':View} (hS:SR V' lo fA) {ρ:cV} {mO:Env} (hE:ER V' ρ mO) (hx:Hp lo V V') (hr:oC V.H.length (V'.H.take V.H.length)=true) :
  SR (V'.Cc V.H.length) lo fA∧Hp lo V (V'.Cc V.H.length)∧ER (V'.Cc V.H.length) (rQ V.H.length ρ) mO:=by
 have hk:=hx.len
 have get:∀ {b:Nat} {y:fN},(V'.Cc V.H.length).H[b]? = some y→V'.H[b]? = some y:=by
  intro b y h
  have h:(V'.H.take V.H.length)[b]? = some y:=h
  rw[aLQ] at h
  split at h
  ·exact h
  ·cases h
 refine⟨⟨fun b g es e w hb => ?_,fun b g es e hb=>hS.wr b g es e (get hb),fun a b g es e w g' oQ e' w' ha hb hm=>hS.inj a b _ _ _ _ _ _ _ _ (get ha) (get hb) hm,hS.fr,hS.W3,hS.NC⟩,
  { F:=hx.F,P:=hx.P,len:=by show V.H.length≤(V'.H.take V.H.length).length;simp;omega,row:=fun b g es e w bH hb=>hx.row b g es e w bH (get hb),NC:=hx.NC,Hm:=hx.Hm,Ec:=fun b g es e w hb hm=>hx.Ec b g es e w (get hb) hm,dC:=hx.dC,E5:=hx.E5 },fun t => ?_⟩
 ·obtain⟨r,p,h1,h2,h3⟩:=hS.row b g es e w (get hb)
  refine⟨r,p,h1,h2,h3.Cc hk (FK ?_)⟩
  have:=aKL.1 hr _ (aLr (show (V'.H.take V.H.length)[b]? = some _ from hb))
  exact this
 ·unfold rQ ME
  split
  ·rename_i hb
   exact(hE t).Cc hk hb
  ·exact .any _
theorem Wd {c:aE} {Q:Ex→Env→aI→Prop} {ρ:Env} {H:aI} (h:W fA c (aAE (fun aQ H'=>W fA (.loop c) Q aQ H') Q) ρ H):W fA (.loop c) Q ρ H:=by
 obtain⟨x,aQ,H',h1,h2⟩:=h
 unfold W
 rw[adH,h1]
 cases x with
 |
  normal =>
  obtain⟨y,BZ,WB,h3,h4⟩:=h2
  exact⟨y,BZ,WB,h3,h4⟩
 | exit i=>exact⟨_,_,_,rfl,h2⟩
 | ret=>exact⟨_,_,_,rfl,h2⟩
theorem zS {fl:Fl}:∀(c:aE) {V:View} {ρ:cV} {mO:Env} {Q:VQ},SR V lo fA→ER V ρ mO→VW fl lo c Q ρ V.H→CL lo fA V c Q mO
 |
  .skip,V,ρ,mO,Q,hS,hE,h=>by
  unfold CL
  rw[azN]
  exact⟨V,ρ,rfl,hS,Hp.refl _ _,hE,h⟩
 |
  .exit id,V,ρ,mO,Q,hS,hE,h=>by
  unfold CL
  rw[ayL]
  exact⟨V,ρ,rfl,hS,Hp.refl _ _,hE,h⟩
 |
  .ret,V,ρ,mO,Q,hS,hE,h=>by
  unfold CL
  rw[aA6]
  exact⟨V,ρ,rfl,hS,Hp.refl _ _,hE,h⟩
 |
  .cT ops,V,ρ,mO,Q,hS,hE,h=>by
  unfold CL
  rw[aCj]
  exact N4 ops hS hE h
 |
  .seq a b,V,ρ,mO,Q,hS,hE,h=>by
  unfold CL
  rw[aB2]
  refine(zS a hS hE h).mono ?_
  rintro x Qb P' ⟨V',aQ,rfl,g2,g3,g4,g5⟩
  cases x with
  |
   normal =>
   refine(zS b g2 g4 g5).mono ?_
   rintro y abC P'' ⟨UY,BZ,k1,k2,k3,k4,k5⟩
   exact⟨UY,BZ,k1,k2,g3.trans k3,k4,k5⟩
  | exit i=>exact⟨V',aQ,rfl,g2,g3,g4,g5⟩
  | ret=>exact⟨V',aQ,rfl,g2,g3,g4,g5⟩
 |
  .cond c a b,V,ρ,mO,Q,hS,hE,h=>by
  unfold CL
  rw[axU]
  unfold VW at h
  split at h
  ·rename_i t hc
   obtain⟨e,_⟩:=uL (hE.ev c) hc
   refine⟨t,e,fun ht => ?_,fun ht => ?_⟩
   ·rw[if_pos ht] at h
    exact zS a hS hE h
   ·rw[if_neg (by simp[ht])] at h
    exact zS b hS hE h
  ·cases h
 |
  .block id a,V,ρ,mO,Q,hS,hE,h=>by
  unfold CL
  rw[apP]
  refine(zS a hS hE h).mono ?_
  rintro x Qb P' ⟨V',aQ,rfl,g2,g3,g4,g5⟩
  cases x with
  | normal=>exact⟨V',aQ,rfl,g2,g3,g4,g5⟩
  |
   exit i =>
   rw[KD]
   have g5:if i=id then Q .normal aQ V'.H else Q (.exit i) aQ V'.H:=g5
   split at g5
   ·rename_i hi
    rw[if_pos hi]
    exact⟨V',aQ,rfl,g2,g3,g4,g5⟩
   ·rename_i hi
    rw[if_neg hi]
    exact⟨V',aQ,rfl,g2,g3,g4,g5⟩
  | ret=>exact⟨V',aQ,rfl,g2,g3,g4,g5⟩
 |
  .loop a,V,ρ,mO,Q,hS,hE,h=>by
  obtain⟨n,h⟩:=h
  have key:∀n {V:View} {ρ:cV} {mO:Env},SR V lo fA→ER V ρ mO→WD (VW fl lo a) (fun x=>gh (Q x)) n ρ V.H→CL lo fA V (.loop a) Q mO:=by
   intro n
   induction n with
   | zero=>intro V ρ mO _ _ h;cases h
   |
    succ n ih =>
    intro V ρ mO hS hE h
    unfold CL
    refine Wd ?_
    refine(zS a hS hE h).mono ?_
    rintro x Qb P' ⟨V',aQ,rfl,g2,g3,g4,g5⟩
    cases x with
    |
     normal =>
     rcases g5 with g5 | ⟨g5,g6⟩
     ·refine(ih g2 g4 g5).mono ?_
      rintro y abC P'' ⟨UY,BZ,k1,k2,k3,k4,k5⟩
      exact⟨UY,BZ,k1,k2,g3.trans k3,k4,k5⟩
     ·obtain⟨t1,t2,t3⟩:=Ug g2 g4 g3 g5
      refine(ih t1 t3 g6).mono ?_
      rintro y abC P'' ⟨UY,BZ,k1,k2,k3,k4,k5⟩
      exact⟨UY,BZ,k1,k2,t2.trans k3,k4,k5⟩
    |
     exit i =>
     obtain⟨UY,BZ,k1,k2,k3,k4,k5⟩:=WQ g2 g4 g5
     exact⟨UY,BZ,k1,k2,g3.trans k3,k4,k5⟩
    |
     ret =>
     obtain⟨UY,BZ,k1,k2,k3,k4,k5⟩:=WQ g2 g4 g5
     exact⟨UY,BZ,k1,k2,g3.trans k3,k4,k5⟩
  exact key n hS hE h
theorem AJ {V:View} (hS:SR V lo fA) {ρ:cV} {mO:Env} (hE:ER V ρ mO) {res:List Di} {v:VV} (h:pA res ρ V.H=some v):∃pv,uB res mO V.P=some pv∧VR V v pv:=by
 have one:∀ {r:Di} {v:VV},FV ρ V.H r=some v→∃pv,Y6 mO V.P r=some pv∧VR V v pv:=by
  intro r v h
  cases r with
  | tmp t=>cases h;exact⟨_,rfl,hE t⟩
  | cell t agg size=>exact PK hS (hE t) h
 have all:∀ {rs:List Di} {vs:List VV},sH ρ V.H rs=some vs→∃ps,DO mO V.P rs=some ps∧VL V vs ps:=by
  intro rs
  induction rs with
  | nil=>intro vs h;cases h;exact⟨[],rfl,.nil⟩
  |
   cons r rs ih =>
   intro vs h
   unfold sH at h
   split at h
   ·rename_i v vs' h1 h2
    cases h
    obtain⟨pv,k1,k2⟩:=one h1
    obtain⟨ps,k3,k4⟩:=ih h2
    exact⟨pv::ps,by unfold DO;rw[k1,k3],.cons _ _ _ _ k2 k4⟩
   ·cases h
 unfold pA at h
 split at h
 ·rename_i v' hv
  cases h
  obtain⟨ps,k1,k2⟩:=all hv
  cases k2 with
  |
   cons _ pv _ _ hx M3 =>
   cases M3
   exact⟨pv,by unfold uB;rw[k1],hx⟩
 ·rename_i vs fS hv
  cases h
  obtain⟨ps,k1,k2⟩:=all hv
  refine⟨.tuple ps.toArray,?_,.eG _ _ k2⟩
  unfold uB
  rw[k1]
  split
  ·rename_i pv he
   injection he with he
   subst he
   cases k2 with
   | cons x _ _ _ hx M3=>cases M3;exact absurd rfl (fS x)
  ·rename_i he
   injection he with he
   rw[he]
  ·rename_i he;cases he
 ·cases h
theorem U7 {V:View} {args:List VV} {fC:List Value} (h:VL V args fC):ER V (LU args) (acN fC):=by
 intro t
 unfold LU acN
 rw[aKu,aKu]
 cases hx:args[t]? with
 |
  none =>
  have:fC[t]? = none:=by
   rw[List.getElem?_eq_none_iff] at hx ⊢
   rw[h.length]
   exact hx
  rw[this]
  exact .eG [] [] .nil
 |
  some x =>
  obtain⟨v,h1,h2⟩:=h.get hx
  rw[h1]
  exact h2
theorem jE.walk {f:Nat} {pf:aU} {args:List VV} {H:aA} {K:VV→aA→Prop} (fl:Fl) (ht:fQ f=some pf) (ha:args.length≤pf.ntmps) (h:VW fl lo pf.body (CW pf.res K) (LU args) H):jE f args lo H K:=by
 intro V fA fC hH hS hl
 subst hH
 obtain⟨x,Qb,P',h1,V',aQ,rfl,g2,g3,g4,g5⟩:=zS pf.body hS (U7 hl) h
 have key:∃pv P'',uN f fC fA V.P=some (pv,P'')∧P''=V'.P∧∃r,VR V' r pv∧K r V'.H:=by
  refine agX ht (by rw[hl.length];exact ha) ?_
  refine⟨x,Qb,V'.P,h1,?_⟩
  cases x with
  | exit i=>exact g5.elim
  |
   normal =>
   simp only[CW,JJ] at g5
   split at g5
   ·rename_i v hv
    obtain⟨pv,k2,k3⟩:=AJ g2 g4 hv
    exact⟨pv,k2,rfl,v,k3,g5⟩
   ·cases g5
  |
   ret =>
   simp only[CW,JJ] at g5
   split at g5
   ·rename_i v hv
    obtain⟨pv,k2,k3⟩:=AJ g2 g4 hv
    exact⟨pv,k2,rfl,v,k3,g5⟩
   ·cases g5
 obtain⟨pv,P'',k1,rfl,r,k2,k3⟩:=key
 exact⟨pv,V',r,k1,g2,g3,k2,k3⟩
theorem VT.walk {f:Nat} {pf:aU} {args:List VV} {r:VV} (fl:Fl) (ht:fQ f=some pf) (ha:args.length≤pf.ntmps) (h:VW fl 0 pf.body (CW pf.res fun v H=>fz depth H v=some r) (LU args) []):VT f args r:=by
 intro F P fC fA hF hl aqN
 have hS:SR (bare F P) 0 fA:=⟨fun b g es e w hb=>by simp[bare] at hb,fun b g es e hb=>by simp[bare] at hb,fun a b g es e w g' oQ e' w' ha=>by simp[bare] at ha,hF,aqN,aK1 _⟩
 obtain⟨x,Qb,P',h1,V',aQ,rfl,g2,g3,g4,g5⟩:=zS pf.body hS (U7 hl) h
 have fin:∀ {v:VV} {pv:Value},VR V' v pv→fz depth V'.H v=some r→VR (bare (fun q=>F q∨(P.length≤q∧q<V'.P.length)) V'.P) r pv:=by
  intro v pv hv hf
  refine PV g2 (fun q hq => ?_) depth v r pv hv hf fun i _ g es e w hr => ?_
  ·rcases g3.E5 q hq with h | h | ⟨b,g,es,e,w,h,_⟩
   ·exact .inl h
   ·exact .inr ⟨h,g2.fr q hq⟩
   ·simp[bare] at h
  ·rcases aKA (V'.m i) P.length with bH | Hj
   ·obtain⟨g0,es0,w0,k1,_⟩:=g3.Ec i g es e w hr bH
    simp[bare] at k1
   ·exact .inr ⟨Hj,g2.mlt hr⟩
 have key:∃pv P'',uN f fC fA P=some (pv,P'')∧P''=V'.P∧VR (bare (fun q=>F q∨(P.length≤q∧q<V'.P.length)) V'.P) r pv:=by
  refine agX ht (by rw[hl.length];exact ha) ?_
  refine⟨x,Qb,V'.P,h1,?_⟩
  cases x with
  | exit i=>exact g5.elim
  |
   normal =>
   simp only[CW,JJ] at g5
   split at g5
   ·rename_i v hv
    obtain⟨pv,k2,k3⟩:=AJ g2 g4 hv
    exact⟨pv,k2,rfl,fin k3 g5⟩
   ·cases g5
  |
   ret =>
   simp only[CW,JJ] at g5
   split at g5
   ·rename_i v hv
    obtain⟨pv,k2,k3⟩:=AJ g2 g4 hv
    exact⟨pv,k2,rfl,fin k3 g5⟩
   ·cases g5
 obtain⟨pv,P'',k1,rfl,k3⟩:=key
 refine⟨V'.P,pv,k1,?_,k3⟩
 refine⟨V'.P.drop P.length,List.ext_getElem? fun i => ?_⟩
 rcases aKA i P.length with hi | hi
 ·rw[aKO hi]
  exact(g3.dC i hi fun b g es e hb=>by simp[bare] at hb).symm
 ·rw[aKP hi,List.getElem?_drop,show P.length+(i-P.length)=i by omega]
end
end Go.PM
namespace Go.PM
section
variable {fl:Fl} {lo:Nat} {ρ:cV} {H:aA} {Q:VQ} {K:cV→aA→Prop} {k:VV→aA→Prop} {a b:aE} {d:Option Nat} {is:List PI} {q:Bool} {op:qE}
def UT (fl:Fl) (lo:Nat) (d:Option Nat) (is:List PI) (K:cV→aA→Prop) (ρ:cV):VV→aA→Prop:=fun v H'=>VS fl lo is K (MX ρ d v) H'
def TL (r:Option (VV×aA)) (k:VV→aA→Prop):Prop:=match r with
 | some (v,H')=>k v H'
 | none=>False
theorem Rm {v:VV} {H':aA}:UT fl lo d is K ρ v H'=VS fl lo is K (MX ρ d v) H':=rfl
theorem UA {v:VV}:Nx (some v) H k=k v H:=rfl
theorem Sa {v:VV} {H':aA}:TL (some (v,H')) k=k v H':=rfl
theorem asI {r:VV} {K:VV→Prop}:tk (some r) K=K r:=rfl
theorem ZW:VW fl lo .skip Q ρ H=Q .normal ρ H:=rfl
theorem aaS {i:Nat}:VW fl lo (.exit i) Q ρ H=Q (.exit i) ρ H:=rfl
theorem amD:VW fl lo .ret Q ρ H=Q .ret ρ H:=rfl
theorem ajW {ops:List PI}:VW fl lo (.cT ops) Q ρ H=VS fl lo ops (Q .normal) ρ H:=rfl
theorem ahQ:VW fl lo (.seq a b) Q ρ H=VW fl lo a (pP (VW fl lo b Q) Q) ρ H:=rfl
theorem Wb {i:Nat}:VW fl lo (.block i a) Q ρ H=VW fl lo a (tI i Q) ρ H:=rfl
theorem ZO {c:Operand} {t:Bool} (h:fG ρ c = .sc (.bool t)):VW fl lo (.cond c a b) Q ρ H=if t=true then VW fl lo a Q ρ H else VW fl lo b Q ρ H:=by
 simp only[VW,h]
theorem EJ:pP K Q .normal=K:=rfl
theorem HD {i:Nat}:pP K Q (.exit i)=Q (.exit i):=rfl
theorem Jm:pP K Q .ret=Q .ret:=rfl
theorem Hw {i:Nat}:tI i Q .normal=Q .normal:=rfl
theorem FA {i j:Nat}:tI i Q (.exit j) ρ H=if j=i then Q .normal ρ H else Q (.exit j) ρ H:=rfl
theorem OS {i:Nat}:tI i Q .ret=Q .ret:=rfl
theorem JG {res:List Di} {R:VV→aA→Prop}:CW res R .normal ρ H=JJ R (pA res ρ H) H:=rfl
theorem QY {res:List Di} {R:VV→aA→Prop}:CW res R .ret ρ H=JJ R (pA res ρ H) H:=rfl
theorem P3 {R:VV→aA→Prop} {v:VV}:JJ R (some v) H=R v H:=rfl
theorem Ui {t:Nat}:pA [.tmp t] ρ H=some (ρ t):=rfl
theorem Vk {t u:Nat}:pA [.tmp t,.tmp u] ρ H=some (.eG [ρ t,ρ u]):=rfl
theorem N1 {t u v:Nat}:pA [.tmp t,.tmp u,.tmp v] ρ H=some (.eG [ρ t,ρ u,ρ v]):=rfl
theorem R5:pA [] ρ H=some (.eG []):=rfl
theorem aiE:VS fl lo [] K ρ H=K ρ H:=rfl
theorem auN:VS fl lo (⟨d,op,none,q,[]⟩::is) K ρ H=fB fl lo q op ρ H (UT fl lo d is K ρ):=by
 simp only[VS,D6,aLR,true_and]
 rfl
theorem nH {c:Operand×Operand} {cs:List (Operand×Operand)}:VS fl lo (⟨d,op,none,q,c::cs⟩::is) K ρ H=((c::cs).all (gP ρ H)=true∧fB fl lo q op ρ H (UT fl lo d is K ρ)):=by
 simp only[VS,D6]
 rfl
theorem Wa {t:Nat} {want x:Bool} {cf:List (Operand×Operand)} (h:ρ t = .sc (.bool x)):VS fl lo (⟨d,op,some (t,want),q,cf⟩::is) K ρ H =
  if (x == want)=true then (cf.all (gP ρ H)=true∧fB fl lo q op ρ H (UT fl lo d is K ρ)) else VS fl lo is K (MX ρ d tE) H:=by
 simp only[VS,D6,h]
 cases (x == want)<;>rfl
theorem akX {t:Nat} {want:Bool} (h:ρ t = .sc (.bool want)):VS fl lo (⟨d,op,some (t,want),q,[]⟩::is) K ρ H=fB fl lo q op ρ H (UT fl lo d is K ρ):=by
 rw[Wa h]
 simp
theorem auL {t:Nat} {want:Bool} {cf:List (Operand×Operand)} (h:ρ t = .sc (.bool (!want))):VS fl lo (⟨d,op,some (t,want),q,cf⟩::is) K ρ H=VS fl lo is K (MX ρ d tE) H:=by
 rw[Wa h]
 cases want<;>rfl
theorem aaR {c:Operand} (h:fG ρ c = .sc (.bool true)):VW fl lo (.cond c a b) Q ρ H=VW fl lo a Q ρ H:=by
 rw[ZO h,if_pos rfl]
theorem Ue {c:Operand} (h:fG ρ c = .sc (.bool false)):VW fl lo (.cond c a b) Q ρ H=VW fl lo b Q ρ H:=by
 rw[ZO h,if_neg (by decide)]
theorem Mn {t:Nat} {want:Bool} {cf:List (Operand×Operand)} (h:ρ t=tE):VS fl lo (⟨d,op,some (t,want),q,cf⟩::is) K ρ H=VS fl lo is K (MX ρ d tE) H:=by
 simp only[VS,D6,h,tE]
theorem zX {d t:Nat} {v:VV}:MX ρ (some d) v t=if t=d then v else ρ t:=rfl
theorem RE {v:VV}:MX ρ none v=ρ:=rfl
theorem ZY {t:Nat}:fG ρ (.tmp t)=ρ t:=rfl
theorem RB {v:Value}:fG ρ (.const v)=inj v:=rfl
theorem Vj {f:Nat}:fG ρ (.func f) = .xT f []:=rfl
theorem Z2 {k:IntKind} {n:Int}:inj (.int k n) = .sc (.int k n):=rfl
theorem WL {t:Bool}:inj (.bool t) = .sc (.bool t):=rfl
theorem Zl {s:ByteArray}:inj (.string s) = .sc (.string s):=rfl
theorem aaU:inj (.slice none 0 0) = .tree [] .nil:=rfl
theorem Y9 {cs:Array Value}:inj (.agg cs) = .agg (cs.toList.map kX):=rfl
theorem Vr {k:IntKind} {n:Int}:kX (.int k n) = .sc (.int k n):=rfl
theorem QJ {t:Bool}:kX (.bool t) = .sc (.bool t):=rfl
theorem Vi {s:ByteArray}:kX (.string s) = .sc (.string s):=rfl
theorem VN:kX (.slice none 0 0) = .tree [] .nil:=rfl
theorem ajL {x:Operand}:fB fl lo q (.mv x) ρ H k=k (fG ρ x) H:=rfl
theorem jL {r:Option VV}:(match r.map (fun v=>(v,H)) with | some (v,H')=>k v H' | none=>False)=Nx r H k:=by cases r<;>rfl
theorem Vn {c x y:Operand}:fB fl lo q (.pick c x y) ρ H k=Nx (V3 (fG ρ c) (fG ρ x) (fG ρ y)) H k:=jL
theorem Zj {o:BinOp} {x y:Operand}:fB fl lo q (.bin o x y) ρ H k=Nx (Ko (dK o) (fG ρ x) (fG ρ y)) H k:=jL
theorem Zh {n:Bool} {x y:Operand}:fB fl lo q (.eqb n x y) ρ H k=Nx (Ko (Ol n) (fG ρ x) (fG ρ y)) H k:=jL
theorem RU {n:Bool} {x:Operand}:fB fl lo q (.isnil n x) ρ H k=Nx (Iz n (fG ρ x) H) H k:=jL
theorem Q7 {n:Bool} {ks:List CK} {x y:Operand}:fB fl lo q (.eqagg n ks x y) ρ H k=Nx (XE n ks (fG ρ x) (fG ρ y)) H k:=jL
theorem anM {o:UnOp} {x:Operand}:fB fl lo q (.un o x) ρ H k=Nx (P0 (pun o) (fG ρ x)) H k:=jL
theorem Zy {o:IntKind} {x:Operand}:fB fl lo q (.cvt o x) ρ H k=Nx (P0 (Xo o) (fG ρ x)) H k:=jL
theorem ZG {x:Operand}:fB fl lo q (.cvs x) ρ H k=Nx (P0 afC (fG ρ x)) H k:=jL
theorem Zi {x:Operand} {i:Nat}:fB fl lo q (.ext x i) ρ H k=Nx (ajA i (fG ρ x)) H k:=jL
theorem ZB {g:Bool} {off size:Nat} {x:Operand}:fB fl lo q (.fld g off size x) ρ H k=Nx (apM g off size (fG ρ x)) H k:=jL
theorem R8 {z:List Value} {places:List (Nat×Nat)} {parts:List (Nat×Operand)}:fB fl lo q (.build z places parts) ρ H k=Nx ((AZ places (z.map kX) (parts.map fun(i,x)=>(i,fG ρ x))).map .agg) H k:=by
 show (match (AZ places (z.map kX) (parts.map fun(i,x)=>(i,fG ρ x))).map fun cs=>(VV.agg cs,H) with | some (v,H')=>k v H' | none=>False)=_
 cases AZ places (z.map kX) (parts.map fun(i,x)=>(i,fG ρ x))<;>rfl
theorem Y5 {x:Operand}:fB fl lo q (.chk x) ρ H k=Nx (MU (fG ρ x) H) H k:=jL
theorem Rt {off:Nat} {x:Operand}:fB fl lo q (.faddr off x) ρ H k=Nx (yG off (fG ρ x) H) H k:=jL
theorem Rv {size:Nat} {x i:Operand}:fB fl lo q (.iaddr size x i) ρ H k=Nx (bJ size (fG ρ x) (fG ρ i) H) H k:=jL
theorem T2 {x i:Operand}:fB fl lo q (.sidx x i) ρ H k=Nx (Ko I8 (fG ρ x) (fG ρ i)) H k:=jL
theorem We {x:Operand} {l h:Option Operand}:fB fl lo q (.ssub x l h) ρ H k=Nx (zI (fG ρ x) (l.map (fG ρ)) (h.map (fG ρ))) H k:=jL
theorem Uy {f:Nat} {gD:List Operand}:fB fl lo q (.mkfn f gD) ρ H k=k (.xT f (gD.map (fG ρ))) H:=rfl
theorem ZP {x:Operand}:fB fl lo q (.len x) ρ H k=Nx (rW (fG ρ x) H) H k:=jL
theorem Uo {x:Operand}:fB fl lo q (.slen x) ρ H k=Nx (P0 Dl (fG ρ x)) H k:=jL
theorem aaJ {x y:Operand}:fB fl lo q (.min x y) ρ H k=Nx (Ko Va (fG ρ x) (fG ρ y)) H k:=jL
theorem Zp {x y:Operand}:fB fl lo q (.max x y) ρ H k=Nx (Ko WE (fG ρ x) (fG ρ y)) H k:=jL
theorem T3 {g:Bool} {size:Nat} {p:Operand}:fB fl lo q (.load g size p) ρ H k=Nx (bF g size (fG ρ p) H) H k:=jL
theorem Zs {size:Nat} {x:Operand} {l h m:Option Operand}:fB fl lo q (.sub size x l h m) ρ H k=Nx (Hf size (fG ρ x) (l.map (fG ρ)) (h.map (fG ρ)) (m.map (fG ρ)) H) H k:=jL
theorem ZE {z:List Value}:fB fl lo q (.new z) ρ H k=TL (if (z.map kX).all bO then some (.ptr H.length 0 0 0,H++[.row 0 [elemOf (z.map kX)] z.length true]) else none) k:=rfl
theorem Zw {x:Operand}:fB fl lo q (.box x) ρ H k=TL (if (aB (fG ρ x)).all bO then (if fl.bf then some (.cI (fG ρ x) 0,H) else some (.ptr H.length 0 0 0,H++[.row 0 [fG ρ x] (aB (fG ρ x)).length true])) else none) k:=rfl
theorem UG {z:List Value} {bytes:Nat} {l c:Operand}:fB fl lo q (.make z bytes l c) ρ H k=TL (if (z.map kX).all bO then BM z bytes (fG ρ l) (fG ρ c) H else none) k:=rfl
theorem Ze {z:List Value} {n:Nat} {parts:List (Nat×Operand)}:fB fl lo q (.lit z n parts) ρ H k=TL (mR fl.lr z n (parts.map fun(i,x)=>(i,fG ρ x)) H) k:=rfl
def Y0 (r:Option aA) (k:VV→aA→Prop):Prop:=match r with
 | some H'=>k tE H'
 | none=>False
theorem Oo {H':aA}:Y0 (some H') k=k tE H':=rfl
theorem R2 {r:Option aA}:(match r.map (fun H'=>(tE,H')) with | some (v,H')=>k v H' | none=>False)=Y0 r k:=by cases r<;>rfl
theorem Q0 {size:Nat} {p v:Operand}:fB fl lo q (.store size p v) ρ H k=Y0 (bL lo size (fG ρ p) (fG ρ v) H) k:=R2
def aB7 (lo size bytes:Nat) (x:VV) (new:Option (List VV)) (H:aA) (k:VV→aA→Prop):Prop:=match new with
 | some new=>TL (dP lo size bytes x new H) k
 | none=>False
theorem QW {size bytes:Nat} {x:VV} {new:List VV}:aB7 lo size bytes x (some new) H k=TL (dP lo size bytes x new H) k:=rfl
theorem ZR {size bytes:Nat} {x y:Operand}:fB fl lo q (.app size bytes x y) ρ H k=aB7 lo size bytes (fG ρ x) (cW size (fG ρ y) H) H k:=by
 show (match (match cW size (fG ρ y) H with | some new=>dP lo size bytes (fG ρ x) new H | none=>none) with | some (v,H')=>k v H' | none=>False)=_
 cases cW size (fG ρ y) H<;>rfl
theorem Wp {size:Nat} {x y:Operand}:fB fl lo q (.copy size x y) ρ H k=TL (LP lo size (fG ρ x) (fG ρ y) H) k:=rfl
theorem Q8 {z:List Value} {x:Operand}:fB fl lo q (.clear z x) ρ H k=Y0 (Sr lo z (fG ρ x) H) k:=R2
theorem UO {f:Nat} {args:List Operand}:fB fl lo q (.call f args) ρ H k=dH f (args.map (fG ρ)) (if q then H.length else lo) H k:=rfl
noncomputable def XZ (x:VV) (args:List VV) (lo:Nat) (H:aA) (k:VV→aA→Prop):Prop:=match x with
 | .xT f gD=>dH f (args++gD) lo H k
 | _=>False
theorem DN {f:Nat} {gD args:List VV}:XZ (.xT f gD) args lo H k=dH f (args++gD) lo H k:=rfl
theorem Rh {fv:Operand} {args:List Operand}:fB fl lo q (.callv fv args) ρ H k=XZ (fG ρ fv) (args.map (fG ρ)) (if q then H.length else lo) H k:=by
 simp only[fB,XZ]
 all_goals (cases fG ρ fv<;>rfl)
theorem ZM {x:Operand}:fB fl lo q (.b2s x) ρ H k=TL (vop fl lo (.b2s x) ρ H) k:=rfl
theorem Zg {f:Value→Option Value} {x:Value}:P0 f (.sc x)=(f x).map .sc:=rfl
theorem YZ {f:Value→Value→Option Value} {x y:Value}:Ko f (.sc x) (.sc y)=(f x y).map .sc:=rfl
theorem UF {t:Bool} {x y:VV}:V3 (.sc (.bool t)) x y=some (if t=true then x else y):=rfl
theorem U9 {vs:List VV} {i:Nat}:ajA i (.eG vs)=vs[i]? := rfl
theorem RP {es:List VV} {t:TK}:rW (.tree es t) H=some (.sc (.int .i64 es.length)):=rfl
theorem eH {b g o n c:Nat} {r:List VV×Nat×Bool} (h:aG H b g=some r):rW (.ref b g o n c) H=some (.sc (.int .i64 n)):=by
 simp only[rW,h,aLS]
theorem Vd {x:VV} {o off:Nat}:yG off (.cI x o) H=some (.cI x (o+off)):=rfl
theorem FH {b g j o off:Nat} {r:List VV×Nat×Bool} (h:aG H b g=some r):yG off (.ptr b g j o) H=some (.ptr b g j (o+off)):=by
 simp only[yG,h,aLS]
theorem ahR {x:VV} {o:Nat}:MU (.cI x o) H=some (.cI x o):=rfl
theorem NB {g:Bool} {size o:Nat} {x:VV}:bF g size (.cI x o) H=dO g size x o:=rfl
theorem Tw {g:Bool} {size b gn j o:Nat} {es:List VV} {e:Nat} {w:Bool} {x:VV} (h:aG H b gn=some (es,e,w)) (hx:es[j]? = some x):bF g size (.ptr b gn j o) H=dO g size x o:=by
 simp only[bF,h,hx]
theorem aiX {size:Nat} {v:Value}:dO false size (.sc v) 0=some (.sc v):=rfl
theorem ZX {size:Nat} {es:List VV} {t:TK}:dO false size (.tree es t) 0=some (.tree es t):=rfl
theorem ahG {size b g o n c:Nat}:dO false size (.ref b g o n c) 0=some (.ref b g o n c):=rfl
theorem alC {size f:Nat} {gD:List VV}:dO false size (.xT f gD) 0=some (.xT f gD):=rfl
theorem dU {size o:Nat} {cs:List VV}:dO false size (.agg cs) o=cs[o]? := rfl
theorem ajE {size:Nat} {cs:List VV} (h:cs.length=size):dO true size (.agg cs) 0=some (.agg cs):=by
 subst h
 simp[dO,aB]
theorem agU {size:Nat} {es:List VV} {t:TK} {kk:IntKind} {i:Int} {x:VV} (h0:0≤i) (hx:es[i.toNat]? = some x) (hs:(aB x).length=size):bJ size (.tree es t) (.sc (.int kk i)) H=some (.cI x 0):=by
 simp only[bJ,h0,hx,hs,if_true]
theorem acP {size:Nat} {es:List VV} {t:TK} {kk:IntKind} {i:Nat} {x:VV} (hx:es[i]? = some x) (hs:(aB x).length=size):bJ size (.tree es t) (.sc (.int kk (i:Int))) H=some (.cI x 0) :=
 agU (by omega) (by simpa using hx) hs
theorem anN {size b g o n c:Nat} {kk:IntKind} {i:Int} {es:List VV} {w:Bool} (h:aG H b g=some (es,size,w)) (h0:0≤i) (h1:i<n):bJ size (.ref b g o n c) (.sc (.int kk i)) H=some (.ptr b g (o+i.toNat) 0):=by
 simp only[bJ,h]
 rw[if_pos ⟨trivial,h0,h1⟩]
theorem aeN {size b g o n c:Nat} {kk:IntKind} {i:Nat} {es:List VV} {w:Bool} (h:aG H b g=some (es,size,w)) (h1:i<n):bJ size (.ref b g o n c) (.sc (.int kk (i:Int))) H=some (.ptr b g (o+i) 0):=by
 rw[anN h (by omega) (by omega),aLT]
abbrev TC (f:Nat) (args:List VV) (r:VV):Prop:=∀(lo:Nat) (H:aA) (k:VV→aA→Prop),dH f args lo H k=k r H
theorem TC.of {f:Nat} {args:List VV} {r:VV} (hr:Fv.contains f=false) (ha:aO args=true) (h:vT f args=some r):TC f args r:=by
 intro lo H k
 unfold dH Jo
 simp only[hr,ha,if_true,h,aK9,if_false,asI]
theorem TC.walk {f:Nat} {pf:aU} {args:List VV} {r:VV} (fl:Fl) (ht:fQ f=some pf) (hr:Fv.contains f=false) (hn:args.length≤pf.ntmps) (ha:aO args=true) (Yf:gZ r=true) (h:VW fl 0 pf.body (CW pf.res fun v H=>fz depth H v=some r) (LU args) []):TC f args r :=
 TC.of hr ha (auY ha Yf (VT.walk fl ht hn h))
theorem TC.Dx {f:Nat} {args mB:List VV} {r:VV} (h:TC f mB r) (hr:Fv.contains f=false) (ha':aO mB=true) (hf:args.mapM (fz depth H)=some mB) (ha:aO args=false):dH f args lo H k=if Ja r=true then k r H else k r (dA H (args.flatMap (iT depth H))):=by
 have e:∀K,Jo f mB K=K r:=fun K=>by
  have:=h 0 [] fun r _=>K r
  unfold dH at this
  simpa only[hr,ha',if_true,aK9,if_false] using this
 unfold dH
 simp only[hr,ha,hf,aK9,if_false]
 rw[e]
theorem aN {n:Nat} {v:VV} (h:aY v=true):fz (n+1) H v=some v:=by
 unfold PM.fz
 rw[if_pos h]
theorem aL {v:VV} (h:aY v=true):fz depth H v=some v:=aN h
theorem mapM_pure {n:Nat}:∀ {es:List VV},aO es=true→es.mapM (PM.fz (n+1) H)=some es
 | [],_=>rfl
 |
  x::xs,h=>by
  simp only[aO,aK5] at h
  rw[aLU,aN h.1,mapM_pure h.2]
  rfl
theorem IE {b g n c e:Nat} {es:List VV} {w:Bool} (h:aG H b g=some (es,e,w)) (hn:n=es.length) (hc:n≤c) (hp:aO es=true):fz depth H (.ref b g 0 n c)=some (.tree es .op):=by
 have:aY (.ref b g 0 n c)=false:=rfl
 show fz (7+1) H _=_
 unfold PM.fz
 simp only[this,h,aK9,if_false]
 subst hn
 rw[if_pos ⟨by omega,hc⟩,aLJ,List.take_length,mapM_pure hp]
 rfl
theorem DV {n:Nat} {v:VV} (h:aY v=true):iT n H v=[]:=by
 cases n with
 | zero=>rfl
 | succ n=>unfold iT;rw[if_pos h]
theorem Az {n:Nat}:∀ {es:List VV},aO es=true→es.flatMap (iT n H)=[]
 | [],_=>rfl
 |
  x::xs,h=>by
  simp only[aO,aK5] at h
  rw[List.flatMap_cons,DV h.1,Az h.2]
  rfl
theorem Kl {b g n c e:Nat} {es:List VV} {w:Bool} (h:aG H b g=some (es,e,w)) (hn:n=es.length) (hp:aO es=true):iT depth H (.ref b g 0 n c)=[b]:=by
 have:aY (.ref b g 0 n c)=false:=rfl
 show iT (7+1) H _=_
 unfold iT
 simp only[this,h,aK9,if_false]
 subst hn
 rw[aLJ,List.take_length,Az hp]
theorem aaF {r:Option VV} {K K':VV→Prop} (hk:∀v,K v→K' v) (h:tk r K):tk r K':=by
 cases r with
 | none=>exact h
 | some v=>exact hk _ h
theorem Mc {f:Nat} {args:List VV} {k k':VV→aA→Prop} (hk:∀v H,k v H→k' v H) (h:dH f args lo H k):dH f args lo H k':=by
 unfold dH at h ⊢
 split at h
 ·rename_i h1
  rw[if_pos h1]
  exact h.mono hk
 ·rename_i h1
  rw[if_neg h1]
  split at h
  ·rename_i h2
   rw[if_pos h2]
   exact aaF (fun v=>hk v H) h
  ·rename_i h2
   rw[if_neg h2]
   split at h
   ·refine aaF (fun v hv => ?_) h
    split at hv
    ·rename_i h3;rw[if_pos h3];exact hk _ _ hv
    ·rename_i h3;rw[if_neg h3];exact hk _ _ hv
   ·cases h
theorem XK {k k':VV→aA→Prop} (hk:∀v H,k v H→k' v H) (h:fB fl lo q op ρ H k):fB fl lo q op ρ H k':=by
 unfold fB at h ⊢
 split at h
 ·exact Mc hk h
 ·split at h
  ·exact Mc hk h
  ·cases h
 ·split at h
  ·exact hk _ _ h
  ·cases h
theorem SU {K K':cV→aA→Prop} (hk:∀ρ H,K ρ H→K' ρ H):∀ {is:List PI} {ρ:cV} {H:aA},VS fl lo is K ρ H→VS fl lo is K' ρ H
 | [],ρ,H,h=>hk _ _ h
 |
  i::is,ρ,H,h=>by
  unfold VS at h ⊢
  split at h
  ·cases h
  ·exact SU hk h
  ·exact⟨h.1,XK (fun v H' hv=>SU hk hv) h.2⟩
theorem tO {K K':cV→aA→Prop} {Q Q':VQ} (hk:∀ρ H,K ρ H→K' ρ H) (hq:∀x ρ H,Q x ρ H→Q' x ρ H):∀x ρ H,pP K Q x ρ H→pP K' Q' x ρ H
 | .normal,ρ,H,h=>hk _ _ h
 | .exit _,ρ,H,h=>hq _ _ _ h
 | .ret,ρ,H,h=>hq _ _ _ h
theorem atK {K K':cV→aA→Prop} (hk:∀ρ H,K ρ H→K' ρ H) (h:gh K ρ H):gh K' ρ H:=by
 obtain⟨ts,aQ,H',h1,h2⟩:=h
 exact⟨ts,aQ,H',h1,hk _ _ h2⟩
theorem AF:∀ {c:aE} {Q Q':VQ} {ρ:cV} {H:aA},(∀x ρ H,Q x ρ H→Q' x ρ H)→VW fl lo c Q ρ H→VW fl lo c Q' ρ H
 | .skip,_,_,_,_,hq,h=>hq _ _ _ h
 | .exit _,_,_,_,_,hq,h=>hq _ _ _ h
 | .ret,_,_,_,_,hq,h=>hq _ _ _ h
 | .cT _,_,_,_,_,hq,h=>SU (fun ρ H=>hq .normal ρ H) h
 | .seq a b,Q,Q',_,_,hq,h=>AF (c:=a) (tO (fun ρ H h=>AF (c:=b) hq h) hq) h
 |
  .cond c a b,Q,Q',ρ,H,hq,h=>by
  unfold VW at h ⊢
  split at h
  ·split at h
   ·rename_i h1;rw[if_pos h1];exact AF (c:=a) hq h
   ·rename_i h1;rw[if_neg h1];exact AF (c:=b) hq h
  ·cases h
 |
  .block i a,Q,Q',_,_,hq,h=>by
  refine AF (c:=a) (fun x ρ H hx => ?_) h
  cases x with
  | normal=>exact hq _ _ _ hx
  | ret=>exact hq _ _ _ hx
  |
   exit j =>
   rw[FA] at hx ⊢
   split at hx
   ·rename_i h1;rw[if_pos h1];exact hq _ _ _ hx
   ·rename_i h1;rw[if_neg h1];exact hq _ _ _ hx
 |
  .loop a,Q,Q',ρ,H,hq,h=>by
  obtain⟨n,h⟩:=h
  refine⟨n,?_⟩
  induction n generalizing ρ H with
  | zero=>cases h
  |
   succ n ih =>
   refine AF (c:=a) (tO (fun ρ H h => ?_) fun x ρ H h=>atK (hq x) h) h
   rcases h with h | ⟨h1,h2⟩
   ·exact .inl (ih _ _ h)
   ·exact .inr ⟨h1,ih _ _ h2⟩
theorem auJ {K:cV→aA→Prop} (h:K ρ H):gh K ρ H:=⟨[],ρ,H,rfl,h⟩
theorem UL {α:Type} {c:aE} (I:α→cV→aA→Prop) (μ:α→Nat) (s:α) (h0:I s ρ H)
  (round:∀s ρ H,I s ρ H→VW fl lo c (pP (fun aQ H'=>∃s',μ s'<μ s∧(I s' aQ H'∨(oC H.length (H'.take H.length)=true∧I s' (rQ H.length aQ) (H'.take H.length)))) (fun x=>gh (Q x))) ρ H):VW fl lo (.loop c) Q ρ H:=by
 refine⟨μ s+1,?_⟩
 have key:∀n s ρ H,μ s<n→I s ρ H→WD (VW fl lo c) (fun x=>gh (Q x)) n ρ H:=by
  intro n
  induction n with
  | zero=>intro s ρ H h;omega
  |
   succ n ih =>
   intro s ρ H hn hI
   refine AF (tO (fun aQ H' h => ?_) fun x ρ H h=>h) (round s ρ H hI)
   obtain⟨s',h1,h2 | ⟨h2,h3⟩⟩:=h
   ·exact .inl (ih s' _ _ (by omega) h2)
   ·exact .inr ⟨h2,ih s' _ _ (by omega) h3⟩
 exact key _ s ρ H (Nat.lt_succ_self _) h0
theorem aP {α:Type} {c:aE} (I:α→cV→aA→Prop) (μ:α→Nat) (s:α) (h0:I s ρ H)
  (round:∀s ρ H,I s ρ H→VW fl lo c (pP (fun aQ H'=>∃s',μ s'<μ s∧I s' aQ H') Q) ρ H):VW fl lo (.loop c) Q ρ H :=
 UL I μ s h0 fun s ρ H h=>AF (tO (fun _ _ ⟨s',h1,h2⟩=>⟨s',h1,.inl h2⟩) fun _ _ _ h=>auJ h) (round s ρ H h)
theorem Oi {α:Type} {c:aE} (I:α→cV→aA→Prop) (μ:α→Nat) (s:α) (h0:I s ρ H)
  (round:∀s ρ H,I s ρ H→VW fl lo c (pP (fun aQ H'=>∃s',μ s'<μ s∧oC H.length (H'.take H.length)=true∧I s' (rQ H.length aQ) (H'.take H.length)) Q) ρ H):VW fl lo (.loop c) Q ρ H :=
 UL I μ s h0 fun s ρ H h=>AF (tO (fun _ _ ⟨s',h1,h2⟩=>⟨s',h1,.inr h2⟩) fun _ _ _ h=>auJ h) (round s ρ H h)
theorem Og {n:Nat} {v:VV} (h:below n v=true):ME n v=v:=by
 unfold ME
 rw[if_pos h]
mutual
theorem IN {n:Nat} (v:VV) (h:aY v=true):below n v=true:=by
 cases v with
 | any=>rfl
 | sc=>rfl
 | agg cs=>exact oK cs h
 | eG cs=>exact oK cs h
 | tree es t=>exact oK es (K1 h).2.1
 | cI x o=>exact IN x h
 | ref=>cases h
 | ptr=>cases h
 | xT f gD=>exact oK gD h
theorem oK {n:Nat} (vs:List VV) (h:aO vs=true):nQ n vs=true:=by
 cases vs with
 | nil=>rfl
 |
  cons x xs =>
  simp only[aO,aK5] at h
  simp only[nQ,IN x h.1,oK xs h.2,aLV]
end
end
end Go.PM
namespace Go.PM
def val (b:Nat):List Nat→Nat
 | []=>0
 | d::ds=>d+b*val b ds
def aD (b n:Nat):List Nat:=if h:n=0∨b<2 then [] else n % b::aD b (n / b)
termination_by n
decreasing_by exact aLW (by omega) (by omega)
section
variable {b:Nat}
theorem cF:aD b 0=[]:=by rw[aD];simp
theorem kQ (hb:2≤b) {n:Nat} (hn:n≠0):aD b n=n % b::aD b (n / b):=by rw[aD,dif_neg (by omega)]
theorem wG {d:Nat} {ds:List Nat}:val b (d::ds)=d+b*val b ds:=rfl
theorem BA (xs ys:List Nat):val b (xs++ys)=val b xs+b^xs.length*val b ys:=by
 induction xs with
 | nil=>simp[val]
 |
  cons x xs ih =>
  simp only[aLX,wG,ih,aKH,aLY]
  rw[Nat.mul_add,aLZ (b^xs.length) b,Nat.mul_assoc,Nat.add_assoc]
theorem val_one (d:Nat):val b [d]=d:=by simp[val]
theorem vY (xs:List Nat) (d:Nat):val b (xs++[d])=val b xs+b^xs.length*d:=by rw[BA,val_one]
theorem uW (n:Nat):val b (aLn n 0)=0:=by
 induction n with
 | zero=>rfl
 | succ n ih=>simp[aLH,val,ih]
theorem rO {xs:List Nat} (h:∀d∈xs,d<b):val b xs<b^xs.length:=by
 induction xs with
 | nil=>simp[val]
 |
  cons x xs ih =>
  have h1:=h x aK7
  have h2:=ih fun d hd=>h d (aK6 _ hd)
  simp only[wG,aKH,aLY]
  have h3:b*(val b xs+1)≤b*b^xs.length:=Nat.mul_le_mul_left _ h2
  rw[Nat.mul_add,Nat.mul_one] at h3
  rw[aLZ (b^xs.length) b]
  omega
theorem cL (hb:2≤b) (n:Nat):val b (aD b n)=n:=by
 induction n using aL0 with
 |
  _ n ih =>
  by_cases h:n=0
  ·subst h;rw[cF];rfl
  ·rw[kQ hb h,wG,ih _ (aLW (by omega) (by omega))]
   exact Nat.mod_add_div n b
theorem gI (hb:2≤b) (n:Nat):∀d∈aD b n,d<b:=by
 induction n using aL0 with
 |
  _ n ih =>
  by_cases h:n=0
  ·subst h;rw[cF];intro d hd;cases hd
  ·rw[kQ hb h]
   intro d hd
   rcases aLL.1 hd with rfl | hd
   ·exact Nat.mod_lt _ (by omega)
   ·exact ih _ (aLW (by omega) (by omega)) d hd
theorem nR (hb:2≤b) {n:Nat}:aD b n=[]↔n=0:=by
 constructor
 ·intro h
  have:=cL hb n
  rw[h] at this
  exact this.symm
 ·rintro rfl;exact cF
theorem RD (hb:2≤b) (n:Nat):(aD b n).getLast? ≠ some 0:=by
 induction n using aL0 with
 |
  _ n ih =>
  by_cases h:n=0
  ·subst h;rw[cF];simp
  ·rw[kQ hb h]
   have h1:=ih _ (aLW (n:=n) (k:=b) (by omega) (by omega))
   by_cases h2:n / b=0
   ·rw[h2,cF]
    have:n<b:=by
     rcases Nat.div_eq_zero_iff.1 h2 with h | h<;>omega
    simp[aL1 this,h]
   ·have fS:aD b (n / b)≠[]:=fun h=>h2 ((nR hb).1 h)
    obtain⟨x,xs,hx⟩:=aL2 fS
    rw[hx] at h1 ⊢
    rw[aL3]
    exact h1
theorem PE (hb:2≤b) {xs:List Nat} (h:∀d∈xs,d<b) (hl:xs.getLast? ≠ some 0):aD b (val b xs)=xs:=by
 induction xs with
 | nil=>exact cF
 |
  cons x xs ih =>
  have h1:=h x aK7
  have hr:(x+b*val b xs) % b=x:=by rw[Nat.add_mul_mod_self_left,aL1 h1]
  have hq:(x+b*val b xs) / b=val b xs:=by rw[Nat.add_mul_div_left _ _ (by omega),aL4 h1,aL5]
  cases xs with
  |
   nil =>
   have hx:x≠0:=by rintro rfl;simp at hl
   rw[val_one,kQ hb hx,aL1 h1,aL4 h1,cF]
  |
   cons y ys =>
   rw[aL3] at hl
   have h2:=ih (fun d hd=>h d (aK6 _ hd)) hl
   have h3:val b (y::ys)≠0:=fun h0=>by rw[h0,cF] at h2;cases h2
   have h4:b*val b (y::ys)≠0:=Nat.mul_ne_zero (by omega) h3
   rw[wG,kQ hb (by omega),hr,hq,h2]
theorem Nv (hb:2≤b) {n:Nat} (hn:n≠0):b^((aD b n).length-1)≤n:=by
 induction n using aL0 with
 |
  _ n ih =>
  rw[kQ hb hn]
  by_cases h2:n / b=0
  ·rw[h2,cF];simp;omega
  ·have h3:=ih _ (aLW (by omega) (by omega)) h2
   have fS:aD b (n / b)≠[]:=fun h=>h2 ((nR hb).1 h)
   obtain⟨x,xs,hx⟩:=aL2 fS
   rw[hx] at h3 ⊢
   simp only[aKH,Nat.add_sub_cancel] at h3 ⊢
   rw[aLY]
   calc b^xs.length*b≤n / b*b:=aKY _ h3
    _≤n:=Nat.div_mul_le_self n b
theorem iN (hb:2≤b) (n:Nat):n<b^(aD b n).length:=by
 have:=rO (gI hb n)
 rwa [cL hb] at this
theorem oJ (hb:2≤b) {n k:Nat} (h:n<b^k):(aD b n).length≤k:=by
 by_cases hn:n=0
 ·subst hn;rw[cF];simp
 ·have h1:=Nv hb hn
  have h2:b^((aD b n).length-1)<b^k:=Nat.lt_of_le_of_lt h1 h
  have h3:(aD b n).length-1<k:=(Nat.pow_lt_pow_iff_right (by omega)).1 h2
  have fS:aD b n≠[]:=fun h=>hn ((nR hb).1 h)
  have:=List.length_pos_iff.2 fS
  omega
theorem eZ (hb:2≤b) {m n:Nat} (h:m≤n):(aD b m).length≤(aD b n).length :=
 oJ hb (Nat.lt_of_le_of_lt h (iN hb n))
theorem sP (xs:List Nat) (i:Nat):val b xs=val b (xs.take i)+b^(xs.take i).length*val b (xs.drop i):=by
 rw[←BA,List.take_append_drop]
theorem bE {xs:List Nat} {i d:Nat} (h:xs[i]? = some d):val b (xs.take (i+1))=val b (xs.take i)+b^i*d:=by
 have bH:=(aKw.1 h).1
 rw[List.take_add_one,h]
 simp only[Option.toList_some]
 rw[vY,aL6,aLy (by omega)]
theorem vK {xs:List Nat} {i d:Nat} (h:xs[i]? = some d):val b (xs.drop i)=d+b*val b (xs.drop (i+1)):=by
 obtain⟨bH,he⟩:=aKw.1 h
 rw[List.drop_eq_getElem_cons bH,he,wG]
theorem Is {P A B O c x y s q r W:Nat} (h:A+B=O+P*c) (hs:c+x+y=s) (hr:r+W*q=s):(A+P*x)+(B+P*y)=(O+P*r)+(P*W)*q:=by grind
theorem Mf {P A B O l x y r W l':Nat} (h:A+P*l=O+B) (hd:r+y+l=x+W*l'):(A+P*x)+(P*W)*l'=(O+P*r)+(B+P*y):=by grind
theorem akG {xs:List Nat} {i d:Nat} (h:i<xs.length):(xs.set i d).take (i+1)=xs.take i++[d]:=by
 rw[List.set_eq_take_append_cons_drop,if_pos h,aL7]
 simp[List.take_take,aLy (by omega:i≤xs.length),Nat.min_eq_right (by omega:i≤i+1)]
theorem fK {xs:List Nat} {i d:Nat} (h:i<xs.length):val b ((xs.set i d).take (i+1))=val b (xs.take i)+b^i*d:=by
 rw[akG h,vY,aL6,aLy (by omega)]
theorem nW {xs:List Nat} {i d:Nat} (h:∀x∈xs,x<b) (hd:d<b):∀x∈xs.set i d,x<b:=by
 intro x hx
 rcases List.mem_or_eq_of_mem_set hx with h1 | h1
 ·exact h x h1
 ·subst h1;exact hd
theorem lD {xs:List Nat} {i:Nat} (h:xs.length≤i):val b (xs.take i)=val b xs:=by rw[aLq h]
theorem CP (hb:0<b) (n:Nat):∀x∈aLn n 0,x<b:=by
 intro x hx
 rw[aLI hx]
 exact hb
theorem acI {P x y R t:Nat} (ht:t<P) (h:x<y):t+P*(x+R)<P*(y+R):=by
 have h1:P*(x+R+1)≤P*(y+R):=Nat.mul_le_mul_left _ (by omega)
 rw[Nat.mul_add,Nat.mul_one] at h1
 omega
theorem G0 {xs ys:List Nat} {i x y:Nat} (hx:∀d∈xs,d<b) (hl:xs.length=ys.length) (hi:xs[i]? = some x) (hj:ys[i]? = some y) (hd:xs.drop (i+1)=ys.drop (i+1)) (h:x<y):val b xs<val b ys:=by
 have h1:=(aKw.1 hi).1
 have ht:(xs.take i).length=i:=by simp;omega
 have ht':(ys.take i).length=i:=by simp;omega
 have h2:=rO (b:=b) (xs:=xs.take i) fun d hd=>hx d (aLu hd)
 rw[ht] at h2
 rw[sP xs i,sP ys i,ht,ht',vK hi,vK hj,hd]
 have:=acI (R:=b*val b (ys.drop (i+1))) h2 h
 omega
theorem T5 (hb:2≤b) {m n:Nat} (h:aD b m=aD b n):m=n:=by
 have:=congrArg (val b) h
 rwa [cL hb,cL hb] at this
def gC (a b:Nat):Int:=if a<b then -1 else if a=b then 0 else 1
theorem GZ (hb:2≤b) {m n:Nat} (h:(aD b m).length<(aD b n).length):m<n:=by
 rcases aKA m n with h1 | h1
 ·exact h1
 ·have:=eZ hb h1
  omega
end
end Go.PM
namespace Go.PM
abbrev VI (n:Int):VV := .sc (.int .i64 n)
abbrev VK (k:IntKind) (n:Int):VV := .sc (.int k n)
abbrev VB (t:Bool):VV := .sc (.bool t)
abbrev aC {α:Type} (f:α→VV) (xs:List α):VV := .tree (xs.map f) .op
section
variable {α:Type} {f:α→VV} {xs ys:List α} {x:α} {t:TK} {H:aA} {size i:Nat} {k:IntKind}
theorem eQ:rW (.tree (xs.map f) t) H=some (VI xs.length):=by simp[rW]
theorem aH (hx:xs[i]? = some x) (hs:(aB (f x)).length=size):bJ size (.tree (xs.map f) t) (VK k (i:Int)) H=some (.cI (f x) 0) :=
 acP (by simp[hx]) hs
theorem WZ (hs:∀x,(aB (f x)).length=size):∀y∈xs.map f,(aB y).length=size:=by
 intro y hy
 obtain⟨x,_,rfl⟩:=aL8.1 hy
 exact hs x
theorem fO (hp:∀x,aY (f x)=true):aO (xs.map f)=true:=by
 rw[CX]
 intro y hy
 obtain⟨x,_,rfl⟩:=aL8.1 hy
 exact hp x
theorem apE (hp:∀x,gZ (f x)=true):sK (xs.map f)=true:=by
 rw[PS]
 intro y hy
 obtain⟨x,_,rfl⟩:=aL8.1 hy
 exact hp x
theorem Zt {size:Nat} (hs:∀x,(aB (f x)).length=size):uni (xs.map f)=true:=by
 cases xs with
 | nil=>rfl
 |
  cons x xs =>
  simp only[aL9,uni,aKL]
  intro y hy
  obtain⟨z,_,rfl⟩:=aL8.1 hy
  simp[hs]
theorem mN {size:Nat} (hs:∀x,(aB (f x)).length=size) (hp:∀x,aY (f x)=true):aY (aC f xs)=true:=by
 simp only[aC,aY,fO hp,Zt hs,decide_true,aLV]
theorem zL {size:Nat} (hs:∀x,(aB (f x)).length=size) (hp:∀x,gZ (f x)=true) (he:∀x,CJ (f x)=true):gZ (aC f xs)=true:=by
 have h4:(xs.map f).all CJ=true:=by
  rw[aKL]
  intro y hy
  obtain⟨z,_,rfl⟩:=aL8.1 hy
  exact he z
 simp only[aC,gZ,apE hp,Zt hs,h4,decide_true,aLV]
theorem arZ {es:List VV} {h:Nat} (fS:0<es.length) (hs:∀x∈es,(aB x).length=size) (hh:h≤es.length) {k2:IntKind} :
  Hf size (.tree es t) none (some (VK k2 h)) none H=some (.tree (es.take h) .op):=by
 cases es with
 | nil=>simp at fS
 |
  cons y ys =>
  have hy:=hs y aK7
  simp only[aKH] at hh
  have e1:(0:Int)≤h∧(h:Int)≤((ys.length+1:Nat):Int):=by omega
  simp only[Hf,Ix,hy,if_true,fF,e1,aLT,aLc,aK9,false_and,if_false]
  simp
theorem VG (h:0<xs.length):0<(xs.map f).length:=by simpa using h
theorem Po {b g o n c:Nat} {es:List VV} {w:Bool} {l h:Nat} (hr:aG H b g=some (es,size,w)) (hl:l≤h) (hh:h≤c) {k1 k2:IntKind} :
  Hf size (.ref b g o n c) (some (VK k1 l)) (some (VK k2 h)) none H=some (.ref b g (o+l) (h-l) (c-l)):=by
 have e1:(0:Int)≤h∧(h:Int)≤(c:Int):=by omega
 have e2:(0:Int)≤l∧(l:Int)≤(h:Int):=by omega
 simp only[Hf,Ix,hr,if_true,fF,e1,e2,aLT,aLc,aK9,false_and,if_false]
 simp[hl]
theorem rK {b g o n c:Nat} {es:List VV} {w:Bool} {h:Nat} (hr:aG H b g=some (es,size,w)) (hh:h≤c) {k2:IntKind} :
  Hf size (.ref b g o n c) none (some (VK k2 h)) none H=some (.ref b g o h c):=by
 have e1:(0:Int)≤h∧(h:Int)≤(c:Int):=by omega
 simp only[Hf,Ix,hr,if_true,fF,e1,aLT,aLc,aK9,false_and,if_false]
 simp
theorem Qi {b g o n c:Nat} {es:List VV} {w:Bool} {l:Nat} (hr:aG H b g=some (es,size,w)) (hl:l≤n) (hn:n≤c) {k1:IntKind} :
  Hf size (.ref b g o n c) (some (VK k1 l)) none none H=some (.ref b g (o+l) (n-l) (c-l)):=by
 have e2:(0:Int)≤l∧(l:Int)≤(n:Int):=by omega
 simp only[Hf,Ix,hr,if_true,fF,e2,aLT,aLc,aK9,false_and,if_false]
 simp
theorem MJ {h:Nat} (hs:∀x,(aB (f x)).length=size) (fS:0<xs.length) (hh:h≤xs.length) {k2:IntKind} :
  Hf size (.tree (xs.map f) t) none (some (VK k2 h)) none H=some (aC f (xs.take h)):=by
 rw[arZ (VG fS) (WZ hs) (by simpa using hh)]
 simp[aC]
theorem T8 {b g e:Nat} {es:List VV} {w:Bool} {L K:aA} (h:b=L.length):aG (L ++ .row g es e w::K) b g=some (es,e,w):=by
 subst h
 simp[aG]
theorem aT {g e:Nat} {es:List VV} {w:Bool} {K:aA}:aG (.row g es e w::K) 0 g=some (es,e,w):=by simp[aG]
theorem cP {n:Nat}:(n=n+1)=False:=eq_false fun h=>by omega
theorem ahA {g g' e:Nat} {es:List VV} {w:Bool} {K:aA} (h:g'≠g):aG (.row g' es e w::K) 0 g=none:=by simp[aG,h]
theorem cD {g e:Nat} {es:List VV} {w:Bool} {K:aA}:aG (.row (g+1) es e w::K) 0 g=none:=ahA (Nat.succ_ne_self g)
theorem eJ {b g:Nat} {x:fN} {K:aA}:aG (x::K) (b+1) g=aG K b g:=by simp[aG]
theorem bB {b g o n c e:Nat} {es:List VV} {w:Bool} (h:aG H b g=some (es,e,w)) (hi:i<n):bJ e (.ref b g o n c) (VK k (i:Int)) H=some (.ptr b g (o+i) 0):=aeN h hi
theorem bS {b g j e lo:Nat} {es:List VV} {v:VV} (h:aG H b g=some (es,e,true)) (hj:j<es.length) (dR:lo≤b) (hv:(aB v).length=e) (hs:(aB v).all bO=true):bL lo e (.ptr b g j 0) v H=some (H.set b (.row g (es.set j v) e true)):=by
 obtain⟨x,hx⟩:∃x,es[j]? = some x:=⟨_,aKE hj⟩
 simp only[bL,h,hx]
 rw[if_pos ⟨hv,dR,hs⟩,if_pos ⟨trivial,trivial⟩]
theorem nT {z:List Value} {bytes n:Nat} (hz:elemOf (z.map kX)=f x) (hn:n*bytes≤281474976710656) (hm:n≤9223372036854775807):BM z bytes (VI n) (VI n) H=some (.ref H.length 0 0 n n,H++[.row 0 ((aLn n x).map f) z.length true]):=by
 simp only[BM]
 rw[if_pos ⟨by omega,by omega,by omega,by omega⟩,hz]
 simp
theorem qA {ag w:Bool} {b gn e j o:Nat} (h:aG H b gn=some (xs.map f,e,w)) (hx:xs[j]? = some x):bF ag size (.ptr b gn j o) H=dO ag size (f x) o :=
 Tw h (by simp[hx])
theorem dQ {b g j e lo:Nat} (h:aG H b g=some (xs.map f,e,true)) (hj:j<xs.length) (dR:lo≤b) (hv:(aB (f x)).length=e) (hs:(aB (f x)).all bO=true):bL lo e (.ptr b g j 0) (f x) H=some (H.set b (.row g ((xs.set j x).map f) e true)):=by
 rw[bS h (by simpa using hj) dR hv hs,List.map_set]
theorem ZI {b gn n c e:Nat} {es:List VV} {w:Bool} (h:aG H b gn=some (es,e,w)) (hn:n≤es.length) (hc:n≤c) (hp:aO es=true):fz depth H (.ref b gn 0 n c)=some (.tree (es.take n) .op):=by
 have:aY (.ref b gn 0 n c)=false:=rfl
 show fz (7+1) H _=_
 unfold fz
 simp only[this,h,aK9,if_false]
 have BX:aO (es.take n)=true:=CX.2 fun x hx=>CX.1 hp x (aLu hx)
 rw[if_pos ⟨by omega,hc⟩,aLJ,mapM_pure BX]
 rfl
theorem TC.flat {fn:Nat} {args mB:List VV} {r:VV} (h:TC fn mB r) (CM:Fv.contains fn=false) (ha':aO mB=true) (hf:args.mapM (fz depth H)=some mB) (hr:Ja r=true) :
  ∀(lo:Nat) (K:VV→aA→Prop),dH fn args lo H K=K r H:=by
 intro lo K
 cases hp:aO args with
 |
  true =>
  have:=mapM_pure (n:=7) (H:=H) hp
  rw[show fz depth H=fz (7+1) H from rfl,this] at hf
  cases hf
  exact h lo H K
 | false=>rw[h.Dx CM ha' hf hp,hr,if_pos rfl]
theorem fz1 {v v':VV} (h:fz depth H v=some v'):[v].mapM (fz depth H)=some [v']:=by rw[aLU,h];rfl
theorem fz2 {v v' u u':VV} (h:fz depth H v=some v') (hu:fz depth H u=some u'):[v,u].mapM (fz depth H)=some [v',u']:=by rw[aLU,h,fz1 hu];rfl
theorem TC.arU {fn b gn n c e size:Nat} {w:Bool} {r:VV} (h:TC fn [aC f xs] r) (hr:aG H b gn=some (xs.map f,e,w)) (hn:n=xs.length) (hc:n≤c) (hs:∀x,(aB (f x)).length=size) (hp:∀x,aY (f x)=true) (CM:Fv.contains fn=false) (hf:Ja r=false) :
  ∀(lo:Nat) (K:VV→aA→Prop),dH fn [.ref b gn 0 n c] lo H K=K r (dA H [b]):=by
 intro lo K
 have e1:fz depth H (.ref b gn 0 n c)=some (aC f xs):=IE hr (by simpa using hn) hc (fO hp)
 have e2:iT depth H (.ref b gn 0 n c)=[b]:=Kl hr (by simpa using hn) (fO hp)
 have e3:[VV.ref b gn 0 n c].mapM (fz depth H)=some [aC f xs]:=by rw[aLU,e1];rfl
 rw[h.Dx CM (by simp only[aO,mN hs hp,aLV]) e3 rfl,hf]
 simp only[aK9,if_false,List.flatMap_cons,List.flatMap_nil,e2,aLF]
theorem atV {es:List VV} {e:Nat} (hp:aO es=true):fz depth H (.tree es (.cl e))=some (.tree es .op):=by
 show fz (7+1) H _=_
 unfold fz
 have:aY (.tree es (.cl e))=false:=by simp[aY]
 simp only[this,aK9,if_false,mapM_pure hp]
 rfl
theorem alU {es:List VV} {e:Nat} (hp:aO es=true):iT depth H (.tree es (.cl e))=[]:=by
 show iT (7+1) H _=_
 unfold iT
 have:aY (.tree es (.cl e))=false:=by simp[aY]
 simp only[this,aK9,if_false,Az hp]
theorem YH:fz depth H (.tree [] .nil)=some (.tree [] .op):=by
 show fz (7+1) H _=_
 unfold fz
 have:aY (.tree [] .nil)=false:=by simp[aY]
 simp only[this,aK9,if_false]
 rfl
theorem TC.args {fn:Nat} {args mB:List VV} {r:VV} (h:TC fn mB r) (CM:Fv.contains fn=false) (ha':aO mB=true) (hf:args.mapM (fz depth H)=some mB) (hi:args.flatMap (iT depth H)=[]) :
  ∀(lo:Nat) (K:VV→aA→Prop),dH fn args lo H K=K r H:=by
 intro lo K
 cases hp:aO args with
 |
  true =>
  have:=mapM_pure (n:=7) (H:=H) hp
  rw[show fz depth H=fz (7+1) H from rfl,this] at hf
  cases hf
  exact h lo H K
 |
  false =>
  rw[h.Dx CM ha' hf hp,hi]
  split<;>rfl
theorem mT {lr:Bool} {z:List Value} (hz:(z.map kX).all bO=true):mR lr z 0 [] H=some (.ref H.length 0 0 0 0,H++[.row 0 [] z.length true]):=by
 simp[mR,zC,hz]
theorem iX {z:List Value} {v:VV} (hz:(z.map kX).all bO=true) (hv:(aB v).length=z.length) (hs:(aB v).all bO=true):mR false z 1 [(0,v)] H=some (.tree [v] (.cl z.length),H):=by
 simp only[mR,zC,aLH,List.replicate_zero,aKH,aMa,hv,hs,and_self,if_true,aMb,hz]
 simp[hs]
theorem amE {z:List Value} {u v:VV} (hz:(z.map kX).all bO=true) (hu:(aB u).length=z.length) (hus:(aB u).all bO=true) (hv:(aB v).length=z.length) (hs:(aB v).all bO=true):mR false z 2 [(0,u),(1,v)] H=some (.tree [u,v] (.cl z.length),H):=by
 simp[mR,zC,hv,hs,hu,hus,hz,aLH]
end
theorem wrap32 (n:Nat):IntKind.u32.wrap (n:Int)=((n % 4294967296:Nat):Int):=by rw[IntKind.wrap_u32];omega
theorem wrap_u64 (n:Int):IntKind.u64.wrap n=n % 18446744073709551616:=by simp[IntKind.wrap,IntKind.bits,IntKind.signed]
theorem eR (n:Nat) (h:n<18446744073709551616):IntKind.u64.wrap (n:Int)=(n:Int):=by rw[wrap_u64];omega
theorem wrapN {x:Int} (n:Nat) (h:x=n) (hn:n≤9223372036854775807):IntKind.i64.wrap x=(n:Int):=by subst h;exact wrap64 (by omega) (by omega)
theorem qQ (n:Nat) (k:IntKind):dK .shr (.int .u64 (n:Int)) (.int k 32)=some (.int .u64 ((n / 4294967296:Nat):Int)):=by
 simp only[dK]
 have h1:¬((32:Int)<0):=by decide
 have h2:Nat.min (Int.toNat 32) IntKind.u64.bits=32:=by decide
 rw[if_neg h1,h2]
 congr 2
 rw[Int.fdiv_eq_ediv_of_nonneg _ (by decide)]
 omega
theorem GQ (n:Nat) (k:IntKind) (h:n<4294967296):dK .shl (.int .u64 (n:Int)) (.int k 32)=some (.int .u64 ((n*4294967296:Nat):Int)):=by
 simp only[dK]
 have h1:¬((32:Int)<0):=by decide
 have h2:Nat.min (Int.toNat 32) IntKind.u64.bits=32:=by decide
 rw[if_neg h1,h2]
 congr 2
 have:(n:Int)*2^32=((n*4294967296:Nat):Int):=by omega
 rw[this]
 exact eR _ (by omega)
section
variable {n k g:Nat} {K:aA} {x y:fN}
theorem Nu:aG (aLn n fN.dead++K) n g=aG K 0 g:=by
 unfold aG
 rw[aKP (by simp)]
 simp
theorem ZN:aG (aLn n fN.dead++K) (n+k) g=aG K k g:=by
 unfold aG
 rw[aKP (by simp)]
 simp
theorem agQ:(aLn n fN.dead++K).set n y=aLn n fN.dead++K.set 0 y:=by
 rw[aMc _ _ (by simp)]
 simp
theorem ayR:(aLn n fN.dead++K).set (n+k) y=aLn n fN.dead++K.set k y:=by
 rw[aMc _ _ (by simp)]
 simp
theorem aBp:(aLn n fN.dead++K).length=n+K.length:=by simp
theorem apC:(aLn n fN.dead++K).take (n+k)=aLn n fN.dead++K.take k:=by
 rw[aL7]
 simp
theorem arG:(aLn n fN.dead++K).take n=aLn n fN.dead:=by
 rw[aL7]
 simp
end
theorem DC {k g e:Nat} {es:List VV} {w:Bool} {K:aA} (h:nQ k es=true):oC k (.row g es e w::K)=oC k K:=by
 unfold oC
 rw[aLp]
 simp only[h,Bool.true_and]
theorem Kw {k:Nat}:oC k []=true:=rfl
theorem eV {size:Nat} {v:VV} {t:TK} {H:aA} (h:(aB v).length=size) (hs:(aB v).all bO=true):cW size (.tree [v] t) H=some [v]:=by
 simp[cW,h,hs]
theorem jQ {α:Type} {f:α→VV} {xs:List α} {x:α} {lo b g n e bytes:Nat} {H:aA} (h:aG H b g=some (xs.map f,e,true)) (hn:n=xs.length) (dR:lo≤b) (he:1≤e) (hb:1≤bytes) (E4:(n+1)*bytes≤140737488355328) :
  dP lo e bytes (.ref b g 0 n n) [f x] H=some (.ref b (g+1) 0 (n+1) (n+1),H.set b (.row (g+1) ((xs++[x]).map f) e true)):=by
 subst hn
 simp only[dP,h,aKH,aMa,aL5]
 rw[if_pos ⟨hb,he⟩,if_pos ⟨trivial,dR,by simp⟩,if_neg (by omega),if_pos E4,aLJ,aLq (by simp)]
 simp
section
variable {H:aA} {b g o n c j lo size:Nat} {neg ag:Bool} {k:IntKind} {i:Int} {v:VV}
theorem bK:bF ag size (.ptr b g j o) H=(match aG H b g with
 |
  some (es,_,_)=>match es[j]? with
  | some x=>dO ag size x o
  | none=>none
 | none=>none):=rfl
theorem FW:bL lo size (.ptr b g j o) v H=(match aG H b g with
 |
  some (es,e,true)=>match es[j]? with
  |
   some x =>
   if (aB v).length=size∧lo≤b∧(aB v).all bO then
    if o=0∧size=e then some (H.set b (.row g (es.set j v) e true))
    else if 2≤e∧o+size≤e then some (H.set b (.row g (es.set j (.agg (dE (aB x) o (aB v)))) e true))
    else none
   else none
  | none=>none
 | _=>none):=rfl
theorem QI:rW (.ref b g o n c) H=(aG H b g).map fun _ => .sc (.int .i64 n):=rfl
theorem zF:yG size (.ptr b g j o) H=(aG H b g).map fun _ => .ptr b g j (o+size):=rfl
theorem Sc:MU (.ptr b g j o) H=(aG H b g).map fun _ => .ptr b g j o:=rfl
theorem Mr:Iz neg (.ref b g o n c) H=(aG H b g).map fun _ => .sc (.bool (false != neg)):=rfl
theorem NU:Iz neg (.tree [] .nil) H=some (.sc (.bool (true != neg))):=rfl
theorem Mk {x:VV} {xs:List VV} {t:TK}:Iz neg (.tree (x::xs) t) H=some (.sc (.bool (false != neg))):=rfl
theorem Mt:bJ size (.ref b g o n c) (.sc (.int k i)) H=(match aG H b g with
 | some (_,e,_)=>if e=size∧0≤i∧i<n then some (.ptr b g (o+i.toNat) 0) else none
 | none=>none):=rfl
end
theorem I4 {v:Value}:isAny (.sc v)=false:=rfl
theorem Ed {es:List VV} {t:TK}:isAny (.tree es t)=false:=rfl
theorem GN {b g o n c:Nat}:isAny (.ref b g o n c)=false:=rfl
theorem Gr {cs:List VV}:isAny (.agg cs)=false:=rfl
theorem Ry {f:Nat} {cs:List VV}:isAny (.xT f cs)=false:=rfl
theorem uT {x:VV}:elemOf [x]=x:=rfl
theorem sA {x y:VV} {cs:List VV}:elemOf (x::y::cs) = .agg (x::y::cs):=rfl
theorem AY {k t:Nat} {ρ:cV}:rQ k ρ t=ME k (ρ t):=rfl
theorem OO {k:Nat} {v:Value}:ME k (.sc v) = .sc v:=rfl
theorem Da {k:Nat} {v:VV} (h:aY v=true):ME k v=v:=Og (IN v h)
theorem Le {k b g o n c:Nat} (h:b<k):ME k (.ref b g o n c) = .ref b g o n c:=Og (by simp[below,h])
theorem Vb {v:Value}:bO (.sc v)=true:=rfl
theorem O9 {es:List VV} {t:TK}:bO (.tree es t)=true:=rfl
theorem Sb {b g o n c:Nat}:bO (.ref b g o n c)=true:=rfl
theorem R7 {b g o n:Nat}:bO (.ptr b g o n)=true:=rfl
theorem ON {x:VV} {o:Nat}:bO (.cI x o)=true:=rfl
theorem RF {f:Nat} {cs:List VV}:bO (.xT f cs)=true:=rfl
theorem RZ {v:Value}:aB (.sc v)=[.sc v]:=rfl
theorem N8 {cs:List VV}:aB (.agg cs)=cs:=rfl
theorem Mi {es:List VV} {t:TK}:aB (.tree es t)=[.tree es t]:=rfl
theorem O8 {b g o n c:Nat}:aB (.ref b g o n c)=[.ref b g o n c]:=rfl
theorem VF {k k':IntKind} {n:Int}:Xo k (.int k' n)=some (.int k (k.wrap n)):=rfl
theorem QH {args:List VV} {t:Nat}:LU args t=args.getD t tE:=rfl
theorem aBZ {n:Nat}:LT n = .tmp n:=rfl
theorem aBG {n:Int}:LI n = .const (.int .i64 n):=rfl
theorem aBR:LG = .const (.bool true):=rfl
theorem aB9:LF = .const (.bool false):=rfl
theorem aBQ {n:Nat}:LL n = .load false 1 (.tmp n):=rfl
theorem aAG {n:Nat}:LK n = .load true 3 (.tmp n):=rfl
theorem aA0 {n k:Nat}:LX n k = .ext (.tmp n) k:=rfl
theorem aAB {k n:Nat}:LA k n = .faddr k (.tmp n):=rfl
theorem aBA {d:Nat} {p:qE}:LO d p=⟨some d,p,none,false,[]⟩:=rfl
theorem aAC {d:Nat} {p:qE}:LQ d p=⟨some d,p,none,true,[]⟩:=rfl
theorem aBg {p:qE}:LN p=⟨none,p,none,false,[]⟩:=rfl
theorem aCg {d s:Nat}:LM d s=⟨some d,.mv (.tmp s),none,false,[]⟩:=rfl
theorem aBB {g d:Nat} {p:qE}:LY g d p=⟨some d,p,some (g,true),false,[]⟩:=rfl
theorem aBP {g d:Nat} {p:qE}:LZ g d p=⟨some d,p,some (g,false),false,[]⟩:=rfl
theorem aAU {l:List PI} {c:aE}:LS l c = .seq (.cT l) c:=rfl
theorem VX:type_of% (
 aMd @ahQ<|aMd @ajW<|aMd @Wb<|aMd @ZW<|aMd @aaS<|aMd @amD<|aMd @aaR <|
 aMd @Ue<|aMd @EJ<|aMd @HD<|aMd @Jm<|aMd @Hw<|aMd @FA <|
 aMd @OS<|aMd @JG<|aMd @QY<|aMd @P3<|aMd @Ui<|aMd @Vk <|
 aMd @N1<|aMd @R5<|aMd @aiE<|aMd @auN<|aMd @akX<|aMd @auL<|aMd @Mn <|
 aMd @ajL<|aMd @Vn<|aMd @Zj<|aMd @Zh<|aMd @RU<|aMd @Q7<|aMd @anM <|
 aMd @Zy<|aMd @ZG<|aMd @Zi<|aMd @ZB<|aMd @R8<|aMd @Y5<|aMd @Rt <|
 aMd @Rv<|aMd @T2<|aMd @We<|aMd @Uy<|aMd @ZP<|aMd @Uo<|aMd @aaJ <|
 aMd @Zp<|aMd @T3<|aMd @Zs<|aMd @ZE<|aMd @Zw<|aMd @UG<|aMd @Ze <|
 aMd @Q0<|aMd @ZR<|aMd @Wp<|aMd @Q8<|aMd @UO<|aMd @Rh <|
 aMd @DN<|aMd @Rm<|aMd @UA<|aMd @Sa<|aMd @Oo<|aMd @QW <|
 aMd @zX<|aMd @RE<|aMd @ZY<|aMd @RB<|aMd @Vj<|aMd @Z2<|aMd @WL <|
 aMd @Zl<|aMd @aaU<|aMd @Y9<|aMd @Vr<|aMd @QJ<|aMd @Vi<|aMd @VN <|
 aMd @Zg<|aMd @YZ<|aMd @UF<|aMd @U9<|aMd @RP<|aMd @Vd<|aMd @ahR <|
 aMd @NB<|aMd @aiX<|aMd @ZX<|aMd @ahG<|aMd @alC<|aMd @dU<|aMd @ajE <|
 aMd @aMe.{0,0}<|aMd @aLp.{0}<|aMd @aLR.{0}<|aMd @Vb<|aMd @aLV <|
 aMd @Bool.and_true<|aMd @VF<|aMd @aaG<|aMd @Zm<|aMd @WK<|aMd @UB <|
 aMd @Ub<|aMd @Vh<|aMd @Wj<|aMd @UR<|aMd @U0<|aMd @VJ<|aMd @VU <|
 aMd @Zq<|aMd @ZK<|aMd @Value.bool.injEq<|aMd @decide_eq_true_eq<|aMd @decide_eq_false_iff_not <|
 aMd @Bool.not_true<|aMd @Bool.not_false<|aMd @decide_true<|aMd @decide_false<|aMd @Bool.not_eq_true' <|
 aMd @Bool.not_eq_false'<|aMd @aK9<|aMd @false_and<|aMd @and_false<|aMd @aLS.{0,0} <|
 aMd @Option.map_none.{0,0}<|aMd @if_true.{1}<|aMd @if_false.{1}<|aMd @aL9.{0,0}<|aMd @List.map_nil.{0,0} <|
 aMd @aLX.{0}<|aMd @aLP.{0}<|aMd @and_true<|aMd @true_and<|aMd @aL5 <|
 aMd @Nat.add_zero<|aMd @aKH.{0}<|aMd @aMa.{0}<|aMd @QH<|aMd @aMf.{0} <|
 aMd @aMg.{0}<|aMd @List.getD_nil.{0}<|aMd @VV.sc.injEq<|aMd @aKR.{0} <|
 aMd @aMh.{0}<|aMd @O9<|aMd @Sb<|aMd @R7<|aMd @ON <|
 aMd @RF<|aMd @RZ<|aMd @N8<|aMd @Mi<|aMd @O8<|aMd @aBZ<|aMd @aBG <|
 aMd @aBR<|aMd @aB9<|aMd @aBQ<|aMd @aAG<|aMd @aA0<|aMd @aAB<|aMd @aBA<|aMd @aAC <|
 aMd @aBg<|aMd @aCg<|aMd @aBB<|aMd @aBP <| @aAU) :=
 aMd @ahQ<|aMd @ajW<|aMd @Wb<|aMd @ZW<|aMd @aaS<|aMd @amD<|aMd @aaR <|
 aMd @Ue<|aMd @EJ<|aMd @HD<|aMd @Jm<|aMd @Hw<|aMd @FA <|
 aMd @OS<|aMd @JG<|aMd @QY<|aMd @P3<|aMd @Ui<|aMd @Vk <|
 aMd @N1<|aMd @R5<|aMd @aiE<|aMd @auN<|aMd @akX<|aMd @auL<|aMd @Mn <|
 aMd @ajL<|aMd @Vn<|aMd @Zj<|aMd @Zh<|aMd @RU<|aMd @Q7<|aMd @anM <|
 aMd @Zy<|aMd @ZG<|aMd @Zi<|aMd @ZB<|aMd @R8<|aMd @Y5<|aMd @Rt <|
 aMd @Rv<|aMd @T2<|aMd @We<|aMd @Uy<|aMd @ZP<|aMd @Uo<|aMd @aaJ <|
 aMd @Zp<|aMd @T3<|aMd @Zs<|aMd @ZE<|aMd @Zw<|aMd @UG<|aMd @Ze <|
 aMd @Q0<|aMd @ZR<|aMd @Wp<|aMd @Q8<|aMd @UO<|aMd @Rh <|
 aMd @DN<|aMd @Rm<|aMd @UA<|aMd @Sa<|aMd @Oo<|aMd @QW <|
 aMd @zX<|aMd @RE<|aMd @ZY<|aMd @RB<|aMd @Vj<|aMd @Z2<|aMd @WL <|
 aMd @Zl<|aMd @aaU<|aMd @Y9<|aMd @Vr<|aMd @QJ<|aMd @Vi<|aMd @VN <|
 aMd @Zg<|aMd @YZ<|aMd @UF<|aMd @U9<|aMd @RP<|aMd @Vd<|aMd @ahR <|
 aMd @NB<|aMd @aiX<|aMd @ZX<|aMd @ahG<|aMd @alC<|aMd @dU<|aMd @ajE <|
 aMd @aMe.{0,0}<|aMd @aLp.{0}<|aMd @aLR.{0}<|aMd @Vb<|aMd @aLV <|
 aMd @Bool.and_true<|aMd @VF<|aMd @aaG<|aMd @Zm<|aMd @WK<|aMd @UB <|
 aMd @Ub<|aMd @Vh<|aMd @Wj<|aMd @UR<|aMd @U0<|aMd @VJ<|aMd @VU <|
 aMd @Zq<|aMd @ZK<|aMd @Value.bool.injEq<|aMd @decide_eq_true_eq<|aMd @decide_eq_false_iff_not <|
 aMd @Bool.not_true<|aMd @Bool.not_false<|aMd @decide_true<|aMd @decide_false<|aMd @Bool.not_eq_true' <|
 aMd @Bool.not_eq_false'<|aMd @aK9<|aMd @false_and<|aMd @and_false<|aMd @aLS.{0,0} <|
 aMd @Option.map_none.{0,0}<|aMd @if_true.{1}<|aMd @if_false.{1}<|aMd @aL9.{0,0}<|aMd @List.map_nil.{0,0} <|
 aMd @aLX.{0}<|aMd @aLP.{0}<|aMd @and_true<|aMd @true_and<|aMd @aL5 <|
 aMd @Nat.add_zero<|aMd @aKH.{0}<|aMd @aMa.{0}<|aMd @QH<|aMd @aMf.{0} <|
 aMd @aMg.{0}<|aMd @List.getD_nil.{0}<|aMd @VV.sc.injEq<|aMd @aKR.{0} <|
 aMd @aMh.{0}<|aMd @O9<|aMd @Sb<|aMd @R7<|aMd @ON <|
 aMd @RF<|aMd @RZ<|aMd @N8<|aMd @Mi<|aMd @O8<|aMd @aBZ<|aMd @aBG <|
 aMd @aBR<|aMd @aB9<|aMd @aBQ<|aMd @aAG<|aMd @aA0<|aMd @aAB<|aMd @aBA<|aMd @aAC <|
 aMd @aBg<|aMd @aCg<|aMd @aBB<|aMd @aBP <| @aAU
theorem gH:type_of% (
 aMd @bK<|aMd @FW<|aMd @Mt<|aMd @QI<|aMd @zF<|aMd @Sc <|
 aMd @Mr<|aMd @NU<|aMd @Mk<|aMd @aT<|aMd @eJ<|aMd @aMb.{0} <|
 aMd @List.set_cons_succ.{0}<|aMd @uT<|aMd @sA<|aMd @pA.eq_1<|aMd @sH.eq_1 <|
 aMd @sH.eq_2<|aMd @FV.eq_1<|aMd @FV.eq_2<|aMd @AZ.eq_1<|aMd @AZ.eq_2<|aMd @I4 <|
 aMd @Ed<|aMd @GN<|aMd @Gr<|aMd @Ry<|aMd @List.take_zero.{0} <|
 aMd @aLk.{0}<|aMd @List.take_nil.{0}<|aMd @aLJ.{0}<|aMd @aMi.{0} <|
 aMd @List.drop_nil.{0}<|aMd @aLF.{0}<|aMd @aKx<|aMd @dE.eq_1<|aMd @aLT <|
 aMd @eq_self.{1}<|aMd @ge_iff_le.{0} <| @aK5) :=
 aMd @bK<|aMd @FW<|aMd @Mt<|aMd @QI<|aMd @zF<|aMd @Sc <|
 aMd @Mr<|aMd @NU<|aMd @Mk<|aMd @aT<|aMd @eJ<|aMd @aMb.{0} <|
 aMd @List.set_cons_succ.{0}<|aMd @uT<|aMd @sA<|aMd @pA.eq_1<|aMd @sH.eq_1 <|
 aMd @sH.eq_2<|aMd @FV.eq_1<|aMd @FV.eq_2<|aMd @AZ.eq_1<|aMd @AZ.eq_2<|aMd @I4 <|
 aMd @Ed<|aMd @GN<|aMd @Gr<|aMd @Ry<|aMd @List.take_zero.{0} <|
 aMd @aLk.{0}<|aMd @List.take_nil.{0}<|aMd @aLJ.{0}<|aMd @aMi.{0} <|
 aMd @List.drop_nil.{0}<|aMd @aLF.{0}<|aMd @aKx<|aMd @dE.eq_1<|aMd @aLT <|
 aMd @eq_self.{1}<|aMd @ge_iff_le.{0} <| @aK5
end Go.PM
namespace Go.PM
theorem TC.vt {f:Nat} {args:List VV} {r:VV} (h:TC f args r) (CM:Fv.contains f=false) (hp:aO args=true):VT f args r:=by
 have h1:=h 0 [] fun x _=>x=r
 unfold dH at h1
 simp only[CM,hp,aK9,if_false,if_true] at h1
 have h2:Jo f args fun x=>x=r:=by rw[h1];trivial
 unfold Jo tk at h2
 split at h2
 ·rename_i x hx
  rw[←h2]
  exact(SC hx).2.2
 ·exact h2.elim
theorem TC.yes {f:Nat} {args:List VV} {fC:List Value} {H:aI} (h:TC f args (.sc (.bool true))) (CM:Fv.contains f=false) (hp:aO args=true) (hl:VL (bare (· < H.length) H) args fC) :
  ∃v H',uN f fC H.length H=some (v,H')∧v = .bool true:=by
 obtain⟨P',pv,h1,_,h2⟩:=h.vt CM hp (· < H.length) H fC H.length (fun _ h=>h) hl (aKx _)
 cases h2
 exact⟨_,P',h1,rfl⟩
theorem VR.grow {H L:aI} {x:VV} {v:Value} (h:VR (bare (· < H.length) H) x v):VR (bare (· < (H++L).length) (H++L)) x v :=
 h.FN fun b hb=>⟨by show b<_;rw[aKI];omega,aKO hb⟩
end Go.PM
namespace Go.PM
mutual
def jU (n:Nat):VV→Bool
 | .any=>false
 | .sc v=>qC v
 | .agg cs=>AB n cs
 | .eG vs=>AB n vs
 | .tree es k=>es.isEmpty&&decide (k = .nil)
 | .cI _ _=>false
 | .ref b _ _ _ _=>decide (n≤b)
 | .ptr b _ _ _=>decide (n≤b)
 | .xT _ _=>false
def AB (n:Nat):List VV→Bool
 | []=>true
 | x::xs=>jU n x&&AB n xs
end
theorem zN {n:Nat} {es:List VV}:AB n es=true↔∀x∈es,jU n x=true:=by
 induction es with
 | nil=>simp[AB]
 | cons x xs ih=>simp[AB,ih]
theorem acC {n:Nat} {es:List VV} (h:AB n es=true):AB n (es.flatMap aB)=true:=by
 rw[zN] at h ⊢
 intro x hx
 obtain⟨y,hy,CR⟩:=List.mem_flatMap.1 hx
 have:=h y hy
 unfold aB at CR
 split at CR
 ·exact zN.1 (by simpa[jU] using this) x CR
 ·rw[aLD] at CR;subst CR;exact this
def mW (n:Nat) (L:aA):Bool:=L.all fun
 | .row _ es _ _=>AB n es
 | .dead=>true
theorem VR.own {V V':View} {k0:Nat} (TS:∀q,V.base≤q∧q<V.P.length→V'.base≤q∧q<V'.P.length∧∀b' g' es e w,b'<k0→V'.H[b']? = some (.row g' es e w)→V'.m b'≠q) (hl:V.H.length≤V'.H.length) (hH:∀b,k0≤b→V'.H[b]? = V.H[b]?) (hm:∀b,k0≤b→V'.m b=V.m b) {x:VV} {v:Value} (h:VR V x v):jU k0 x=true→VR V' x v:=by
 induction h using VR.rec (motive_2:=fun xs vs _=>AB k0 xs=true→VL V' xs vs) with
 | any=>intro hx;cases hx
 | sc _ h=>intro _;exact .sc _ h
 | agg cs ps _ ih=>intro hx;exact .agg _ _ (ih hx)
 | eG cs ps _ ih=>intro hx;exact .eG _ _ (ih hx)
 | pM k hk=>intro _;exact .pM k hk
 |
  tree es k b o c r e p hF hb ho hc he hk _ _ =>
  intro hx
  simp only[jU,aK5,decide_eq_true_eq] at hx
  obtain⟨_,rfl⟩:=hx
  exact hk.elim
 | cI=>intro hx;cases hx
 |
  ref b g o n c a n' c' bH hg ha hq =>
  intro hx
  have hb:k0≤b:=by simpa[jU] using hx
  exact .ref b g o n c a n' c' (aKz bH hl) (fun g' es e w hr=>hg g' es e w (by rw[←hH b hb];exact hr)) (fun es e w hr=>by rw[hm b hb];exact ha es e w (by rw[←hH b hb];exact hr)) fun a0 h=>by
   obtain⟨q1,q2,q3⟩:=hq a0 h
   obtain⟨q4,q5,q6⟩:=TS _ ⟨q1,q2⟩
   refine⟨q4,q5,fun b' g' es e w hr fS => ?_⟩
   rcases aKA b' k0 with Pc | Hj
   ·exact q6 b' g' es e w Pc hr
   ·rw[hm b' Hj]
    exact q3 b' g' es e w (by rw[←hH b' Hj];exact hr) fS
 |
  ptr b g j off a bH hg ha hq =>
  intro hx
  have hb:k0≤b:=by simpa[jU] using hx
  exact .ptr b g j off a (aKz bH hl) (fun g' es e w hr=>hg g' es e w (by rw[←hH b hb];exact hr)) (fun es e w hr=>by rw[hm b hb];exact ha es e w (by rw[←hH b hb];exact hr)) fun a0 h=>by
   obtain⟨q1,q2,q3⟩:=hq a0 h
   obtain⟨q4,q5,q6⟩:=TS _ ⟨q1,q2⟩
   refine⟨q4,q5,fun b' g' es e w hr fS => ?_⟩
   rcases aKA b' k0 with Pc | Hj
   ·exact q6 b' g' es e w Pc hr
   ·rw[hm b' Hj]
    exact q3 b' g' es e w (by rw[←hH b' Hj];exact hr) fS
 | xT=>intro hx;cases hx
 | nil=>exact .nil
 |
  cons x v xs vs _ _ ih Xb =>
  rename_i hx
  simp only[AB,aK5] at hx
  exact .cons _ _ _ _ (ih hx.1) (Xb hx.2)
theorem VL.own {V V':View} {n:Nat} (TS:∀q,V.base≤q∧q<V.P.length→V'.base≤q∧q<V'.P.length∧∀b' g' es e w,b'<n→V'.H[b']? = some (.row g' es e w)→V'.m b'≠q) (hl:V.H.length≤V'.H.length) (hH:∀b,n≤b→V'.H[b]? = V.H[b]?) (hm:∀b,n≤b→V'.m b=V.m b) {xs:List VV} {vs:List Value} (h:VL V xs vs) (hx:AB n xs=true):VL V' xs vs:=by
 induction xs generalizing vs with
 | nil=>cases h;exact .nil
 |
  cons x xs ih=>cases h with
  |
   cons _ v _ vs h hs =>
   simp only[AB,aK5] at hx
   exact .cons _ _ _ _ (h.own TS hl hH hm hx.1) (ih hs hx.2)
theorem VL.FN {V':View} {G:Nat→Prop} {P:aI} {xs:List VV} {vs:List Value} (hF:∀b,G b→V'.F b∧V'.P[b]? = P[b]?) (h:VL (bare G P) xs vs):VL V' xs vs:=by
 induction xs generalizing vs with
 | nil=>cases h;exact .nil
 |
  cons x xs ih=>cases h with
  | cons _ v _ vs h hs=>exact .cons _ _ _ _ (h.FN hF) (ih hs)
def FC (f:Nat) (args:List VV) (R:Nat→VV→aA→Prop):Prop :=
 ∀n,jE f args n (aLn n .dead) fun r H'=>∃L,H'=aLn n .dead++L∧jU n r=true∧mW n L=true∧R n r L
theorem FC.walk {f:Nat} {pf:aU} {args:List VV} {R:Nat→VV→aA→Prop} (fl:Fl) (ht:fQ f=some pf) (hn:args.length≤pf.ntmps)
  (h:∀n,VW fl n pf.body (CW pf.res fun r H'=>∃L,H'=aLn n .dead++L∧jU n r=true∧mW n L=true∧R n r L) (LU args) (aLn n .dead)):FC f args R :=
 fun n=>jE.walk fl ht hn (h n)
theorem FC.raw {f:Nat} {args mB:List VV} {R:Nat→VV→aA→Prop} {H:aA} {lo:Nat} (h:FC f mB R) (hf:args.mapM (fz depth H)=some mB):jE f args lo H fun r H'=>∃L,H'=H++L∧R H.length r L∧jU H.length r=true∧mW H.length L=true:=by
 intro V fA fC hH hS hl
 have h1:=h H.length
 let V0:View:={ m:=V.m,F:=(· < V.P.length),H:=aLn H.length .dead,P:=V.P,base:=V.P.length }
 have OI:∀(b g:Nat) (es:List VV) (e:Nat) (w:Bool),V0.H[b]? ≠ some (.row g es e w):=by
  intro b g es e w hb
  have:=aLI (aLr hb)
  cases this
 have hS0:SR V0 H.length fA:=⟨fun b g es e w hb=>absurd hb (OI _ _ _ _ _),fun b g es e hb=>absurd hb (OI _ _ _ _ _),fun a b g es e w _ _ _ _ ha=>absurd ha (OI _ _ _ _ _),fun b hb=>hb,hS.W3,aKx _⟩
 have Co:VL V0 mB fC:=by
  have:=GM hS (G:=(· < V.P.length)) (fun q hq=>hS.fr q hq) hl (by rw[hH];exact hf) (fun i _ g es e w hb=>hS.mlt hb)
  exact VL.FN (V':=V0) (fun b hb=>⟨hb,rfl⟩) this
 obtain⟨pv,V1,r,k1,k3,k4,k5,L,k2,h2,h3,hR⟩:=h1 V0 fA fC rfl hS0 Co
 have YY:∀b g es e w,V1.H[b]? = some (.row g es e w)→V.P.length≤V1.m b:=by
  intro b g es e w hb
  rcases aKA (V1.m b) V.P.length with bH | Hj
  ·obtain⟨g0,es0,w0,j1,_⟩:=k4.Ec b g es e w hb bH
   exact absurd j1 (OI _ _ _ _ _)
  ·exact Hj
 have aBI:V1.H.length=H.length+(L).length:=by rw[k2];simp
 have tT:∀q,q<V.P.length→V1.P[q]? = V.P[q]? := fun q hq=>k4.dC q hq fun b g es e hb=>absurd hb (OI _ _ _ _ _)
 let V2:View:={ m:=fun b=>if b<H.length then V.m b else V1.m b,F:=V.F,H:=H++L,P:=V1.P,base:=V.base }
 have apQ:∀b,H.length≤b→V2.H[b]? = V1.H[b]? := fun b hb=>by
  show (H++L)[b]? = _
  rw[k2,aKP hb,aKP (by simpa using hb),List.length_replicate]
 have mL:∀b,H.length≤b→V2.m b=V1.m b:=fun b hb=>by
  show (if b<H.length then V.m b else V1.m b)=_
  rw[if_neg (by omega)]
 have asX:∀b,b<H.length→V2.H[b]? = V.H[b]? := fun b hb=>by
  show (H++L)[b]? = _
  rw[aKO hb,hH]
 have mS:∀b,b<H.length→V2.m b=V.m b:=fun b hb=>by
  show (if b<H.length then V.m b else V1.m b)=_
  rw[if_pos hb]
 have hU:Up V V2:=⟨fun _ h=>h,fun b hb=>tT b (hS.fr b hb),by show V.H.length≤(H++L).length;rw[hH];simp,fun b g es e w bH hb=>⟨g,es,w,by rw[←asX b (by rw[←hH];exact bH)];exact hb,aKx _,fun _=>mS b (by rw[←hH];exact bH)⟩,rfl,k4.Hm,fun b g es e w hb hm=>by
   rcases aKA b H.length with h | h
   ·exact⟨g,es,w,by rw[←asX b h];exact hb,mS b h,id⟩
   ·rw[mL b h] at hm
    have:=YY b g es e w (by rw[←apQ b h];exact hb)
    omega⟩
 have ZC:∀ {b g es e w},V2.H[b]? = some (.row g es e w)→(b<H.length∧V.H[b]? = some (.row g es e w))∨(H.length≤b∧V1.H[b]? = some (.row g es e w)):=by
  intro b g es e w hb
  rcases aKA b H.length with h | h
  ·exact .inl ⟨h,by rw[←asX b h];exact hb⟩
  ·exact .inr ⟨h,by rw[←apQ b h];exact hb⟩
 have auU:V1.H.length≤V2.H.length:=by show _≤(H++L).length;rw[aBI];simp
 have Rf:∀ {b g es e w},H.length≤b→V1.H[b]? = some (.row g es e w)→AB H.length es=true:=by
  intro b g es e w hb hr
  rw[k2,aKP (by simpa using hb)] at hr
  exact aKL.1 h3 _ (aLr hr)
 have TS:∀q,V1.base≤q∧q<V1.P.length→V2.base≤q∧q<V2.P.length∧∀b' g' es e w,b'<H.length→V2.H[b']? = some (.row g' es e w)→V2.m b'≠q:=by
  intro q hq
  have GX:V.P.length≤q:=by have:=k4.NC;rw[this] at hq;exact hq.1
  refine⟨aKy hS.NC GX,hq.2,fun b' g' es e w bH hr hm => ?_⟩
  rw[mS b' bH] at hm
  have:=hS.mlt (by rw[←asX b' bH];exact hr)
  omega
 refine⟨pv,V2,r,k1,⟨fun b g es e w hb => ?_,fun b g es e hb => ?_,fun a b g es e w g' oQ e' w' ha hb hm => ?_,fun b hb => ?_,?_,aKy hS.NC k4.Hm⟩,{ hU with dC:=fun q hq _=>tT q hq,E5:=fun q hq => .inl hq },?_,L,rfl,hR,h2,h3⟩
 ·rcases ZC hb with⟨h,hb⟩ | ⟨h,hb⟩
  ·obtain⟨r,p,j1,j2,j3⟩:=hS.row b g es e w hb
   exact⟨r,p,by rw[mS b h];exact(tT _ (hS.mlt hb)).trans j1,j2,j3.mono hU⟩
  ·obtain⟨r,p,j1,j2,j3⟩:=k3.row b g es e w hb
   exact⟨r,p,by rw[mL b h];exact j1,j2,j3.own TS auU (fun b hb=>apQ b hb) (fun b hb=>mL b hb) (acC (Rf h hb))⟩
 ·rcases ZC hb with⟨h,hb⟩ | ⟨h,hb⟩
  ·rw[mS b h]
   exact hS.wr b g es e hb
  ·rw[mL b h]
   have:=YY b g es e true hb
   exact⟨fun hF=>by have:=hS.fr _ hF;omega,fun _=>aKy hS.W3 this⟩
 ·rcases ZC ha with⟨h,ha⟩ | ⟨h,ha⟩<;>rcases ZC hb with⟨h',hb⟩ | ⟨h',hb⟩
  ·rw[mS a h,mS b h'] at hm
   exact hS.inj a b _ _ _ _ _ _ _ _ ha hb hm
  ·rw[mS a h,mL b h'] at hm
   have:=YY b _ _ _ _ hb
   have:=hS.mlt ha
   omega
  ·rw[mL a h,mS b h'] at hm
   have:=YY a _ _ _ _ ha
   have:=hS.mlt hb
   omega
  ·rw[mL a h,mL b h'] at hm
   exact k3.inj a b _ _ _ _ _ _ _ _ ha hb hm
 ·exact aKz (hS.fr b hb) k4.Hm
 ·exact aKy hS.W3 k4.Hm
 ·exact k5.own TS auU (fun b hb=>apQ b hb) (fun b hb=>mL b hb) h2
theorem fV {f:Nat} {args:List VV} {lo:Nat} {H:aA} {K:VV→aA→Prop} (CM:Fv.contains f=true) (h:jE f args lo H K):dH f args lo H K:=by
 unfold dH
 rw[if_pos CM]
 exact h
theorem FC.call {f:Nat} {args mB:List VV} {R:Nat→VV→aA→Prop} {H:aA} {lo:Nat} {K:VV→aA→Prop} (h:FC f mB R) (CM:Fv.contains f=true) (hf:args.mapM (fz depth H)=some mB) (hk:∀r L,R H.length r L→K r (H++L)):dH f args lo H K :=
 fV CM ((h.raw hf).mono fun r H' ⟨L,h1,h2,_⟩=>by subst h1;exact hk r L h2)
theorem FC.atT {f:Nat} {args mB:List VV} {R:Nat→VV→aA→Prop} {H:aA} {lo:Nat} {K:VV→aA→Prop} (h:FC f mB R) (CM:Fv.contains f=true) (hf:args.mapM (fz depth H)=some mB) (hk:∀r L,R H.length r L→jU H.length r=true→mW H.length L=true→K r (H++L)):dH f args lo H K :=
 fV CM ((h.raw hf).mono fun r H' ⟨L,h1,h2,h3,h4⟩=>by subst h1;exact hk r L h2 h3 h4)
def Wu (H K:aA):Prop:=K.length=H.length∧∀(b g:Nat) (es:List VV) (e:Nat) (w:Bool),K[b]? = some (.row g es e w)→H[b]? = some (.row g es e w)
theorem VR.kill {V:View} {K:aA} (hK:Wu V.H K) {x:VV} {v:Value} (h:VR V x v):VR { V with H:=K } x v:=by
 induction h using VR.rec (motive_2:=fun xs vs _=>VL { V with H:=K } xs vs) with
 | any=>exact .any _
 | sc _ h=>exact .sc _ h
 | agg cs ps _ ih=>exact .agg _ _ ih
 | eG cs ps _ ih=>exact .eG _ _ ih
 | pM k hk=>exact .pM k hk
 | tree es k b o c r e p hF hb ho hc he hk _ ih=>exact .tree es k b o c r e p hF hb ho hc he hk ih
 | cI x off b o r e p hF hb ho _ ih=>exact .cI x off b o r e p hF hb ho ih
 |
  ref b g o n c a n' c' bH hg ha hq =>
  exact .ref b g o n c a n' c' (by show b<K.length;rw[hK.1];exact bH) (fun g' es e w hr=>hg g' es e w (hK.2 _ _ _ _ _ hr)) (fun es e w hr=>ha es e w (hK.2 _ _ _ _ _ hr)) fun a0 h=>⟨(hq a0 h).1,(hq a0 h).2.1,fun b' g' es e w hr=>(hq a0 h).2.2 b' g' es e w (hK.2 _ _ _ _ _ hr)⟩
 |
  ptr b g j off a bH hg ha hq =>
  exact .ptr b g j off a (by show b<K.length;rw[hK.1];exact bH) (fun g' es e w hr=>hg g' es e w (hK.2 _ _ _ _ _ hr)) (fun es e w hr=>ha es e w (hK.2 _ _ _ _ _ hr)) fun a0 h=>⟨(hq a0 h).1,(hq a0 h).2.1,fun b' g' es e w hr=>(hq a0 h).2.2 b' g' es e w (hK.2 _ _ _ _ _ hr)⟩
 | xT f gD ps _ ih=>exact .xT _ _ _ ih
 | nil=>exact .nil
 | cons x v xs vs _ _ ih Xb=>exact .cons _ _ _ _ ih Xb
theorem VL.kill {V:View} {K:aA} (hK:Wu V.H K) {xs:List VV} {vs:List Value} (h:VL V xs vs):VL { V with H:=K } xs vs:=by
 induction xs generalizing vs with
 | nil=>cases h;exact .nil
 |
  cons x xs ih=>cases h with
  | cons _ v _ vs h hs=>exact .cons _ _ _ _ (h.kill hK) (ih hs)
theorem jE.kill {f:Nat} {args:List VV} {lo:Nat} {H:aA} {P P':VV→aA→Prop} (h:jE f args lo H P) (hk:∀v H',P v H'→∃K,Wu H' K∧P' v K):jE f args lo H P':=by
 intro V fA fC hH hS hl
 obtain⟨pv,V',v,h1,h2,h3,h4,h5⟩:=h V fA fC hH hS hl
 obtain⟨K,hK,h6⟩:=hk _ _ h5
 refine⟨pv,{ V' with H:=K },v,h1,⟨fun b g es e w hb => ?_,fun b g es e hb=>h2.wr b g es e (hK.2 _ _ _ _ _ hb),fun a b g es e w g' oQ e' w' ha hb hm=>h2.inj a b _ _ _ _ _ _ _ _ (hK.2 _ _ _ _ _ ha) (hK.2 _ _ _ _ _ hb) hm,h2.fr,h2.W3,h2.NC⟩,
  { F:=h3.F,P:=h3.P,len:=by show V.H.length≤K.length;rw[hK.1];exact h3.len,row:=fun b g es e w bH hb=>h3.row b g es e w bH (hK.2 _ _ _ _ _ hb),NC:=h3.NC,Hm:=h3.Hm,Ec:=fun b g es e w hb hm=>h3.Ec b g es e w (hK.2 _ _ _ _ _ hb) hm,dC:=h3.dC,E5:=h3.E5 },h4.kill hK,h6⟩
 obtain⟨r,p,j1,j2,j3⟩:=h2.row b g es e w (hK.2 _ _ _ _ _ hb)
 exact⟨r,p,j1,j2,j3.kill hK⟩
theorem FC.aAD {f:Nat} {pf:aU} {args:List VV} {R:Nat→VV→aA→Prop} (fl:Fl) (ht:fQ f=some pf) (hn:args.length≤pf.ntmps)
  (h:∀n,VW fl n pf.body (CW pf.res fun r H'=>∃L,Wu H' (aLn n .dead++L)∧jU n r=true∧mW n L=true∧R n r L) (LU args) (aLn n .dead)):FC f args R :=
 fun n=>(jE.walk fl ht hn (h n)).kill fun _ _ ⟨L,h1,h2,h3,h4⟩=>⟨_,h1,L,rfl,h2,h3,h4⟩
end Go.PM
namespace Go.PM
open Go.ChangeShapes Go.WideShapes Go.ChangeAt Go.RowKit
open Go.Proofs
def GL (W:World):Prop:=∃(rb:Nat) (arr:Array Value) (e:TypeId) (fz:Nat×Nat),W.heap[rb]? = some (.cells arr e fz)
structure Ek (m m':dM) (H L:aI) (W:World) (cs KY:List Value) (vs:List VV):Prop where
 inn:In m' (H++L) W
 ext:∀b l,m b=some l→m' b=some l
 len:KY.length=cs.length
 rv:∀i,i<cs.length→RV m' (KY.getD i Go.undef) (cs.getD i Go.undef)
 sc:∀v∈KY,PM.iP v=true
 tree:VL (bare (· < (H++L).length) (H++L)) vs KY
def Fk {T:Type} (Ac:TypeId×Value→T) (P:Program) (W:World) (t:TypeId) (k:Nat) (S:List VV→Prop):Prop :=
 ∀fuel cs y,DataW.trod Ac P W 0 (fun _=>true) true fuel t cs=some y→∀(m:dM) (H:aI),In m H W→cs.length=k∧∃m' L KY vs,Ek m m' H L W cs KY vs∧S vs
theorem VL.grow {H L:aI} {xs:List VV} {vs:List Value} (h:VL (bare (· < H.length) H) xs vs):VL (bare (· < (H++L).length) (H++L)) xs vs :=
 h.FN fun b hb=>⟨by show b<_;rw[aKI];omega,aKO hb⟩
theorem VL.app {V:View} {xs ys:List VV} {vs ws:List Value} (h:VL V xs vs) (h':VL V ys ws):VL V (xs++ys) (vs++ws):=by
 induction xs generalizing vs with
 | nil=>cases h;exact h'
 |
  cons x xs ih=>cases h with
  | cons _ v _ vs h hs=>exact .cons _ _ _ _ h (ih hs)
theorem KT {cs ds:List Value} {i:Nat} (h:i<cs.length):(cs++ds).getD i Go.undef=cs.getD i Go.undef:=by
 simp only[aKu,aKO h]
theorem Ia {cs ds:List Value} {i:Nat} (h:cs.length≤i):(cs++ds).getD i Go.undef=ds.getD (i-cs.length) Go.undef:=by
 simp only[aKu,aKP h]
theorem Ek.both {m m1 m2:dM} {H L1 L2:aI} {W:World} {cs KY CN aBi:List Value} {vs vs':List VV} (h:Ek m m1 H L1 W cs KY vs) (h':Ek m1 m2 (H++L1) L2 W CN aBi vs'):Ek m m2 H (L1++L2) W (cs++CN) (KY++aBi) (vs++vs'):=by
 refine⟨by rw[←aMj];exact h'.inn,fun b l hb=>h'.ext _ _ (h.ext _ _ hb),by simp[h.len,h'.len],fun i hi => ?_,fun v hv => ?_,?_⟩
 ·rcases aKA i cs.length with bH | Hj
  ·rw[KT bH,KT (by rw[h.len];exact bH)]
   exact(h.rv i bH).mono h'.ext
  ·rw[Ia Hj,Ia (by rw[h.len];exact Hj),h.len]
   exact h'.rv _ (by rw[aKI] at hi;omega)
 ·rcases List.mem_append.1 hv with hv | hv
  ·exact h.sc v hv
  ·exact h'.sc v hv
 ·rw[←aMj]
  exact h.tree.grow.app h'.tree
theorem Ek.none {m:dM} {H:aI} {W:World} (hI:In m H W):Ek m m H [] W [] [] [] :=
 ⟨by rw[aLF];exact hI,fun _ _ h=>h,rfl,fun i hi=>absurd hi (aLO _),fun v hv=>(by cases hv),.nil⟩
theorem Sj {T:Type} {Ac:TypeId×Value→T} {P:Program} {W:World} {t:TypeId} (ht:P.underlying t=some .string):Fk Ac P W t 1 (fun vs=>∃s:ByteArray,s.size≤maxLen∧vs=[.sc (.string s)]):=by
 intro fuel cs y h m H hI
 obtain⟨s,rfl,_,hs⟩:=DataW.trod_string ht h
 refine⟨rfl,m,[],[.string s],[.sc (.string s)],⟨by rw[aLF];exact hI,fun _ _ h=>h,rfl,fun i hi => ?_,fun v hv => ?_,.cons _ _ _ _ (.sc _ rfl) .nil⟩,s,hs,rfl⟩
 ·have:i=0:=by simpa using hi
  subst this
  exact .str s
 ·rw[aLD] at hv
  subst hv
  rfl
theorem N9 {T:Type} {Ac:TypeId×Value→T} {P:Program} {W:World} {e:TypeId} {gR:Nat} {S:List VV→Prop} (ho:Fk Ac P W e gR S):∀(W0:List (List Value)),(∀cs∈W0,∃fuel y,DataW.trod Ac P W 0 (fun _=>true) true fuel e cs=some y)→∀(m:dM) (H:aI),In m H W →
  ∃(m':dM) (L:aI) (KY:List Value) (gs:List (List VV)),Ek m m' H L W W0.flatten KY gs.flatten∧gs.length=W0.length∧(∀g∈gs,S g)∧∀cs∈W0,cs.length=gR
 | [],_,m,H,hI=>⟨m,[],[],[],Ek.none hI,rfl,fun g hg=>(by cases hg),fun cs PO=>(by cases PO)⟩
 |
  cs::W0,h,m,H,hI=>by
  obtain⟨fuel,y,hy⟩:=h cs aK7
  obtain⟨hl,m1,L1,aEh,g,h1,hS⟩:=ho fuel cs y hy m H hI
  obtain⟨m2,L2,aES,gs,h2,h3,h4,h5⟩:=N9 ho W0 (fun cs PO=>h cs (aK6 _ PO)) m1 (H++L1) h1.inn
  refine⟨m2,L1++L2,aEh++aES,g::gs,?_,by simp[h3],fun g' hg' => ?_,fun CN ayJ => ?_⟩
  ·rw[aMk,aMk]
   exact h1.both h2
  ·rcases aLL.1 hg' with rfl | hg'
   ·exact hS
   ·exact h4 _ hg'
  ·rcases aLL.1 ayJ with rfl | ayJ
   ·exact hl
   ·exact h5 _ ayJ
theorem Fp {α:Type} {k:Nat}:∀ {xss:List (List α)},(∀xs∈xss,xs.length=k)→xss.flatten.length=xss.length*k
 | [],_=>by simp
 |
  xs::xss,h=>by
  rw[aMk,aKI,h xs aK7,Fp fun y hy=>h y (aK6 _ hy),aKH,aLm,Nat.add_comm]
theorem Jh {α:Type} {k:Nat}:∀ {xss:List (List α)} (n:Nat),(∀xs∈xss,xs.length=k)→xss.flatten.take (n*k)=(xss.take n).flatten
 | [],n,_=>by simp
 | xs::xss,0,_=>by simp
 |
  xs::xss,n+1,h=>by
  have hl:=h xs aK7
  rw[aMk,aLk,aMk,←Jh n fun y hy=>h y (aK6 _ hy),show (n+1)*k=xs.length+n*k by rw[hl,aLm,Nat.add_comm],List.take_length_add_append]
theorem SP {k:Nat} (hk:1≤k) {W0:List (List Value)} (h:∀cs∈W0,cs.length=k) {i:Nat} (hi:i<W0.length*k):∃cs,W0[i / k]? = some cs∧W0.flatten.getD i Go.undef=cs.getD (i % k) Go.undef:=by
 induction W0 generalizing i with
 | nil=>simp at hi
 |
  cons cs W0 ih =>
  have hl:=h cs aK7
  rw[aMk]
  rcases aKA i k with bH | Hj
  ·refine⟨cs,by rw[aL4 bH];rfl,?_⟩
   rw[KT (by omega),aL1 bH]
  ·obtain⟨c',h1,h2⟩:=ih (fun y hy=>h y (aK6 _ hy)) (i:=i-k) (by rw[aKH,aLm] at hi;omega)
   have e1:i / k=(i-k) / k+1:=by rw[Nat.div_eq_sub_div (by omega) Hj]
   have e2:i % k=(i-k) % k:=by rw[Nat.mod_eq_sub_mod Hj]
   exact⟨c',by rw[e1];exact h1,by rw[Ia (by omega),hl,h2,e2]⟩
theorem MA {T:Type} {Ac:TypeId×Value→T} {α:Type} {f:α→VV} {anY:α→Prop} {P:Program} {W:World} {t e:TypeId} {gR:Nat} (ht:P.underlying t=some (.slice e)) (aE0:P.cellsOf e=gR) (pos:1≤gR) (hB:GL W)
  (hf:∀x,(aB (f x)).length=gR) (ho:Fk Ac P W e gR fun g=>∃x:α,anY x∧g=aB (f x)):Fk Ac P W t 1 fun vs=>∃xs:List α,xs.length≤maxLen∧(∀x∈xs,anY x)∧vs=[aC f xs]:=by
 intro fuel cs y h m H hI
 rcases DataW.trod_slice ht h with⟨rfl,_⟩ | ⟨a,n,c,elems,rest,k,_,rfl,_,_,hnc,hmx,hlen,hE,hR,_⟩
 ·refine⟨rfl,m,[],[.slice none 0 0],[.tree [] .op],⟨by rw[aLF];exact hI,fun _ _ h=>h,rfl,fun i hi => ?_,fun v hv => ?_,.cons _ _ _ _ (.pM _ (.inl rfl)) .nil⟩,[],aK1 _,fun x hx=>(by cases hx),rfl⟩
  ·have:i=0:=by simpa using hi
   subst this
   exact .Nc
  ·rw[aLD] at hv
   subst hv
   rfl
 ·obtain⟨BY,hR⟩:=hR rfl
  have Y3:∀i,i<c→∃cs,W.cells? 0 (a.add (i*gR)) gR=some cs∧∃fuel y,DataW.trod Ac P W 0 (fun _=>true) true fuel e cs=some y:=by
   intro i hi
   have key:∃y,(W.cells? 0 (a.add (i*P.cellsOf e)) (P.cellsOf e)).bind (DataW.trod Ac P W 0 (fun _=>true) true k e)=some y:=by
    rcases aKA i n with bW | bW
    ·exact⟨elems[i]'(by omega),by rw[hE i bW];exact aKE _⟩
    ·have:=hR (i-n) (by omega)
     rw[show n+(i-n)=i by omega] at this
     exact⟨rest[i-n]'(by omega),by rw[this];exact aKE _⟩
   obtain⟨y,hy⟩:=key
   rw[Option.bind_eq_some_iff,aE0] at hy
   obtain⟨cs,h1,h2⟩:=hy
   exact⟨cs,h1,k,y,h2⟩
  obtain⟨W0,mJ,PO⟩:=Zf (fun i cs=>W.cells? 0 (a.add (i*gR)) gR=some cs∧∃fuel y,DataW.trod Ac P W 0 (fun _=>true) true fuel e cs=some y) c Y3
  obtain⟨m1,L1,KY,gs,hO,hgl,hgS,avQ⟩:=N9 ho W0 (fun cs hc=>by
   obtain⟨i,hi⟩:=List.getElem?_of_mem hc
   exact(PO i cs hi).2) m H hI
  obtain⟨xs,hxg,M3⟩:∃xs:List α,(∀x∈xs,anY x)∧gs=xs.map fun x=>aB (f x):=by
   clear hO hgl
   induction gs with
   | nil=>exact⟨[],fun x hx=>(by cases hx),rfl⟩
   |
    cons g gs ih =>
    obtain⟨xs,h1,h2⟩:=ih fun g hg=>hgS g (aK6 _ hg)
    obtain⟨x,h3,h4⟩:=hgS g aK7
    exact⟨x::xs,fun y hy=>by
     rcases aLL.1 hy with rfl | hy
     ·exact h3
     ·exact h1 y hy,by rw[aL9,←h2,h4]⟩
  have hxl:xs.length=c:=by rw[←mJ,←hgl,M3,aMe]
  have Qa:KY.length=c*gR:=by rw[hO.len,Fp avQ,mJ]
  obtain⟨rb,base,arr,e',fz,aBu,Qp,GX⟩:∃(rb base:Nat) (arr:Array Value) (e':TypeId) (fz:Nat×Nat),W.heap[rb]? = some (.cells arr e' fz)∧(c=0→base=0)∧(c≠0→a=⟨rb,base,none⟩):=by
   by_cases h0:c=0
   ·obtain⟨rb,arr,e',fz,hb⟩:=hB
    exact⟨rb,0,arr,e',fz,hb,fun _=>rfl,fun h=>absurd h0 h⟩
   ·obtain⟨cs,h1,_⟩:=Y3 0 (by omega)
    have h2:=(World.cells?_some h1).2
    have h3:=h2.2 0 (by omega)
    rw[aKE (by omega)] at h3
    have:(a.add (0*gR)).add 0=a:=by simp[Addr.add]
    rw[this] at h3
    unfold World.cell? at h3
    split at h3
    ·rename_i arr e' fz hb
     split at h3
     ·cases h3
     ·rename_i Wt
      refine⟨a.block,a.off,arr,e',fz,hb,fun h=>absurd h h0,fun _ => ?_⟩
      obtain⟨b,o,sp⟩:=a
      cases sp with
      | none=>rfl
      | some x=>simp at Wt
    ·cases h3
  have TY:∀i,i<c*gR→W.cell? ⟨rb,base+i,none⟩=some (W0.flatten.getD i Go.undef):=by
   intro i hi
   obtain⟨cs,h1,h2⟩:=SP pos avQ (i:=i) (by rw[mJ];exact hi)
   have h0:c≠0:=by intro h0;rw[h0] at hi;simp at hi
   have ha:=GX h0
   have h3:=(World.cells?_some (PO _ _ h1).1).2
   have hr:i % gR<gR:=Nat.mod_lt _ pos
   have h4:=h3.2 (i % gR) hr
   have Qg:∀o k:Nat,(⟨rb,o,none⟩:Addr).add k=⟨rb,o+k,none⟩:=by
    intro o k
    unfold Addr.add
    split
    ·rename_i h0;subst h0;rfl
    ·rfl
   have YJ:i / gR*gR+i % gR=i:=by rw[aLZ];exact Nat.div_add_mod i gR
   rw[ha,Qg,Qg,Nat.add_assoc,YJ] at h4
   rw[h2,aKu,h4]
   have bH:i % gR<cs.length:=by rw[h3.1];exact hr
   rw[aKE bH]
   rfl
  have xB:base+KY.length≤arr.size:=by
   rw[Qa]
   by_cases h0:c=0
   ·rw[Qp h0,h0];simp
   ·have Qe:1≤c*gR:=Nat.mul_pos (by omega) pos
    have h3:=TY (c*gR-1) (by omega)
    unfold World.cell? at h3
    simp only[aBu,aLc,aK9,if_false] at h3
    have:=(Array.getElem?_eq_some_iff.1 h3).1
    omega
  have Qg:=hO.inn.add (gR:=gR) (cs:=KY) (base:=base) aBu xB (fun i hi=>by
   rw[Qa] at hi
   refine⟨_,TY i hi,(hO.rv i (by rw[Fp avQ,mJ];exact hi)).mono (yF (hO.inn.Ur (aKx _))),?_⟩
   rw[aKu,aKE (by rw[Qa];exact hi)]
   exact hO.sc _ (List.getElem_mem _))
  refine⟨rfl,_,L1++[.row KY gR false],[.slice (some ⟨(H++L1).length,0,none⟩) n c],[aC f (xs.take n)],⟨by rw[←aMj];exact Qg,fun b l hb=>yF (hO.inn.Ur (aKx _)) _ _ (hO.ext b l hb),rfl,fun i hi => ?_,fun v hv => ?_,?_⟩,xs.take n,by rw[aL6];omega,fun x hx=>hxg x (aLu hx),rfl⟩
  ·have:i=0:=by simpa using hi
   subst this
   refine .slice (H++L1).length 0 n c _ _ c (cC _ _ _) hnc (aKx _) (fun _=>rfl) ?_
   by_cases h0:c=0
   ·exact .inl h0
   ·exact .inr ⟨by simpa using GX h0,by simpa[Qa] using xB⟩
  ·rw[aLD] at hv
   subst hv
   rfl
  ·rw[←aMj]
   refine .cons _ _ _ _ ?_ .nil
   have hl:(xs.take n).length=n:=by rw[aL6];omega
   have HC:∀g∈gs,g.length=gR:=fun g hg=>by
    obtain⟨x,_,rfl⟩:=hgS g hg
    exact hf x
   have key:=hO.tree.grow (L:=[Qv.row KY gR false])
   have key:=key.take (n*gR)
   rw[Jh n HC,M3,←List.map_take] at key
   have:=VR.tree (V:=bare (· < (H++L1++[Qv.row KY gR false]).length) (H++L1++[Qv.row KY gR false])) ((xs.take n).map f) .op (H++L1).length 0 c KY gR false (by show (H++L1).length<_;simp) (by show (H++L1++[Qv.row KY gR false])[(H++L1).length]? = _;rw[aKP (aKx _),Nat.sub_self];rfl)
    (by rw[aMe,hl,Qa];simp only[aL5];exact aKY _ hnc) (by rw[aMe,hl];exact hnc) (fun y hy=>by
     obtain⟨x,_,rfl⟩:=aL8.1 hy
     exact hf x) trivial (by rw[aMe,hl,aLJ,List.flatMap_map,List.flatMap_def];exact key)
   rw[aMe,hl] at this
   exact this
theorem Wz {T:Type} {Ac:TypeId×Value→T} {P:Program} {W:World} {t t0 t1 t2:TypeId} {fs:Array Field} {S0 S1 S2:List VV→Prop} (ht:P.underlying t=some (.struct fs)) (hc:P.cellsOf t=3)
  (h0:∃f,fs[0]? = some f∧f.type=t0∧f.offset=0) (h1:∃f,fs[1]? = some f∧f.type=t1∧f.offset=1) (h2:∃f,fs[2]? = some f∧f.type=t2∧f.offset=2) (hs:fs.size=3) (c0:P.cellsOf t0=1) (c1:P.cellsOf t1=1) (c2:P.cellsOf t2=1)
  (o0:Fk Ac P W t0 1 S0) (o1:Fk Ac P W t1 1 S1) (o2:Fk Ac P W t2 1 S2):Fk Ac P W t 3 fun vs=>∃a b c,S0 a∧S1 b∧S2 c∧vs=a++(b++c):=by
 intro fuel cs y h m H hI
 obtain⟨xs,n,_,_,hl,hlen,hf⟩:=DataW.trod_struct ht h
 rw[hc] at hl
 obtain⟨f0,g0,rfl,z0⟩:=h0
 obtain⟨f1,g1,rfl,z1⟩:=h1
 obtain⟨f2,g2,rfl,z2⟩:=h2
 have k0:=hf 0 f0 g0
 have k1:=hf 1 f1 g1
 have k2:=hf 2 f2 g2
 rw[z0,c0,aKE (by omega)] at k0
 rw[z1,c1,aKE (by omega)] at k1
 rw[z2,c2,aKE (by omega)] at k2
 match cs,hl with
 |
  [u,v,w],_ =>
  obtain⟨_,m1,L1,p1,v1,q1,s1⟩:=o0 _ _ _ k0 m H hI
  obtain⟨_,m2,L2,p2,v2,q2,s2⟩:=o1 _ _ _ k1 m1 (H++L1) q1.inn
  obtain⟨_,m3,L3,p3,v3,q3,s3⟩:=o2 _ _ _ k2 m2 (H++L1++L2) q2.inn
  exact⟨rfl,m3,L1++(L2++L3),p1++(p2++p3),v1++(v2++v3),q1.both (q2.both q3),v1,v2,v3,s1,s2,s3,rfl⟩
end Go.PM