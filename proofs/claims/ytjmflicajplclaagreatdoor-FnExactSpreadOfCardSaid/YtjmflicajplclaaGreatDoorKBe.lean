/- Texts of a claim, in one: part 5. -/
import Derived.Test.YtjmflicajplclaaGreatDoorKBd
open And renaming intro → aMh
open Bool renaming and_eq_true → aK9,and_self → aLZ,false_eq_true → aLd
open Int renaming toNat_natCast → aLX
open List renaming all_cons → aLt,all_eq_true → aKP,all_nil → aLV,append_assoc → aMn,append_nil → aLJ,cons_append → aL1,drop_succ_cons → aMm,drop_zero → aLN,eq_of_mem_replicate → aLM,exists_cons_of_ne_nil → aL6,flatten_cons → aMo,getD_cons_succ → aMk,getD_cons_zero → aMj,getD_eq_getElem?_getD → aKy,getElem?_append_left → aKS,getElem?_append_right → aKT,getElem?_cons_succ → aMl,getElem?_cons_zero → aKV,getElem?_eq_getElem → aKI,getElem?_eq_some_iff → aKA,getElem?_take → aLU,getLast?_cons_cons → aL7,length_append → aKM,length_cons → aKL,length_map → aMi,length_nil → aMe,length_take → aMa,mapM_cons → aLY,map_cons → aMd,mem_cons → aLP,mem_cons_of_mem → aLa,mem_cons_self → aLb,mem_map → aMc,mem_of_getElem? → aLv,mem_of_mem_take → aLy,mem_singleton → aLH,nil_append → aLT,replicate → aLr,replicate_succ → aLL,set_append_right → aMg,set_cons_zero → aMf,take_append → aMb,take_of_length_le → aLu,take_succ_cons → aLo
open Nat renaming div_eq_of_lt → aL8,div_lt_self → aL0,le_refl → aKB,le_trans → aKC,lt_of_lt_of_le → aKD,lt_or_ge → aKE,min_eq_left → aLC,mod_eq_of_lt → aL5,mul_comm → aL3,mul_le_mul_right → aK2,not_lt_zero → aLS,pow_succ → aL2,strongRecOn → aL4,succ_mul → aLq,zero_add → aL9,zero_le → aK5
open Option renaming isSome_none → aLg,map_some → aLW
set_option linter.unusedSimpArgs false
set_option linter.unusedVariables false
namespace Go.PM
def VT (f:Nat) (args:List VV) (r:VV):Prop :=
 ∀(F:Nat→Prop) (P:aJ) (fE:List Value) (fD:Nat),(∀b,F b→b<P.length)→VL (bare F P) args fE→fD≤P.length →
  ∃P' pv,uO f fE fD P=some (pv,P')∧P <+: P'∧VR (bare (fun q=>F q∨(P.length≤q∧q<P'.length)) P') r pv
def TA (lo fD:Nat) (V:View) (r:Option (Value×aJ)) (K:VV→aA→Prop):Prop :=
 ∃pv V' v,r=some (pv,V'.P)∧SR V' lo fD∧HF lo V V'∧VR V' v pv∧K v V'.H
def jH (f:Nat) (args:List VV) (lo:Nat) (H:aA) (K:VV→aA→Prop):Prop :=
 ∀(V:View) (fD:Nat) (fE:List Value),V.H=H→SR V lo fD→VL V args fE→TA lo fD V (uO f fE fD V.P) K
theorem jH.mono {f:Nat} {args:List VV} {lo:Nat} {H:aA} {K K':VV→aA→Prop} (hk:∀v H,K v H→K' v H) (h:jH f args lo H K):jH f args lo H K':=by
 intro V fD fE hH hS hl
 obtain⟨pv,V',v,h1,h2,h3,h4,h5⟩:=h V fD fE hH hS hl
 exact⟨pv,V',v,h1,h2,h3,h4,hk _ _ h5⟩
theorem VT.uniq {f:Nat} {args:List VV} {r r':VV} (h:VT f args r) (h':VT f args r') (ha:aO args=true) (hr:hJ r=true) (I3:hJ r'=true):r=r':=by
 obtain⟨P,ps,_,hl⟩:=RW args ha []
 obtain⟨P',pv,h1,_,h2⟩:=h (· < P.length) P ps 0 (fun _ h=>h) hl (aK5 _)
 obtain⟨P'',pv',h3,_,h4⟩:=h' (· < P.length) P ps 0 (fun _ h=>h) hl (aK5 _)
 rw[h1] at h3
 injection h3 with h3
 injection h3 with h3 h5
 subst h3 h5
 exact h2.uniq h4 hr I3
open Classical in
noncomputable def vT (f:Nat) (args:List VV):Option VV:=if h:∃r,aO args=true∧hJ r=true∧VT f args r then some (Classical.choose h) else none
theorem Ss {f:Nat} {args:List VV} {r:VV} (h:vT f args=some r):aO args=true∧hJ r=true∧VT f args r:=by
 unfold vT at h
 split at h
 ·rename_i hx
  cases h
  exact Classical.choose_spec hx
 ·cases h
theorem auZ {f:Nat} {args:List VV} {r:VV} (ha:aO args=true) (hr:hJ r=true) (h:VT f args r):vT f args=some r:=by
 have hx:∃r,aO args=true∧hJ r=true∧VT f args r:=⟨r,ha,hr,h⟩
 unfold vT
 rw[dif_pos hx]
 obtain⟨_,h2,h3⟩:=Classical.choose_spec hx
 rw[h3.uniq h ha h2 hr]
def tk (r:Option VV) (K:VV→Prop):Prop:=match r with
 | some r=>K r
 | none=>False
noncomputable def J4 (f:Nat) (args:List VV) (K:VV→Prop):Prop:=tk (vT f args) K
noncomputable def dI (f:Nat) (args:List VV) (lo:Nat) (H:aA) (K:VV→aA→Prop):Prop :=
 if FH.contains f=true then jH f args lo H K
 else if aO args=true then J4 f args fun r=>K r H
 else match args.mapM (fz depth H) with
  | some mG=>J4 f mG fun r=>if Js r=true then K r H else K r (dD H (args.flatMap (iW depth H)))
  | none=>False
noncomputable def fF (fl:Fl) (lo:Nat) (q:Bool) (op:qH) (ρ:cW) (H:aA) (K:VV→aA→Prop):Prop :=
 match op with
 | .call f args=>dI f (args.map (fN ρ)) (if q then H.length else lo) H K
 |
  .callv fv args=>match fN ρ fv with
  | .xU f gG=>dI f (args.map (fN ρ)++gG) (if q then H.length else lo) H K
  | _=>False
 |
  o=>match vop fl lo o ρ H with
  | some (v,H')=>K v H'
  | none=>False
noncomputable def VS (fl:Fl) (lo:Nat):List PI→(cW→aA→Prop)→cW→aA→Prop
 | [],K,ρ,H=>K ρ H
 |
  i::is,K,ρ,H=>match Eh i.g ρ with
  | none=>False
  | some false=>VS fl lo is K (Nh ρ i.dst tK) H
  | some true=>i.cf.all (fI ρ H)=true∧fF fl lo i.quiet i.op ρ H fun v H'=>VS fl lo is K (Nh ρ i.dst v) H'
def asH:List Nat→cW→aA→Option (cW×aA)
 | [],ρ,H=>some (ρ,H)
 |
  t::ts,ρ,H=>match fz depth H (ρ t) with
  | some v=>asH ts (Nh ρ (some t) v) (dD H (iW depth H (ρ t)))
  | none=>none
def NK (r:Option VV) (H:aA) (K:VV→aA→Prop):Prop:=match r with
 | some v=>K v H
 | none=>False
def gh (K:cW→aA→Prop) (ρ:cW) (H:aA):Prop:=∃ts aQ H',asH ts ρ H=some (aQ,H')∧K aQ H'
def oA (k:Nat) (H:aA):Bool:=H.all fun
 | .row _ es _ _=>oG k es
 | .dead=>true
def sA (k:Nat) (ρ:cW):cW:=fun t=>MJ k (ρ t)
abbrev VQ:=Ex→cW→aA→Prop
def pR (K:cW→aA→Prop) (Q:VQ):VQ
 | .normal=>K
 | x=>Q x
def tH (id:Nat) (Q:VQ):VQ
 | .exit We=>fun ρ H=>if We=id then Q .normal ρ H else Q (.exit We) ρ H
 | x=>Q x
def UL (body:VQ→cW→aA→Prop) (Q:VQ):Nat→cW→aA→Prop
 | 0,_,_=>False
 | n+1,ρ,H=>body (pR (fun aQ H'=>UL body Q n aQ H'∨(oA H.length (H'.take H.length)=true∧UL body Q n (sA H.length aQ) (H'.take H.length))) Q) ρ H
noncomputable def VW (fl:Fl) (lo:Nat):aE→VQ→cW→aA→Prop
 | .skip,Q,ρ,H=>Q .normal ρ H
 | .cU ops,Q,ρ,H=>VS fl lo ops (Q .normal) ρ H
 | .seq a b,Q,ρ,H=>VW fl lo a (pR (VW fl lo b Q) Q) ρ H
 |
  .cond c a b,Q,ρ,H=>match fN ρ c with
  | .sc (.bool t)=>if t=true then VW fl lo a Q ρ H else VW fl lo b Q ρ H
  | _=>False
 | .block id a,Q,ρ,H=>VW fl lo a (tH id Q) ρ H
 | .loop a,Q,ρ,H=>∃n,UL (VW fl lo a) (fun x=>gh (Q x)) n ρ H
 | .exit id,Q,ρ,H=>Q (.exit id) ρ H
 | .ret,Q,ρ,H=>Q .ret ρ H
def Fk (ρ:cW) (H:aA):CY→Option VV
 | .tmp t=>some (ρ t)
 | .cell t agg size=>bH agg size (ρ t) H
def sW (ρ:cW) (H:aA):List CY→Option (List VV)
 | []=>some []
 |
  r::rs=>match Fk ρ H r,sW ρ H rs with
  | some v,some vs=>some (v::vs)
  | _,_=>none
def pJ (res:List CY) (ρ:cW) (H:aA):Option VV :=
 match sW ρ H res with
 | some [v]=>some v
 | some vs=>some (.eJ vs)
 | none=>none
def Kd (R:VV→aA→Prop):Option VV→aA→Prop
 | some v,H=>R v H
 | none,_=>False
def C6 (res:List CY) (R:VV→aA→Prop):VQ
 | .exit _,_,_=>False
 | .normal,ρ,H=>Kd R (pJ res ρ H) H
 | .ret,ρ,H=>Kd R (pJ res ρ H) H
def Mn (args:List VV):cW:=fun k=>args.getD k tK
section
variable {lo fD:Nat}
theorem IE {V:View} (hS:SR V lo fD) {P':aJ} (hp:V.P <+: P'):SR { V with P:=P',F:=fun q=>V.F q∨(V.P.length≤q∧q<P'.length) } lo fD∧HF lo V { V with P:=P',F:=fun q=>V.F q∨(V.P.length≤q∧q<P'.length) }:=by
 obtain⟨L,rfl⟩:=hp
 have hU:Up V { V with P:=V.P++L,F:=fun q=>V.F q∨(V.P.length≤q∧q<(V.P++L).length) }:=⟨fun _ h => .inl h,fun b hb=>aKS (hS.fr b hb),aKB _,fun b g es e w _ h=>⟨g,es,w,h,aKB _,fun _=>rfl⟩,rfl,by simp,fun b g es e w hb _=>⟨g,es,w,hb,rfl,id⟩⟩
 refine⟨⟨fun b g es e w hb => ?_,fun b g es e hb=>⟨fun hF => ?_,(hS.wr b g es e hb).2⟩,hS.inj,fun b hb => ?_,by have:=hS.Xi;simp;omega,by have:=hS.NG;simp;omega⟩,{ hU with dB:=fun q hq _=>aKS hq,Fh:=fun q hq => ?_ }⟩
 ·obtain⟨r,p,h1,h2,h3⟩:=hS.row b g es e w hb
  exact⟨r,p,by rw[←h1];exact aKS (hS.mlt hb),h2,h3.mono hU⟩
 ·rcases hF with hF | hF
  ·exact(hS.wr b g es e hb).1 hF
  ·have h1:=hS.mlt hb
   have h2:V.P.length≤V.m b:=hF.1
   omega
 ·rcases hb with hb | hb
  ·have:=hS.fr b hb
   simp;omega
  ·exact hb.2
 ·rcases hq with hq | hq
  ·exact .inl hq
  ·exact .inr (.inl hq.1)
theorem anS {V V':View} {x:VV} {v:Value} (h:VR V x v):Js x=true→VR V' x v:=by
 induction h using VR.rec (motive_2:=fun xs vs _=>Uh xs=true→VL V' xs vs) with
 | sc _ h=>intro _;exact .sc _ h
 | agg cs ps _ ih=>intro hx;exact .agg _ _ (ih hx)
 | eJ cs ps _ ih=>intro hx;exact .eJ _ _ (ih hx)
 | any=>intro hx;cases hx
 | pP=>intro hx;cases hx
 | tree=>intro hx;cases hx
 | cJ=>intro hx;cases hx
 | ref=>intro hx;cases hx
 | ptr=>intro hx;cases hx
 | xU=>intro hx;cases hx
 | nil=>exact .nil
 |
  cons x v xs vs _ _ ih Yj =>
  rename_i hx
  simp only[Uh,aK9] at hx
  exact .cons _ _ _ _ (ih hx.1) (Yj hx.2)
theorem VR.Gs {V':View} {G:Nat→Prop} {P:aJ} {x:VV} {v:Value} (hF:∀b,G b→V'.F b∧V'.P[b]? = P[b]?) (h:VR (bare G P) x v):VR V' x v:=by
 induction h using VR.rec (motive_2:=fun xs vs _=>VL V' xs vs) with
 | any=>exact .any _
 | sc _ h=>exact .sc _ h
 | agg cs ps _ ih=>exact .agg _ _ ih
 | eJ cs ps _ ih=>exact .eJ _ _ ih
 | pP k hk=>exact .pP k hk
 | tree es k b o c r e p X0 hb ho hc he hk _ ih=>exact .tree es k b o c r e p (hF _ X0).1 (by rw[(hF _ X0).2];exact hb) ho hc he hk ih
 | cJ x off b o r e p X0 hb ho _ ih=>exact .cJ x off b o r e p (hF _ X0).1 (by rw[(hF _ X0).2];exact hb) ho ih
 | ref b g o n c a n' c' bI hg ha hq=>exact absurd bI (aLS _)
 | ptr b g j off a bI hg ha hq=>exact absurd bI (aLS _)
 | xU f gG ps _ ih=>exact .xU _ _ _ ih
 | nil=>exact .nil
 | cons x v xs vs _ _ ih Yj=>exact .cons _ _ _ _ ih Yj
theorem Uo {V:View} (hS:SR V lo fD) {f atL:Nat} (asP:atL≤V.P.length) {args:List VV} {fE:List Value} {G:Nat→Prop} (hG:∀b,G b→b<V.P.length) (hl:VL (bare G V.P) args fE) {K:VV→Prop} (h:J4 f args K) :
  ∃P' pv r,uO f fE atL V.P=some (pv,P')∧V.P <+: P'∧VR (bare (fun q=>G q∨(V.P.length≤q∧q<P'.length)) P') r pv∧bA r=true∧K r:=by
 unfold J4 tk at h
 split at h
 ·rename_i r hr
  obtain⟨h1,h2,h3⟩:=Ss hr
  obtain⟨P',pv,h4,h5,h6⟩:=h3 G V.P fE atL hG hl asP
  exact⟨P',pv,r,h4,h5,h6,V3 r h2,h⟩
 ·cases h
theorem Jg {V:View} (hS:SR V lo fD) {f:Nat} {args:List VV} {fE:List Value} (hl:VL V args fE) {q:Bool} {K:VV→aA→Prop} (h:dI f args (if q then V.H.length else lo) V.H K):TA lo fD V (uO f fE (if q then V.P.length else fD) V.P) K:=by
 have hlq:(if q=true then V.P.length else fD)≤V.P.length:=by split;exact aKB _;exact hS.Xi
 unfold dI at h
 split at h
 ·cases q with
  | false=>exact h V fD fE rfl hS hl
  |
   true =>
   have hS':SR V V.H.length V.P.length:=⟨hS.row,fun b g es e hb=>⟨(hS.wr b g es e hb).1,fun hl=>by have:=(aKA.1 hb).1;omega⟩,hS.inj,hS.fr,aKB _,hS.NG⟩
   obtain⟨pv,V',r,g1,g3,g4,g5,g6⟩:=h V V.P.length fE rfl hS' hl
   refine⟨pv,V',r,g1,⟨g3.row,fun b g es e hb=>⟨(g3.wr b g es e hb).1,fun Hw => ?_⟩,g3.inj,g3.fr,aKC hS.Xi g4.Hm,g3.NG⟩,{ g4.toUp with dB:=fun p hp _=>g4.dB p hp fun b g es e hb Hw => ?_,Fh:=g4.Fh },g5,g6⟩
   ·rcases aKE (V'.m b) V.P.length with bI | Hl
    ·obtain⟨g0,es0,w0,k1,k2,k3⟩:=g4.Es b g es e true hb bI
     have:=k3 rfl
     subst this
     rw[k2]
     exact(hS.wr _ _ _ _ k1).2 Hw
    ·exact aKC hS.Xi Hl
   ·have:=(aKA.1 hb).1
    have Hw:V.H.length≤b:=Hw
    omega
 ·split at h
  ·rename_i hp
   obtain⟨P',pv,r,g1,g2,g3,g4,g5⟩:=Uo hS (atL:=if q=true then V.P.length else fD) hlq (G:=V.F) hS.fr (VL.pure (V:=V) (V':=bare V.F V.P) (fun b hb=>⟨hb,rfl⟩) hl hp) h
   obtain⟨k1,k2⟩:=IE hS g2
   exact⟨pv,_,r,g1,k1,k2,g3.Gs (fun b hb=>⟨hb,rfl⟩),g5⟩
  ·split at h
   case h_2=>cases h
   rename_i mG hfz
   unfold J4 tk at h
   split at h
   case h_2=>cases h
   rename_i r hr
   obtain⟨h1,h2,h3⟩:=Ss hr
   split at h
   ·rename_i hfl
    have Fo:=GG hS (G:=(· < V.P.length)) (fun q hq=>hS.fr q hq) hl hfz (fun i _ g es e w hb=>hS.mlt hb)
    obtain⟨P',pv,g1,g2,g3⟩:=h3 _ V.P fE _ (fun _ h=>h) Fo hlq
    obtain⟨k1,k2⟩:=IE hS g2
    exact⟨pv,_,r,g1,k1,k2,anS g3 hfl,h⟩
   ·obtain⟨k1,k2,k3,k4,k5,k6⟩:=Ac (args.flatMap (iW depth V.H)) hS
    have Fo:=GG hS (G:=(V.dD (args.flatMap (iW depth V.H))).F) (fun q hq=>k2.F q hq) hl hfz k6
    rw[←k4] at Fo
    obtain⟨P',pv,g1,g2,g3⟩:=h3 _ _ fE _ k1.fr Fo (by rw[k4];exact hlq)
    obtain⟨j1,j2⟩:=IE k1 g2
    rw[k4] at g1
    refine⟨pv,_,r,g1,j1,k2.trans j2,g3.Gs (fun b hb=>⟨hb,rfl⟩),?_⟩
    show K r (V.dD (args.flatMap (iW depth V.H))).H
    rw[k3]
    exact h
def CP (lo fD:Nat) (V:View) (c:aE) (Q:VQ) (mR:Env):Prop :=
 W fD c (fun x Qt P'=>∃V' aQ,V'.P=P'∧SR V' lo fD∧HF lo V V'∧ER V' aQ Qt∧Q x aQ V'.H) mR V.P
theorem I6 {V:View} {ρ:cW} {mR:Env} (hE:ER V ρ mR) {g:Option (Nat×Bool)} {t:Bool} (h:Eh g ρ=some t):B8 g mR=some t:=by
 unfold Eh at h
 unfold B8
 split at h
 ·exact h
 ·rename_i t' want
  have ht:=hE t'
  split at h
  ·rename_i b hb
   obtain⟨e,_⟩:=uN ht hb
   simp only[e]
   exact h
  ·rename_i vs hb
   rw[hb] at ht
   generalize hu:mR t'=u at ht
   cases ht with
   | eJ cs ps hl=>simp only[hu];exact h
  ·cases h
theorem Yr {V:View} (hS:SR V lo fD) {x y:VV} {u w:Value} (hx:VR V x u) (hy:VR V y w) (h:kA V.H x y=true):aBj u w=true:=by
 have key:∀ {z:VV} {v:Value},VR V z v→(match nR V.H z with
   | .bad=>True
   | .no=>kV v=none
   | .row i wr=>kV v=some (V.m i)∧∃g es e,V.H[i]? = some (.row g es e wr)
   | .Es i=>∀q,kV v=some q→∀b' g' es e w,V.H[b']? = some (.row g' es e w)→b'≠i→V.m b'≠q
   | .tree=>∀b,kV v=some b→V.F b):=by
  intro z v hz
  cases hz with
  | any=>simp only[nR]
  | sc v h =>
      cases v<;>first | rfl | cases h | skip
      rename_i a;cases a<;>first | rfl | cases h
  | agg=>rfl
  | eJ=>rfl
  | pP k hk =>
       rcases hk with rfl | rfl
       ·intro b hb;cases hb
       ·rfl
  |
   tree es k b o c r e p hF hb ho hc he hk hl =>
   cases es with
   |
    nil=>cases k with
    | nil=>exact hk.elim
    | op=>intro b' xJ;cases xJ;exact hF
    | cl=>intro b' xJ;cases xJ;exact hF
   | cons=>intro b' xJ;cases xJ;exact hF
  | cJ x off b o r e p hF hb ho hl=>intro b' xJ;cases xJ;exact hF
  |
   ref b g o n c a n' c' bI hg ha hq =>
   simp only[nR]
   cases hr:aG V.H b g with
   | none=>exact fun q h=>(by
     cases a with
     | none=>cases h
     | some a0=>cases h;exact(hq a0 rfl).2.2)
   |
    some q =>
    obtain⟨es,e,wr⟩:=q
    rw[cB] at hr
    obtain⟨rfl,rfl,rfl⟩:=ha _ _ _ hr
    exact⟨rfl,g,es,e,hr⟩
  |
   ptr b g j off a bI hg ha hq =>
   simp only[nR]
   cases hr:aG V.H b g with
   | none=>exact fun q h=>(by
     cases a with
     | none=>cases h
     | some a0=>cases h;exact(hq a0 rfl).2.2)
   |
    some q =>
    obtain⟨es,e,wr⟩:=q
    rw[cB] at hr
    have:=ha _ _ _ hr
    subst this
    exact⟨rfl,g,es,e,hr⟩
  | xU=>rfl
 have kx:=key hx
 have ky:=key hy
 unfold kA at h
 unfold aBj
 cases hbx:nR V.H x with
 | bad=>rw[hbx] at h;have h:false=true:=h;cases h
 |
  no =>
  rw[hbx] at kx
  have kx:kV u=none:=kx
  rw[kx]
 |
  Es i =>
  rw[hbx] at kx h
  have kx:∀q,kV u=some q→∀b' g' es e w,V.H[b']? = some (.row g' es e w)→b'≠i→V.m b'≠q:=kx
  cases WG:nR V.H y with
  | bad=>rw[WG] at h;have h:false=true:=h;cases h
  |
   no =>
   rw[WG] at ky
   have ky:kV w=none:=ky
   rw[ky]
   cases kV u<;>rfl
  | Es j=>rw[WG] at h;have h:false=true:=h;cases h
  | tree=>rw[WG] at h;have h:false=true:=h;cases h
  |
   row j wj =>
   rw[WG] at ky h
   obtain⟨k3,g2,Su,e2,k4⟩:kV w=some (V.m j)∧∃g es e,V.H[j]? = some (.row g es e wj):=ky
   have h:(i != j)=true:=h
   simp only[bne_iff_ne,ne_eq] at h
   rw[k3]
   cases hu:kV u with
   | none=>rfl
   |
    some q =>
    simp only[bne_iff_ne,ne_eq]
    exact fun hm=>kx q hu j _ _ _ _ k4 (Ne.symm h) hm.symm
 |
  row i wi =>
  rw[hbx] at kx h
  obtain⟨k1,g1,E4,e1,k2⟩:kV u=some (V.m i)∧∃g es e,V.H[i]? = some (.row g es e wi):=kx
  cases WG:nR V.H y with
  | bad=>rw[WG] at h;have h:false=true:=h;cases h
  |
   no =>
   rw[WG] at ky
   have ky:kV w=none:=ky
   rw[ky]
   cases kV u<;>rfl
  |
   Es j =>
   rw[WG] at ky h
   have ky:∀q,kV w=some q→∀b' g' es e w,V.H[b']? = some (.row g' es e w)→b'≠j→V.m b'≠q:=ky
   have h:(i != j)=true:=h
   simp only[bne_iff_ne,ne_eq] at h
   rw[k1]
   cases hw:kV w with
   | none=>rfl
   |
    some q =>
    simp only[bne_iff_ne,ne_eq]
    exact fun hm=>ky q hw i _ _ _ _ k2 h hm
  |
   row j wj =>
   rw[WG] at ky h
   obtain⟨k3,g2,Su,e2,k4⟩:kV w=some (V.m j)∧∃g es e,V.H[j]? = some (.row g es e wj):=ky
   rw[k1,k3]
   have h:(i != j)=true:=h
   simp only[bne_iff_ne,ne_eq] at h ⊢
   exact fun hm=>h (hS.inj _ _ _ _ _ _ _ _ _ _ k2 k4 hm)
  |
   tree =>
   rw[WG] at ky h
   have ky:∀b,kV w=some b→V.F b:=ky
   have h:wi=true:=h
   subst h
   cases hw:kV w with
   | none=>rw[k1]
   |
    some b =>
    rw[k1]
    simp only[bne_iff_ne,ne_eq]
    exact fun hm=>(hS.wr _ _ _ _ k2).1 (by rw[hm];exact ky b hw)
 |
  tree =>
  rw[hbx] at kx h
  have kx:∀b,kV u=some b→V.F b:=kx
  cases WG:nR V.H y with
  | bad=>rw[WG] at h;have h:false=true:=h;cases h
  |
   no =>
   rw[WG] at ky
   have ky:kV w=none:=ky
   rw[ky]
   cases kV u<;>rfl
  | tree=>rw[WG] at h;have h:false=true:=h;cases h
  | Es j=>rw[WG] at h;have h:false=true:=h;cases h
  |
   row j wj =>
   rw[WG] at ky h
   obtain⟨k1,g1,E4,e1,k2⟩:kV w=some (V.m j)∧∃g es e,V.H[j]? = some (.row g es e wj):=ky
   have h:wj=true:=h
   subst h
   cases hw:kV u with
   | none=>rfl
   |
    some b =>
    rw[k1]
    simp only[bne_iff_ne,ne_eq]
    exact fun hm=>(hS.wr _ _ _ _ k2).1 (by rw[←hm];exact kx b hw)
theorem Uq {V:View} (hS:SR V lo fD) {ρ:cW} {mR:Env} (hE:ER V ρ mR) {fl:Fl} {q:Bool} {op:qH} {K:VV→aA→Prop} (h:fF fl lo q op ρ V.H K):TA lo fD V (lZ fD q op mR V.P) K:=by
 have other:∀ {v H'},vop fl lo op ρ V.H=some (v,H')→K v H'→TA lo fD V (lZ fD q op mR V.P) K:=by
  intro v H' h1 h2
  obtain⟨pv,V',g1,g2,g3,g4,g5⟩:=acI hS hE (q:=q) h1
  exact⟨pv,V',v,g1,g3,g4,g5,by rw[g2];exact h2⟩
 unfold fF at h
 split at h
 ·rw[adI]
  exact Jg hS (hE.evs _) h
 ·rename_i fv args
  rw[X9]
  have hf:=hE.ev fv
  split at h
  ·rename_i f gG hfv
   rw[hfv] at hf
   generalize ev mR fv=u at hf ⊢
   cases hf with
   |
    xU f gG ps hl =>
    unfold akZ
    simp only[aLT]
    exact Jg hS ((hE.evs args).append hl) h
  ·cases h
 ·split at h
  ·rename_i v H' h1
   exact other h1 h
  ·cases h
theorem PC {fl:Fl} {K:cW→aA→Prop}:∀(is:List PI) {V:View} {ρ:cW} {mR:Env},SR V lo fD→ER V ρ mR→VS fl lo is K ρ V.H →
  WS fD is (fun Qt P'=>∃V' aQ,V'.P=P'∧SR V' lo fD∧HF lo V V'∧ER V' aQ Qt∧K aQ V'.H) mR V.P
 |
  [],V,ρ,mR,hS,hE,h=>by
  rw[ayW]
  exact⟨V,ρ,rfl,hS,HF.refl _ _,hE,h⟩
 |
  i::is,V,ρ,mR,hS,hE,h=>by
  unfold VS at h
  rw[aAZ]
  unfold B1
  split at h
  ·cases h
  ·rename_i hw
   rw[I6 hE hw]
   exact⟨_,_,rfl,PC is hS (hE.put (.eJ [] [] .nil)) h⟩
  ·rename_i hw
   rw[I6 hE hw]
   obtain⟨T5,h⟩:=h
   have aDA:i.cf.all (C7 mR)=true:=by
    rw[aKP] at T5 ⊢
    intro c hc
    exact Yr hS (hE.ev c.1) (hE.ev c.2) (T5 c hc)
   simp only[aDA,if_true]
   obtain⟨pv,V',v,g1,g2,g3,g4,g5⟩:=Uq hS hE h
   refine⟨pv,V'.P,?_,?_⟩
   ·unfold lZ at g1
    exact g1
   ·obtain⟨Zy,P'',k1,V5,BZ,k2,k3,k4,k5,k6⟩:=PC is g2 ((hE.mono g3.toUp).put g4) g5
    exact⟨Zy,P'',k1,V5,BZ,k2,k3,g3.trans k4,k5,k6⟩
theorem O8:∀(ts:List Nat) {V:View} {ρ aQ:cW} {mR:Env} {H':aA},SR V lo fD→ER V ρ mR→asH ts ρ V.H=some (aQ,H')→∃V',V'.P=V.P∧V'.H=H'∧SR V' lo fD∧HF lo V V'∧ER V' aQ mR
 |
  [],V,ρ,aQ,mR,H',hS,hE,h=>by
  cases h
  exact⟨V,rfl,rfl,hS,HF.refl _ _,hE⟩
 |
  t::ts,V,ρ,aQ,mR,H',hS,hE,h=>by
  unfold asH at h
  split at h
  case h_2=>cases h
  rename_i v hv
  obtain⟨k1,k2,k3,k4,k5,k6⟩:=Ac (iW depth V.H (ρ t)) hS
  have hx:=OB hS (G:=(V.dD (iW depth V.H (ρ t))).F) (fun q hq=>k2.F q hq) depth (ρ t) v (mR t) (hE t) hv k6
  have Kg:VR (V.dD (iW depth V.H (ρ t))) v (mR t):=hx.Gs (fun b hb=>⟨hb,by rw[k4]⟩)
  rw[←k3] at h
  obtain⟨V',g1,g2,g3,g4,g5⟩:=O8 ts (mR:=mR) k1 (by
   have e:=(hE.mono k2.toUp).put (d:=some t) Kg
   have ee:put mR (some t) (mR t)=mR:=by
    funext k
    simp only[put]
    split
    ·rename_i hk;rw[hk]
    ·rfl
   rw[ee] at e
   exact e) h
  exact⟨V',g1.trans k4,g2,g3,k2.trans g4,g5⟩
theorem WC {V:View} (hS:SR V lo fD) {ρ:cW} {mR:Env} (hE:ER V ρ mR) {K:cW→aA→Prop} (h:gh K ρ V.H):∃V' aQ,V'.P=V.P∧SR V' lo fD∧HF lo V V'∧ER V' aQ mR∧K aQ V'.H:=by
 obtain⟨ts,aQ,H',h1,h2⟩:=h
 obtain⟨V',g1,g2,g3,g4,g5⟩:=O8 ts hS hE h1
 exact⟨V',aQ,g1,g3,g4,g5,by rw[g2];exact h2⟩
theorem OI {k:Nat} {es:List VV}:oG k es=true↔∀x∈es,below k x=true:=by
 induction es with
 | nil=>simp[oG]
 | cons x xs ih=>simp[oG,ih]
theorem FQ {k:Nat} {es:List VV} (h:oG k es=true):oG k (es.flatMap aB)=true:=by
 rw[OI] at h ⊢
 intro x hx
 obtain⟨y,hy,CT⟩:=List.mem_flatMap.1 hx
 have:=h y hy
 unfold aB at CT
 split at CT
 ·exact OI.1 (by simpa[below] using this) x CT
 ·rw[aLH] at CT;subst CT;exact this
theorem WJ {k:Nat} {x:VV} (h:below k x=true):oG k (aB x)=true:=by
 have:=FQ (k:=k) (es:=[x]) (by simp[oG,h])
 simpa using this
def View.Cb (V:View) (k:Nat):View:={ V with H:=V.H.take k }
theorem VR.Cb {V:View} {k:Nat} (hk:k≤V.H.length) {x:VV} {v:Value} (h:VR V x v):PM.below k x=true→VR (V.Cb k) x v:=by
 have he:∀ {b:Nat},b<k→∀y,(V.Cb k).H[b]? = some y→V.H[b]? = some y:=fun ZD y hy=>by
  have:(V.H.take k)[_]? = some y:=hy
  rw[aLU,if_pos ZD] at this
  exact this
 have hT:∀ {b:Nat} {y:fC},(V.Cb k).H[b]? = some y→V.H[b]? = some y:=fun {b y} hy=>by
  have h:(V.H.take k)[b]? = some y:=hy
  rw[aLU] at h
  split at h
  ·exact h
  ·cases h
 induction h using VR.rec (motive_2:=fun xs vs _=>oG k xs=true→VL (V.Cb k) xs vs) with
 | any=>intro _;exact .any _
 | sc _ h=>intro _;exact .sc _ h
 | agg cs ps _ ih=>intro hb;exact .agg _ _ (ih hb)
 | eJ cs ps _ ih=>intro hb;exact .eJ _ _ (ih hb)
 | pP k hk=>intro _;exact .pP k hk
 | tree es k b o c r e p X0 zE ho hc he hk' _ ih=>intro hb;exact .tree es k b o c r e p X0 zE ho hc he hk' (ih (FQ hb))
 | cJ x off b o r e p X0 zE ho _ ih=>intro hb;exact .cJ x off b o r e p X0 zE ho (ih (WJ hb))
 |
  ref b g o n c a n' c' bI hg ha hq =>
  intro hb
  have ZD:b<k:=by simpa[PM.below] using hb
  exact .ref b g o n c a n' c' (by show b<(V.H.take k).length;simp;omega) (fun g' es e w hr=>hg _ _ _ _ (he ZD _ hr)) (fun es e w hr=>ha _ _ _ (he ZD _ hr)) fun a0 h=>⟨(hq a0 h).1,(hq a0 h).2.1,fun b' g' es e w hr=>(hq a0 h).2.2 b' g' es e w (hT hr)⟩
 |
  ptr b g j off a bI hg ha hq =>
  intro hb
  have ZD:b<k:=by simpa[PM.below] using hb
  exact .ptr b g j off a (by show b<(V.H.take k).length;simp;omega) (fun g' es e w hr=>hg _ _ _ _ (he ZD _ hr)) (fun es e w hr=>ha _ _ _ (he ZD _ hr)) fun a0 h=>⟨(hq a0 h).1,(hq a0 h).2.1,fun b' g' es e w hr=>(hq a0 h).2.2 b' g' es e w (hT hr)⟩
 | xU f gG ps _ ih=>intro hb;exact .xU _ _ _ (ih hb)
 | nil=>exact .nil
 |
  cons x v xs vs _ _ ih Yj =>
  rename_i hb
  simp only[oG,aK9] at hb
  exact .cons _ _ _ _ (ih hb.1) (Yj hb.2)
theorem VL.Cb {V:View} {k:Nat} (hk:k≤V.H.length) {xs:List VV} {vs:List Value} (h:VL V xs vs) (hb:oG k xs=true):VL (V.Cb k) xs vs:=by
 induction xs generalizing vs with
 | nil=>cases h;exact .nil
 |
  cons x xs ih=>cases h with
  |
   cons _ v _ vs h hs =>
   simp only[oG,aK9] at hb
   exact .cons _ _ _ _ (h.Cb hk hb.1) (ih hs hb.2)
theorem WI {V V':View} (hS:SR V' lo fD) {ρ:cW} {mR:Env} (hE:ER V' ρ mR) (hx:HF lo V V') (hr:oA V.H.length (V'.H.take V.H.length)=true) :
  SR (V'.Cb V.H.length) lo fD∧HF lo V (V'.Cb V.H.length)∧ER (V'.Cb V.H.length) (sA V.H.length ρ) mR:=by
 have hk:=hx.len
 have get:∀ {b:Nat} {y:fC},(V'.Cb V.H.length).H[b]? = some y→V'.H[b]? = some y:=by
  intro b y h
  have h:(V'.H.take V.H.length)[b]? = some y:=h
  rw[aLU] at h
  split at h
  ·exact h
  ·cases h
 refine⟨⟨fun b g es e w hb => ?_,fun b g es e hb=>hS.wr b g es e (get hb),fun a b g es e w g' oZ e' w' ha hb hm=>hS.inj a b _ _ _ _ _ _ _ _ (get ha) (get hb) hm,hS.fr,hS.Xi,hS.NG⟩,
  { F:=hx.F,P:=hx.P,len:=by show V.H.length≤(V'.H.take V.H.length).length;simp;omega,row:=fun b g es e w bI hb=>hx.row b g es e w bI (get hb),NG:=hx.NG,Hm:=hx.Hm,Es:=fun b g es e w hb hm=>hx.Es b g es e w (get hb) hm,dB:=hx.dB,Fh:=hx.Fh },fun t => ?_⟩
 ·obtain⟨r,p,h1,h2,h3⟩:=hS.row b g es e w (get hb)
  refine⟨r,p,h1,h2,h3.Cb hk (FQ ?_)⟩
  have:=aKP.1 hr _ (aLv (show (V'.H.take V.H.length)[b]? = some _ from hb))
  exact this
 ·unfold sA MJ
  split
  ·rename_i hb
   exact(hE t).Cb hk hb
  ·exact .any _
theorem WT {c:aE} {Q:Ex→Env→aJ→Prop} {ρ:Env} {H:aJ} (h:W fD c (aBE (fun aQ H'=>W fD (.loop c) Q aQ H') Q) ρ H):W fD (.loop c) Q ρ H:=by
 obtain⟨x,aQ,H',h1,h2⟩:=h
 unfold W
 rw[abV,h1]
 cases x with
 |
  normal =>
  obtain⟨y,BZ,W4,h3,h4⟩:=h2
  exact⟨y,BZ,W4,h3,h4⟩
 | exit i=>exact⟨_,_,_,rfl,h2⟩
 | ret=>exact⟨_,_,_,rfl,h2⟩
theorem zN {fl:Fl}:∀(c:aE) {V:View} {ρ:cW} {mR:Env} {Q:VQ},SR V lo fD→ER V ρ mR→VW fl lo c Q ρ V.H→CP lo fD V c Q mR
 |
  .skip,V,ρ,mR,Q,hS,hE,h=>by
  unfold CP
  rw[axR]
  exact⟨V,ρ,rfl,hS,HF.refl _ _,hE,h⟩
 |
  .exit id,V,ρ,mR,Q,hS,hE,h=>by
  unfold CP
  rw[awV]
  exact⟨V,ρ,rfl,hS,HF.refl _ _,hE,h⟩
 |
  .ret,V,ρ,mR,Q,hS,hE,h=>by
  unfold CP
  rw[aCk]
  exact⟨V,ρ,rfl,hS,HF.refl _ _,hE,h⟩
 |
  .cU ops,V,ρ,mR,Q,hS,hE,h=>by
  unfold CP
  rw[aB8]
  exact PC ops hS hE h
 |
  .seq a b,V,ρ,mR,Q,hS,hE,h=>by
  unfold CP
  rw[aAS]
  refine(zN a hS hE h).mono ?_
  rintro x Qt P' ⟨V',aQ,rfl,g2,g3,g4,g5⟩
  cases x with
  |
   normal =>
   refine(zN b g2 g4 g5).mono ?_
   rintro y Zy P'' ⟨V5,BZ,k1,k2,k3,k4,k5⟩
   exact⟨V5,BZ,k1,k2,g3.trans k3,k4,k5⟩
  | exit i=>exact⟨V',aQ,rfl,g2,g3,g4,g5⟩
  | ret=>exact⟨V',aQ,rfl,g2,g3,g4,g5⟩
 |
  .cond c a b,V,ρ,mR,Q,hS,hE,h=>by
  unfold CP
  rw[axO]
  unfold VW at h
  split at h
  ·rename_i t hc
   obtain⟨e,_⟩:=uN (hE.ev c) hc
   refine⟨t,e,fun ht => ?_,fun ht => ?_⟩
   ·rw[if_pos ht] at h
    exact zN a hS hE h
   ·rw[if_neg (by simp[ht])] at h
    exact zN b hS hE h
  ·cases h
 |
  .block id a,V,ρ,mR,Q,hS,hE,h=>by
  unfold CP
  rw[apH]
  refine(zN a hS hE h).mono ?_
  rintro x Qt P' ⟨V',aQ,rfl,g2,g3,g4,g5⟩
  cases x with
  | normal=>exact⟨V',aQ,rfl,g2,g3,g4,g5⟩
  |
   exit i =>
   rw[KP]
   have g5:if i=id then Q .normal aQ V'.H else Q (.exit i) aQ V'.H:=g5
   split at g5
   ·rename_i hi
    rw[if_pos hi]
    exact⟨V',aQ,rfl,g2,g3,g4,g5⟩
   ·rename_i hi
    rw[if_neg hi]
    exact⟨V',aQ,rfl,g2,g3,g4,g5⟩
  | ret=>exact⟨V',aQ,rfl,g2,g3,g4,g5⟩
 |
  .loop a,V,ρ,mR,Q,hS,hE,h=>by
  obtain⟨n,h⟩:=h
  have key:∀n {V:View} {ρ:cW} {mR:Env},SR V lo fD→ER V ρ mR→UL (VW fl lo a) (fun x=>gh (Q x)) n ρ V.H→CP lo fD V (.loop a) Q mR:=by
   intro n
   induction n with
   | zero=>intro V ρ mR _ _ h;cases h
   |
    succ n ih =>
    intro V ρ mR hS hE h
    unfold CP
    refine WT ?_
    refine(zN a hS hE h).mono ?_
    rintro x Qt P' ⟨V',aQ,rfl,g2,g3,g4,g5⟩
    cases x with
    |
     normal =>
     rcases g5 with g5 | ⟨g5,g6⟩
     ·refine(ih g2 g4 g5).mono ?_
      rintro y Zy P'' ⟨V5,BZ,k1,k2,k3,k4,k5⟩
      exact⟨V5,BZ,k1,k2,g3.trans k3,k4,k5⟩
     ·obtain⟨t1,t2,t3⟩:=WI g2 g4 g3 g5
      refine(ih t1 t3 g6).mono ?_
      rintro y Zy P'' ⟨V5,BZ,k1,k2,k3,k4,k5⟩
      exact⟨V5,BZ,k1,k2,t2.trans k3,k4,k5⟩
    |
     exit i =>
     obtain⟨V5,BZ,k1,k2,k3,k4,k5⟩:=WC g2 g4 g5
     exact⟨V5,BZ,k1,k2,g3.trans k3,k4,k5⟩
    |
     ret =>
     obtain⟨V5,BZ,k1,k2,k3,k4,k5⟩:=WC g2 g4 g5
     exact⟨V5,BZ,k1,k2,g3.trans k3,k4,k5⟩
  exact key n hS hE h
theorem AK {V:View} (hS:SR V lo fD) {ρ:cW} {mR:Env} (hE:ER V ρ mR) {res:List CY} {v:VV} (h:pJ res ρ V.H=some v):∃pv,tZ res mR V.P=some pv∧VR V v pv:=by
 have one:∀ {r:CY} {v:VV},Fk ρ V.H r=some v→∃pv,ZT mR V.P r=some pv∧VR V v pv:=by
  intro r v h
  cases r with
  | tmp t=>cases h;exact⟨_,rfl,hE t⟩
  | cell t agg size=>exact PJ hS (hE t) h
 have all:∀ {rs:List CY} {vs:List VV},sW ρ V.H rs=some vs→∃ps,DW mR V.P rs=some ps∧VL V vs ps:=by
  intro rs
  induction rs with
  | nil=>intro vs h;cases h;exact⟨[],rfl,.nil⟩
  |
   cons r rs ih =>
   intro vs h
   unfold sW at h
   split at h
   ·rename_i v vs' h1 h2
    cases h
    obtain⟨pv,k1,k2⟩:=one h1
    obtain⟨ps,k3,k4⟩:=ih h2
    exact⟨pv::ps,by unfold DW;rw[k1,k3],.cons _ _ _ _ k2 k4⟩
   ·cases h
 unfold pJ at h
 split at h
 ·rename_i v' hv
  cases h
  obtain⟨ps,k1,k2⟩:=all hv
  cases k2 with
  |
   cons _ pv _ _ hx Na =>
   cases Na
   exact⟨pv,by unfold tZ;rw[k1],hx⟩
 ·rename_i vs fW hv
  cases h
  obtain⟨ps,k1,k2⟩:=all hv
  refine⟨.tuple ps.toArray,?_,.eJ _ _ k2⟩
  unfold tZ
  rw[k1]
  split
  ·rename_i pv he
   injection he with he
   subst he
   cases k2 with
   | cons x _ _ _ hx Na=>cases Na;exact absurd rfl (fW x)
  ·rename_i he
   injection he with he
   rw[he]
  ·rename_i he;cases he
 ·cases h
theorem Vj {V:View} {args:List VV} {fE:List Value} (h:VL V args fE):ER V (Mn args) (acZ fE):=by
 intro t
 unfold Mn acZ
 rw[aKy,aKy]
 cases hx:args[t]? with
 |
  none =>
  have:fE[t]? = none:=by
   rw[List.getElem?_eq_none_iff] at hx ⊢
   rw[h.length]
   exact hx
  rw[this]
  exact .eJ [] [] .nil
 |
  some x =>
  obtain⟨v,h1,h2⟩:=h.get hx
  rw[h1]
  exact h2
theorem jH.walk {f:Nat} {pf:aU} {args:List VV} {H:aA} {K:VV→aA→Prop} (fl:Fl) (ht:fT f=some pf) (ha:args.length≤pf.ntmps) (h:VW fl lo pf.body (C6 pf.res K) (Mn args) H):jH f args lo H K:=by
 intro V fD fE hH hS hl
 subst hH
 obtain⟨x,Qt,P',h1,V',aQ,rfl,g2,g3,g4,g5⟩:=zN pf.body hS (Vj hl) h
 have key:∃pv P'',uO f fE fD V.P=some (pv,P'')∧P''=V'.P∧∃r,VR V' r pv∧K r V'.H:=by
  refine amZ ht (by rw[hl.length];exact ha) ?_
  refine⟨x,Qt,V'.P,h1,?_⟩
  cases x with
  | exit i=>exact g5.elim
  |
   normal =>
   simp only[C6,Kd] at g5
   split at g5
   ·rename_i v hv
    obtain⟨pv,k2,k3⟩:=AK g2 g4 hv
    exact⟨pv,k2,rfl,v,k3,g5⟩
   ·cases g5
  |
   ret =>
   simp only[C6,Kd] at g5
   split at g5
   ·rename_i v hv
    obtain⟨pv,k2,k3⟩:=AK g2 g4 hv
    exact⟨pv,k2,rfl,v,k3,g5⟩
   ·cases g5
 obtain⟨pv,P'',k1,rfl,r,k2,k3⟩:=key
 exact⟨pv,V',r,k1,g2,g3,k2,k3⟩
theorem VT.walk {f:Nat} {pf:aU} {args:List VV} {r:VV} (fl:Fl) (ht:fT f=some pf) (ha:args.length≤pf.ntmps) (h:VW fl 0 pf.body (C6 pf.res fun v H=>fz depth H v=some r) (Mn args) []):VT f args r:=by
 intro F P fE fD hF hl asP
 have hS:SR (bare F P) 0 fD:=⟨fun b g es e w hb=>by simp[bare] at hb,fun b g es e hb=>by simp[bare] at hb,fun a b g es e w g' oZ e' w' ha=>by simp[bare] at ha,hF,asP,aK5 _⟩
 obtain⟨x,Qt,P',h1,V',aQ,rfl,g2,g3,g4,g5⟩:=zN pf.body hS (Vj hl) h
 have fin:∀ {v:VV} {pv:Value},VR V' v pv→fz depth V'.H v=some r→VR (bare (fun q=>F q∨(P.length≤q∧q<V'.P.length)) V'.P) r pv:=by
  intro v pv hv hf
  refine OB g2 (fun q hq => ?_) depth v r pv hv hf fun i _ g es e w hr => ?_
  ·rcases g3.Fh q hq with h | h | ⟨b,g,es,e,w,h,_⟩
   ·exact .inl h
   ·exact .inr ⟨h,g2.fr q hq⟩
   ·simp[bare] at h
  ·rcases aKE (V'.m i) P.length with bI | Hl
   ·obtain⟨g0,es0,w0,k1,_⟩:=g3.Es i g es e w hr bI
    simp[bare] at k1
   ·exact .inr ⟨Hl,g2.mlt hr⟩
 have key:∃pv P'',uO f fE fD P=some (pv,P'')∧P''=V'.P∧VR (bare (fun q=>F q∨(P.length≤q∧q<V'.P.length)) V'.P) r pv:=by
  refine amZ ht (by rw[hl.length];exact ha) ?_
  refine⟨x,Qt,V'.P,h1,?_⟩
  cases x with
  | exit i=>exact g5.elim
  |
   normal =>
   simp only[C6,Kd] at g5
   split at g5
   ·rename_i v hv
    obtain⟨pv,k2,k3⟩:=AK g2 g4 hv
    exact⟨pv,k2,rfl,fin k3 g5⟩
   ·cases g5
  |
   ret =>
   simp only[C6,Kd] at g5
   split at g5
   ·rename_i v hv
    obtain⟨pv,k2,k3⟩:=AK g2 g4 hv
    exact⟨pv,k2,rfl,fin k3 g5⟩
   ·cases g5
 obtain⟨pv,P'',k1,rfl,k3⟩:=key
 refine⟨V'.P,pv,k1,?_,k3⟩
 refine⟨V'.P.drop P.length,List.ext_getElem? fun i => ?_⟩
 rcases aKE i P.length with hi | hi
 ·rw[aKS hi]
  exact(g3.dB i hi fun b g es e hb=>by simp[bare] at hb).symm
 ·rw[aKT hi,List.getElem?_drop,show P.length+(i-P.length)=i by omega]
end
end Go.PM
namespace Go.PM
section
variable {fl:Fl} {lo:Nat} {ρ:cW} {H:aA} {Q:VQ} {K:cW→aA→Prop} {k:VV→aA→Prop} {a b:aE} {d:Option Nat} {is:List PI} {q:Bool} {op:qH}
def Vi (fl:Fl) (lo:Nat) (d:Option Nat) (is:List PI) (K:cW→aA→Prop) (ρ:cW):VV→aA→Prop:=fun v H'=>VS fl lo is K (Nh ρ d v) H'
def SP (r:Option (VV×aA)) (k:VV→aA→Prop):Prop:=match r with
 | some (v,H')=>k v H'
 | none=>False
theorem R0 {v:VV} {H':aA}:Vi fl lo d is K ρ v H'=VS fl lo is K (Nh ρ d v) H':=rfl
theorem VJ {v:VV}:NK (some v) H k=k v H:=rfl
theorem Sl {v:VV} {H':aA}:SP (some (v,H')) k=k v H':=rfl
theorem aqN {r:VV} {K:VV→Prop}:tk (some r) K=K r:=rfl
theorem Z7:VW fl lo .skip Q ρ H=Q .normal ρ H:=rfl
theorem aaP {i:Nat}:VW fl lo (.exit i) Q ρ H=Q (.exit i) ρ H:=rfl
theorem anW:VW fl lo .ret Q ρ H=Q .ret ρ H:=rfl
theorem akG {ops:List PI}:VW fl lo (.cU ops) Q ρ H=VS fl lo ops (Q .normal) ρ H:=rfl
theorem amC:VW fl lo (.seq a b) Q ρ H=VW fl lo a (pR (VW fl lo b Q) Q) ρ H:=rfl
theorem Ue {i:Nat}:VW fl lo (.block i a) Q ρ H=VW fl lo a (tH i Q) ρ H:=rfl
theorem aaL {c:Operand} {t:Bool} (h:fN ρ c = .sc (.bool t)):VW fl lo (.cond c a b) Q ρ H=if t=true then VW fl lo a Q ρ H else VW fl lo b Q ρ H:=by
 simp only[VW,h]
theorem EK:pR K Q .normal=K:=rfl
theorem HU {i:Nat}:pR K Q (.exit i)=Q (.exit i):=rfl
theorem JU:pR K Q .ret=Q .ret:=rfl
theorem H7 {i:Nat}:tH i Q .normal=Q .normal:=rfl
theorem F0 {i j:Nat}:tH i Q (.exit j) ρ H=if j=i then Q .normal ρ H else Q (.exit j) ρ H:=rfl
theorem PS {i:Nat}:tH i Q .ret=Q .ret:=rfl
theorem JR {res:List CY} {R:VV→aA→Prop}:C6 res R .normal ρ H=Kd R (pJ res ρ H) H:=rfl
theorem QT {res:List CY} {R:VV→aA→Prop}:C6 res R .ret ρ H=Kd R (pJ res ρ H) H:=rfl
theorem Ot {R:VV→aA→Prop} {v:VV}:Kd R (some v) H=R v H:=rfl
theorem Wy {t:Nat}:pJ [.tmp t] ρ H=some (ρ t):=rfl
theorem WW {t u:Nat}:pJ [.tmp t,.tmp u] ρ H=some (.eJ [ρ t,ρ u]):=rfl
theorem OL {t u v:Nat}:pJ [.tmp t,.tmp u,.tmp v] ρ H=some (.eJ [ρ t,ρ u,ρ v]):=rfl
theorem R6:pJ [] ρ H=some (.eJ []):=rfl
theorem akW:VS fl lo [] K ρ H=K ρ H:=rfl
theorem avK:VS fl lo (⟨d,op,none,q,[]⟩::is) K ρ H=fF fl lo q op ρ H (Vi fl lo d is K ρ):=by
 simp only[VS,Eh,aLV,true_and]
 rfl
theorem lU {c:Operand×Operand} {cs:List (Operand×Operand)}:VS fl lo (⟨d,op,none,q,c::cs⟩::is) K ρ H=((c::cs).all (fI ρ H)=true∧fF fl lo q op ρ H (Vi fl lo d is K ρ)):=by
 simp only[VS,Eh]
 rfl
theorem W5 {t:Nat} {want x:Bool} {cf:List (Operand×Operand)} (h:ρ t = .sc (.bool x)):VS fl lo (⟨d,op,some (t,want),q,cf⟩::is) K ρ H =
  if (x == want)=true then (cf.all (fI ρ H)=true∧fF fl lo q op ρ H (Vi fl lo d is K ρ)) else VS fl lo is K (Nh ρ d tK) H:=by
 simp only[VS,Eh,h]
 cases (x == want)<;>rfl
theorem ajI {t:Nat} {want:Bool} (h:ρ t = .sc (.bool want)):VS fl lo (⟨d,op,some (t,want),q,[]⟩::is) K ρ H=fF fl lo q op ρ H (Vi fl lo d is K ρ):=by
 rw[W5 h]
 simp
theorem avC {t:Nat} {want:Bool} {cf:List (Operand×Operand)} (h:ρ t = .sc (.bool (!want))):VS fl lo (⟨d,op,some (t,want),q,cf⟩::is) K ρ H=VS fl lo is K (Nh ρ d tK) H:=by
 rw[W5 h]
 cases want<;>rfl
theorem Y4 {c:Operand} (h:fN ρ c = .sc (.bool true)):VW fl lo (.cond c a b) Q ρ H=VW fl lo a Q ρ H:=by
 rw[aaL h,if_pos rfl]
theorem Vv {c:Operand} (h:fN ρ c = .sc (.bool false)):VW fl lo (.cond c a b) Q ρ H=VW fl lo b Q ρ H:=by
 rw[aaL h,if_neg (by decide)]
theorem Me {t:Nat} {want:Bool} {cf:List (Operand×Operand)} (h:ρ t=tK):VS fl lo (⟨d,op,some (t,want),q,cf⟩::is) K ρ H=VS fl lo is K (Nh ρ d tK) H:=by
 simp only[VS,Eh,h,tK]
theorem zX {d t:Nat} {v:VV}:Nh ρ (some d) v t=if t=d then v else ρ t:=rfl
theorem Sj {v:VV}:Nh ρ none v=ρ:=rfl
theorem aaD {t:Nat}:fN ρ (.tmp t)=ρ t:=rfl
theorem RZ {v:Value}:fN ρ (.const v)=inj v:=rfl
theorem Wi {f:Nat}:fN ρ (.func f) = .xU f []:=rfl
theorem ZM {k:IntKind} {n:Int}:inj (.int k n) = .sc (.int k n):=rfl
theorem V7 {t:Bool}:inj (.bool t) = .sc (.bool t):=rfl
theorem Zx {s:ByteArray}:inj (.string s) = .sc (.string s):=rfl
theorem abH:inj (.slice none 0 0) = .tree [] .nil:=rfl
theorem ZL {cs:Array Value}:inj (.agg cs) = .agg (cs.toList.map kX):=rfl
theorem Vx {k:IntKind} {n:Int}:kX (.int k n) = .sc (.int k n):=rfl
theorem RC {t:Bool}:kX (.bool t) = .sc (.bool t):=rfl
theorem UJ {s:ByteArray}:kX (.string s) = .sc (.string s):=rfl
theorem Vs:kX (.slice none 0 0) = .tree [] .nil:=rfl
theorem ahI {x:Operand}:fF fl lo q (.mv x) ρ H k=k (fN ρ x) H:=rfl
theorem jN {r:Option VV}:(match r.map (fun v=>(v,H)) with | some (v,H')=>k v H' | none=>False)=NK r H k:=by cases r<;>rfl
theorem VM {c x y:Operand}:fF fl lo q (.pick c x y) ρ H k=NK (UC (fN ρ c) (fN ρ x) (fN ρ y)) H k:=jN
theorem ZE {o:BinOp} {x y:Operand}:fF fl lo q (.bin o x y) ρ H k=NK (Lk (dK o) (fN ρ x) (fN ρ y)) H k:=jN
theorem ZJ {n:Bool} {x y:Operand}:fF fl lo q (.eqb n x y) ρ H k=NK (Lk (Oc n) (fN ρ x) (fN ρ y)) H k:=jN
theorem R5 {n:Bool} {x:Operand}:fF fl lo q (.isnil n x) ρ H k=NK (IW n (fN ρ x) H) H k:=jN
theorem RN {n:Bool} {ks:List CK} {x y:Operand}:fF fl lo q (.eqagg n ks x y) ρ H k=NK (XR n ks (fN ρ x) (fN ρ y)) H k:=jN
theorem alM {o:UnOp} {x:Operand}:fF fl lo q (.un o x) ρ H k=NK (PX (pun o) (fN ρ x)) H k:=jN
theorem aaR {o:IntKind} {x:Operand}:fF fl lo q (.cvt o x) ρ H k=NK (PX (Xx o) (fN ρ x)) H k:=jN
theorem ZQ {x:Operand}:fF fl lo q (.cvs x) ρ H k=NK (PX acX (fN ρ x)) H k:=jN
theorem abI {x:Operand} {i:Nat}:fF fl lo q (.ext x i) ρ H k=NK (amQ i (fN ρ x)) H k:=jN
theorem ZX {g:Bool} {off size:Nat} {x:Operand}:fF fl lo q (.fld g off size x) ρ H k=NK (arN g off size (fN ρ x)) H k:=jN
theorem RP {z:List Value} {places:List (Nat×Nat)} {parts:List (Nat×Operand)}:fF fl lo q (.build z places parts) ρ H k=NK ((AX places (z.map kX) (parts.map fun(i,x)=>(i,fN ρ x))).map .agg) H k:=by
 show (match (AX places (z.map kX) (parts.map fun(i,x)=>(i,fN ρ x))).map fun cs=>(VV.agg cs,H) with | some (v,H')=>k v H' | none=>False)=_
 cases AX places (z.map kX) (parts.map fun(i,x)=>(i,fN ρ x))<;>rfl
theorem Zn {x:Operand}:fF fl lo q (.chk x) ρ H k=NK (Nx (fN ρ x) H) H k:=jN
theorem Sk {off:Nat} {x:Operand}:fF fl lo q (.faddr off x) ρ H k=NK (xW off (fN ρ x) H) H k:=jN
theorem R4 {size:Nat} {x i:Operand}:fF fl lo q (.iaddr size x i) ρ H k=NK (bK size (fN ρ x) (fN ρ i) H) H k:=jN
theorem Vc {x i:Operand}:fF fl lo q (.sidx x i) ρ H k=NK (Lk Kf (fN ρ x) (fN ρ i)) H k:=jN
theorem UH {x:Operand} {l h:Option Operand}:fF fl lo q (.ssub x l h) ρ H k=NK (zU (fN ρ x) (l.map (fN ρ)) (h.map (fN ρ))) H k:=jN
theorem Wk {f:Nat} {gG:List Operand}:fF fl lo q (.mkfn f gG) ρ H k=k (.xU f (gG.map (fN ρ))) H:=rfl
theorem Zi {x:Operand}:fF fl lo q (.len x) ρ H k=NK (rL (fN ρ x) H) H k:=jN
theorem Va {x:Operand}:fF fl lo q (.slen x) ρ H k=NK (PX Dk (fN ρ x)) H k:=jN
theorem abA {x y:Operand}:fF fl lo q (.min x y) ρ H k=NK (Lk WY (fN ρ x) (fN ρ y)) H k:=jN
theorem abE {x y:Operand}:fF fl lo q (.max x y) ρ H k=NK (Lk Wo (fN ρ x) (fN ρ y)) H k:=jN
theorem Ub {g:Bool} {size:Nat} {p:Operand}:fF fl lo q (.load g size p) ρ H k=NK (bH g size (fN ρ p) H) H k:=jN
theorem aaM {size:Nat} {x:Operand} {l h m:Option Operand}:fF fl lo q (.sub size x l h m) ρ H k=NK (Hq size (fN ρ x) (l.map (fN ρ)) (h.map (fN ρ)) (m.map (fN ρ)) H) H k:=jN
theorem aaW {z:List Value}:fF fl lo q (.new z) ρ H k=SP (if (z.map kX).all bN then some (.ptr H.length 0 0 0,H++[.row 0 [elemOf (z.map kX)] z.length true]) else none) k:=rfl
theorem Y8 {x:Operand}:fF fl lo q (.box x) ρ H k=SP (if (aB (fN ρ x)).all bN then (if fl.bf then some (.cJ (fN ρ x) 0,H) else some (.ptr H.length 0 0 0,H++[.row 0 [fN ρ x] (aB (fN ρ x)).length true])) else none) k:=rfl
theorem U2 {z:List Value} {bytes:Nat} {l c:Operand}:fF fl lo q (.make z bytes l c) ρ H k=SP (if (z.map kX).all bN then BA z bytes (fN ρ l) (fN ρ c) H else none) k:=rfl
theorem Za {z:List Value} {n:Nat} {parts:List (Nat×Operand)}:fF fl lo q (.lit z n parts) ρ H k=SP (mW fl.lr z n (parts.map fun(i,x)=>(i,fN ρ x)) H) k:=rfl
def aaY (r:Option aA) (k:VV→aA→Prop):Prop:=match r with
 | some H'=>k tK H'
 | none=>False
theorem OY {H':aA}:aaY (some H') k=k tK H':=rfl
theorem Q9 {r:Option aA}:(match r.map (fun H'=>(tK,H')) with | some (v,H')=>k v H' | none=>False)=aaY r k:=by cases r<;>rfl
theorem RF {size:Nat} {p v:Operand}:fF fl lo q (.store size p v) ρ H k=aaY (bL lo size (fN ρ p) (fN ρ v) H) k:=Q9
def aBA (lo size bytes:Nat) (x:VV) (new:Option (List VV)) (H:aA) (k:VV→aA→Prop):Prop:=match new with
 | some new=>SP (dR lo size bytes x new H) k
 | none=>False
theorem QW {size bytes:Nat} {x:VV} {new:List VV}:aBA lo size bytes x (some new) H k=SP (dR lo size bytes x new H) k:=rfl
theorem abK {size bytes:Nat} {x y:Operand}:fF fl lo q (.app size bytes x y) ρ H k=aBA lo size bytes (fN ρ x) (cZ size (fN ρ y) H) H k:=by
 show (match (match cZ size (fN ρ y) H with | some new=>dR lo size bytes (fN ρ x) new H | none=>none) with | some (v,H')=>k v H' | none=>False)=_
 cases cZ size (fN ρ y) H<;>rfl
theorem VH {size:Nat} {x y:Operand}:fF fl lo q (.copy size x y) ρ H k=SP (MU lo size (fN ρ x) (fN ρ y) H) k:=rfl
theorem Rl {z:List Value} {x:Operand}:fF fl lo q (.clear z x) ρ H k=aaY (Tz lo z (fN ρ x) H) k:=Q9
theorem V4 {f:Nat} {args:List Operand}:fF fl lo q (.call f args) ρ H k=dI f (args.map (fN ρ)) (if q then H.length else lo) H k:=rfl
noncomputable def Yl (x:VV) (args:List VV) (lo:Nat) (H:aA) (k:VV→aA→Prop):Prop:=match x with
 | .xU f gG=>dI f (args++gG) lo H k
 | _=>False
theorem D0 {f:Nat} {gG args:List VV}:Yl (.xU f gG) args lo H k=dI f (args++gG) lo H k:=rfl
theorem QR {fv:Operand} {args:List Operand}:fF fl lo q (.callv fv args) ρ H k=Yl (fN ρ fv) (args.map (fN ρ)) (if q then H.length else lo) H k:=by
 simp only[fF,Yl]
 all_goals (cases fN ρ fv<;>rfl)
theorem ZS {x:Operand}:fF fl lo q (.b2s x) ρ H k=SP (vop fl lo (.b2s x) ρ H) k:=rfl
theorem aaJ {f:Value→Option Value} {x:Value}:PX f (.sc x)=(f x).map .sc:=rfl
theorem aaK {f:Value→Value→Option Value} {x y:Value}:Lk f (.sc x) (.sc y)=(f x y).map .sc:=rfl
theorem U4 {t:Bool} {x y:VV}:UC (.sc (.bool t)) x y=some (if t=true then x else y):=rfl
theorem Vm {vs:List VV} {i:Nat}:amQ i (.eJ vs)=vs[i]? := rfl
theorem Rq {es:List VV} {t:TK}:rL (.tree es t) H=some (.sc (.int .i64 es.length)):=rfl
theorem eK {b g o n c:Nat} {r:List VV×Nat×Bool} (h:aG H b g=some r):rL (.ref b g o n c) H=some (.sc (.int .i64 n)):=by
 simp only[rL,h,aLW]
theorem UP {x:VV} {o off:Nat}:xW off (.cJ x o) H=some (.cJ x (o+off)):=rfl
theorem Gp {b g j o off:Nat} {r:List VV×Nat×Bool} (h:aG H b g=some r):xW off (.ptr b g j o) H=some (.ptr b g j (o+off)):=by
 simp only[xW,h,aLW]
theorem anI {x:VV} {o:Nat}:Nx (.cJ x o) H=some (.cJ x o):=rfl
theorem NP {g:Bool} {size o:Nat} {x:VV}:bH g size (.cJ x o) H=dP g size x o:=rfl
theorem S7 {g:Bool} {size b gn j o:Nat} {es:List VV} {e:Nat} {w:Bool} {x:VV} (h:aG H b gn=some (es,e,w)) (hx:es[j]? = some x):bH g size (.ptr b gn j o) H=dP g size x o:=by
 simp only[bH,h,hx]
theorem ahV {size:Nat} {v:Value}:dP false size (.sc v) 0=some (.sc v):=rfl
theorem Zb {size:Nat} {es:List VV} {t:TK}:dP false size (.tree es t) 0=some (.tree es t):=rfl
theorem ahD {size b g o n c:Nat}:dP false size (.ref b g o n c) 0=some (.ref b g o n c):=rfl
theorem akI {size f:Nat} {gG:List VV}:dP false size (.xU f gG) 0=some (.xU f gG):=rfl
theorem dW {size o:Nat} {cs:List VV}:dP false size (.agg cs) o=cs[o]? := rfl
theorem alK {size:Nat} {cs:List VV} (h:cs.length=size):dP true size (.agg cs) 0=some (.agg cs):=by
 subst h
 simp[dP,aB]
theorem aoA {size:Nat} {es:List VV} {t:TK} {kk:IntKind} {i:Int} {x:VV} (h0:0≤i) (hx:es[i.toNat]? = some x) (hs:(aB x).length=size):bK size (.tree es t) (.sc (.int kk i)) H=some (.cJ x 0):=by
 simp only[bK,h0,hx,hs,if_true]
theorem acO {size:Nat} {es:List VV} {t:TK} {kk:IntKind} {i:Nat} {x:VV} (hx:es[i]? = some x) (hs:(aB x).length=size):bK size (.tree es t) (.sc (.int kk (i:Int))) H=some (.cJ x 0) :=
 aoA (by omega) (by simpa using hx) hs
theorem ajZ {size b g o n c:Nat} {kk:IntKind} {i:Int} {es:List VV} {w:Bool} (h:aG H b g=some (es,size,w)) (h0:0≤i) (h1:i<n):bK size (.ref b g o n c) (.sc (.int kk i)) H=some (.ptr b g (o+i.toNat) 0):=by
 simp only[bK,h]
 rw[if_pos ⟨trivial,h0,h1⟩]
theorem acN {size b g o n c:Nat} {kk:IntKind} {i:Nat} {es:List VV} {w:Bool} (h:aG H b g=some (es,size,w)) (h1:i<n):bK size (.ref b g o n c) (.sc (.int kk (i:Int))) H=some (.ptr b g (o+i) 0):=by
 rw[ajZ h (by omega) (by omega),aLX]
abbrev TC (f:Nat) (args:List VV) (r:VV):Prop:=∀(lo:Nat) (H:aA) (k:VV→aA→Prop),dI f args lo H k=k r H
theorem TC.of {f:Nat} {args:List VV} {r:VV} (hr:FH.contains f=false) (ha:aO args=true) (h:vT f args=some r):TC f args r:=by
 intro lo H k
 unfold dI J4
 simp only[hr,ha,if_true,h,aLd,if_false,aqN]
theorem TC.walk {f:Nat} {pf:aU} {args:List VV} {r:VV} (fl:Fl) (ht:fT f=some pf) (hr:FH.contains f=false) (hn:args.length≤pf.ntmps) (ha:aO args=true) (Xs:hJ r=true) (h:VW fl 0 pf.body (C6 pf.res fun v H=>fz depth H v=some r) (Mn args) []):TC f args r :=
 TC.of hr ha (auZ ha Xs (VT.walk fl ht hn h))
theorem TC.Dq {f:Nat} {args mG:List VV} {r:VV} (h:TC f mG r) (hr:FH.contains f=false) (ha':aO mG=true) (hf:args.mapM (fz depth H)=some mG) (ha:aO args=false):dI f args lo H k=if Js r=true then k r H else k r (dD H (args.flatMap (iW depth H))):=by
 have e:∀K,J4 f mG K=K r:=fun K=>by
  have:=h 0 [] fun r _=>K r
  unfold dI at this
  simpa only[hr,ha',if_true,aLd,if_false] using this
 unfold dI
 simp only[hr,ha,hf,aLd,if_false]
 rw[e]
theorem aN {n:Nat} {v:VV} (h:bA v=true):fz (n+1) H v=some v:=by
 unfold PM.fz
 rw[if_pos h]
theorem aL {v:VV} (h:bA v=true):fz depth H v=some v:=aN h
theorem mapM_pure {n:Nat}:∀ {es:List VV},aO es=true→es.mapM (PM.fz (n+1) H)=some es
 | [],_=>rfl
 |
  x::xs,h=>by
  simp only[aO,aK9] at h
  rw[aLY,aN h.1,mapM_pure h.2]
  rfl
theorem II {b g n c e:Nat} {es:List VV} {w:Bool} (h:aG H b g=some (es,e,w)) (hn:n=es.length) (hc:n≤c) (hp:aO es=true):fz depth H (.ref b g 0 n c)=some (.tree es .op):=by
 have:bA (.ref b g 0 n c)=false:=rfl
 show fz (7+1) H _=_
 unfold PM.fz
 simp only[this,h,aLd,if_false]
 subst hn
 rw[if_pos ⟨by omega,hc⟩,aLN,List.take_length,mapM_pure hp]
 rfl
theorem Ek {n:Nat} {v:VV} (h:bA v=true):iW n H v=[]:=by
 cases n with
 | zero=>rfl
 | succ n=>unfold iW;rw[if_pos h]
theorem AA {n:Nat}:∀ {es:List VV},aO es=true→es.flatMap (iW n H)=[]
 | [],_=>rfl
 |
  x::xs,h=>by
  simp only[aO,aK9] at h
  rw[List.flatMap_cons,Ek h.1,AA h.2]
  rfl
theorem Kq {b g n c e:Nat} {es:List VV} {w:Bool} (h:aG H b g=some (es,e,w)) (hn:n=es.length) (hp:aO es=true):iW depth H (.ref b g 0 n c)=[b]:=by
 have:bA (.ref b g 0 n c)=false:=rfl
 show iW (7+1) H _=_
 unfold iW
 simp only[this,h,aLd,if_false]
 subst hn
 rw[aLN,List.take_length,AA hp]
theorem Zr {r:Option VV} {K K':VV→Prop} (hk:∀v,K v→K' v) (h:tk r K):tk r K':=by
 cases r with
 | none=>exact h
 | some v=>exact hk _ h
theorem L9 {f:Nat} {args:List VV} {k k':VV→aA→Prop} (hk:∀v H,k v H→k' v H) (h:dI f args lo H k):dI f args lo H k':=by
 unfold dI at h ⊢
 split at h
 ·rename_i h1
  rw[if_pos h1]
  exact h.mono hk
 ·rename_i h1
  rw[if_neg h1]
  split at h
  ·rename_i h2
   rw[if_pos h2]
   exact Zr (fun v=>hk v H) h
  ·rename_i h2
   rw[if_neg h2]
   split at h
   ·refine Zr (fun v hv => ?_) h
    split at hv
    ·rename_i h3;rw[if_pos h3];exact hk _ _ hv
    ·rename_i h3;rw[if_neg h3];exact hk _ _ hv
   ·cases h
theorem Yi {k k':VV→aA→Prop} (hk:∀v H,k v H→k' v H) (h:fF fl lo q op ρ H k):fF fl lo q op ρ H k':=by
 unfold fF at h ⊢
 split at h
 ·exact L9 hk h
 ·split at h
  ·exact L9 hk h
  ·cases h
 ·split at h
  ·exact hk _ _ h
  ·cases h
theorem SS {K K':cW→aA→Prop} (hk:∀ρ H,K ρ H→K' ρ H):∀ {is:List PI} {ρ:cW} {H:aA},VS fl lo is K ρ H→VS fl lo is K' ρ H
 | [],ρ,H,h=>hk _ _ h
 |
  i::is,ρ,H,h=>by
  unfold VS at h ⊢
  split at h
  ·cases h
  ·exact SS hk h
  ·exact⟨h.1,Yi (fun v H' hv=>SS hk hv) h.2⟩
theorem tU {K K':cW→aA→Prop} {Q Q':VQ} (hk:∀ρ H,K ρ H→K' ρ H) (hq:∀x ρ H,Q x ρ H→Q' x ρ H):∀x ρ H,pR K Q x ρ H→pR K' Q' x ρ H
 | .normal,ρ,H,h=>hk _ _ h
 | .exit _,ρ,H,h=>hq _ _ _ h
 | .ret,ρ,H,h=>hq _ _ _ h
theorem arW {K K':cW→aA→Prop} (hk:∀ρ H,K ρ H→K' ρ H) (h:gh K ρ H):gh K' ρ H:=by
 obtain⟨ts,aQ,H',h1,h2⟩:=h
 exact⟨ts,aQ,H',h1,hk _ _ h2⟩
theorem AN:∀ {c:aE} {Q Q':VQ} {ρ:cW} {H:aA},(∀x ρ H,Q x ρ H→Q' x ρ H)→VW fl lo c Q ρ H→VW fl lo c Q' ρ H
 | .skip,_,_,_,_,hq,h=>hq _ _ _ h
 | .exit _,_,_,_,_,hq,h=>hq _ _ _ h
 | .ret,_,_,_,_,hq,h=>hq _ _ _ h
 | .cU _,_,_,_,_,hq,h=>SS (fun ρ H=>hq .normal ρ H) h
 | .seq a b,Q,Q',_,_,hq,h=>AN (c:=a) (tU (fun ρ H h=>AN (c:=b) hq h) hq) h
 |
  .cond c a b,Q,Q',ρ,H,hq,h=>by
  unfold VW at h ⊢
  split at h
  ·split at h
   ·rename_i h1;rw[if_pos h1];exact AN (c:=a) hq h
   ·rename_i h1;rw[if_neg h1];exact AN (c:=b) hq h
  ·cases h
 |
  .block i a,Q,Q',_,_,hq,h=>by
  refine AN (c:=a) (fun x ρ H hx => ?_) h
  cases x with
  | normal=>exact hq _ _ _ hx
  | ret=>exact hq _ _ _ hx
  |
   exit j =>
   rw[F0] at hx ⊢
   split at hx
   ·rename_i h1;rw[if_pos h1];exact hq _ _ _ hx
   ·rename_i h1;rw[if_neg h1];exact hq _ _ _ hx
 |
  .loop a,Q,Q',ρ,H,hq,h=>by
  obtain⟨n,h⟩:=h
  refine⟨n,?_⟩
  induction n generalizing ρ H with
  | zero=>cases h
  |
   succ n ih =>
   refine AN (c:=a) (tU (fun ρ H h => ?_) fun x ρ H h=>arW (hq x) h) h
   rcases h with h | ⟨h1,h2⟩
   ·exact .inl (ih _ _ h)
   ·exact .inr ⟨h1,ih _ _ h2⟩
theorem avG {K:cW→aA→Prop} (h:K ρ H):gh K ρ H:=⟨[],ρ,H,rfl,h⟩
theorem VU {α:Type} {c:aE} (I:α→cW→aA→Prop) (μ:α→Nat) (s:α) (h0:I s ρ H)
  (round:∀s ρ H,I s ρ H→VW fl lo c (pR (fun aQ H'=>∃s',μ s'<μ s∧(I s' aQ H'∨(oA H.length (H'.take H.length)=true∧I s' (sA H.length aQ) (H'.take H.length)))) (fun x=>gh (Q x))) ρ H):VW fl lo (.loop c) Q ρ H:=by
 refine⟨μ s+1,?_⟩
 have key:∀n s ρ H,μ s<n→I s ρ H→UL (VW fl lo c) (fun x=>gh (Q x)) n ρ H:=by
  intro n
  induction n with
  | zero=>intro s ρ H h;omega
  |
   succ n ih =>
   intro s ρ H hn hI
   refine AN (tU (fun aQ H' h => ?_) fun x ρ H h=>h) (round s ρ H hI)
   obtain⟨s',h1,h2 | ⟨h2,h3⟩⟩:=h
   ·exact .inl (ih s' _ _ (by omega) h2)
   ·exact .inr ⟨h2,ih s' _ _ (by omega) h3⟩
 exact key _ s ρ H (Nat.lt_succ_self _) h0
theorem aP {α:Type} {c:aE} (I:α→cW→aA→Prop) (μ:α→Nat) (s:α) (h0:I s ρ H)
  (round:∀s ρ H,I s ρ H→VW fl lo c (pR (fun aQ H'=>∃s',μ s'<μ s∧I s' aQ H') Q) ρ H):VW fl lo (.loop c) Q ρ H :=
 VU I μ s h0 fun s ρ H h=>AN (tU (fun _ _ ⟨s',h1,h2⟩=>⟨s',h1,.inl h2⟩) fun _ _ _ h=>avG h) (round s ρ H h)
theorem OS {α:Type} {c:aE} (I:α→cW→aA→Prop) (μ:α→Nat) (s:α) (h0:I s ρ H)
  (round:∀s ρ H,I s ρ H→VW fl lo c (pR (fun aQ H'=>∃s',μ s'<μ s∧oA H.length (H'.take H.length)=true∧I s' (sA H.length aQ) (H'.take H.length)) Q) ρ H):VW fl lo (.loop c) Q ρ H :=
 VU I μ s h0 fun s ρ H h=>AN (tU (fun _ _ ⟨s',h1,h2⟩=>⟨s',h1,.inr h2⟩) fun _ _ _ h=>avG h) (round s ρ H h)
theorem PN {n:Nat} {v:VV} (h:below n v=true):MJ n v=v:=by
 unfold MJ
 rw[if_pos h]
mutual
theorem Ic {n:Nat} (v:VV) (h:bA v=true):below n v=true:=by
 cases v with
 | any=>rfl
 | sc=>rfl
 | agg cs=>exact oP cs h
 | eJ cs=>exact oP cs h
 | tree es t=>exact oP es (Ky h).2.1
 | cJ x o=>exact Ic x h
 | ref=>cases h
 | ptr=>cases h
 | xU f gG=>exact oP gG h
theorem oP {n:Nat} (vs:List VV) (h:aO vs=true):oG n vs=true:=by
 cases vs with
 | nil=>rfl
 |
  cons x xs =>
  simp only[aO,aK9] at h
  simp only[oG,Ic x h.1,oP xs h.2,aLZ]
end
end
end Go.PM
namespace Go.PM
def val (b:Nat):List Nat→Nat
 | []=>0
 | d::ds=>d+b*val b ds
def aD (b n:Nat):List Nat:=if h:n=0∨b<2 then [] else n % b::aD b (n / b)
termination_by n
decreasing_by exact aL0 (by omega) (by omega)
section
variable {b:Nat}
theorem cE:aD b 0=[]:=by rw[aD];simp
theorem kW (hb:2≤b) {n:Nat} (hn:n≠0):aD b n=n % b::aD b (n / b):=by rw[aD,dif_neg (by omega)]
theorem vQ {d:Nat} {ds:List Nat}:val b (d::ds)=d+b*val b ds:=rfl
theorem BE (xs ys:List Nat):val b (xs++ys)=val b xs+b^xs.length*val b ys:=by
 induction xs with
 | nil=>simp[val]
 |
  cons x xs ih =>
  simp only[aL1,vQ,ih,aKL,aL2]
  rw[Nat.mul_add,aL3 (b^xs.length) b,Nat.mul_assoc,Nat.add_assoc]
theorem val_one (d:Nat):val b [d]=d:=by simp[val]
theorem vY (xs:List Nat) (d:Nat):val b (xs++[d])=val b xs+b^xs.length*d:=by rw[BE,val_one]
theorem vA (n:Nat):val b (aLr n 0)=0:=by
 induction n with
 | zero=>rfl
 | succ n ih=>simp[aLL,val,ih]
theorem sF {xs:List Nat} (h:∀d∈xs,d<b):val b xs<b^xs.length:=by
 induction xs with
 | nil=>simp[val]
 |
  cons x xs ih =>
  have h1:=h x aLb
  have h2:=ih fun d hd=>h d (aLa _ hd)
  simp only[vQ,aKL,aL2]
  have h3:b*(val b xs+1)≤b*b^xs.length:=Nat.mul_le_mul_left _ h2
  rw[Nat.mul_add,Nat.mul_one] at h3
  rw[aL3 (b^xs.length) b]
  omega
theorem cN (hb:2≤b) (n:Nat):val b (aD b n)=n:=by
 induction n using aL4 with
 |
  _ n ih =>
  by_cases h:n=0
  ·subst h;rw[cE];rfl
  ·rw[kW hb h,vQ,ih _ (aL0 (by omega) (by omega))]
   exact Nat.mod_add_div n b
theorem gK (hb:2≤b) (n:Nat):∀d∈aD b n,d<b:=by
 induction n using aL4 with
 |
  _ n ih =>
  by_cases h:n=0
  ·subst h;rw[cE];intro d hd;cases hd
  ·rw[kW hb h]
   intro d hd
   rcases aLP.1 hd with rfl | hd
   ·exact Nat.mod_lt _ (by omega)
   ·exact ih _ (aL0 (by omega) (by omega)) d hd
theorem nT (hb:2≤b) {n:Nat}:aD b n=[]↔n=0:=by
 constructor
 ·intro h
  have:=cN hb n
  rw[h] at this
  exact this.symm
 ·rintro rfl;exact cE
theorem Rb (hb:2≤b) (n:Nat):(aD b n).getLast? ≠ some 0:=by
 induction n using aL4 with
 |
  _ n ih =>
  by_cases h:n=0
  ·subst h;rw[cE];simp
  ·rw[kW hb h]
   have h1:=ih _ (aL0 (n:=n) (k:=b) (by omega) (by omega))
   by_cases h2:n / b=0
   ·rw[h2,cE]
    have:n<b:=by
     rcases Nat.div_eq_zero_iff.1 h2 with h | h<;>omega
    simp[aL5 this,h]
   ·have fW:aD b (n / b)≠[]:=fun h=>h2 ((nT hb).1 h)
    obtain⟨x,xs,hx⟩:=aL6 fW
    rw[hx] at h1 ⊢
    rw[aL7]
    exact h1
theorem O4 (hb:2≤b) {xs:List Nat} (h:∀d∈xs,d<b) (hl:xs.getLast? ≠ some 0):aD b (val b xs)=xs:=by
 induction xs with
 | nil=>exact cE
 |
  cons x xs ih =>
  have h1:=h x aLb
  have hr:(x+b*val b xs) % b=x:=by rw[Nat.add_mul_mod_self_left,aL5 h1]
  have hq:(x+b*val b xs) / b=val b xs:=by rw[Nat.add_mul_div_left _ _ (by omega),aL8 h1,aL9]
  cases xs with
  |
   nil =>
   have hx:x≠0:=by rintro rfl;simp at hl
   rw[val_one,kW hb hx,aL5 h1,aL8 h1,cE]
  |
   cons y ys =>
   rw[aL7] at hl
   have h2:=ih (fun d hd=>h d (aLa _ hd)) hl
   have h3:val b (y::ys)≠0:=fun h0=>by rw[h0,cE] at h2;cases h2
   have h4:b*val b (y::ys)≠0:=Nat.mul_ne_zero (by omega) h3
   rw[vQ,kW hb (by omega),hr,hq,h2]
theorem NH (hb:2≤b) {n:Nat} (hn:n≠0):b^((aD b n).length-1)≤n:=by
 induction n using aL4 with
 |
  _ n ih =>
  rw[kW hb hn]
  by_cases h2:n / b=0
  ·rw[h2,cE];simp;omega
  ·have h3:=ih _ (aL0 (by omega) (by omega)) h2
   have fW:aD b (n / b)≠[]:=fun h=>h2 ((nT hb).1 h)
   obtain⟨x,xs,hx⟩:=aL6 fW
   rw[hx] at h3 ⊢
   simp only[aKL,Nat.add_sub_cancel] at h3 ⊢
   rw[aL2]
   calc b^xs.length*b≤n / b*b:=aK2 _ h3
    _≤n:=Nat.div_mul_le_self n b
theorem iP (hb:2≤b) (n:Nat):n<b^(aD b n).length:=by
 have:=sF (gK hb n)
 rwa [cN hb] at this
theorem oM (hb:2≤b) {n k:Nat} (h:n<b^k):(aD b n).length≤k:=by
 by_cases hn:n=0
 ·subst hn;rw[cE];simp
 ·have h1:=NH hb hn
  have h2:b^((aD b n).length-1)<b^k:=Nat.lt_of_le_of_lt h1 h
  have h3:(aD b n).length-1<k:=(Nat.pow_lt_pow_iff_right (by omega)).1 h2
  have fW:aD b n≠[]:=fun h=>hn ((nT hb).1 h)
  have:=List.length_pos_iff.2 fW
  omega
theorem fB (hb:2≤b) {m n:Nat} (h:m≤n):(aD b m).length≤(aD b n).length :=
 oM hb (Nat.lt_of_le_of_lt h (iP hb n))
theorem sP (xs:List Nat) (i:Nat):val b xs=val b (xs.take i)+b^(xs.take i).length*val b (xs.drop i):=by
 rw[←BE,List.take_append_drop]
theorem bE {xs:List Nat} {i d:Nat} (h:xs[i]? = some d):val b (xs.take (i+1))=val b (xs.take i)+b^i*d:=by
 have bI:=(aKA.1 h).1
 rw[List.take_add_one,h]
 simp only[Option.toList_some]
 rw[vY,aMa,aLC (by omega)]
theorem xA {xs:List Nat} {i d:Nat} (h:xs[i]? = some d):val b (xs.drop i)=d+b*val b (xs.drop (i+1)):=by
 obtain⟨bI,he⟩:=aKA.1 h
 rw[List.drop_eq_getElem_cons bI,he,vQ]
theorem IT {P A B O c x y s q r W:Nat} (h:A+B=O+P*c) (hs:c+x+y=s) (hr:r+W*q=s):(A+P*x)+(B+P*y)=(O+P*r)+(P*W)*q:=by grind
theorem Mw {P A B O l x y r W l':Nat} (h:A+P*l=O+B) (hd:r+y+l=x+W*l'):(A+P*x)+(P*W)*l'=(O+P*r)+(B+P*y):=by grind
theorem aiV {xs:List Nat} {i d:Nat} (h:i<xs.length):(xs.set i d).take (i+1)=xs.take i++[d]:=by
 rw[List.set_eq_take_append_cons_drop,if_pos h,aMb]
 simp[List.take_take,aLC (by omega:i≤xs.length),Nat.min_eq_right (by omega:i≤i+1)]
theorem fH {xs:List Nat} {i d:Nat} (h:i<xs.length):val b ((xs.set i d).take (i+1))=val b (xs.take i)+b^i*d:=by
 rw[aiV h,vY,aMa,aLC (by omega)]
theorem nW {xs:List Nat} {i d:Nat} (h:∀x∈xs,x<b) (hd:d<b):∀x∈xs.set i d,x<b:=by
 intro x hx
 rcases List.mem_or_eq_of_mem_set hx with h1 | h1
 ·exact h x h1
 ·subst h1;exact hd
theorem lF {xs:List Nat} {i:Nat} (h:xs.length≤i):val b (xs.take i)=val b xs:=by rw[aLu h]
theorem Cw (hb:0<b) (n:Nat):∀x∈aLr n 0,x<b:=by
 intro x hx
 rw[aLM hx]
 exact hb
theorem adJ {P x y R t:Nat} (ht:t<P) (h:x<y):t+P*(x+R)<P*(y+R):=by
 have h1:P*(x+R+1)≤P*(y+R):=Nat.mul_le_mul_left _ (by omega)
 rw[Nat.mul_add,Nat.mul_one] at h1
 omega
theorem G3 {xs ys:List Nat} {i x y:Nat} (hx:∀d∈xs,d<b) (hl:xs.length=ys.length) (hi:xs[i]? = some x) (hj:ys[i]? = some y) (hd:xs.drop (i+1)=ys.drop (i+1)) (h:x<y):val b xs<val b ys:=by
 have h1:=(aKA.1 hi).1
 have ht:(xs.take i).length=i:=by simp;omega
 have ht':(ys.take i).length=i:=by simp;omega
 have h2:=sF (b:=b) (xs:=xs.take i) fun d hd=>hx d (aLy hd)
 rw[ht] at h2
 rw[sP xs i,sP ys i,ht,ht',xA hi,xA hj,hd]
 have:=adJ (R:=b*val b (ys.drop (i+1))) h2 h
 omega
theorem VY (hb:2≤b) {m n:Nat} (h:aD b m=aD b n):m=n:=by
 have:=congrArg (val b) h
 rwa [cN hb,cN hb] at this
def gH (a b:Nat):Int:=if a<b then -1 else if a=b then 0 else 1
theorem Hf (hb:2≤b) {m n:Nat} (h:(aD b m).length<(aD b n).length):m<n:=by
 rcases aKE m n with h1 | h1
 ·exact h1
 ·have:=fB hb h1
  omega
end
end Go.PM
namespace Go.PM
abbrev VI (n:Int):VV := .sc (.int .i64 n)
abbrev VK (k:IntKind) (n:Int):VV := .sc (.int k n)
abbrev VB (t:Bool):VV := .sc (.bool t)
abbrev aC {α:Type} (f:α→VV) (xs:List α):VV := .tree (xs.map f) .op
section
variable {α:Type} {f:α→VV} {xs ys:List α} {x:α} {t:TK} {H:aA} {size i:Nat} {k:IntKind}
theorem eW:rL (.tree (xs.map f) t) H=some (VI xs.length):=by simp[rL]
theorem aI (hx:xs[i]? = some x) (hs:(aB (f x)).length=size):bK size (.tree (xs.map f) t) (VK k (i:Int)) H=some (.cJ (f x) 0) :=
 acO (by simp[hx]) hs
theorem Vn (hs:∀x,(aB (f x)).length=size):∀y∈xs.map f,(aB y).length=size:=by
 intro y hy
 obtain⟨x,_,rfl⟩:=aMc.1 hy
 exact hs x
theorem fQ (hp:∀x,bA (f x)=true):aO (xs.map f)=true:=by
 rw[Dx]
 intro y hy
 obtain⟨x,_,rfl⟩:=aMc.1 hy
 exact hp x
theorem aqU (hp:∀x,hJ (f x)=true):sR (xs.map f)=true:=by
 rw[Qh]
 intro y hy
 obtain⟨x,_,rfl⟩:=aMc.1 hy
 exact hp x
theorem abC {size:Nat} (hs:∀x,(aB (f x)).length=size):uni (xs.map f)=true:=by
 cases xs with
 | nil=>rfl
 |
  cons x xs =>
  simp only[aMd,uni,aKP]
  intro y hy
  obtain⟨z,_,rfl⟩:=aMc.1 hy
  simp[hs]
theorem mO {size:Nat} (hs:∀x,(aB (f x)).length=size) (hp:∀x,bA (f x)=true):bA (aC f xs)=true:=by
 simp only[aC,bA,fQ hp,abC hs,decide_true,aLZ]
theorem zY {size:Nat} (hs:∀x,(aB (f x)).length=size) (hp:∀x,hJ (f x)=true) (he:∀x,CM (f x)=true):hJ (aC f xs)=true:=by
 have h4:(xs.map f).all CM=true:=by
  rw[aKP]
  intro y hy
  obtain⟨z,_,rfl⟩:=aMc.1 hy
  exact he z
 simp only[aC,hJ,aqU hp,abC hs,h4,decide_true,aLZ]
theorem aqE {es:List VV} {h:Nat} (fW:0<es.length) (hs:∀x∈es,(aB x).length=size) (hh:h≤es.length) {k2:IntKind} :
  Hq size (.tree es t) none (some (VK k2 h)) none H=some (.tree (es.take h) .op):=by
 cases es with
 | nil=>simp at fW
 |
  cons y ys =>
  have hy:=hs y aLb
  simp only[aKL] at hh
  have e1:(0:Int)≤h∧(h:Int)≤((ys.length+1:Nat):Int):=by omega
  simp only[Hq,IA,hy,if_true,fG,e1,aLX,aLg,aLd,false_and,if_false]
  simp
theorem UK (h:0<xs.length):0<(xs.map f).length:=by simpa using h
theorem O0 {b g o n c:Nat} {es:List VV} {w:Bool} {l h:Nat} (hr:aG H b g=some (es,size,w)) (hl:l≤h) (hh:h≤c) {k1 k2:IntKind} :
  Hq size (.ref b g o n c) (some (VK k1 l)) (some (VK k2 h)) none H=some (.ref b g (o+l) (h-l) (c-l)):=by
 have e1:(0:Int)≤h∧(h:Int)≤(c:Int):=by omega
 have e2:(0:Int)≤l∧(l:Int)≤(h:Int):=by omega
 simp only[Hq,IA,hr,if_true,fG,e1,e2,aLX,aLg,aLd,false_and,if_false]
 simp[hl]
theorem rJ {b g o n c:Nat} {es:List VV} {w:Bool} {h:Nat} (hr:aG H b g=some (es,size,w)) (hh:h≤c) {k2:IntKind} :
  Hq size (.ref b g o n c) none (some (VK k2 h)) none H=some (.ref b g o h c):=by
 have e1:(0:Int)≤h∧(h:Int)≤(c:Int):=by omega
 simp only[Hq,IA,hr,if_true,fG,e1,aLX,aLg,aLd,false_and,if_false]
 simp
theorem QN {b g o n c:Nat} {es:List VV} {w:Bool} {l:Nat} (hr:aG H b g=some (es,size,w)) (hl:l≤n) (hn:n≤c) {k1:IntKind} :
  Hq size (.ref b g o n c) (some (VK k1 l)) none none H=some (.ref b g (o+l) (n-l) (c-l)):=by
 have e2:(0:Int)≤l∧(l:Int)≤(n:Int):=by omega
 simp only[Hq,IA,hr,if_true,fG,e2,aLX,aLg,aLd,false_and,if_false]
 simp
theorem Ms {h:Nat} (hs:∀x,(aB (f x)).length=size) (fW:0<xs.length) (hh:h≤xs.length) {k2:IntKind} :
  Hq size (.tree (xs.map f) t) none (some (VK k2 h)) none H=some (aC f (xs.take h)):=by
 rw[aqE (UK fW) (Vn hs) (by simpa using hh)]
 simp[aC]
theorem Vo {b g e:Nat} {es:List VV} {w:Bool} {L K:aA} (h:b=L.length):aG (L ++ .row g es e w::K) b g=some (es,e,w):=by
 subst h
 simp[aG]
theorem aT {g e:Nat} {es:List VV} {w:Bool} {K:aA}:aG (.row g es e w::K) 0 g=some (es,e,w):=by simp[aG]
theorem cK {n:Nat}:(n=n+1)=False:=eq_false fun h=>by omega
theorem ahJ {g g' e:Nat} {es:List VV} {w:Bool} {K:aA} (h:g'≠g):aG (.row g' es e w::K) 0 g=none:=by simp[aG,h]
theorem bT {g e:Nat} {es:List VV} {w:Bool} {K:aA}:aG (.row (g+1) es e w::K) 0 g=none:=ahJ (Nat.succ_ne_self g)
theorem dZ {b g:Nat} {x:fC} {K:aA}:aG (x::K) (b+1) g=aG K b g:=by simp[aG]
theorem bB {b g o n c e:Nat} {es:List VV} {w:Bool} (h:aG H b g=some (es,e,w)) (hi:i<n):bK e (.ref b g o n c) (VK k (i:Int)) H=some (.ptr b g (o+i) 0):=acN h hi
theorem bS {b g j e lo:Nat} {es:List VV} {v:VV} (h:aG H b g=some (es,e,true)) (hj:j<es.length) (dS:lo≤b) (hv:(aB v).length=e) (hs:(aB v).all bN=true):bL lo e (.ptr b g j 0) v H=some (H.set b (.row g (es.set j v) e true)):=by
 obtain⟨x,hx⟩:∃x,es[j]? = some x:=⟨_,aKI hj⟩
 simp only[bL,h,hx]
 rw[if_pos ⟨hv,dS,hs⟩,if_pos ⟨trivial,trivial⟩]
theorem nY {z:List Value} {bytes n:Nat} (hz:elemOf (z.map kX)=f x) (hn:n*bytes≤281474976710656) (hm:n≤9223372036854775807):BA z bytes (VI n) (VI n) H=some (.ref H.length 0 0 n n,H++[.row 0 ((aLr n x).map f) z.length true]):=by
 simp only[BA]
 rw[if_pos ⟨by omega,by omega,by omega,by omega⟩,hz]
 simp
theorem qC {ag w:Bool} {b gn e j o:Nat} (h:aG H b gn=some (xs.map f,e,w)) (hx:xs[j]? = some x):bH ag size (.ptr b gn j o) H=dP ag size (f x) o :=
 S7 h (by simp[hx])
theorem dQ {b g j e lo:Nat} (h:aG H b g=some (xs.map f,e,true)) (hj:j<xs.length) (dS:lo≤b) (hv:(aB (f x)).length=e) (hs:(aB (f x)).all bN=true):bL lo e (.ptr b g j 0) (f x) H=some (H.set b (.row g ((xs.set j x).map f) e true)):=by
 rw[bS h (by simpa using hj) dS hv hs,List.map_set]
theorem Zk {b gn n c e:Nat} {es:List VV} {w:Bool} (h:aG H b gn=some (es,e,w)) (hn:n≤es.length) (hc:n≤c) (hp:aO es=true):fz depth H (.ref b gn 0 n c)=some (.tree (es.take n) .op):=by
 have:bA (.ref b gn 0 n c)=false:=rfl
 show fz (7+1) H _=_
 unfold fz
 simp only[this,h,aLd,if_false]
 have BY:aO (es.take n)=true:=Dx.2 fun x hx=>Dx.1 hp x (aLy hx)
 rw[if_pos ⟨by omega,hc⟩,aLN,mapM_pure BY]
 rfl
theorem TC.flat {fn:Nat} {args mG:List VV} {r:VV} (h:TC fn mG r) (CF:FH.contains fn=false) (ha':aO mG=true) (hf:args.mapM (fz depth H)=some mG) (hr:Js r=true) :
  ∀(lo:Nat) (K:VV→aA→Prop),dI fn args lo H K=K r H:=by
 intro lo K
 cases hp:aO args with
 |
  true =>
  have:=mapM_pure (n:=7) (H:=H) hp
  rw[show fz depth H=fz (7+1) H from rfl,this] at hf
  cases hf
  exact h lo H K
 | false=>rw[h.Dq CF ha' hf hp,hr,if_pos rfl]
theorem fz1 {v v':VV} (h:fz depth H v=some v'):[v].mapM (fz depth H)=some [v']:=by rw[aLY,h];rfl
theorem fz2 {v v' u u':VV} (h:fz depth H v=some v') (hu:fz depth H u=some u'):[v,u].mapM (fz depth H)=some [v',u']:=by rw[aLY,h,fz1 hu];rfl
theorem TC.asV {fn b gn n c e size:Nat} {w:Bool} {r:VV} (h:TC fn [aC f xs] r) (hr:aG H b gn=some (xs.map f,e,w)) (hn:n=xs.length) (hc:n≤c) (hs:∀x,(aB (f x)).length=size) (hp:∀x,bA (f x)=true) (CF:FH.contains fn=false) (hf:Js r=false) :
  ∀(lo:Nat) (K:VV→aA→Prop),dI fn [.ref b gn 0 n c] lo H K=K r (dD H [b]):=by
 intro lo K
 have e1:fz depth H (.ref b gn 0 n c)=some (aC f xs):=II hr (by simpa using hn) hc (fQ hp)
 have e2:iW depth H (.ref b gn 0 n c)=[b]:=Kq hr (by simpa using hn) (fQ hp)
 have e3:[VV.ref b gn 0 n c].mapM (fz depth H)=some [aC f xs]:=by rw[aLY,e1];rfl
 rw[h.Dq CF (by simp only[aO,mO hs hp,aLZ]) e3 rfl,hf]
 simp only[aLd,if_false,List.flatMap_cons,List.flatMap_nil,e2,aLJ]
theorem avH {es:List VV} {e:Nat} (hp:aO es=true):fz depth H (.tree es (.cl e))=some (.tree es .op):=by
 show fz (7+1) H _=_
 unfold fz
 have:bA (.tree es (.cl e))=false:=by simp[bA]
 simp only[this,aLd,if_false,mapM_pure hp]
 rfl
theorem ahB {es:List VV} {e:Nat} (hp:aO es=true):iW depth H (.tree es (.cl e))=[]:=by
 show iW (7+1) H _=_
 unfold iW
 have:bA (.tree es (.cl e))=false:=by simp[bA]
 simp only[this,aLd,if_false,AA hp]
theorem Yz:fz depth H (.tree [] .nil)=some (.tree [] .op):=by
 show fz (7+1) H _=_
 unfold fz
 have:bA (.tree [] .nil)=false:=by simp[bA]
 simp only[this,aLd,if_false]
 rfl
theorem TC.args {fn:Nat} {args mG:List VV} {r:VV} (h:TC fn mG r) (CF:FH.contains fn=false) (ha':aO mG=true) (hf:args.mapM (fz depth H)=some mG) (hi:args.flatMap (iW depth H)=[]) :
  ∀(lo:Nat) (K:VV→aA→Prop),dI fn args lo H K=K r H:=by
 intro lo K
 cases hp:aO args with
 |
  true =>
  have:=mapM_pure (n:=7) (H:=H) hp
  rw[show fz depth H=fz (7+1) H from rfl,this] at hf
  cases hf
  exact h lo H K
 |
  false =>
  rw[h.Dq CF ha' hf hp,hi]
  split<;>rfl
theorem mX {lr:Bool} {z:List Value} (hz:(z.map kX).all bN=true):mW lr z 0 [] H=some (.ref H.length 0 0 0 0,H++[.row 0 [] z.length true]):=by
 simp[mW,yW,hz]
theorem iY {z:List Value} {v:VV} (hz:(z.map kX).all bN=true) (hv:(aB v).length=z.length) (hs:(aB v).all bN=true):mW false z 1 [(0,v)] H=some (.tree [v] (.cl z.length),H):=by
 simp only[mW,yW,aLL,List.replicate_zero,aKL,aMe,hv,hs,and_self,if_true,aMf,hz]
 simp[hs]
theorem anU {z:List Value} {u v:VV} (hz:(z.map kX).all bN=true) (hu:(aB u).length=z.length) (hus:(aB u).all bN=true) (hv:(aB v).length=z.length) (hs:(aB v).all bN=true):mW false z 2 [(0,u),(1,v)] H=some (.tree [u,v] (.cl z.length),H):=by
 simp[mW,yW,hv,hs,hu,hus,hz,aLL]
end
theorem wrap32 (n:Nat):IntKind.u32.wrap (n:Int)=((n % 4294967296:Nat):Int):=by rw[IntKind.wrap_u32];omega
theorem wrap_u64 (n:Int):IntKind.u64.wrap n=n % 18446744073709551616:=by simp[IntKind.wrap,IntKind.bits,IntKind.signed]
theorem eZ (n:Nat) (h:n<18446744073709551616):IntKind.u64.wrap (n:Int)=(n:Int):=by rw[wrap_u64];omega
theorem wrapN {x:Int} (n:Nat) (h:x=n) (hn:n≤9223372036854775807):IntKind.i64.wrap x=(n:Int):=by subst h;exact wrap64 (by omega) (by omega)
theorem qO (n:Nat) (k:IntKind):dK .shr (.int .u64 (n:Int)) (.int k 32)=some (.int .u64 ((n / 4294967296:Nat):Int)):=by
 simp only[dK]
 have h1:¬((32:Int)<0):=by decide
 have h2:Nat.min (Int.toNat 32) IntKind.u64.bits=32:=by decide
 rw[if_neg h1,h2]
 congr 2
 rw[Int.fdiv_eq_ediv_of_nonneg _ (by decide)]
 omega
theorem GN (n:Nat) (k:IntKind) (h:n<4294967296):dK .shl (.int .u64 (n:Int)) (.int k 32)=some (.int .u64 ((n*4294967296:Nat):Int)):=by
 simp only[dK]
 have h1:¬((32:Int)<0):=by decide
 have h2:Nat.min (Int.toNat 32) IntKind.u64.bits=32:=by decide
 rw[if_neg h1,h2]
 congr 2
 have:(n:Int)*2^32=((n*4294967296:Nat):Int):=by omega
 rw[this]
 exact eZ _ (by omega)
section
variable {n k g:Nat} {K:aA} {x y:fC}
theorem NN:aG (aLr n fC.dead++K) n g=aG K 0 g:=by
 unfold aG
 rw[aKT (by simp)]
 simp
theorem aaT:aG (aLr n fC.dead++K) (n+k) g=aG K k g:=by
 unfold aG
 rw[aKT (by simp)]
 simp
theorem aiL:(aLr n fC.dead++K).set n y=aLr n fC.dead++K.set 0 y:=by
 rw[aMg _ _ (by simp)]
 simp
theorem aAc:(aLr n fC.dead++K).set (n+k) y=aLr n fC.dead++K.set k y:=by
 rw[aMg _ _ (by simp)]
 simp
theorem aBe:(aLr n fC.dead++K).length=n+K.length:=by simp
theorem atH:(aLr n fC.dead++K).take (n+k)=aLr n fC.dead++K.take k:=by
 rw[aMb]
 simp
theorem asQ:(aLr n fC.dead++K).take n=aLr n fC.dead:=by
 rw[aMb]
 simp
end
theorem DP {k g e:Nat} {es:List VV} {w:Bool} {K:aA} (h:oG k es=true):oA k (.row g es e w::K)=oA k K:=by
 unfold oA
 rw[aLt]
 simp only[h,Bool.true_and]
theorem LD {k:Nat}:oA k []=true:=rfl
theorem eV {size:Nat} {v:VV} {t:TK} {H:aA} (h:(aB v).length=size) (hs:(aB v).all bN=true):cZ size (.tree [v] t) H=some [v]:=by
 simp[cZ,h,hs]
theorem jT {α:Type} {f:α→VV} {xs:List α} {x:α} {lo b g n e bytes:Nat} {H:aA} (h:aG H b g=some (xs.map f,e,true)) (hn:n=xs.length) (dS:lo≤b) (he:1≤e) (hb:1≤bytes) (Fa:(n+1)*bytes≤140737488355328) :
  dR lo e bytes (.ref b g 0 n n) [f x] H=some (.ref b (g+1) 0 (n+1) (n+1),H.set b (.row (g+1) ((xs++[x]).map f) e true)):=by
 subst hn
 simp only[dR,h,aKL,aMe,aL9]
 rw[if_pos ⟨hb,he⟩,if_pos ⟨trivial,dS,by simp⟩,if_neg (by omega),if_pos Fa,aLN,aLu (by simp)]
 simp
section
variable {H:aA} {b g o n c j lo size:Nat} {neg ag:Bool} {k:IntKind} {i:Int} {v:VV}
theorem bJ:bH ag size (.ptr b g j o) H=(match aG H b g with
 |
  some (es,_,_)=>match es[j]? with
  | some x=>dP ag size x o
  | none=>none
 | none=>none):=rfl
theorem Gk:bL lo size (.ptr b g j o) v H=(match aG H b g with
 |
  some (es,e,true)=>match es[j]? with
  |
   some x =>
   if (aB v).length=size∧lo≤b∧(aB v).all bN then
    if o=0∧size=e then some (H.set b (.row g (es.set j v) e true))
    else if 2≤e∧o+size≤e then some (H.set b (.row g (es.set j (.agg (dF (aB x) o (aB v)))) e true))
    else none
   else none
  | none=>none
 | _=>none):=rfl
theorem Rn:rL (.ref b g o n c) H=(aG H b g).map fun _ => .sc (.int .i64 n):=rfl
theorem zP:xW size (.ptr b g j o) H=(aG H b g).map fun _ => .ptr b g j (o+size):=rfl
theorem Rx:Nx (.ptr b g j o) H=(aG H b g).map fun _ => .ptr b g j o:=rfl
theorem MA:IW neg (.ref b g o n c) H=(aG H b g).map fun _ => .sc (.bool (false != neg)):=rfl
theorem OT:IW neg (.tree [] .nil) H=some (.sc (.bool (true != neg))):=rfl
theorem Mt {x:VV} {xs:List VV} {t:TK}:IW neg (.tree (x::xs) t) H=some (.sc (.bool (false != neg))):=rfl
theorem L8:bK size (.ref b g o n c) (.sc (.int k i)) H=(match aG H b g with
 | some (_,e,_)=>if e=size∧0≤i∧i<n then some (.ptr b g (o+i.toNat) 0) else none
 | none=>none):=rfl
end
theorem I4 {v:Value}:isAny (.sc v)=false:=rfl
theorem D1 {es:List VV} {t:TK}:isAny (.tree es t)=false:=rfl
theorem GU {b g o n c:Nat}:isAny (.ref b g o n c)=false:=rfl
theorem Gw {cs:List VV}:isAny (.agg cs)=false:=rfl
theorem Re {f:Nat} {cs:List VV}:isAny (.xU f cs)=false:=rfl
theorem uL {x:VV}:elemOf [x]=x:=rfl
theorem rD {x y:VV} {cs:List VV}:elemOf (x::y::cs) = .agg (x::y::cs):=rfl
theorem Bs {k t:Nat} {ρ:cW}:sA k ρ t=MJ k (ρ t):=rfl
theorem Pm {k:Nat} {v:Value}:MJ k (.sc v) = .sc v:=rfl
theorem Da {k:Nat} {v:VV} (h:bA v=true):MJ k v=v:=PN (Ic v h)
theorem KV {k b g o n c:Nat} (h:b<k):MJ k (.ref b g o n c) = .ref b g o n c:=PN (by simp[below,h])
theorem VN {v:Value}:bN (.sc v)=true:=rfl
theorem OE {es:List VV} {t:TK}:bN (.tree es t)=true:=rfl
theorem Rt {b g o n c:Nat}:bN (.ref b g o n c)=true:=rfl
theorem Sh {b g o n:Nat}:bN (.ptr b g o n)=true:=rfl
theorem N1 {x:VV} {o:Nat}:bN (.cJ x o)=true:=rfl
theorem RH {f:Nat} {cs:List VV}:bN (.xU f cs)=true:=rfl
theorem Ru {v:Value}:aB (.sc v)=[.sc v]:=rfl
theorem OP {cs:List VV}:aB (.agg cs)=cs:=rfl
theorem Mq {es:List VV} {t:TK}:aB (.tree es t)=[.tree es t]:=rfl
theorem N2 {b g o n c:Nat}:aB (.ref b g o n c)=[.ref b g o n c]:=rfl
theorem VZ {k k':IntKind} {n:Int}:Xx k (.int k' n)=some (.int k (k.wrap n)):=rfl
theorem Q4 {args:List VV} {t:Nat}:Mn args t=args.getD t tK:=rfl
theorem aAN {n:Nat}:LT n = .tmp n:=rfl
theorem aBB {n:Int}:LI n = .const (.int .i64 n):=rfl
theorem aBm:LG = .const (.bool true):=rfl
theorem aAG:LF = .const (.bool false):=rfl
theorem aA4 {n:Nat}:LL n = .load false 1 (.tmp n):=rfl
theorem aB4 {n:Nat}:LK n = .load true 3 (.tmp n):=rfl
theorem aAX {n k:Nat}:LX n k = .ext (.tmp n) k:=rfl
theorem aBF {k n:Nat}:LA k n = .faddr k (.tmp n):=rfl
theorem aA1 {d:Nat} {p:qH}:LO d p=⟨some d,p,none,false,[]⟩:=rfl
theorem aBI {d:Nat} {p:qH}:LQ d p=⟨some d,p,none,true,[]⟩:=rfl
theorem aAJ {p:qH}:LN p=⟨none,p,none,false,[]⟩:=rfl
theorem aBT {d s:Nat}:LM d s=⟨some d,.mv (.tmp s),none,false,[]⟩:=rfl
theorem aBy {g d:Nat} {p:qH}:LY g d p=⟨some d,p,some (g,true),false,[]⟩:=rfl
theorem aCp {g d:Nat} {p:qH}:LZ g d p=⟨some d,p,some (g,false),false,[]⟩:=rfl
theorem aBz {l:List PI} {c:aE}:LS l c = .seq (.cU l) c:=rfl
theorem VX:type_of% (
 aMh @amC<|aMh @akG<|aMh @Ue<|aMh @Z7<|aMh @aaP<|aMh @anW<|aMh @Y4 <|
 aMh @Vv<|aMh @EK<|aMh @HU<|aMh @JU<|aMh @H7<|aMh @F0 <|
 aMh @PS<|aMh @JR<|aMh @QT<|aMh @Ot<|aMh @Wy<|aMh @WW <|
 aMh @OL<|aMh @R6<|aMh @akW<|aMh @avK<|aMh @ajI<|aMh @avC<|aMh @Me <|
 aMh @ahI<|aMh @VM<|aMh @ZE<|aMh @ZJ<|aMh @R5<|aMh @RN<|aMh @alM <|
 aMh @aaR<|aMh @ZQ<|aMh @abI<|aMh @ZX<|aMh @RP<|aMh @Zn<|aMh @Sk <|
 aMh @R4<|aMh @Vc<|aMh @UH<|aMh @Wk<|aMh @Zi<|aMh @Va<|aMh @abA <|
 aMh @abE<|aMh @Ub<|aMh @aaM<|aMh @aaW<|aMh @Y8<|aMh @U2<|aMh @Za <|
 aMh @RF<|aMh @abK<|aMh @VH<|aMh @Rl<|aMh @V4<|aMh @QR <|
 aMh @D0<|aMh @R0<|aMh @VJ<|aMh @Sl<|aMh @OY<|aMh @QW <|
 aMh @zX<|aMh @Sj<|aMh @aaD<|aMh @RZ<|aMh @Wi<|aMh @ZM<|aMh @V7 <|
 aMh @Zx<|aMh @abH<|aMh @ZL<|aMh @Vx<|aMh @RC<|aMh @UJ<|aMh @Vs <|
 aMh @aaJ<|aMh @aaK<|aMh @U4<|aMh @Vm<|aMh @Rq<|aMh @UP<|aMh @anI <|
 aMh @NP<|aMh @ahV<|aMh @Zb<|aMh @ahD<|aMh @akI<|aMh @dW<|aMh @alK <|
 aMh @aMi.{0,0}<|aMh @aLt.{0}<|aMh @aLV.{0}<|aMh @VN<|aMh @aLZ <|
 aMh @Bool.and_true<|aMh @VZ<|aMh @Zu<|aMh @Z6<|aMh @WR<|aMh @Wb <|
 aMh @W7<|aMh @Uv<|aMh @Us<|aMh @U9<|aMh @Vb<|aMh @Wr<|aMh @Wg <|
 aMh @aaC<|aMh @ZK<|aMh @Value.bool.injEq<|aMh @decide_eq_true_eq<|aMh @decide_eq_false_iff_not <|
 aMh @Bool.not_true<|aMh @Bool.not_false<|aMh @decide_true<|aMh @decide_false<|aMh @Bool.not_eq_true' <|
 aMh @Bool.not_eq_false'<|aMh @aLd<|aMh @false_and<|aMh @and_false<|aMh @aLW.{0,0} <|
 aMh @Option.map_none.{0,0}<|aMh @if_true.{1}<|aMh @if_false.{1}<|aMh @aMd.{0,0}<|aMh @List.map_nil.{0,0} <|
 aMh @aL1.{0}<|aMh @aLT.{0}<|aMh @and_true<|aMh @true_and<|aMh @aL9 <|
 aMh @Nat.add_zero<|aMh @aKL.{0}<|aMh @aMe.{0}<|aMh @Q4<|aMh @aMj.{0} <|
 aMh @aMk.{0}<|aMh @List.getD_nil.{0}<|aMh @VV.sc.injEq<|aMh @aKV.{0} <|
 aMh @aMl.{0}<|aMh @OE<|aMh @Rt<|aMh @Sh<|aMh @N1 <|
 aMh @RH<|aMh @Ru<|aMh @OP<|aMh @Mq<|aMh @N2<|aMh @aAN<|aMh @aBB <|
 aMh @aBm<|aMh @aAG<|aMh @aA4<|aMh @aB4<|aMh @aAX<|aMh @aBF<|aMh @aA1<|aMh @aBI <|
 aMh @aAJ<|aMh @aBT<|aMh @aBy<|aMh @aCp <| @aBz) :=
 aMh @amC<|aMh @akG<|aMh @Ue<|aMh @Z7<|aMh @aaP<|aMh @anW<|aMh @Y4 <|
 aMh @Vv<|aMh @EK<|aMh @HU<|aMh @JU<|aMh @H7<|aMh @F0 <|
 aMh @PS<|aMh @JR<|aMh @QT<|aMh @Ot<|aMh @Wy<|aMh @WW <|
 aMh @OL<|aMh @R6<|aMh @akW<|aMh @avK<|aMh @ajI<|aMh @avC<|aMh @Me <|
 aMh @ahI<|aMh @VM<|aMh @ZE<|aMh @ZJ<|aMh @R5<|aMh @RN<|aMh @alM <|
 aMh @aaR<|aMh @ZQ<|aMh @abI<|aMh @ZX<|aMh @RP<|aMh @Zn<|aMh @Sk <|
 aMh @R4<|aMh @Vc<|aMh @UH<|aMh @Wk<|aMh @Zi<|aMh @Va<|aMh @abA <|
 aMh @abE<|aMh @Ub<|aMh @aaM<|aMh @aaW<|aMh @Y8<|aMh @U2<|aMh @Za <|
 aMh @RF<|aMh @abK<|aMh @VH<|aMh @Rl<|aMh @V4<|aMh @QR <|
 aMh @D0<|aMh @R0<|aMh @VJ<|aMh @Sl<|aMh @OY<|aMh @QW <|
 aMh @zX<|aMh @Sj<|aMh @aaD<|aMh @RZ<|aMh @Wi<|aMh @ZM<|aMh @V7 <|
 aMh @Zx<|aMh @abH<|aMh @ZL<|aMh @Vx<|aMh @RC<|aMh @UJ<|aMh @Vs <|
 aMh @aaJ<|aMh @aaK<|aMh @U4<|aMh @Vm<|aMh @Rq<|aMh @UP<|aMh @anI <|
 aMh @NP<|aMh @ahV<|aMh @Zb<|aMh @ahD<|aMh @akI<|aMh @dW<|aMh @alK <|
 aMh @aMi.{0,0}<|aMh @aLt.{0}<|aMh @aLV.{0}<|aMh @VN<|aMh @aLZ <|
 aMh @Bool.and_true<|aMh @VZ<|aMh @Zu<|aMh @Z6<|aMh @WR<|aMh @Wb <|
 aMh @W7<|aMh @Uv<|aMh @Us<|aMh @U9<|aMh @Vb<|aMh @Wr<|aMh @Wg <|
 aMh @aaC<|aMh @ZK<|aMh @Value.bool.injEq<|aMh @decide_eq_true_eq<|aMh @decide_eq_false_iff_not <|
 aMh @Bool.not_true<|aMh @Bool.not_false<|aMh @decide_true<|aMh @decide_false<|aMh @Bool.not_eq_true' <|
 aMh @Bool.not_eq_false'<|aMh @aLd<|aMh @false_and<|aMh @and_false<|aMh @aLW.{0,0} <|
 aMh @Option.map_none.{0,0}<|aMh @if_true.{1}<|aMh @if_false.{1}<|aMh @aMd.{0,0}<|aMh @List.map_nil.{0,0} <|
 aMh @aL1.{0}<|aMh @aLT.{0}<|aMh @and_true<|aMh @true_and<|aMh @aL9 <|
 aMh @Nat.add_zero<|aMh @aKL.{0}<|aMh @aMe.{0}<|aMh @Q4<|aMh @aMj.{0} <|
 aMh @aMk.{0}<|aMh @List.getD_nil.{0}<|aMh @VV.sc.injEq<|aMh @aKV.{0} <|
 aMh @aMl.{0}<|aMh @OE<|aMh @Rt<|aMh @Sh<|aMh @N1 <|
 aMh @RH<|aMh @Ru<|aMh @OP<|aMh @Mq<|aMh @N2<|aMh @aAN<|aMh @aBB <|
 aMh @aBm<|aMh @aAG<|aMh @aA4<|aMh @aB4<|aMh @aAX<|aMh @aBF<|aMh @aA1<|aMh @aBI <|
 aMh @aAJ<|aMh @aBT<|aMh @aBy<|aMh @aCp <| @aBz
theorem fZ:type_of% (
 aMh @bJ<|aMh @Gk<|aMh @L8<|aMh @Rn<|aMh @zP<|aMh @Rx <|
 aMh @MA<|aMh @OT<|aMh @Mt<|aMh @aT<|aMh @dZ<|aMh @aMf.{0} <|
 aMh @List.set_cons_succ.{0}<|aMh @uL<|aMh @rD<|aMh @pJ.eq_1<|aMh @sW.eq_1 <|
 aMh @sW.eq_2<|aMh @Fk.eq_1<|aMh @Fk.eq_2<|aMh @AX.eq_1<|aMh @AX.eq_2<|aMh @I4 <|
 aMh @D1<|aMh @GU<|aMh @Gw<|aMh @Re<|aMh @List.take_zero.{0} <|
 aMh @aLo.{0}<|aMh @List.take_nil.{0}<|aMh @aLN.{0}<|aMh @aMm.{0} <|
 aMh @List.drop_nil.{0}<|aMh @aLJ.{0}<|aMh @aKB<|aMh @dF.eq_1<|aMh @aLX <|
 aMh @eq_self.{1}<|aMh @ge_iff_le.{0} <| @aK9) :=
 aMh @bJ<|aMh @Gk<|aMh @L8<|aMh @Rn<|aMh @zP<|aMh @Rx <|
 aMh @MA<|aMh @OT<|aMh @Mt<|aMh @aT<|aMh @dZ<|aMh @aMf.{0} <|
 aMh @List.set_cons_succ.{0}<|aMh @uL<|aMh @rD<|aMh @pJ.eq_1<|aMh @sW.eq_1 <|
 aMh @sW.eq_2<|aMh @Fk.eq_1<|aMh @Fk.eq_2<|aMh @AX.eq_1<|aMh @AX.eq_2<|aMh @I4 <|
 aMh @D1<|aMh @GU<|aMh @Gw<|aMh @Re<|aMh @List.take_zero.{0} <|
 aMh @aLo.{0}<|aMh @List.take_nil.{0}<|aMh @aLN.{0}<|aMh @aMm.{0} <|
 aMh @List.drop_nil.{0}<|aMh @aLJ.{0}<|aMh @aKB<|aMh @dF.eq_1<|aMh @aLX <|
 aMh @eq_self.{1}<|aMh @ge_iff_le.{0} <| @aK9
end Go.PM
namespace Go.PM
theorem TC.vt {f:Nat} {args:List VV} {r:VV} (h:TC f args r) (CF:FH.contains f=false) (hp:aO args=true):VT f args r:=by
 have h1:=h 0 [] fun x _=>x=r
 unfold dI at h1
 simp only[CF,hp,aLd,if_false,if_true] at h1
 have h2:J4 f args fun x=>x=r:=by rw[h1];trivial
 unfold J4 tk at h2
 split at h2
 ·rename_i x hx
  rw[←h2]
  exact(Ss hx).2.2
 ·exact h2.elim
theorem TC.yes {f:Nat} {args:List VV} {fE:List Value} {H:aJ} (h:TC f args (.sc (.bool true))) (CF:FH.contains f=false) (hp:aO args=true) (hl:VL (bare (· < H.length) H) args fE) :
  ∃v H',uO f fE H.length H=some (v,H')∧v = .bool true:=by
 obtain⟨P',pv,h1,_,h2⟩:=h.vt CF hp (· < H.length) H fE H.length (fun _ h=>h) hl (aKB _)
 cases h2
 exact⟨_,P',h1,rfl⟩
theorem VR.grow {H L:aJ} {x:VV} {v:Value} (h:VR (bare (· < H.length) H) x v):VR (bare (· < (H++L).length) (H++L)) x v :=
 h.Gs fun b hb=>⟨by show b<_;rw[aKM];omega,aKS hb⟩
end Go.PM
namespace Go.PM
mutual
def jR (n:Nat):VV→Bool
 | .any=>false
 | .sc v=>qE v
 | .agg cs=>AB n cs
 | .eJ vs=>AB n vs
 | .tree es k=>es.isEmpty&&decide (k = .nil)
 | .cJ _ _=>false
 | .ref b _ _ _ _=>decide (n≤b)
 | .ptr b _ _ _=>decide (n≤b)
 | .xU _ _=>false
def AB (n:Nat):List VV→Bool
 | []=>true
 | x::xs=>jR n x&&AB n xs
end
theorem zW {n:Nat} {es:List VV}:AB n es=true↔∀x∈es,jR n x=true:=by
 induction es with
 | nil=>simp[AB]
 | cons x xs ih=>simp[AB,ih]
theorem adH {n:Nat} {es:List VV} (h:AB n es=true):AB n (es.flatMap aB)=true:=by
 rw[zW] at h ⊢
 intro x hx
 obtain⟨y,hy,CT⟩:=List.mem_flatMap.1 hx
 have:=h y hy
 unfold aB at CT
 split at CT
 ·exact zW.1 (by simpa[jR] using this) x CT
 ·rw[aLH] at CT;subst CT;exact this
def mZ (n:Nat) (L:aA):Bool:=L.all fun
 | .row _ es _ _=>AB n es
 | .dead=>true
theorem VR.own {V V':View} {k0:Nat} (T3:∀q,V.base≤q∧q<V.P.length→V'.base≤q∧q<V'.P.length∧∀b' g' es e w,b'<k0→V'.H[b']? = some (.row g' es e w)→V'.m b'≠q) (hl:V.H.length≤V'.H.length) (hH:∀b,k0≤b→V'.H[b]? = V.H[b]?) (hm:∀b,k0≤b→V'.m b=V.m b) {x:VV} {v:Value} (h:VR V x v):jR k0 x=true→VR V' x v:=by
 induction h using VR.rec (motive_2:=fun xs vs _=>AB k0 xs=true→VL V' xs vs) with
 | any=>intro hx;cases hx
 | sc _ h=>intro _;exact .sc _ h
 | agg cs ps _ ih=>intro hx;exact .agg _ _ (ih hx)
 | eJ cs ps _ ih=>intro hx;exact .eJ _ _ (ih hx)
 | pP k hk=>intro _;exact .pP k hk
 |
  tree es k b o c r e p hF hb ho hc he hk _ _ =>
  intro hx
  simp only[jR,aK9,decide_eq_true_eq] at hx
  obtain⟨_,rfl⟩:=hx
  exact hk.elim
 | cJ=>intro hx;cases hx
 |
  ref b g o n c a n' c' bI hg ha hq =>
  intro hx
  have hb:k0≤b:=by simpa[jR] using hx
  exact .ref b g o n c a n' c' (aKD bI hl) (fun g' es e w hr=>hg g' es e w (by rw[←hH b hb];exact hr)) (fun es e w hr=>by rw[hm b hb];exact ha es e w (by rw[←hH b hb];exact hr)) fun a0 h=>by
   obtain⟨q1,q2,q3⟩:=hq a0 h
   obtain⟨q4,q5,q6⟩:=T3 _ ⟨q1,q2⟩
   refine⟨q4,q5,fun b' g' es e w hr fW => ?_⟩
   rcases aKE b' k0 with OW | Hl
   ·exact q6 b' g' es e w OW hr
   ·rw[hm b' Hl]
    exact q3 b' g' es e w (by rw[←hH b' Hl];exact hr) fW
 |
  ptr b g j off a bI hg ha hq =>
  intro hx
  have hb:k0≤b:=by simpa[jR] using hx
  exact .ptr b g j off a (aKD bI hl) (fun g' es e w hr=>hg g' es e w (by rw[←hH b hb];exact hr)) (fun es e w hr=>by rw[hm b hb];exact ha es e w (by rw[←hH b hb];exact hr)) fun a0 h=>by
   obtain⟨q1,q2,q3⟩:=hq a0 h
   obtain⟨q4,q5,q6⟩:=T3 _ ⟨q1,q2⟩
   refine⟨q4,q5,fun b' g' es e w hr fW => ?_⟩
   rcases aKE b' k0 with OW | Hl
   ·exact q6 b' g' es e w OW hr
   ·rw[hm b' Hl]
    exact q3 b' g' es e w (by rw[←hH b' Hl];exact hr) fW
 | xU=>intro hx;cases hx
 | nil=>exact .nil
 |
  cons x v xs vs _ _ ih Yj =>
  rename_i hx
  simp only[AB,aK9] at hx
  exact .cons _ _ _ _ (ih hx.1) (Yj hx.2)
theorem VL.own {V V':View} {n:Nat} (T3:∀q,V.base≤q∧q<V.P.length→V'.base≤q∧q<V'.P.length∧∀b' g' es e w,b'<n→V'.H[b']? = some (.row g' es e w)→V'.m b'≠q) (hl:V.H.length≤V'.H.length) (hH:∀b,n≤b→V'.H[b]? = V.H[b]?) (hm:∀b,n≤b→V'.m b=V.m b) {xs:List VV} {vs:List Value} (h:VL V xs vs) (hx:AB n xs=true):VL V' xs vs:=by
 induction xs generalizing vs with
 | nil=>cases h;exact .nil
 |
  cons x xs ih=>cases h with
  |
   cons _ v _ vs h hs =>
   simp only[AB,aK9] at hx
   exact .cons _ _ _ _ (h.own T3 hl hH hm hx.1) (ih hs hx.2)
theorem VL.Gs {V':View} {G:Nat→Prop} {P:aJ} {xs:List VV} {vs:List Value} (hF:∀b,G b→V'.F b∧V'.P[b]? = P[b]?) (h:VL (bare G P) xs vs):VL V' xs vs:=by
 induction xs generalizing vs with
 | nil=>cases h;exact .nil
 |
  cons x xs ih=>cases h with
  | cons _ v _ vs h hs=>exact .cons _ _ _ _ (h.Gs hF) (ih hs)
def FC (f:Nat) (args:List VV) (R:Nat→VV→aA→Prop):Prop :=
 ∀n,jH f args n (aLr n .dead) fun r H'=>∃L,H'=aLr n .dead++L∧jR n r=true∧mZ n L=true∧R n r L
theorem FC.walk {f:Nat} {pf:aU} {args:List VV} {R:Nat→VV→aA→Prop} (fl:Fl) (ht:fT f=some pf) (hn:args.length≤pf.ntmps)
  (h:∀n,VW fl n pf.body (C6 pf.res fun r H'=>∃L,H'=aLr n .dead++L∧jR n r=true∧mZ n L=true∧R n r L) (Mn args) (aLr n .dead)):FC f args R :=
 fun n=>jH.walk fl ht hn (h n)
theorem FC.raw {f:Nat} {args mG:List VV} {R:Nat→VV→aA→Prop} {H:aA} {lo:Nat} (h:FC f mG R) (hf:args.mapM (fz depth H)=some mG):jH f args lo H fun r H'=>∃L,H'=H++L∧R H.length r L∧jR H.length r=true∧mZ H.length L=true:=by
 intro V fD fE hH hS hl
 have h1:=h H.length
 let V0:View:={ m:=V.m,F:=(· < V.P.length),H:=aLr H.length .dead,P:=V.P,base:=V.P.length }
 have OZ:∀(b g:Nat) (es:List VV) (e:Nat) (w:Bool),V0.H[b]? ≠ some (.row g es e w):=by
  intro b g es e w hb
  have:=aLM (aLv hb)
  cases this
 have hS0:SR V0 H.length fD:=⟨fun b g es e w hb=>absurd hb (OZ _ _ _ _ _),fun b g es e hb=>absurd hb (OZ _ _ _ _ _),fun a b g es e w _ _ _ _ ha=>absurd ha (OZ _ _ _ _ _),fun b hb=>hb,hS.Xi,aKB _⟩
 have Ct:VL V0 mG fE:=by
  have:=GG hS (G:=(· < V.P.length)) (fun q hq=>hS.fr q hq) hl (by rw[hH];exact hf) (fun i _ g es e w hb=>hS.mlt hb)
  exact VL.Gs (V':=V0) (fun b hb=>⟨hb,rfl⟩) this
 obtain⟨pv,V1,r,k1,k3,k4,k5,L,k2,h2,h3,hR⟩:=h1 V0 fD fE rfl hS0 Ct
 have Z9:∀b g es e w,V1.H[b]? = some (.row g es e w)→V.P.length≤V1.m b:=by
  intro b g es e w hb
  rcases aKE (V1.m b) V.P.length with bI | Hl
  ·obtain⟨g0,es0,w0,j1,_⟩:=k4.Es b g es e w hb bI
   exact absurd j1 (OZ _ _ _ _ _)
  ·exact Hl
 have aB7:V1.H.length=H.length+(L).length:=by rw[k2];simp
 have tW:∀q,q<V.P.length→V1.P[q]? = V.P[q]? := fun q hq=>k4.dB q hq fun b g es e hb=>absurd hb (OZ _ _ _ _ _)
 let V2:View:={ m:=fun b=>if b<H.length then V.m b else V1.m b,F:=V.F,H:=H++L,P:=V1.P,base:=V.base }
 have aqB:∀b,H.length≤b→V2.H[b]? = V1.H[b]? := fun b hb=>by
  show (H++L)[b]? = _
  rw[k2,aKT hb,aKT (by simpa using hb),List.length_replicate]
 have mL:∀b,H.length≤b→V2.m b=V1.m b:=fun b hb=>by
  show (if b<H.length then V.m b else V1.m b)=_
  rw[if_neg (by omega)]
 have arY:∀b,b<H.length→V2.H[b]? = V.H[b]? := fun b hb=>by
  show (H++L)[b]? = _
  rw[aKS hb,hH]
 have mS:∀b,b<H.length→V2.m b=V.m b:=fun b hb=>by
  show (if b<H.length then V.m b else V1.m b)=_
  rw[if_pos hb]
 have hU:Up V V2:=⟨fun _ h=>h,fun b hb=>tW b (hS.fr b hb),by show V.H.length≤(H++L).length;rw[hH];simp,fun b g es e w bI hb=>⟨g,es,w,by rw[←arY b (by rw[←hH];exact bI)];exact hb,aKB _,fun _=>mS b (by rw[←hH];exact bI)⟩,rfl,k4.Hm,fun b g es e w hb hm=>by
   rcases aKE b H.length with h | h
   ·exact⟨g,es,w,by rw[←arY b h];exact hb,mS b h,id⟩
   ·rw[mL b h] at hm
    have:=Z9 b g es e w (by rw[←aqB b h];exact hb)
    omega⟩
 have ZO:∀ {b g es e w},V2.H[b]? = some (.row g es e w)→(b<H.length∧V.H[b]? = some (.row g es e w))∨(H.length≤b∧V1.H[b]? = some (.row g es e w)):=by
  intro b g es e w hb
  rcases aKE b H.length with h | h
  ·exact .inl ⟨h,by rw[←arY b h];exact hb⟩
  ·exact .inr ⟨h,by rw[←aqB b h];exact hb⟩
 have auT:V1.H.length≤V2.H.length:=by show _≤(H++L).length;rw[aB7];simp
 have RI:∀ {b g es e w},H.length≤b→V1.H[b]? = some (.row g es e w)→AB H.length es=true:=by
  intro b g es e w hb hr
  rw[k2,aKT (by simpa using hb)] at hr
  exact aKP.1 h3 _ (aLv hr)
 have T3:∀q,V1.base≤q∧q<V1.P.length→V2.base≤q∧q<V2.P.length∧∀b' g' es e w,b'<H.length→V2.H[b']? = some (.row g' es e w)→V2.m b'≠q:=by
  intro q hq
  have GZ:V.P.length≤q:=by have:=k4.NG;rw[this] at hq;exact hq.1
  refine⟨aKC hS.NG GZ,hq.2,fun b' g' es e w bI hr hm => ?_⟩
  rw[mS b' bI] at hm
  have:=hS.mlt (by rw[←arY b' bI];exact hr)
  omega
 refine⟨pv,V2,r,k1,⟨fun b g es e w hb => ?_,fun b g es e hb => ?_,fun a b g es e w g' oZ e' w' ha hb hm => ?_,fun b hb => ?_,?_,aKC hS.NG k4.Hm⟩,{ hU with dB:=fun q hq _=>tW q hq,Fh:=fun q hq => .inl hq },?_,L,rfl,hR,h2,h3⟩
 ·rcases ZO hb with⟨h,hb⟩ | ⟨h,hb⟩
  ·obtain⟨r,p,j1,j2,j3⟩:=hS.row b g es e w hb
   exact⟨r,p,by rw[mS b h];exact(tW _ (hS.mlt hb)).trans j1,j2,j3.mono hU⟩
  ·obtain⟨r,p,j1,j2,j3⟩:=k3.row b g es e w hb
   exact⟨r,p,by rw[mL b h];exact j1,j2,j3.own T3 auT (fun b hb=>aqB b hb) (fun b hb=>mL b hb) (adH (RI h hb))⟩
 ·rcases ZO hb with⟨h,hb⟩ | ⟨h,hb⟩
  ·rw[mS b h]
   exact hS.wr b g es e hb
  ·rw[mL b h]
   have:=Z9 b g es e true hb
   exact⟨fun hF=>by have:=hS.fr _ hF;omega,fun _=>aKC hS.Xi this⟩
 ·rcases ZO ha with⟨h,ha⟩ | ⟨h,ha⟩<;>rcases ZO hb with⟨h',hb⟩ | ⟨h',hb⟩
  ·rw[mS a h,mS b h'] at hm
   exact hS.inj a b _ _ _ _ _ _ _ _ ha hb hm
  ·rw[mS a h,mL b h'] at hm
   have:=Z9 b _ _ _ _ hb
   have:=hS.mlt ha
   omega
  ·rw[mL a h,mS b h'] at hm
   have:=Z9 a _ _ _ _ ha
   have:=hS.mlt hb
   omega
  ·rw[mL a h,mL b h'] at hm
   exact k3.inj a b _ _ _ _ _ _ _ _ ha hb hm
 ·exact aKD (hS.fr b hb) k4.Hm
 ·exact aKC hS.Xi k4.Hm
 ·exact k5.own T3 auT (fun b hb=>aqB b hb) (fun b hb=>mL b hb) h2
theorem gC {f:Nat} {args:List VV} {lo:Nat} {H:aA} {K:VV→aA→Prop} (CF:FH.contains f=true) (h:jH f args lo H K):dI f args lo H K:=by
 unfold dI
 rw[if_pos CF]
 exact h
theorem FC.call {f:Nat} {args mG:List VV} {R:Nat→VV→aA→Prop} {H:aA} {lo:Nat} {K:VV→aA→Prop} (h:FC f mG R) (CF:FH.contains f=true) (hf:args.mapM (fz depth H)=some mG) (hk:∀r L,R H.length r L→K r (H++L)):dI f args lo H K :=
 gC CF ((h.raw hf).mono fun r H' ⟨L,h1,h2,_⟩=>by subst h1;exact hk r L h2)
theorem FC.avL {f:Nat} {args mG:List VV} {R:Nat→VV→aA→Prop} {H:aA} {lo:Nat} {K:VV→aA→Prop} (h:FC f mG R) (CF:FH.contains f=true) (hf:args.mapM (fz depth H)=some mG) (hk:∀r L,R H.length r L→jR H.length r=true→mZ H.length L=true→K r (H++L)):dI f args lo H K :=
 gC CF ((h.raw hf).mono fun r H' ⟨L,h1,h2,h3,h4⟩=>by subst h1;exact hk r L h2 h3 h4)
def Vu (H K:aA):Prop:=K.length=H.length∧∀(b g:Nat) (es:List VV) (e:Nat) (w:Bool),K[b]? = some (.row g es e w)→H[b]? = some (.row g es e w)
theorem VR.kill {V:View} {K:aA} (hK:Vu V.H K) {x:VV} {v:Value} (h:VR V x v):VR { V with H:=K } x v:=by
 induction h using VR.rec (motive_2:=fun xs vs _=>VL { V with H:=K } xs vs) with
 | any=>exact .any _
 | sc _ h=>exact .sc _ h
 | agg cs ps _ ih=>exact .agg _ _ ih
 | eJ cs ps _ ih=>exact .eJ _ _ ih
 | pP k hk=>exact .pP k hk
 | tree es k b o c r e p hF hb ho hc he hk _ ih=>exact .tree es k b o c r e p hF hb ho hc he hk ih
 | cJ x off b o r e p hF hb ho _ ih=>exact .cJ x off b o r e p hF hb ho ih
 |
  ref b g o n c a n' c' bI hg ha hq =>
  exact .ref b g o n c a n' c' (by show b<K.length;rw[hK.1];exact bI) (fun g' es e w hr=>hg g' es e w (hK.2 _ _ _ _ _ hr)) (fun es e w hr=>ha es e w (hK.2 _ _ _ _ _ hr)) fun a0 h=>⟨(hq a0 h).1,(hq a0 h).2.1,fun b' g' es e w hr=>(hq a0 h).2.2 b' g' es e w (hK.2 _ _ _ _ _ hr)⟩
 |
  ptr b g j off a bI hg ha hq =>
  exact .ptr b g j off a (by show b<K.length;rw[hK.1];exact bI) (fun g' es e w hr=>hg g' es e w (hK.2 _ _ _ _ _ hr)) (fun es e w hr=>ha es e w (hK.2 _ _ _ _ _ hr)) fun a0 h=>⟨(hq a0 h).1,(hq a0 h).2.1,fun b' g' es e w hr=>(hq a0 h).2.2 b' g' es e w (hK.2 _ _ _ _ _ hr)⟩
 | xU f gG ps _ ih=>exact .xU _ _ _ ih
 | nil=>exact .nil
 | cons x v xs vs _ _ ih Yj=>exact .cons _ _ _ _ ih Yj
theorem VL.kill {V:View} {K:aA} (hK:Vu V.H K) {xs:List VV} {vs:List Value} (h:VL V xs vs):VL { V with H:=K } xs vs:=by
 induction xs generalizing vs with
 | nil=>cases h;exact .nil
 |
  cons x xs ih=>cases h with
  | cons _ v _ vs h hs=>exact .cons _ _ _ _ (h.kill hK) (ih hs)
theorem jH.kill {f:Nat} {args:List VV} {lo:Nat} {H:aA} {P P':VV→aA→Prop} (h:jH f args lo H P) (hk:∀v H',P v H'→∃K,Vu H' K∧P' v K):jH f args lo H P':=by
 intro V fD fE hH hS hl
 obtain⟨pv,V',v,h1,h2,h3,h4,h5⟩:=h V fD fE hH hS hl
 obtain⟨K,hK,h6⟩:=hk _ _ h5
 refine⟨pv,{ V' with H:=K },v,h1,⟨fun b g es e w hb => ?_,fun b g es e hb=>h2.wr b g es e (hK.2 _ _ _ _ _ hb),fun a b g es e w g' oZ e' w' ha hb hm=>h2.inj a b _ _ _ _ _ _ _ _ (hK.2 _ _ _ _ _ ha) (hK.2 _ _ _ _ _ hb) hm,h2.fr,h2.Xi,h2.NG⟩,
  { F:=h3.F,P:=h3.P,len:=by show V.H.length≤K.length;rw[hK.1];exact h3.len,row:=fun b g es e w bI hb=>h3.row b g es e w bI (hK.2 _ _ _ _ _ hb),NG:=h3.NG,Hm:=h3.Hm,Es:=fun b g es e w hb hm=>h3.Es b g es e w (hK.2 _ _ _ _ _ hb) hm,dB:=h3.dB,Fh:=h3.Fh },h4.kill hK,h6⟩
 obtain⟨r,p,j1,j2,j3⟩:=h2.row b g es e w (hK.2 _ _ _ _ _ hb)
 exact⟨r,p,j1,j2,j3.kill hK⟩
theorem FC.aBp {f:Nat} {pf:aU} {args:List VV} {R:Nat→VV→aA→Prop} (fl:Fl) (ht:fT f=some pf) (hn:args.length≤pf.ntmps)
  (h:∀n,VW fl n pf.body (C6 pf.res fun r H'=>∃L,Vu H' (aLr n .dead++L)∧jR n r=true∧mZ n L=true∧R n r L) (Mn args) (aLr n .dead)):FC f args R :=
 fun n=>(jH.walk fl ht hn (h n)).kill fun _ _ ⟨L,h1,h2,h3,h4⟩=>⟨_,h1,L,rfl,h2,h3,h4⟩
end Go.PM
namespace Go.PM
open Go.ChangeShapes Go.WideShapes Go.ChangeAt Go.RowKit
open Go.Proofs
def Gy (W:World):Prop:=∃(rb:Nat) (arr:Array Value) (e:TypeId) (fz:Nat×Nat),W.heap[rb]? = some (.cells arr e fz)
structure El (m m':dO) (H L:aJ) (W:World) (cs Li:List Value) (vs:List VV):Prop where
 inn:In m' (H++L) W
 ext:∀b l,m b=some l→m' b=some l
 len:Li.length=cs.length
 rv:∀i,i<cs.length→RV m' (Li.getD i Go.undef) (cs.getD i Go.undef)
 sc:∀v∈Li,PM.iQ v=true
 tree:VL (bare (· < (H++L).length) (H++L)) vs Li
def F3 {T:Type} (Ak:TypeId×Value→T) (P:Program) (W:World) (t:TypeId) (k:Nat) (S:List VV→Prop):Prop :=
 ∀fuel cs y,DataW.trod Ak P W 0 (fun _=>true) true fuel t cs=some y→∀(m:dO) (H:aJ),In m H W→cs.length=k∧∃m' L Li vs,El m m' H L W cs Li vs∧S vs
theorem VL.grow {H L:aJ} {xs:List VV} {vs:List Value} (h:VL (bare (· < H.length) H) xs vs):VL (bare (· < (H++L).length) (H++L)) xs vs :=
 h.Gs fun b hb=>⟨by show b<_;rw[aKM];omega,aKS hb⟩
theorem VL.app {V:View} {xs ys:List VV} {vs ws:List Value} (h:VL V xs vs) (h':VL V ys ws):VL V (xs++ys) (vs++ws):=by
 induction xs generalizing vs with
 | nil=>cases h;exact h'
 |
  cons x xs ih=>cases h with
  | cons _ v _ vs h hs=>exact .cons _ _ _ _ h (ih hs)
theorem Kr {cs ds:List Value} {i:Nat} (h:i<cs.length):(cs++ds).getD i Go.undef=cs.getD i Go.undef:=by
 simp only[aKy,aKS h]
theorem IU {cs ds:List Value} {i:Nat} (h:cs.length≤i):(cs++ds).getD i Go.undef=ds.getD (i-cs.length) Go.undef:=by
 simp only[aKy,aKT h]
theorem El.both {m m1 m2:dO} {H L1 L2:aJ} {W:World} {cs Li CH aBS:List Value} {vs vs':List VV} (h:El m m1 H L1 W cs Li vs) (h':El m1 m2 (H++L1) L2 W CH aBS vs'):El m m2 H (L1++L2) W (cs++CH) (Li++aBS) (vs++vs'):=by
 refine⟨by rw[←aMn];exact h'.inn,fun b l hb=>h'.ext _ _ (h.ext _ _ hb),by simp[h.len,h'.len],fun i hi => ?_,fun v hv => ?_,?_⟩
 ·rcases aKE i cs.length with bI | Hl
  ·rw[Kr bI,Kr (by rw[h.len];exact bI)]
   exact(h.rv i bI).mono h'.ext
  ·rw[IU Hl,IU (by rw[h.len];exact Hl),h.len]
   exact h'.rv _ (by rw[aKM] at hi;omega)
 ·rcases List.mem_append.1 hv with hv | hv
  ·exact h.sc v hv
  ·exact h'.sc v hv
 ·rw[←aMn]
  exact h.tree.grow.app h'.tree
theorem El.none {m:dO} {H:aJ} {W:World} (hI:In m H W):El m m H [] W [] [] [] :=
 ⟨by rw[aLJ];exact hI,fun _ _ h=>h,rfl,fun i hi=>absurd hi (aLS _),fun v hv=>(by cases hv),.nil⟩
theorem TD {T:Type} {Ak:TypeId×Value→T} {P:Program} {W:World} {t:TypeId} (ht:P.underlying t=some .string):F3 Ak P W t 1 (fun vs=>∃s:ByteArray,s.size≤maxLen∧vs=[.sc (.string s)]):=by
 intro fuel cs y h m H hI
 obtain⟨s,rfl,_,hs⟩:=DataW.trod_string ht h
 refine⟨rfl,m,[],[.string s],[.sc (.string s)],⟨by rw[aLJ];exact hI,fun _ _ h=>h,rfl,fun i hi => ?_,fun v hv => ?_,.cons _ _ _ _ (.sc _ rfl) .nil⟩,s,hs,rfl⟩
 ·have:i=0:=by simpa using hi
  subst this
  exact .str s
 ·rw[aLH] at hv
  subst hv
  rfl
theorem Pp {T:Type} {Ak:TypeId×Value→T} {P:Program} {W:World} {e:TypeId} {gU:Nat} {S:List VV→Prop} (ho:F3 Ak P W e gU S):∀(Xh:List (List Value)),(∀cs∈Xh,∃fuel y,DataW.trod Ak P W 0 (fun _=>true) true fuel e cs=some y)→∀(m:dO) (H:aJ),In m H W →
  ∃(m':dO) (L:aJ) (Li:List Value) (gs:List (List VV)),El m m' H L W Xh.flatten Li gs.flatten∧gs.length=Xh.length∧(∀g∈gs,S g)∧∀cs∈Xh,cs.length=gU
 | [],_,m,H,hI=>⟨m,[],[],[],El.none hI,rfl,fun g hg=>(by cases hg),fun cs P4=>(by cases P4)⟩
 |
  cs::Xh,h,m,H,hI=>by
  obtain⟨fuel,y,hy⟩:=h cs aLb
  obtain⟨hl,m1,L1,aEV,g,h1,hS⟩:=ho fuel cs y hy m H hI
  obtain⟨m2,L2,aEw,gs,h2,h3,h4,h5⟩:=Pp ho Xh (fun cs P4=>h cs (aLa _ P4)) m1 (H++L1) h1.inn
  refine⟨m2,L1++L2,aEV++aEw,g::gs,?_,by simp[h3],fun g' hg' => ?_,fun CH axI => ?_⟩
  ·rw[aMo,aMo]
   exact h1.both h2
  ·rcases aLP.1 hg' with rfl | hg'
   ·exact hS
   ·exact h4 _ hg'
  ·rcases aLP.1 axI with rfl | axI
   ·exact hl
   ·exact h5 _ axI
theorem F6 {α:Type} {k:Nat}:∀ {xss:List (List α)},(∀xs∈xss,xs.length=k)→xss.flatten.length=xss.length*k
 | [],_=>by simp
 |
  xs::xss,h=>by
  rw[aMo,aKM,h xs aLb,F6 fun y hy=>h y (aLa _ hy),aKL,aLq,Nat.add_comm]
theorem Kb {α:Type} {k:Nat}:∀ {xss:List (List α)} (n:Nat),(∀xs∈xss,xs.length=k)→xss.flatten.take (n*k)=(xss.take n).flatten
 | [],n,_=>by simp
 | xs::xss,0,_=>by simp
 |
  xs::xss,n+1,h=>by
  have hl:=h xs aLb
  rw[aMo,aLo,aMo,←Kb n fun y hy=>h y (aLa _ hy),show (n+1)*k=xs.length+n*k by rw[hl,aLq,Nat.add_comm],List.take_length_add_append]
theorem Tp {k:Nat} (hk:1≤k) {Xh:List (List Value)} (h:∀cs∈Xh,cs.length=k) {i:Nat} (hi:i<Xh.length*k):∃cs,Xh[i / k]? = some cs∧Xh.flatten.getD i Go.undef=cs.getD (i % k) Go.undef:=by
 induction Xh generalizing i with
 | nil=>simp at hi
 |
  cons cs Xh ih =>
  have hl:=h cs aLb
  rw[aMo]
  rcases aKE i k with bI | Hl
  ·refine⟨cs,by rw[aL8 bI];rfl,?_⟩
   rw[Kr (by omega),aL5 bI]
  ·obtain⟨c',h1,h2⟩:=ih (fun y hy=>h y (aLa _ hy)) (i:=i-k) (by rw[aKL,aLq] at hi;omega)
   have e1:i / k=(i-k) / k+1:=by rw[Nat.div_eq_sub_div (by omega) Hl]
   have e2:i % k=(i-k) % k:=by rw[Nat.mod_eq_sub_mod Hl]
   exact⟨c',by rw[e1];exact h1,by rw[IU (by omega),hl,h2,e2]⟩
theorem Mz {T:Type} {Ak:TypeId×Value→T} {α:Type} {f:α→VV} {aiH:α→Prop} {P:Program} {W:World} {t e:TypeId} {gU:Nat} (ht:P.underlying t=some (.slice e)) (aET:P.cellsOf e=gU) (pos:1≤gU) (hB:Gy W)
  (hf:∀x,(aB (f x)).length=gU) (ho:F3 Ak P W e gU fun g=>∃x:α,aiH x∧g=aB (f x)):F3 Ak P W t 1 fun vs=>∃xs:List α,xs.length≤maxLen∧(∀x∈xs,aiH x)∧vs=[aC f xs]:=by
 intro fuel cs y h m H hI
 rcases DataW.trod_slice ht h with⟨rfl,_⟩ | ⟨a,n,c,elems,rest,k,_,rfl,_,_,hnc,hmx,hlen,hE,hR,_⟩
 ·refine⟨rfl,m,[],[.slice none 0 0],[.tree [] .op],⟨by rw[aLJ];exact hI,fun _ _ h=>h,rfl,fun i hi => ?_,fun v hv => ?_,.cons _ _ _ _ (.pP _ (.inl rfl)) .nil⟩,[],aK5 _,fun x hx=>(by cases hx),rfl⟩
  ·have:i=0:=by simpa using hi
   subst this
   exact .Nj
  ·rw[aLH] at hv
   subst hv
   rfl
 ·obtain⟨BX,hR⟩:=hR rfl
  have ZR:∀i,i<c→∃cs,W.cells? 0 (a.add (i*gU)) gU=some cs∧∃fuel y,DataW.trod Ak P W 0 (fun _=>true) true fuel e cs=some y:=by
   intro i hi
   have key:∃y,(W.cells? 0 (a.add (i*P.cellsOf e)) (P.cellsOf e)).bind (DataW.trod Ak P W 0 (fun _=>true) true k e)=some y:=by
    rcases aKE i n with bZ | bZ
    ·exact⟨elems[i]'(by omega),by rw[hE i bZ];exact aKI _⟩
    ·have:=hR (i-n) (by omega)
     rw[show n+(i-n)=i by omega] at this
     exact⟨rest[i-n]'(by omega),by rw[this];exact aKI _⟩
   obtain⟨y,hy⟩:=key
   rw[Option.bind_eq_some_iff,aET] at hy
   obtain⟨cs,h1,h2⟩:=hy
   exact⟨cs,h1,k,y,h2⟩
  obtain⟨Xh,mQ,P4⟩:=Z4 (fun i cs=>W.cells? 0 (a.add (i*gU)) gU=some cs∧∃fuel y,DataW.trod Ak P W 0 (fun _=>true) true fuel e cs=some y) c ZR
  obtain⟨m1,L1,Li,gs,hO,hgl,hgS,awC⟩:=Pp ho Xh (fun cs hc=>by
   obtain⟨i,hi⟩:=List.getElem?_of_mem hc
   exact(P4 i cs hi).2) m H hI
  obtain⟨xs,hxg,Na⟩:∃xs:List α,(∀x∈xs,aiH x)∧gs=xs.map fun x=>aB (f x):=by
   clear hO hgl
   induction gs with
   | nil=>exact⟨[],fun x hx=>(by cases hx),rfl⟩
   |
    cons g gs ih =>
    obtain⟨xs,h1,h2⟩:=ih fun g hg=>hgS g (aLa _ hg)
    obtain⟨x,h3,h4⟩:=hgS g aLb
    exact⟨x::xs,fun y hy=>by
     rcases aLP.1 hy with rfl | hy
     ·exact h3
     ·exact h1 y hy,by rw[aMd,←h2,h4]⟩
  have hxl:xs.length=c:=by rw[←mQ,←hgl,Na,aMi]
  have Qj:Li.length=c*gU:=by rw[hO.len,F6 awC,mQ]
  obtain⟨rb,base,arr,e',fz,aBZ,Qq,GZ⟩:∃(rb base:Nat) (arr:Array Value) (e':TypeId) (fz:Nat×Nat),W.heap[rb]? = some (.cells arr e' fz)∧(c=0→base=0)∧(c≠0→a=⟨rb,base,none⟩):=by
   by_cases h0:c=0
   ·obtain⟨rb,arr,e',fz,hb⟩:=hB
    exact⟨rb,0,arr,e',fz,hb,fun _=>rfl,fun h=>absurd h0 h⟩
   ·obtain⟨cs,h1,_⟩:=ZR 0 (by omega)
    have h2:=(World.cells?_some h1).2
    have h3:=h2.2 0 (by omega)
    rw[aKI (by omega)] at h3
    have:(a.add (0*gU)).add 0=a:=by simp[Addr.add]
    rw[this] at h3
    unfold World.cell? at h3
    split at h3
    ·rename_i arr e' fz hb
     split at h3
     ·cases h3
     ·rename_i VO
      refine⟨a.block,a.off,arr,e',fz,hb,fun h=>absurd h h0,fun _ => ?_⟩
      obtain⟨b,o,sp⟩:=a
      cases sp with
      | none=>rfl
      | some x=>simp at VO
    ·cases h3
  have T7:∀i,i<c*gU→W.cell? ⟨rb,base+i,none⟩=some (Xh.flatten.getD i Go.undef):=by
   intro i hi
   obtain⟨cs,h1,h2⟩:=Tp pos awC (i:=i) (by rw[mQ];exact hi)
   have h0:c≠0:=by intro h0;rw[h0] at hi;simp at hi
   have ha:=GZ h0
   have h3:=(World.cells?_some (P4 _ _ h1).1).2
   have hr:i % gU<gU:=Nat.mod_lt _ pos
   have h4:=h3.2 (i % gU) hr
   have QA:∀o k:Nat,(⟨rb,o,none⟩:Addr).add k=⟨rb,o+k,none⟩:=by
    intro o k
    unfold Addr.add
    split
    ·rename_i h0;subst h0;rfl
    ·rfl
   have X2:i / gU*gU+i % gU=i:=by rw[aL3];exact Nat.div_add_mod i gU
   rw[ha,QA,QA,Nat.add_assoc,X2] at h4
   rw[h2,aKy,h4]
   have bI:i % gU<cs.length:=by rw[h3.1];exact hr
   rw[aKI bI]
   rfl
  have xG:base+Li.length≤arr.size:=by
   rw[Qj]
   by_cases h0:c=0
   ·rw[Qq h0,h0];simp
   ·have QK:1≤c*gU:=Nat.mul_pos (by omega) pos
    have h3:=T7 (c*gU-1) (by omega)
    unfold World.cell? at h3
    simp only[aBZ,aLg,aLd,if_false] at h3
    have:=(Array.getElem?_eq_some_iff.1 h3).1
    omega
  have QA:=hO.inn.add (gU:=gU) (cs:=Li) (base:=base) aBZ xG (fun i hi=>by
   rw[Qj] at hi
   refine⟨_,T7 i hi,(hO.rv i (by rw[F6 awC,mQ];exact hi)).mono (yJ (hO.inn.VC (aKB _))),?_⟩
   rw[aKy,aKI (by rw[Qj];exact hi)]
   exact hO.sc _ (List.getElem_mem _))
  refine⟨rfl,_,L1++[.row Li gU false],[.slice (some ⟨(H++L1).length,0,none⟩) n c],[aC f (xs.take n)],⟨by rw[←aMn];exact QA,fun b l hb=>yJ (hO.inn.VC (aKB _)) _ _ (hO.ext b l hb),rfl,fun i hi => ?_,fun v hv => ?_,?_⟩,xs.take n,by rw[aMa];omega,fun x hx=>hxg x (aLy hx),rfl⟩
  ·have:i=0:=by simpa using hi
   subst this
   refine .slice (H++L1).length 0 n c _ _ c (cD _ _ _) hnc (aKB _) (fun _=>rfl) ?_
   by_cases h0:c=0
   ·exact .inl h0
   ·exact .inr ⟨by simpa using GZ h0,by simpa[Qj] using xG⟩
  ·rw[aLH] at hv
   subst hv
   rfl
  ·rw[←aMn]
   refine .cons _ _ _ _ ?_ .nil
   have hl:(xs.take n).length=n:=by rw[aMa];omega
   have HY:∀g∈gs,g.length=gU:=fun g hg=>by
    obtain⟨x,_,rfl⟩:=hgS g hg
    exact hf x
   have key:=hO.tree.grow (L:=[QI.row Li gU false])
   have key:=key.take (n*gU)
   rw[Kb n HY,Na,←List.map_take] at key
   have:=VR.tree (V:=bare (· < (H++L1++[QI.row Li gU false]).length) (H++L1++[QI.row Li gU false])) ((xs.take n).map f) .op (H++L1).length 0 c Li gU false (by show (H++L1).length<_;simp) (by show (H++L1++[QI.row Li gU false])[(H++L1).length]? = _;rw[aKT (aKB _),Nat.sub_self];rfl)
    (by rw[aMi,hl,Qj];simp only[aL9];exact aK2 _ hnc) (by rw[aMi,hl];exact hnc) (fun y hy=>by
     obtain⟨x,_,rfl⟩:=aMc.1 hy
     exact hf x) trivial (by rw[aMi,hl,aLN,List.flatMap_map,List.flatMap_def];exact key)
   rw[aMi,hl] at this
   exact this
theorem U8 {T:Type} {Ak:TypeId×Value→T} {P:Program} {W:World} {t t0 t1 t2:TypeId} {fs:Array Field} {S0 S1 S2:List VV→Prop} (ht:P.underlying t=some (.struct fs)) (hc:P.cellsOf t=3)
  (h0:∃f,fs[0]? = some f∧f.type=t0∧f.offset=0) (h1:∃f,fs[1]? = some f∧f.type=t1∧f.offset=1) (h2:∃f,fs[2]? = some f∧f.type=t2∧f.offset=2) (hs:fs.size=3) (c0:P.cellsOf t0=1) (c1:P.cellsOf t1=1) (c2:P.cellsOf t2=1)
  (o0:F3 Ak P W t0 1 S0) (o1:F3 Ak P W t1 1 S1) (o2:F3 Ak P W t2 1 S2):F3 Ak P W t 3 fun vs=>∃a b c,S0 a∧S1 b∧S2 c∧vs=a++(b++c):=by
 intro fuel cs y h m H hI
 obtain⟨xs,n,_,_,hl,hlen,hf⟩:=DataW.trod_struct ht h
 rw[hc] at hl
 obtain⟨f0,g0,rfl,z0⟩:=h0
 obtain⟨f1,g1,rfl,z1⟩:=h1
 obtain⟨f2,g2,rfl,z2⟩:=h2
 have k0:=hf 0 f0 g0
 have k1:=hf 1 f1 g1
 have k2:=hf 2 f2 g2
 rw[z0,c0,aKI (by omega)] at k0
 rw[z1,c1,aKI (by omega)] at k1
 rw[z2,c2,aKI (by omega)] at k2
 match cs,hl with
 |
  [u,v,w],_ =>
  obtain⟨_,m1,L1,p1,v1,q1,s1⟩:=o0 _ _ _ k0 m H hI
  obtain⟨_,m2,L2,p2,v2,q2,s2⟩:=o1 _ _ _ k1 m1 (H++L1) q1.inn
  obtain⟨_,m3,L3,p3,v3,q3,s3⟩:=o2 _ _ _ k2 m2 (H++L1++L2) q2.inn
  exact⟨rfl,m3,L1++(L2++L3),p1++(p2++p3),v1++(v2++v3),q1.both (q2.both q3),v1,v2,v3,s1,s2,s3,rfl⟩
end Go.PM