/- Texts of a claim, in one: part 5. -/
import Derived.KernelRfl
import Derived.Laws.Strings
import Derived.Test.YtodamlihdkalfaaGreatDoorKRd
set_option linter.unusedSimpArgs false
set_option linter.unusedVariables false
namespace Go.PM
def VT (f:Nat) (args:List VV) (r:VV):Prop :=
 ∀(F:Nat→Prop) (P:aD) (dT:List Value) (dO:Nat),(∀b,F b→b<P.length)→VL (bare F P) args dT→dO≤P.length →
  ∃P' pv,pC f dT dO P=some (pv,P')∧P <+: P'∧VR (bare (fun q=>F q∨(P.length≤q∧q<P'.length)) P') r pv
def LB (lo dO:Nat) (V:View) (r:Option (Value×aD)) (K:VV→aA→Prop):Prop :=
 ∃pv V' v,r=some (pv,V'.P)∧SR V' lo dO∧CJ lo V V'∧VR V' v pv∧K v V'.H
def qX (f:Nat) (args:List VV) (lo:Nat) (H:aA) (K:VV→aA→Prop):Prop :=
 ∀(V:View) (dO:Nat) (dT:List Value),V.H=H→SR V lo dO→VL V args dT→LB lo dO V (pC f dT dO V.P) K
theorem qX.mono {f:Nat} {args:List VV} {lo:Nat} {H:aA} {K K':VV→aA→Prop} (hk:∀v H,K v H→K' v H) (h:qX f args lo H K):qX f args lo H K':=by
 intro V dO dT hH hS hl
 obtain⟨pv,V',v,h1,h2,h3,h4,h5⟩:=h V dO dT hH hS hl
 exact⟨pv,V',v,h1,h2,h3,h4,hk _ _ h5⟩
theorem VT.uniq {f:Nat} {args:List VV} {r r':VV} (h:VT f args r) (h':VT f args r') (ha:aJ args=true) (hr:gO r=true) (Fo:gO r'=true):r=r':=by
 obtain⟨P,ps,_,hl⟩:=KE args ha []
 obtain⟨P',pv,h1,_,h2⟩:=h (· < P.length) P ps 0 (fun _ h=>h) hl (Nat.zero_le _)
 obtain⟨Tm,pv',h3,_,h4⟩:=h' (· < P.length) P ps 0 (fun _ h=>h) hl (Nat.zero_le _)
 rw[h1] at h3
 injection h3 with h3
 injection h3 with h3 h5
 subst h3 h5
 exact h2.uniq h4 hr Fo
open Classical in
noncomputable def vT (f:Nat) (args:List VV):Option VV:=if h:∃r,aJ args=true∧gO r=true∧VT f args r then some (Classical.choose h) else none
theorem MM {f:Nat} {args:List VV} {r:VV} (h:vT f args=some r):aJ args=true∧gO r=true∧VT f args r:=by
 unfold vT at h
 split at h
 ·rename_i hx
  cases h
  exact Classical.choose_spec hx
 ·cases h
theorem ZF {f:Nat} {args:List VV} {r:VV} (ha:aJ args=true) (hr:gO r=true) (h:VT f args r):vT f args=some r:=by
 have hx:∃r,aJ args=true∧gO r=true∧VT f args r:=⟨r,ha,hr,h⟩
 unfold vT
 rw[dif_pos hx]
 obtain⟨_,h2,h3⟩:=Classical.choose_spec hx
 rw[h3.uniq h ha h2 hr]
def tk (r:Option VV) (K:VV→Prop):Prop:=match r with
 | some r=>K r
 | none=>False
noncomputable def D3 (f:Nat) (args:List VV) (K:VV→Prop):Prop:=tk (vT f args) K
noncomputable def dD (f:Nat) (args:List VV) (lo:Nat) (H:aA) (K:VV→aA→Prop):Prop :=
 if CC.contains f=true then qX f args lo H K
 else if aJ args=true then D3 f args fun r=>K r H
 else match args.mapM (fz depth H) with
  | some kI=>D3 f kI fun r=>if Gf r=true then K r H else K r (cJ H (args.flatMap (iB depth H)))
  | none=>False
noncomputable def dH (fl:Fl) (lo:Nat) (q:Bool) (op:lT) (ρ:cR) (H:aA) (K:VV→aA→Prop):Prop :=
 match op with
 | .call f args=>dD f (args.map (dI ρ)) (if q then H.length else lo) H K
 |
  .callv fv args=>match dI ρ fv with
  | .sY f fA=>dD f (args.map (dI ρ)++fA) (if q then H.length else lo) H K
  | _=>False
 |
  o=>match vop fl lo o ρ H with
  | some (v,H')=>K v H'
  | none=>False
noncomputable def VS (fl:Fl) (lo:Nat):List PI→(cR→aA→Prop)→cR→aA→Prop
 | [],K,ρ,H=>K ρ H
 |
  i::is,K,ρ,H=>match zM i.g ρ with
  | none=>False
  | some false=>VS fl lo is K (HA ρ i.dst nX) H
  | some true=>i.cf.all (gJ ρ H)=true∧dH fl lo i.quiet i.op ρ H fun v H'=>VS fl lo is K (HA ρ i.dst v) H'
def Zk:List Nat→cR→aA→Option (cR×aA)
 | [],ρ,H=>some (ρ,H)
 |
  t::ts,ρ,H=>match fz depth H (ρ t) with
  | some v=>Zk ts (HA ρ (some t) v) (cJ H (iB depth H (ρ t)))
  | none=>none
def HG (r:Option VV) (H:aA) (K:VV→aA→Prop):Prop:=match r with
 | some v=>K v H
 | none=>False
def gh (K:cR→aA→Prop) (ρ:cR) (H:aA):Prop:=∃ts aW H',Zk ts ρ H=some (aW,H')∧K aW H'
def fZ (k:Nat) (H:aA):Bool:=H.all fun
 | .row _ es _ _=>jZ k es
 | .dead=>true
def Dz (k:Nat) (ρ:cR):cR:=fun t=>C0 k (ρ t)
abbrev VQ:=Ex→cR→aA→Prop
def lF (K:cR→aA→Prop) (Q:VQ):VQ
 | .normal=>K
 | x=>Q x
def xT (id:Nat) (Q:VQ):VQ
 | .exit NR=>fun ρ H=>if NR=id then Q .normal ρ H else Q (.exit NR) ρ H
 | x=>Q x
def Ph (body:VQ→cR→aA→Prop) (Q:VQ):Nat→cR→aA→Prop
 | 0,_,_=>False
 | n+1,ρ,H=>body (lF (fun aW H'=>Ph body Q n aW H'∨(fZ H.length (H'.take H.length)=true∧Ph body Q n (Dz H.length aW) (H'.take H.length))) Q) ρ H
noncomputable def VW (fl:Fl) (lo:Nat):aE→VQ→cR→aA→Prop
 | .skip,Q,ρ,H=>Q .normal ρ H
 | .dX ops,Q,ρ,H=>VS fl lo ops (Q .normal) ρ H
 | .seq a b,Q,ρ,H=>VW fl lo a (lF (VW fl lo b Q) Q) ρ H
 |
  .cond c a b,Q,ρ,H=>match dI ρ c with
  | .sc (.bool t)=>if t=true then VW fl lo a Q ρ H else VW fl lo b Q ρ H
  | _=>False
 | .block id a,Q,ρ,H=>VW fl lo a (xT id Q) ρ H
 | .loop a,Q,ρ,H=>∃n,Ph (VW fl lo a) (fun x=>gh (Q x)) n ρ H
 | .exit id,Q,ρ,H=>Q (.exit id) ρ H
 | .ret,Q,ρ,H=>Q .ret ρ H
def CS (ρ:cR) (H:aA):yG→Option VV
 | .tmp t=>some (ρ t)
 | .cell t agg size=>dU agg size (ρ t) H
def oT (ρ:cR) (H:aA):List yG→Option (List VV)
 | []=>some []
 |
  r::rs=>match CS ρ H r,oT ρ H rs with
  | some v,some vs=>some (v::vs)
  | _,_=>none
def mD (res:List yG) (ρ:cR) (H:aA):Option VV :=
 match oT ρ H res with
 | some [v]=>some v
 | some vs=>some (.eQ vs)
 | none=>none
def Ec (R:VV→aA→Prop):Option VV→aA→Prop
 | some v,H=>R v H
 | none,_=>False
def AD (res:List yG) (R:VV→aA→Prop):VQ
 | .exit _,_,_=>False
 | .normal,ρ,H=>Ec R (mD res ρ H) H
 | .ret,ρ,H=>Ec R (mD res ρ H) H
def I5 (args:List VV):cR:=fun k=>args.getD k nX
section
variable {lo dO:Nat}
theorem DA {V:View} (hS:SR V lo dO) {P':aD} (hp:V.P <+: P'):SR { V with P:=P',F:=fun q=>V.F q∨(V.P.length≤q∧q<P'.length) } lo dO∧CJ lo V { V with P:=P',F:=fun q=>V.F q∨(V.P.length≤q∧q<P'.length) }:=by
 obtain⟨L,rfl⟩:=hp
 have hU:Up V { V with P:=V.P++L,F:=fun q=>V.F q∨(V.P.length≤q∧q<(V.P++L).length) }:=⟨fun _ h => .inl h,fun b hb=>List.getElem?_append_left (hS.fr b hb),Nat.le_refl _,fun b g es e w _ h=>⟨g,es,w,h,Nat.le_refl _,fun _=>rfl⟩,rfl,by simp,fun b g es e w hb _=>⟨g,es,w,hb,rfl,id⟩⟩
 refine⟨⟨fun b g es e w hb => ?_,fun b g es e hb=>⟨fun hF => ?_,(hS.wr b g es e hb).2⟩,hS.inj,fun b hb => ?_,by have:=hS.QY;simp;omega,by have:=hS.JM;simp;omega⟩,{ hU with eZ:=fun q hq _=>List.getElem?_append_left hq,Cx:=fun q hq => ?_ }⟩
 ·obtain⟨r,p,h1,h2,h3⟩:=hS.row b g es e w hb
  exact⟨r,p,by rw[←h1];exact List.getElem?_append_left (hS.mlt hb),h2,h3.mono hU⟩
 ·rcases hF with hF | hF
  ·exact(hS.wr b g es e hb).1 hF
  ·have h1:=hS.mlt hb
   have h2:V.P.length≤V.m b:=hF.1
   omega
 ·rcases hb with hb | hb
  ·have:=hS.fr b hb
   simp;omega
  ·exact hb.2
 ·rcases hq with hq | hq
  ·exact .inl hq
  ·exact .inr (.inl hq.1)
theorem Xe {V V':View} {x:VV} {v:Value} (h:VR V x v):Gf x=true→VR V' x v:=by
 induction h using VR.rec (motive_2:=fun xs vs _=>O8 xs=true→VL V' xs vs) with
 | sc _ h=>intro _;exact .sc _ h
 | agg cs ps _ ih=>intro hx;exact .agg _ _ (ih hx)
 | eQ cs ps _ ih=>intro hx;exact .eQ _ _ (ih hx)
 | any=>intro hx;cases hx
 | nC=>intro hx;cases hx
 | tree=>intro hx;cases hx
 | cO=>intro hx;cases hx
 | ref=>intro hx;cases hx
 | ptr=>intro hx;cases hx
 | sY=>intro hx;cases hx
 | nil=>exact .nil
 |
  cons x v xs vs _ _ ih Tu =>
  rename_i hx
  simp only[O8,Bool.and_eq_true] at hx
  exact .cons _ _ _ _ (ih hx.1) (Tu hx.2)
theorem VR.Bz {V':View} {G:Nat→Prop} {P:aD} {x:VV} {v:Value} (hF:∀b,G b→V'.F b∧V'.P[b]? = P[b]?) (h:VR (bare G P) x v):VR V' x v:=by
 induction h using VR.rec (motive_2:=fun xs vs _=>VL V' xs vs) with
 | any=>exact .any _
 | sc _ h=>exact .sc _ h
 | agg cs ps _ ih=>exact .agg _ _ ih
 | eQ cs ps _ ih=>exact .eQ _ _ ih
 | nC k hk=>exact .nC k hk
 | tree es k b o c r e p QA hb ho hc he hk _ ih=>exact .tree es k b o c r e p (hF _ QA).1 (by rw[(hF _ QA).2];exact hb) ho hc he hk ih
 | cO x off b o r e p QA hb ho _ ih=>exact .cO x off b o r e p (hF _ QA).1 (by rw[(hF _ QA).2];exact hb) ho ih
 | ref b g o n c a n' c' aX hg ha hq=>exact absurd aX (Nat.not_lt_zero _)
 | ptr b g j off a aX hg ha hq=>exact absurd aX (Nat.not_lt_zero _)
 | sY f fA ps _ ih=>exact .sY _ _ _ ih
 | nil=>exact .nil
 | cons x v xs vs _ _ ih Tu=>exact .cons _ _ _ _ ih Tu
theorem Pn {V:View} (hS:SR V lo dO) {f Y5:Nat} (Yt:Y5≤V.P.length) {args:List VV} {dT:List Value} {G:Nat→Prop} (hG:∀b,G b→b<V.P.length) (hl:VL (bare G V.P) args dT) {K:VV→Prop} (h:D3 f args K) :
  ∃P' pv r,pC f dT Y5 V.P=some (pv,P')∧V.P <+: P'∧VR (bare (fun q=>G q∨(V.P.length≤q∧q<P'.length)) P') r pv∧aR r=true∧K r:=by
 unfold D3 tk at h
 split at h
 ·rename_i r hr
  obtain⟨h1,h2,h3⟩:=MM hr
  obtain⟨P',pv,h4,h5,h6⟩:=h3 G V.P dT Y5 hG hl Yt
  exact⟨P',pv,r,h4,h5,h6,OJ r h2,h⟩
 ·cases h
theorem En {V:View} (hS:SR V lo dO) {f:Nat} {args:List VV} {dT:List Value} (hl:VL V args dT) {q:Bool} {K:VV→aA→Prop} (h:dD f args (if q then V.H.length else lo) V.H K):LB lo dO V (pC f dT (if q then V.P.length else dO) V.P) K:=by
 have hlq:(if q=true then V.P.length else dO)≤V.P.length:=by split;exact Nat.le_refl _;exact hS.QY
 unfold dD at h
 split at h
 ·cases q with
  | false=>exact h V dO dT rfl hS hl
  |
   true =>
   have hS':SR V V.H.length V.P.length:=⟨hS.row,fun b g es e hb=>⟨(hS.wr b g es e hb).1,fun hl=>by have:=(List.getElem?_eq_some_iff.1 hb).1;omega⟩,hS.inj,hS.fr,Nat.le_refl _,hS.JM⟩
   obtain⟨pv,V',r,g1,g3,g4,g5,g6⟩:=h V V.P.length dT rfl hS' hl
   refine⟨pv,V',r,g1,⟨g3.row,fun b g es e hb=>⟨(g3.wr b g es e hb).1,fun C9 => ?_⟩,g3.inj,g3.fr,Nat.le_trans hS.QY g4.EV,g3.JM⟩,{ g4.toUp with eZ:=fun p hp _=>g4.eZ p hp fun b g es e hb C9 => ?_,Cx:=g4.Cx },g5,g6⟩
   ·rcases Nat.lt_or_ge (V'.m b) V.P.length with aX | Cv
    ·obtain⟨g0,es0,w0,k1,k2,k3⟩:=g4.AW b g es e true hb aX
     have:=k3 rfl
     subst this
     rw[k2]
     exact(hS.wr _ _ _ _ k1).2 C9
    ·exact Nat.le_trans hS.QY Cv
   ·have:=(List.getElem?_eq_some_iff.1 hb).1
    have C9:V.H.length≤b:=C9
    omega
 ·split at h
  ·rename_i hp
   obtain⟨P',pv,r,g1,g2,g3,g4,g5⟩:=Pn hS (Y5:=if q=true then V.P.length else dO) hlq (G:=V.F) hS.fr (VL.pure (V:=V) (V':=bare V.F V.P) (fun b hb=>⟨hb,rfl⟩) hl hp) h
   obtain⟨k1,k2⟩:=DA hS g2
   exact⟨pv,_,r,g1,k1,k2,g3.Bz (fun b hb=>⟨hb,rfl⟩),g5⟩
  ·split at h
   case h_2=>cases h
   rename_i kI Zl
   unfold D3 tk at h
   split at h
   case h_2=>cases h
   rename_i r hr
   obtain⟨h1,h2,h3⟩:=MM hr
   split at h
   ·rename_i hfl
    have A5:=Cs hS (G:=(· < V.P.length)) (fun q hq=>hS.fr q hq) hl Zl (fun i _ g es e w hb=>hS.mlt hb)
    obtain⟨P',pv,g1,g2,g3⟩:=h3 _ V.P dT _ (fun _ h=>h) A5 hlq
    obtain⟨k1,k2⟩:=DA hS g2
    exact⟨pv,_,r,g1,k1,k2,Xe g3 hfl,h⟩
   ·obtain⟨k1,k2,k3,k4,k5,k6⟩:=tB (args.flatMap (iB depth V.H)) hS
    have A5:=Cs hS (G:=(V.cJ (args.flatMap (iB depth V.H))).F) (fun q hq=>k2.F q hq) hl Zl k6
    rw[←k4] at A5
    obtain⟨P',pv,g1,g2,g3⟩:=h3 _ _ dT _ k1.fr A5 (by rw[k4];exact hlq)
    obtain⟨j1,j2⟩:=DA k1 g2
    rw[k4] at g1
    refine⟨pv,_,r,g1,j1,k2.trans j2,g3.Bz (fun b hb=>⟨hb,rfl⟩),?_⟩
    show K r (V.cJ (args.flatMap (iB depth V.H))).H
    rw[k3]
    exact h
def xQ (lo dO:Nat) (V:View) (c:aE) (Q:VQ) (jE:Env):Prop :=
 W dO c (fun x JU P'=>∃V' aW,V'.P=P'∧SR V' lo dO∧CJ lo V V'∧ER V' aW JU∧Q x aW V'.H) jE V.P
theorem El {V:View} {ρ:cR} {jE:Env} (hE:ER V ρ jE) {g:Option (Nat×Bool)} {t:Bool} (h:zM g ρ=some t):xC g jE=some t:=by
 unfold zM at h
 unfold xC
 split at h
 ·exact h
 ·rename_i t' want
  have ht:=hE t'
  split at h
  ·rename_i b hb
   obtain⟨e,_⟩:=pE ht hb
   simp only[e]
   exact h
  ·rename_i vs hb
   rw[hb] at ht
   generalize hu:jE t'=u at ht
   cases ht with
   | eQ cs ps hl=>simp only[hu];exact h
  ·cases h
theorem Q1 {V:View} (hS:SR V lo dO) {x y:VV} {u w:Value} (hx:VR V x u) (hy:VR V y w) (h:kJ V.H x y=true):ahE u w=true:=by
 have key:∀ {z:VV} {v:Value},VR V z v→(match nW V.H z with
   | .bad=>True
   | .no=>iE v=none
   | .row i wr=>iE v=some (V.m i)∧∃g es e,V.H[i]? = some (.row g es e wr)
   | .AW i=>∀q,iE v=some q→∀b' g' es e w,V.H[b']? = some (.row g' es e w)→b'≠i→V.m b'≠q
   | .tree=>∀b,iE v=some b→V.F b):=by
  intro z v hz
  cases hz with
  | any=>simp only[nW]
  | sc v h =>
      cases v<;>first | rfl | cases h | skip
      rename_i a;cases a<;>first | rfl | cases h
  | agg=>rfl
  | eQ=>rfl
  | nC k hk =>
       rcases hk with rfl | rfl
       ·intro b hb;cases hb
       ·rfl
  |
   tree es k b o c r e p hF hb ho hc he hk hl =>
   cases es with
   |
    nil=>cases k with
    | nil=>exact hk.elim
    | op=>intro b' xJ;cases xJ;exact hF
    | cl=>intro b' xJ;cases xJ;exact hF
   | cons=>intro b' xJ;cases xJ;exact hF
  | cO x off b o r e p hF hb ho hl=>intro b' xJ;cases xJ;exact hF
  |
   ref b g o n c a n' c' aX hg ha hq =>
   simp only[nW]
   cases hr:aQ V.H b g with
   | none=>exact fun q h=>(by
     cases a with
     | none=>cases h
     | some a0=>cases h;exact(hq a0 rfl).2.2)
   |
    some q =>
    obtain⟨es,e,wr⟩:=q
    rw[cM] at hr
    obtain⟨rfl,rfl,rfl⟩:=ha _ _ _ hr
    exact⟨rfl,g,es,e,hr⟩
  |
   ptr b g j off a aX hg ha hq =>
   simp only[nW]
   cases hr:aQ V.H b g with
   | none=>exact fun q h=>(by
     cases a with
     | none=>cases h
     | some a0=>cases h;exact(hq a0 rfl).2.2)
   |
    some q =>
    obtain⟨es,e,wr⟩:=q
    rw[cM] at hr
    have:=ha _ _ _ hr
    subst this
    exact⟨rfl,g,es,e,hr⟩
  | sY=>rfl
 have kx:=key hx
 have ky:=key hy
 unfold kJ at h
 unfold ahE
 cases hbx:nW V.H x with
 | bad=>rw[hbx] at h;have h:false=true:=h;cases h
 |
  no =>
  rw[hbx] at kx
  have kx:iE u=none:=kx
  rw[kx]
 |
  AW i =>
  rw[hbx] at kx h
  have kx:∀q,iE u=some q→∀b' g' es e w,V.H[b']? = some (.row g' es e w)→b'≠i→V.m b'≠q:=kx
  cases NZ:nW V.H y with
  | bad=>rw[NZ] at h;have h:false=true:=h;cases h
  |
   no =>
   rw[NZ] at ky
   have ky:iE w=none:=ky
   rw[ky]
   cases iE u<;>rfl
  | AW j=>rw[NZ] at h;have h:false=true:=h;cases h
  | tree=>rw[NZ] at h;have h:false=true:=h;cases h
  |
   row j wj =>
   rw[NZ] at ky h
   obtain⟨k3,g2,Vc,e2,k4⟩:iE w=some (V.m j)∧∃g es e,V.H[j]? = some (.row g es e wj):=ky
   have h:(i != j)=true:=h
   simp only[bne_iff_ne,ne_eq] at h
   rw[k3]
   cases hu:iE u with
   | none=>rfl
   |
    some q =>
    simp only[bne_iff_ne,ne_eq]
    exact fun hm=>kx q hu j _ _ _ _ k4 (Ne.symm h) hm.symm
 |
  row i wi =>
  rw[hbx] at kx h
  obtain⟨k1,g1,As,e1,k2⟩:iE u=some (V.m i)∧∃g es e,V.H[i]? = some (.row g es e wi):=kx
  cases NZ:nW V.H y with
  | bad=>rw[NZ] at h;have h:false=true:=h;cases h
  |
   no =>
   rw[NZ] at ky
   have ky:iE w=none:=ky
   rw[ky]
   cases iE u<;>rfl
  |
   AW j =>
   rw[NZ] at ky h
   have ky:∀q,iE w=some q→∀b' g' es e w,V.H[b']? = some (.row g' es e w)→b'≠j→V.m b'≠q:=ky
   have h:(i != j)=true:=h
   simp only[bne_iff_ne,ne_eq] at h
   rw[k1]
   cases hw:iE w with
   | none=>rfl
   |
    some q =>
    simp only[bne_iff_ne,ne_eq]
    exact fun hm=>ky q hw i _ _ _ _ k2 h hm
  |
   row j wj =>
   rw[NZ] at ky h
   obtain⟨k3,g2,Vc,e2,k4⟩:iE w=some (V.m j)∧∃g es e,V.H[j]? = some (.row g es e wj):=ky
   rw[k1,k3]
   have h:(i != j)=true:=h
   simp only[bne_iff_ne,ne_eq] at h ⊢
   exact fun hm=>h (hS.inj _ _ _ _ _ _ _ _ _ _ k2 k4 hm)
  |
   tree =>
   rw[NZ] at ky h
   have ky:∀b,iE w=some b→V.F b:=ky
   have h:wi=true:=h
   subst h
   cases hw:iE w with
   | none=>rw[k1]
   |
    some b =>
    rw[k1]
    simp only[bne_iff_ne,ne_eq]
    exact fun hm=>(hS.wr _ _ _ _ k2).1 (by rw[hm];exact ky b hw)
 |
  tree =>
  rw[hbx] at kx h
  have kx:∀b,iE u=some b→V.F b:=kx
  cases NZ:nW V.H y with
  | bad=>rw[NZ] at h;have h:false=true:=h;cases h
  |
   no =>
   rw[NZ] at ky
   have ky:iE w=none:=ky
   rw[ky]
   cases iE u<;>rfl
  | tree=>rw[NZ] at h;have h:false=true:=h;cases h
  | AW j=>rw[NZ] at h;have h:false=true:=h;cases h
  |
   row j wj =>
   rw[NZ] at ky h
   obtain⟨k1,g1,As,e1,k2⟩:iE w=some (V.m j)∧∃g es e,V.H[j]? = some (.row g es e wj):=ky
   have h:wj=true:=h
   subst h
   cases hw:iE u with
   | none=>rfl
   |
    some b =>
    rw[k1]
    simp only[bne_iff_ne,ne_eq]
    exact fun hm=>(hS.wr _ _ _ _ k2).1 (by rw[←hm];exact kx b hw)
theorem OD {V:View} (hS:SR V lo dO) {ρ:cR} {jE:Env} (hE:ER V ρ jE) {fl:Fl} {q:Bool} {op:lT} {K:VV→aA→Prop} (h:dH fl lo q op ρ V.H K):LB lo dO V (iV dO q op jE V.P) K:=by
 have other:∀ {v H'},vop fl lo op ρ V.H=some (v,H')→K v H'→LB lo dO V (iV dO q op jE V.P) K:=by
  intro v H' h1 h2
  obtain⟨pv,V',g1,g2,g3,g4,g5⟩:=Tq hS hE (q:=q) h1
  exact⟨pv,V',v,g1,g3,g4,g5,by rw[g2];exact h2⟩
 unfold dH at h
 split at h
 ·rw[Ue]
  exact En hS (hE.evs _) h
 ·rename_i fv args
  rw[Rj]
  have hf:=hE.ev fv
  split at h
  ·rename_i f fA hfv
   rw[hfv] at hf
   generalize ev jE fv=u at hf ⊢
   cases hf with
   |
    sY f fA ps hl =>
    unfold Xj
    simp only[List.nil_append]
    exact En hS ((hE.evs args).append hl) h
  ·cases h
 ·split at h
  ·rename_i v H' h1
   exact other h1 h
  ·cases h
theorem Ic {fl:Fl} {K:cR→aA→Prop}:∀(is:List PI) {V:View} {ρ:cR} {jE:Env},SR V lo dO→ER V ρ jE→VS fl lo is K ρ V.H →
  WS dO is (fun JU P'=>∃V' aW,V'.P=P'∧SR V' lo dO∧CJ lo V V'∧ER V' aW JU∧K aW V'.H) jE V.P
 |
  [],V,ρ,jE,hS,hE,h=>by
  rw[aaJ]
  exact⟨V,ρ,rfl,hS,CJ.refl _ _,hE,h⟩
 |
  i::is,V,ρ,jE,hS,hE,h=>by
  unfold VS at h
  rw[aiW]
  unfold wQ
  split at h
  ·cases h
  ·rename_i hw
   rw[El hE hw]
   exact⟨_,_,rfl,Ic is hS (hE.put (.eQ [] [] .nil)) h⟩
  ·rename_i hw
   rw[El hE hw]
   obtain⟨M6,h⟩:=h
   have amX:i.cf.all (yS jE)=true:=by
    rw[List.all_eq_true] at M6 ⊢
    intro c hc
    exact Q1 hS (hE.ev c.1) (hE.ev c.2) (M6 c hc)
   simp only[amX,if_true]
   obtain⟨pv,V',v,g1,g2,g3,g4,g5⟩:=OD hS hE h
   refine⟨pv,V'.P,?_,?_⟩
   ·unfold iV at g1
    exact g1
   ·obtain⟨R7,Tm,k1,Nh,zH,k2,k3,k4,k5,k6⟩:=Ic is g2 ((hE.mono g3.toUp).put g4) g5
    exact⟨R7,Tm,k1,Nh,zH,k2,k3,g3.trans k4,k5,k6⟩
theorem Jf:∀(ts:List Nat) {V:View} {ρ aW:cR} {jE:Env} {H':aA},SR V lo dO→ER V ρ jE→Zk ts ρ V.H=some (aW,H')→∃V',V'.P=V.P∧V'.H=H'∧SR V' lo dO∧CJ lo V V'∧ER V' aW jE
 |
  [],V,ρ,aW,jE,H',hS,hE,h=>by
  cases h
  exact⟨V,rfl,rfl,hS,CJ.refl _ _,hE⟩
 |
  t::ts,V,ρ,aW,jE,H',hS,hE,h=>by
  unfold Zk at h
  split at h
  case h_2=>cases h
  rename_i v hv
  obtain⟨k1,k2,k3,k4,k5,k6⟩:=tB (iB depth V.H (ρ t)) hS
  have hx:=JE hS (G:=(V.cJ (iB depth V.H (ρ t))).F) (fun q hq=>k2.F q hq) depth (ρ t) v (jE t) (hE t) hv k6
  have Ud:VR (V.cJ (iB depth V.H (ρ t))) v (jE t):=hx.Bz (fun b hb=>⟨hb,by rw[k4]⟩)
  rw[←k3] at h
  obtain⟨V',g1,g2,g3,g4,g5⟩:=Jf ts (jE:=jE) k1 (by
   have e:=(hE.mono k2.toUp).put (d:=some t) Ud
   have ee:put jE (some t) (jE t)=jE:=by
    funext k
    simp only[put]
    split
    ·rename_i hk;rw[hk]
    ·rfl
   rw[ee] at e
   exact e) h
  exact⟨V',g1.trans k4,g2,g3,k2.trans g4,g5⟩
theorem Pg {V:View} (hS:SR V lo dO) {ρ:cR} {jE:Env} (hE:ER V ρ jE) {K:cR→aA→Prop} (h:gh K ρ V.H):∃V' aW,V'.P=V.P∧SR V' lo dO∧CJ lo V V'∧ER V' aW jE∧K aW V'.H:=by
 obtain⟨ts,aW,H',h1,h2⟩:=h
 obtain⟨V',g1,g2,g3,g4,g5⟩:=Jf ts hS hE h1
 exact⟨V',aW,g1,g3,g4,g5,by rw[g2];exact h2⟩
theorem Ia {k:Nat} {es:List VV}:jZ k es=true↔∀x∈es,below k x=true:=by
 induction es with
 | nil=>simp[jZ]
 | cons x xs ih=>simp[jZ,ih]
theorem BE {k:Nat} {es:List VV} (h:jZ k es=true):jZ k (es.flatMap aB)=true:=by
 rw[Ia] at h ⊢
 intro x hx
 obtain⟨y,hy,AI⟩:=List.mem_flatMap.1 hx
 have:=h y hy
 unfold aB at AI
 split at AI
 ·exact Ia.1 (by simpa[below] using this) x AI
 ·rw[List.mem_singleton] at AI;subst AI;exact this
theorem Pa {k:Nat} {x:VV} (h:below k x=true):jZ k (aB x)=true:=by
 have:=BE (k:=k) (es:=[x]) (by simp[jZ,h])
 simpa using this
def View.wU (V:View) (k:Nat):View:={ V with H:=V.H.take k }
theorem VR.wU {V:View} {k:Nat} (hk:k≤V.H.length) {x:VV} {v:Value} (h:VR V x v):PM.below k x=true→VR (V.wU k) x v:=by
 have he:∀ {b:Nat},b<k→∀y,(V.wU k).H[b]? = some y→V.H[b]? = some y:=fun Rx y hy=>by
  have:(V.H.take k)[_]? = some y:=hy
  rw[List.getElem?_take,if_pos Rx] at this
  exact this
 have hT:∀ {b:Nat} {y:iY},(V.wU k).H[b]? = some y→V.H[b]? = some y:=fun {b y} hy=>by
  have h:(V.H.take k)[b]? = some y:=hy
  rw[List.getElem?_take] at h
  split at h
  ·exact h
  ·cases h
 induction h using VR.rec (motive_2:=fun xs vs _=>jZ k xs=true→VL (V.wU k) xs vs) with
 | any=>intro _;exact .any _
 | sc _ h=>intro _;exact .sc _ h
 | agg cs ps _ ih=>intro hb;exact .agg _ _ (ih hb)
 | eQ cs ps _ ih=>intro hb;exact .eQ _ _ (ih hb)
 | nC k hk=>intro _;exact .nC k hk
 | tree es k b o c r e p QA sW ho hc he ZI _ ih=>intro hb;exact .tree es k b o c r e p QA sW ho hc he ZI (ih (BE hb))
 | cO x off b o r e p QA sW ho _ ih=>intro hb;exact .cO x off b o r e p QA sW ho (ih (Pa hb))
 |
  ref b g o n c a n' c' aX hg ha hq =>
  intro hb
  have Rx:b<k:=by simpa[PM.below] using hb
  exact .ref b g o n c a n' c' (by show b<(V.H.take k).length;simp;omega) (fun g' es e w hr=>hg _ _ _ _ (he Rx _ hr)) (fun es e w hr=>ha _ _ _ (he Rx _ hr)) fun a0 h=>⟨(hq a0 h).1,(hq a0 h).2.1,fun b' g' es e w hr=>(hq a0 h).2.2 b' g' es e w (hT hr)⟩
 |
  ptr b g j off a aX hg ha hq =>
  intro hb
  have Rx:b<k:=by simpa[PM.below] using hb
  exact .ptr b g j off a (by show b<(V.H.take k).length;simp;omega) (fun g' es e w hr=>hg _ _ _ _ (he Rx _ hr)) (fun es e w hr=>ha _ _ _ (he Rx _ hr)) fun a0 h=>⟨(hq a0 h).1,(hq a0 h).2.1,fun b' g' es e w hr=>(hq a0 h).2.2 b' g' es e w (hT hr)⟩
 | sY f fA ps _ ih=>intro hb;exact .sY _ _ _ (ih hb)
 | nil=>exact .nil
 |
  cons x v xs vs _ _ ih Tu =>
  rename_i hb
  simp only[jZ,Bool.and_eq_true] at hb
  exact .cons _ _ _ _ (ih hb.1) (Tu hb.2)
theorem VL.wU {V:View} {k:Nat} (hk:k≤V.H.length) {xs:List VV} {vs:List Value} (h:VL V xs vs) (hb:jZ k xs=true):VL (V.wU k) xs vs:=by
 induction xs generalizing vs with
 | nil=>cases h;exact .nil
 |
  cons x xs ih=>cases h with
  |
   cons _ v _ vs h hs =>
   simp only[jZ,Bool.and_eq_true] at hb
   exact .cons _ _ _ _ (h.wU hk hb.1) (ih hs hb.2)
theorem Nt {V V':View} (hS:SR V' lo dO) {ρ:cR} {jE:Env} (hE:ER V' ρ jE) (hx:CJ lo V V') (hr:fZ V.H.length (V'.H.take V.H.length)=true) :
  SR (V'.wU V.H.length) lo dO∧CJ lo V (V'.wU V.H.length)∧ER (V'.wU V.H.length) (Dz V.H.length ρ) jE:=by
 have hk:=hx.len
 have get:∀ {b:Nat} {y:iY},(V'.wU V.H.length).H[b]? = some y→V'.H[b]? = some y:=by
  intro b y h
  have h:(V'.H.take V.H.length)[b]? = some y:=h
  rw[List.getElem?_take] at h
  split at h
  ·exact h
  ·cases h
 refine⟨⟨fun b g es e w hb => ?_,fun b g es e hb=>hS.wr b g es e (get hb),fun a b g es e w g' lD e' w' ha hb hm=>hS.inj a b _ _ _ _ _ _ _ _ (get ha) (get hb) hm,hS.fr,hS.QY,hS.JM⟩,
  { F:=hx.F,P:=hx.P,len:=by show V.H.length≤(V'.H.take V.H.length).length;simp;omega,row:=fun b g es e w aX hb=>hx.row b g es e w aX (get hb),JM:=hx.JM,EV:=hx.EV,AW:=fun b g es e w hb hm=>hx.AW b g es e w (get hb) hm,eZ:=hx.eZ,Cx:=hx.Cx },fun t => ?_⟩
 ·obtain⟨r,p,h1,h2,h3⟩:=hS.row b g es e w (get hb)
  refine⟨r,p,h1,h2,h3.wU hk (BE ?_)⟩
  have:=List.all_eq_true.1 hr _ (List.mem_of_getElem? (show (V'.H.take V.H.length)[b]? = some _ from hb))
  exact this
 ·unfold Dz C0
  split
  ·rename_i hb
   exact(hE t).wU hk hb
  ·exact .any _
theorem Np {c:aE} {Q:Ex→Env→aD→Prop} {ρ:Env} {H:aD} (h:W dO c (ahF (fun aW H'=>W dO (.loop c) Q aW H') Q) ρ H):W dO (.loop c) Q ρ H:=by
 obtain⟨x,aW,H',h1,h2⟩:=h
 unfold W
 rw[Tc,h1]
 cases x with
 |
  normal =>
  obtain⟨y,zH,Y4,h3,h4⟩:=h2
  exact⟨y,zH,Y4,h3,h4⟩
 | exit i=>exact⟨_,_,_,rfl,h2⟩
 | ret=>exact⟨_,_,_,rfl,h2⟩
theorem sP {fl:Fl}:∀(c:aE) {V:View} {ρ:cR} {jE:Env} {Q:VQ},SR V lo dO→ER V ρ jE→VW fl lo c Q ρ V.H→xQ lo dO V c Q jE
 |
  .skip,V,ρ,jE,Q,hS,hE,h=>by
  unfold xQ
  rw[abF]
  exact⟨V,ρ,rfl,hS,CJ.refl _ _,hE,h⟩
 |
  .exit id,V,ρ,jE,Q,hS,hE,h=>by
  unfold xQ
  rw[adE]
  exact⟨V,ρ,rfl,hS,CJ.refl _ _,hE,h⟩
 |
  .ret,V,ρ,jE,Q,hS,hE,h=>by
  unfold xQ
  rw[ahP]
  exact⟨V,ρ,rfl,hS,CJ.refl _ _,hE,h⟩
 |
  .dX ops,V,ρ,jE,Q,hS,hE,h=>by
  unfold xQ
  rw[afY]
  exact Ic ops hS hE h
 |
  .seq a b,V,ρ,jE,Q,hS,hE,h=>by
  unfold xQ
  rw[ahK]
  refine(sP a hS hE h).mono ?_
  rintro x JU P' ⟨V',aW,rfl,g2,g3,g4,g5⟩
  cases x with
  |
   normal =>
   refine(sP b g2 g4 g5).mono ?_
   rintro y R7 Tm ⟨Nh,zH,k1,k2,k3,k4,k5⟩
   exact⟨Nh,zH,k1,k2,g3.trans k3,k4,k5⟩
  | exit i=>exact⟨V',aW,rfl,g2,g3,g4,g5⟩
  | ret=>exact⟨V',aW,rfl,g2,g3,g4,g5⟩
 |
  .cond c a b,V,ρ,jE,Q,hS,hE,h=>by
  unfold xQ
  rw[acY]
  unfold VW at h
  split at h
  ·rename_i t hc
   obtain⟨e,_⟩:=pE (hE.ev c) hc
   refine⟨t,e,fun ht => ?_,fun ht => ?_⟩
   ·rw[if_pos ht] at h
    exact sP a hS hE h
   ·rw[if_neg (by simp[ht])] at h
    exact sP b hS hE h
  ·cases h
 |
  .block id a,V,ρ,jE,Q,hS,hE,h=>by
  unfold xQ
  rw[Zm]
  refine(sP a hS hE h).mono ?_
  rintro x JU P' ⟨V',aW,rfl,g2,g3,g4,g5⟩
  cases x with
  | normal=>exact⟨V',aW,rfl,g2,g3,g4,g5⟩
  |
   exit i =>
   rw[FN]
   have g5:if i=id then Q .normal aW V'.H else Q (.exit i) aW V'.H:=g5
   split at g5
   ·rename_i hi
    rw[if_pos hi]
    exact⟨V',aW,rfl,g2,g3,g4,g5⟩
   ·rename_i hi
    rw[if_neg hi]
    exact⟨V',aW,rfl,g2,g3,g4,g5⟩
  | ret=>exact⟨V',aW,rfl,g2,g3,g4,g5⟩
 |
  .loop a,V,ρ,jE,Q,hS,hE,h=>by
  obtain⟨n,h⟩:=h
  have key:∀n {V:View} {ρ:cR} {jE:Env},SR V lo dO→ER V ρ jE→Ph (VW fl lo a) (fun x=>gh (Q x)) n ρ V.H→xQ lo dO V (.loop a) Q jE:=by
   intro n
   induction n with
   | zero=>intro V ρ jE _ _ h;cases h
   |
    succ n ih =>
    intro V ρ jE hS hE h
    unfold xQ
    refine Np ?_
    refine(sP a hS hE h).mono ?_
    rintro x JU P' ⟨V',aW,rfl,g2,g3,g4,g5⟩
    cases x with
    |
     normal =>
     rcases g5 with g5 | ⟨g5,g6⟩
     ·refine(ih g2 g4 g5).mono ?_
      rintro y R7 Tm ⟨Nh,zH,k1,k2,k3,k4,k5⟩
      exact⟨Nh,zH,k1,k2,g3.trans k3,k4,k5⟩
     ·obtain⟨t1,t2,t3⟩:=Nt g2 g4 g3 g5
      refine(ih t1 t3 g6).mono ?_
      rintro y R7 Tm ⟨Nh,zH,k1,k2,k3,k4,k5⟩
      exact⟨Nh,zH,k1,k2,t2.trans k3,k4,k5⟩
    |
     exit i =>
     obtain⟨Nh,zH,k1,k2,k3,k4,k5⟩:=Pg g2 g4 g5
     exact⟨Nh,zH,k1,k2,g3.trans k3,k4,k5⟩
    |
     ret =>
     obtain⟨Nh,zH,k1,k2,k3,k4,k5⟩:=Pg g2 g4 g5
     exact⟨Nh,zH,k1,k2,g3.trans k3,k4,k5⟩
  exact key n hS hE h
theorem tW {V:View} (hS:SR V lo dO) {ρ:cR} {jE:Env} (hE:ER V ρ jE) {res:List yG} {v:VV} (h:mD res ρ V.H=some v):∃pv,oM res jE V.P=some pv∧VR V v pv:=by
 have one:∀ {r:yG} {v:VV},CS ρ V.H r=some v→∃pv,Sz jE V.P r=some pv∧VR V v pv:=by
  intro r v h
  cases r with
  | tmp t=>cases h;exact⟨_,rfl,hE t⟩
  | cell t agg size=>exact Ja hS (hE t) h
 have all:∀ {rs:List yG} {vs:List VV},oT ρ V.H rs=some vs→∃ps,Ag jE V.P rs=some ps∧VL V vs ps:=by
  intro rs
  induction rs with
  | nil=>intro vs h;cases h;exact⟨[],rfl,.nil⟩
  |
   cons r rs ih =>
   intro vs h
   unfold oT at h
   split at h
   ·rename_i v vs' h1 h2
    cases h
    obtain⟨pv,k1,k2⟩:=one h1
    obtain⟨ps,k3,k4⟩:=ih h2
    exact⟨pv::ps,by unfold Ag;rw[k1,k3],.cons _ _ _ _ k2 k4⟩
   ·cases h
 unfold mD at h
 split at h
 ·rename_i v' hv
  cases h
  obtain⟨ps,k1,k2⟩:=all hv
  cases k2 with
  |
   cons _ pv _ _ hx M7 =>
   cases M7
   exact⟨pv,by unfold oM;rw[k1],hx⟩
 ·rename_i vs eW hv
  cases h
  obtain⟨ps,k1,k2⟩:=all hv
  refine⟨.tuple ps.toArray,?_,.eQ _ _ k2⟩
  unfold oM
  rw[k1]
  split
  ·rename_i pv he
   injection he with he
   subst he
   cases k2 with
   | cons x _ _ _ hx M7=>cases M7;exact absurd rfl (eW x)
  ·rename_i he
   injection he with he
   rw[he]
  ·rename_i he;cases he
 ·cases h
theorem Nu {V:View} {args:List VV} {dT:List Value} (h:VL V args dT):ER V (I5 args) (Ua dT):=by
 intro t
 unfold I5 Ua
 rw[List.getD_eq_getElem?_getD,List.getD_eq_getElem?_getD]
 cases hx:args[t]? with
 |
  none =>
  have:dT[t]? = none:=by
   rw[List.getElem?_eq_none_iff] at hx ⊢
   rw[h.length]
   exact hx
  rw[this]
  exact .eQ [] [] .nil
 |
  some x =>
  obtain⟨v,h1,h2⟩:=h.get hx
  rw[h1]
  exact h2
theorem qX.walk {f:Nat} {pf:aV} {args:List VV} {H:aA} {K:VV→aA→Prop} (fl:Fl) (ht:hJ f=some pf) (ha:args.length≤pf.ntmps) (h:VW fl lo pf.body (AD pf.res K) (I5 args) H):qX f args lo H K:=by
 intro V dO dT hH hS hl
 subst hH
 obtain⟨x,JU,P',h1,V',aW,rfl,g2,g3,g4,g5⟩:=sP pf.body hS (Nu hl) h
 have key:∃pv Tm,pC f dT dO V.P=some (pv,Tm)∧Tm=V'.P∧∃r,VR V' r pv∧K r V'.H:=by
  refine V3 ht (by rw[hl.length];exact ha) ?_
  refine⟨x,JU,V'.P,h1,?_⟩
  cases x with
  | exit i=>exact g5.elim
  |
   normal =>
   simp only[AD,Ec] at g5
   split at g5
   ·rename_i v hv
    obtain⟨pv,k2,k3⟩:=tW g2 g4 hv
    exact⟨pv,k2,rfl,v,k3,g5⟩
   ·cases g5
  |
   ret =>
   simp only[AD,Ec] at g5
   split at g5
   ·rename_i v hv
    obtain⟨pv,k2,k3⟩:=tW g2 g4 hv
    exact⟨pv,k2,rfl,v,k3,g5⟩
   ·cases g5
 obtain⟨pv,Tm,k1,rfl,r,k2,k3⟩:=key
 exact⟨pv,V',r,k1,g2,g3,k2,k3⟩
theorem VT.walk {f:Nat} {pf:aV} {args:List VV} {r:VV} (fl:Fl) (ht:hJ f=some pf) (ha:args.length≤pf.ntmps) (h:VW fl 0 pf.body (AD pf.res fun v H=>fz depth H v=some r) (I5 args) []):VT f args r:=by
 intro F P dT dO hF hl Yt
 have hS:SR (bare F P) 0 dO:=⟨fun b g es e w hb=>by simp[bare] at hb,fun b g es e hb=>by simp[bare] at hb,fun a b g es e w g' lD e' w' ha=>by simp[bare] at ha,hF,Yt,Nat.zero_le _⟩
 obtain⟨x,JU,P',h1,V',aW,rfl,g2,g3,g4,g5⟩:=sP pf.body hS (Nu hl) h
 have fin:∀ {v:VV} {pv:Value},VR V' v pv→fz depth V'.H v=some r→VR (bare (fun q=>F q∨(P.length≤q∧q<V'.P.length)) V'.P) r pv:=by
  intro v pv hv hf
  refine JE g2 (fun q hq => ?_) depth v r pv hv hf fun i _ g es e w hr => ?_
  ·rcases g3.Cx q hq with h | h | ⟨b,g,es,e,w,h,_⟩
   ·exact .inl h
   ·exact .inr ⟨h,g2.fr q hq⟩
   ·simp[bare] at h
  ·rcases Nat.lt_or_ge (V'.m i) P.length with aX | Cv
   ·obtain⟨g0,es0,w0,k1,_⟩:=g3.AW i g es e w hr aX
    simp[bare] at k1
   ·exact .inr ⟨Cv,g2.mlt hr⟩
 have key:∃pv Tm,pC f dT dO P=some (pv,Tm)∧Tm=V'.P∧VR (bare (fun q=>F q∨(P.length≤q∧q<V'.P.length)) V'.P) r pv:=by
  refine V3 ht (by rw[hl.length];exact ha) ?_
  refine⟨x,JU,V'.P,h1,?_⟩
  cases x with
  | exit i=>exact g5.elim
  |
   normal =>
   simp only[AD,Ec] at g5
   split at g5
   ·rename_i v hv
    obtain⟨pv,k2,k3⟩:=tW g2 g4 hv
    exact⟨pv,k2,rfl,fin k3 g5⟩
   ·cases g5
  |
   ret =>
   simp only[AD,Ec] at g5
   split at g5
   ·rename_i v hv
    obtain⟨pv,k2,k3⟩:=tW g2 g4 hv
    exact⟨pv,k2,rfl,fin k3 g5⟩
   ·cases g5
 obtain⟨pv,Tm,k1,rfl,k3⟩:=key
 refine⟨V'.P,pv,k1,?_,k3⟩
 refine⟨V'.P.drop P.length,List.ext_getElem? fun i => ?_⟩
 rcases Nat.lt_or_ge i P.length with hi | hi
 ·rw[List.getElem?_append_left hi]
  exact(g3.eZ i hi fun b g es e hb=>by simp[bare] at hb).symm
 ·rw[List.getElem?_append_right hi,List.getElem?_drop,show P.length+(i-P.length)=i by omega]
end
end Go.PM
namespace Go.PM
section
variable {fl:Fl} {lo:Nat} {ρ:cR} {H:aA} {Q:VQ} {K:cR→aA→Prop} {k:VV→aA→Prop} {a b:aE} {d:Option Nat} {is:List PI} {q:Bool} {op:lT}
def OC (fl:Fl) (lo:Nat) (d:Option Nat) (is:List PI) (K:cR→aA→Prop) (ρ:cR):VV→aA→Prop:=fun v H'=>VS fl lo is K (HA ρ d v) H'
def L6 (r:Option (VV×aA)) (k:VV→aA→Prop):Prop:=match r with
 | some (v,H')=>k v H'
 | none=>False
theorem KI {v:VV} {H':aA}:OC fl lo d is K ρ v H'=VS fl lo is K (HA ρ d v) H':=rfl
theorem N4 {v:VV}:HG (some v) H k=k v H:=rfl
theorem Lj {v:VV} {H':aA}:L6 (some (v,H')) k=k v H':=rfl
theorem Zp {r:VV} {K:VV→Prop}:tk (some r) K=K r:=rfl
theorem Sj:VW fl lo .skip Q ρ H=Q .normal ρ H:=rfl
theorem Rv {i:Nat}:VW fl lo (.exit i) Q ρ H=Q (.exit i) ρ H:=rfl
theorem WD:VW fl lo .ret Q ρ H=Q .ret ρ H:=rfl
theorem Xf {ops:List PI}:VW fl lo (.dX ops) Q ρ H=VS fl lo ops (Q .normal) ρ H:=rfl
theorem WQ:VW fl lo (.seq a b) Q ρ H=VW fl lo a (lF (VW fl lo b Q) Q) ρ H:=rfl
theorem Pr {i:Nat}:VW fl lo (.block i a) Q ρ H=VW fl lo a (xT i Q) ρ H:=rfl
theorem RE {c:Operand} {t:Bool} (h:dI ρ c = .sc (.bool t)):VW fl lo (.cond c a b) Q ρ H=if t=true then VW fl lo a Q ρ H else VW fl lo b Q ρ H:=by
 simp only[VW,h]
theorem AE:lF K Q .normal=K:=rfl
theorem CW {i:Nat}:lF K Q (.exit i)=Q (.exit i):=rfl
theorem DP:lF K Q .ret=Q .ret:=rfl
theorem CH {i:Nat}:xT i Q .normal=Q .normal:=rfl
theorem Bg {i j:Nat}:xT i Q (.exit j) ρ H=if j=i then Q .normal ρ H else Q (.exit j) ρ H:=rfl
theorem IL {i:Nat}:xT i Q .ret=Q .ret:=rfl
theorem ED {res:List yG} {R:VV→aA→Prop}:AD res R .normal ρ H=Ec R (mD res ρ H) H:=rfl
theorem Ky {res:List yG} {R:VV→aA→Prop}:AD res R .ret ρ H=Ec R (mD res ρ H) H:=rfl
theorem Jt {R:VV→aA→Prop} {v:VV}:Ec R (some v) H=R v H:=rfl
theorem Ov {t:Nat}:mD [.tmp t] ρ H=some (ρ t):=rfl
theorem N6 {t u:Nat}:mD [.tmp t,.tmp u] ρ H=some (.eQ [ρ t,ρ u]):=rfl
theorem HR {t u v:Nat}:mD [.tmp t,.tmp u,.tmp v] ρ H=some (.eQ [ρ t,ρ u,ρ v]):=rfl
theorem KO:mD [] ρ H=some (.eQ []):=rfl
theorem XR:VS fl lo [] K ρ H=K ρ H:=rfl
theorem aaB:VS fl lo (⟨d,op,none,q,[]⟩::is) K ρ H=dH fl lo q op ρ H (OC fl lo d is K ρ):=by
 simp only[VS,zM,List.all_nil,true_and]
 rfl
theorem mT {c:Operand×Operand} {cs:List (Operand×Operand)}:VS fl lo (⟨d,op,none,q,c::cs⟩::is) K ρ H=((c::cs).all (gJ ρ H)=true∧dH fl lo q op ρ H (OC fl lo d is K ρ)):=by
 simp only[VS,zM]
 rfl
theorem OR {t:Nat} {want x:Bool} {cf:List (Operand×Operand)} (h:ρ t = .sc (.bool x)):VS fl lo (⟨d,op,some (t,want),q,cf⟩::is) K ρ H =
  if (x == want)=true then (cf.all (gJ ρ H)=true∧dH fl lo q op ρ H (OC fl lo d is K ρ)) else VS fl lo is K (HA ρ d nX) H:=by
 simp only[VS,zM,h]
 cases (x == want)<;>rfl
theorem VA {t:Nat} {want:Bool} (h:ρ t = .sc (.bool want)):VS fl lo (⟨d,op,some (t,want),q,[]⟩::is) K ρ H=dH fl lo q op ρ H (OC fl lo d is K ρ):=by
 rw[OR h]
 simp
theorem Z6 {t:Nat} {want:Bool} {cf:List (Operand×Operand)} (h:ρ t = .sc (.bool (!want))):VS fl lo (⟨d,op,some (t,want),q,cf⟩::is) K ρ H=VS fl lo is K (HA ρ d nX) H:=by
 rw[OR h]
 cases want<;>rfl
theorem RF {c:Operand} (h:dI ρ c = .sc (.bool true)):VW fl lo (.cond c a b) Q ρ H=VW fl lo a Q ρ H:=by
 rw[RE h,if_pos rfl]
theorem Pm {c:Operand} (h:dI ρ c = .sc (.bool false)):VW fl lo (.cond c a b) Q ρ H=VW fl lo b Q ρ H:=by
 rw[RE h,if_neg (by decide)]
theorem GU {t:Nat} {want:Bool} {cf:List (Operand×Operand)} (h:ρ t=nX):VS fl lo (⟨d,op,some (t,want),q,cf⟩::is) K ρ H=VS fl lo is K (HA ρ d nX) H:=by
 simp only[VS,zM,h,nX]
theorem sQ {d t:Nat} {v:VV}:HA ρ (some d) v t=if t=d then v else ρ t:=rfl
theorem KS {v:VV}:HA ρ none v=ρ:=rfl
theorem RS {t:Nat}:dI ρ (.tmp t)=ρ t:=rfl
theorem Kj {v:Value}:dI ρ (.const v)=inj v:=rfl
theorem Oa {f:Nat}:dI ρ (.func f) = .sY f []:=rfl
theorem SQ {k:IntKind} {n:Int}:inj (.int k n) = .sc (.int k n):=rfl
theorem OZ {t:Bool}:inj (.bool t) = .sc (.bool t):=rfl
theorem SO {s:ByteArray}:inj (.string s) = .sc (.string s):=rfl
theorem Sa:inj (.slice none 0 0) = .tree [] .nil:=rfl
theorem St {cs:Array Value}:inj (.agg cs) = .agg (cs.toList.map iL):=rfl
theorem PJ {k:IntKind} {n:Int}:iL (.int k n) = .sc (.int k n):=rfl
theorem K0 {t:Bool}:iL (.bool t) = .sc (.bool t):=rfl
theorem O5 {s:ByteArray}:iL (.string s) = .sc (.string s):=rfl
theorem Ok:iL (.slice none 0 0) = .tree [] .nil:=rfl
theorem Vz {x:Operand}:dH fl lo q (.mv x) ρ H k=k (dI ρ x) H:=rfl
theorem gE {r:Option VV}:(match r.map (fun v=>(v,H)) with | some (v,H')=>k v H' | none=>False)=HG r H k:=by cases r<;>rfl
theorem NL {c x y:Operand}:dH fl lo q (.pick c x y) ρ H k=HG (Pf (dI ρ c) (dI ρ x) (dI ρ y)) H k:=gE
theorem Sq {o:BinOp} {x y:Operand}:dH fl lo q (.bin o x y) ρ H k=HG (Fv (cX o) (dI ρ x) (dI ρ y)) H k:=gE
theorem SS {n:Bool} {x y:Operand}:dH fl lo q (.eqb n x y) ρ H k=HG (Fv (MS n) (dI ρ x) (dI ρ y)) H k:=gE
theorem KA {n:Bool} {x:Operand}:dH fl lo q (.isnil n x) ρ H k=HG (Dh n (dI ρ x) H) H k:=gE
theorem Kn {n:Bool} {ks:List CK} {x y:Operand}:dH fl lo q (.eqagg n ks x y) ρ H k=HG (QD n ks (dI ρ x) (dI ρ y)) H k:=gE
theorem Xu {o:UnOp} {x:Operand}:dH fl lo q (.un o x) ρ H k=HG (Io (VO o) (dI ρ x)) H k:=gE
theorem Ru {o:IntKind} {x:Operand}:dH fl lo q (.cvt o x) ρ H k=HG (Io (Re o) (dI ρ x)) H k:=gE
theorem SK {x:Operand}:dH fl lo q (.cvs x) ρ H k=HG (Io SX (dI ρ x)) H k:=gE
theorem SD {x:Operand} {i:Nat}:dH fl lo q (.ext x i) ρ H k=HG (Vf i (dI ρ x)) H k:=gE
theorem R9 {g:Bool} {off size:Nat} {x:Operand}:dH fl lo q (.fld g off size x) ρ H k=HG (Y2 g off size (dI ρ x)) H k:=gE
theorem Lv {z:List Value} {places:List (Nat×Nat)} {parts:List (Nat×Operand)}:dH fl lo q (.build z places parts) ρ H k=HG ((vH places (z.map iL) (parts.map fun(i,x)=>(i,dI ρ x))).map .agg) H k:=by
 show (match (vH places (z.map iL) (parts.map fun(i,x)=>(i,dI ρ x))).map fun cs=>(VV.agg cs,H) with | some (v,H')=>k v H' | none=>False)=_
 cases vH places (z.map iL) (parts.map fun(i,x)=>(i,dI ρ x))<;>rfl
theorem Sm {x:Operand}:dH fl lo q (.chk x) ρ H k=HG (Uf (dI ρ x) H) H k:=gE
theorem KB {off:Nat} {x:Operand}:dH fl lo q (.faddr off x) ρ H k=HG (EX off (dI ρ x) H) H k:=gE
theorem Lr {size:Nat} {x i:Operand}:dH fl lo q (.iaddr size x i) ρ H k=HG (bE size (dI ρ x) (dI ρ i) H) H k:=gE
theorem Pv {x i:Operand}:dH fl lo q (.sidx x i) ρ H k=HG (Fv EI (dI ρ x) (dI ρ i)) H k:=gE
theorem Nl {x:Operand} {l h:Option Operand}:dH fl lo q (.ssub x l h) ρ H k=HG (sS (dI ρ x) (l.map (dI ρ)) (h.map (dI ρ))) H k:=gE
theorem Oh {f:Nat} {fA:List Operand}:dH fl lo q (.mkfn f fA) ρ H k=k (.sY f (fA.map (dI ρ))) H:=rfl
theorem RP {x:Operand}:dH fl lo q (.len x) ρ H k=HG (oG (dI ρ x) H) H k:=gE
theorem PC {x:Operand}:dH fl lo q (.slen x) ρ H k=HG (Io yD (dI ρ x)) H k:=gE
theorem Su {x y:Operand}:dH fl lo q (.min x y) ρ H k=HG (Fv PL (dI ρ x) (dI ρ y)) H k:=gE
theorem RT {x y:Operand}:dH fl lo q (.max x y) ρ H k=HG (Fv PH (dI ρ x) (dI ρ y)) H k:=gE
theorem Oj {g:Bool} {size:Nat} {p:Operand}:dH fl lo q (.load g size p) ρ H k=HG (dU g size (dI ρ p) H) H k:=gE
theorem Sf {size:Nat} {x:Operand} {l h m:Option Operand}:dH fl lo q (.sub size x l h m) ρ H k=HG (Ei size (dI ρ x) (l.map (dI ρ)) (h.map (dI ρ)) (m.map (dI ρ)) H) H k:=gE
theorem Sd {z:List Value}:dH fl lo q (.new z) ρ H k=L6 (if (z.map iL).all cH then some (.ptr H.length 0 0 0,H++[.row 0 [elemOf (z.map iL)] z.length true]) else none) k:=rfl
theorem Sb {x:Operand}:dH fl lo q (.box x) ρ H k=L6 (if (aB (dI ρ x)).all cH then (if fl.bf then some (.cO (dI ρ x) 0,H) else some (.ptr H.length 0 0 0,H++[.row 0 [dI ρ x] (aB (dI ρ x)).length true])) else none) k:=rfl
theorem OK {z:List Value} {bytes:Nat} {l c:Operand}:dH fl lo q (.make z bytes l c) ρ H k=L6 (if (z.map iL).all cH then yK z bytes (dI ρ l) (dI ρ c) H else none) k:=rfl
theorem SG {z:List Value} {n:Nat} {parts:List (Nat×Operand)}:dH fl lo q (.lit z n parts) ρ H k=L6 (rN fl.lr z n (parts.map fun(i,x)=>(i,dI ρ x)) H) k:=rfl
def Sk (r:Option aA) (k:VV→aA→Prop):Prop:=match r with
 | some H'=>k nX H'
 | none=>False
theorem IV {H':aA}:Sk (some H') k=k nX H':=rfl
theorem Lk {r:Option aA}:(match r.map (fun H'=>(nX,H')) with | some (v,H')=>k v H' | none=>False)=Sk r k:=by cases r<;>rfl
theorem Ks {size:Nat} {p v:Operand}:dH fl lo q (.store size p v) ρ H k=Sk (cQ lo size (dI ρ p) (dI ρ v) H) k:=Lk
def aeZ (lo size bytes:Nat) (x:VV) (new:Option (List VV)) (H:aA) (k:VV→aA→Prop):Prop:=match new with
 | some new=>L6 (gH lo size bytes x new H) k
 | none=>False
theorem K6 {size bytes:Nat} {x:VV} {new:List VV}:aeZ lo size bytes x (some new) H k=L6 (gH lo size bytes x new H) k:=rfl
theorem Sx {size bytes:Nat} {x y:Operand}:dH fl lo q (.app size bytes x y) ρ H k=aeZ lo size bytes (dI ρ x) (eX size (dI ρ y) H) H k:=by
 show (match (match eX size (dI ρ y) H with | some new=>gH lo size bytes (dI ρ x) new H | none=>none) with | some (v,H')=>k v H' | none=>False)=_
 cases eX size (dI ρ y) H<;>rfl
theorem Og {size:Nat} {x y:Operand}:dH fl lo q (.copy size x y) ρ H k=L6 (Ls lo size (dI ρ x) (dI ρ y) H) k:=rfl
theorem Kw {z:List Value} {x:Operand}:dH fl lo q (.clear z x) ρ H k=Sk (Mq lo z (dI ρ x) H) k:=Lk
theorem Nr {f:Nat} {args:List Operand}:dH fl lo q (.call f args) ρ H k=dD f (args.map (dI ρ)) (if q then H.length else lo) H k:=rfl
noncomputable def Qr (x:VV) (args:List VV) (lo:Nat) (H:aA) (k:VV→aA→Prop):Prop:=match x with
 | .sY f fA=>dD f (args++fA) lo H k
 | _=>False
theorem Ak {f:Nat} {fA args:List VV}:Qr (.sY f fA) args lo H k=dD f (args++fA) lo H k:=rfl
theorem Le {fv:Operand} {args:List Operand}:dH fl lo q (.callv fv args) ρ H k=Qr (dI ρ fv) (args.map (dI ρ)) (if q then H.length else lo) H k:=by
 simp only[dH,Qr]
 all_goals (cases dI ρ fv<;>rfl)
theorem Rt {x:Operand}:dH fl lo q (.b2s x) ρ H k=L6 (vop fl lo (.b2s x) ρ H) k:=rfl
theorem SF {f:Value→Option Value} {x:Value}:Io f (.sc x)=(f x).map .sc:=rfl
theorem Si {f:Value→Value→Option Value} {x y:Value}:Fv f (.sc x) (.sc y)=(f x y).map .sc:=rfl
theorem OW {t:Bool} {x y:VV}:Pf (.sc (.bool t)) x y=some (if t=true then x else y):=rfl
theorem N7 {vs:List VV} {i:Nat}:Vf i (.eQ vs)=vs[i]? := rfl
theorem Lh {es:List VV} {t:TK}:oG (.tree es t) H=some (.sc (.int .i64 es.length)):=rfl
theorem gK {b g o n c:Nat} {r:List VV×Nat×Bool} (h:aQ H b g=some r):oG (.ref b g o n c) H=some (.sc (.int .i64 n)):=by
 simp only[oG,h,Option.map_some]
theorem O7 {x:VV} {o off:Nat}:EX off (.cO x o) H=some (.cO x (o+off)):=rfl
theorem Wa {x:VV} {o:Nat}:Uf (.cO x o) H=some (.cO x o):=rfl
theorem Ma {g:Bool} {size o:Nat} {x:VV}:dU g size (.cO x o) H=dW g size x o:=rfl
theorem MP {g:Bool} {size b gn j o:Nat} {es:List VV} {e:Nat} {w:Bool} {x:VV} (h:aQ H b gn=some (es,e,w)) (hx:es[j]? = some x):dU g size (.ptr b gn j o) H=dW g size x o:=by
 simp only[dU,h,hx]
theorem Xr {size:Nat} {v:Value}:dW false size (.sc v) 0=some (.sc v):=rfl
theorem Sp {size:Nat} {es:List VV} {t:TK}:dW false size (.tree es t) 0=some (.tree es t):=rfl
theorem WK {size b g o n c:Nat}:dW false size (.ref b g o n c) 0=some (.ref b g o n c):=rfl
theorem WE {size f:Nat} {fA:List VV}:dW false size (.sY f fA) 0=some (.sY f fA):=rfl
theorem Vr {size o:Nat} {cs:List VV}:dW false size (.agg cs) o=cs[o]? := rfl
theorem Vj {size:Nat} {cs:List VV} (h:cs.length=size):dW true size (.agg cs) 0=some (.agg cs):=by
 subst h
 simp[dW,aB]
theorem XA {size:Nat} {es:List VV} {t:TK} {kk:IntKind} {i:Int} {x:VV} (h0:0≤i) (hx:es[i.toNat]? = some x) (hs:(aB x).length=size):bE size (.tree es t) (.sc (.int kk i)) H=some (.cO x 0):=by
 simp only[bE,h0,hx,hs,if_true]
theorem Tb {size:Nat} {es:List VV} {t:TK} {kk:IntKind} {i:Nat} {x:VV} (hx:es[i]? = some x) (hs:(aB x).length=size):bE size (.tree es t) (.sc (.int kk (i:Int))) H=some (.cO x 0) :=
 XA (by omega) (by simpa using hx) hs
theorem Vl {size b g o n c:Nat} {kk:IntKind} {i:Int} {es:List VV} {w:Bool} (h:aQ H b g=some (es,size,w)) (h0:0≤i) (h1:i<n):bE size (.ref b g o n c) (.sc (.int kk i)) H=some (.ptr b g (o+i.toNat) 0):=by
 simp only[bE,h]
 rw[if_pos ⟨trivial,h0,h1⟩]
theorem Us {size b g o n c:Nat} {kk:IntKind} {i:Nat} {es:List VV} {w:Bool} (h:aQ H b g=some (es,size,w)) (h1:i<n):bE size (.ref b g o n c) (.sc (.int kk (i:Int))) H=some (.ptr b g (o+i) 0):=by
 rw[Vl h (by omega) (by omega),Int.toNat_natCast]
abbrev TC (f:Nat) (args:List VV) (r:VV):Prop:=∀(lo:Nat) (H:aA) (k:VV→aA→Prop),dD f args lo H k=k r H
theorem TC.of {f:Nat} {args:List VV} {r:VV} (hr:CC.contains f=false) (ha:aJ args=true) (h:vT f args=some r):TC f args r:=by
 intro lo H k
 unfold dD D3
 simp only[hr,ha,if_true,h,Bool.false_eq_true,if_false,Zp]
theorem TC.walk {f:Nat} {pf:aV} {args:List VV} {r:VV} (fl:Fl) (ht:hJ f=some pf) (hr:CC.contains f=false) (hn:args.length≤pf.ntmps) (ha:aJ args=true) (Rg:gO r=true) (h:VW fl 0 pf.body (AD pf.res fun v H=>fz depth H v=some r) (I5 args) []):TC f args r :=
 TC.of hr ha (ZF ha Rg (VT.walk fl ht hn h))
theorem TC.ET {f:Nat} {args kI:List VV} {r:VV} (h:TC f kI r) (hr:CC.contains f=false) (Ym:aJ kI=true) (hf:args.mapM (fz depth H)=some kI) (ha:aJ args=false):dD f args lo H k=if Gf r=true then k r H else k r (cJ H (args.flatMap (iB depth H))):=by
 have e:∀K,D3 f kI K=K r:=fun K=>by
  have:=h 0 [] fun r _=>K r
  unfold dD at this
  simpa only[hr,Ym,if_true,Bool.false_eq_true,if_false] using this
 unfold dD
 simp only[hr,ha,hf,Bool.false_eq_true,if_false]
 rw[e]
theorem aH {n:Nat} {v:VV} (h:aR v=true):fz (n+1) H v=some v:=by
 unfold PM.fz
 rw[if_pos h]
theorem aG {v:VV} (h:aR v=true):fz depth H v=some v:=aH h
theorem mapM_pure {n:Nat}:∀ {es:List VV},aJ es=true→es.mapM (PM.fz (n+1) H)=some es
 | [],_=>rfl
 |
  x::xs,h=>by
  simp only[aJ,Bool.and_eq_true] at h
  rw[List.mapM_cons,aH h.1,mapM_pure h.2]
  rfl
theorem DB {b g n c e:Nat} {es:List VV} {w:Bool} (h:aQ H b g=some (es,e,w)) (hn:n=es.length) (hc:n≤c) (hp:aJ es=true):fz depth H (.ref b g 0 n c)=some (.tree es .op):=by
 have:aR (.ref b g 0 n c)=false:=rfl
 show fz (7+1) H _=_
 unfold PM.fz
 simp only[this,h,Bool.false_eq_true,if_false]
 subst hn
 rw[if_pos ⟨by omega,hc⟩,List.drop_zero,List.take_length,mapM_pure hp]
 rfl
theorem Df {n:Nat} {v:VV} (h:aR v=true):iB n H v=[]:=by
 cases n with
 | zero=>rfl
 | succ n=>unfold iB;rw[if_pos h]
theorem zO {n:Nat}:∀ {es:List VV},aJ es=true→es.flatMap (iB n H)=[]
 | [],_=>rfl
 |
  x::xs,h=>by
  simp only[aJ,Bool.and_eq_true] at h
  rw[List.flatMap_cons,Df h.1,zO h.2]
  rfl
theorem Kx {b g n c e:Nat} {es:List VV} {w:Bool} (h:aQ H b g=some (es,e,w)) (hn:n=es.length) (hp:aJ es=true):iB depth H (.ref b g 0 n c)=[b]:=by
 have:aR (.ref b g 0 n c)=false:=rfl
 show iB (7+1) H _=_
 unfold iB
 simp only[this,h,Bool.false_eq_true,if_false]
 subst hn
 rw[List.drop_zero,List.take_length,zO hp]
theorem SP {r:Option VV} {K K':VV→Prop} (hk:∀v,K v→K' v) (h:tk r K):tk r K':=by
 cases r with
 | none=>exact h
 | some v=>exact hk _ h
theorem GF {f:Nat} {args:List VV} {k k':VV→aA→Prop} (hk:∀v H,k v H→k' v H) (h:dD f args lo H k):dD f args lo H k':=by
 unfold dD at h ⊢
 split at h
 ·rename_i h1
  rw[if_pos h1]
  exact h.mono hk
 ·rename_i h1
  rw[if_neg h1]
  split at h
  ·rename_i h2
   rw[if_pos h2]
   exact SP (fun v=>hk v H) h
  ·rename_i h2
   rw[if_neg h2]
   split at h
   ·refine SP (fun v hv => ?_) h
    split at hv
    ·rename_i h3;rw[if_pos h3];exact hk _ _ hv
    ·rename_i h3;rw[if_neg h3];exact hk _ _ hv
   ·cases h
theorem PU {k k':VV→aA→Prop} (hk:∀v H,k v H→k' v H) (h:dH fl lo q op ρ H k):dH fl lo q op ρ H k':=by
 unfold dH at h ⊢
 split at h
 ·exact GF hk h
 ·split at h
  ·exact GF hk h
  ·cases h
 ·split at h
  ·exact hk _ _ h
  ·cases h
theorem MU {K K':cR→aA→Prop} (hk:∀ρ H,K ρ H→K' ρ H):∀ {is:List PI} {ρ:cR} {H:aA},VS fl lo is K ρ H→VS fl lo is K' ρ H
 | [],ρ,H,h=>hk _ _ h
 |
  i::is,ρ,H,h=>by
  unfold VS at h ⊢
  split at h
  ·cases h
  ·exact MU hk h
  ·exact⟨h.1,PU (fun v H' hv=>MU hk hv) h.2⟩
theorem oD {K K':cR→aA→Prop} {Q Q':VQ} (hk:∀ρ H,K ρ H→K' ρ H) (hq:∀x ρ H,Q x ρ H→Q' x ρ H):∀x ρ H,lF K Q x ρ H→lF K' Q' x ρ H
 | .normal,ρ,H,h=>hk _ _ h
 | .exit _,ρ,H,h=>hq _ _ _ h
 | .ret,ρ,H,h=>hq _ _ _ h
theorem YJ {K K':cR→aA→Prop} (hk:∀ρ H,K ρ H→K' ρ H) (h:gh K ρ H):gh K' ρ H:=by
 obtain⟨ts,aW,H',h1,h2⟩:=h
 exact⟨ts,aW,H',h1,hk _ _ h2⟩
theorem tU:∀ {c:aE} {Q Q':VQ} {ρ:cR} {H:aA},(∀x ρ H,Q x ρ H→Q' x ρ H)→VW fl lo c Q ρ H→VW fl lo c Q' ρ H
 | .skip,_,_,_,_,hq,h=>hq _ _ _ h
 | .exit _,_,_,_,_,hq,h=>hq _ _ _ h
 | .ret,_,_,_,_,hq,h=>hq _ _ _ h
 | .dX _,_,_,_,_,hq,h=>MU (fun ρ H=>hq .normal ρ H) h
 | .seq a b,Q,Q',_,_,hq,h=>tU (c:=a) (oD (fun ρ H h=>tU (c:=b) hq h) hq) h
 |
  .cond c a b,Q,Q',ρ,H,hq,h=>by
  unfold VW at h ⊢
  split at h
  ·split at h
   ·rename_i h1;rw[if_pos h1];exact tU (c:=a) hq h
   ·rename_i h1;rw[if_neg h1];exact tU (c:=b) hq h
  ·cases h
 |
  .block i a,Q,Q',_,_,hq,h=>by
  refine tU (c:=a) (fun x ρ H hx => ?_) h
  cases x with
  | normal=>exact hq _ _ _ hx
  | ret=>exact hq _ _ _ hx
  |
   exit j =>
   rw[Bg] at hx ⊢
   split at hx
   ·rename_i h1;rw[if_pos h1];exact hq _ _ _ hx
   ·rename_i h1;rw[if_neg h1];exact hq _ _ _ hx
 |
  .loop a,Q,Q',ρ,H,hq,h=>by
  obtain⟨n,h⟩:=h
  refine⟨n,?_⟩
  induction n generalizing ρ H with
  | zero=>cases h
  |
   succ n ih =>
   refine tU (c:=a) (oD (fun ρ H h => ?_) fun x ρ H h=>YJ (hq x) h) h
   rcases h with h | ⟨h1,h2⟩
   ·exact .inl (ih _ _ h)
   ·exact .inr ⟨h1,ih _ _ h2⟩
theorem aaF {K:cR→aA→Prop} (h:K ρ H):gh K ρ H:=⟨[],ρ,H,rfl,h⟩
theorem Pc {α:Type} {c:aE} (I:α→cR→aA→Prop) (μ:α→Nat) (s:α) (h0:I s ρ H)
  (round:∀s ρ H,I s ρ H→VW fl lo c (lF (fun aW H'=>∃s',μ s'<μ s∧(I s' aW H'∨(fZ H.length (H'.take H.length)=true∧I s' (Dz H.length aW) (H'.take H.length)))) (fun x=>gh (Q x))) ρ H):VW fl lo (.loop c) Q ρ H:=by
 refine⟨μ s+1,?_⟩
 have key:∀n s ρ H,μ s<n→I s ρ H→Ph (VW fl lo c) (fun x=>gh (Q x)) n ρ H:=by
  intro n
  induction n with
  | zero=>intro s ρ H h;omega
  |
   succ n ih =>
   intro s ρ H hn hI
   refine tU (oD (fun aW H' h => ?_) fun x ρ H h=>h) (round s ρ H hI)
   obtain⟨s',h1,h2 | ⟨h2,h3⟩⟩:=h
   ·exact .inl (ih s' _ _ (by omega) h2)
   ·exact .inr ⟨h2,ih s' _ _ (by omega) h3⟩
 exact key _ s ρ H (Nat.lt_succ_self _) h0
theorem aY {α:Type} {c:aE} (I:α→cR→aA→Prop) (μ:α→Nat) (s:α) (h0:I s ρ H)
  (round:∀s ρ H,I s ρ H→VW fl lo c (lF (fun aW H'=>∃s',μ s'<μ s∧I s' aW H') Q) ρ H):VW fl lo (.loop c) Q ρ H :=
 Pc I μ s h0 fun s ρ H h=>tU (oD (fun _ _ ⟨s',h1,h2⟩=>⟨s',h1,.inl h2⟩) fun _ _ _ h=>aaF h) (round s ρ H h)
theorem I6 {α:Type} {c:aE} (I:α→cR→aA→Prop) (μ:α→Nat) (s:α) (h0:I s ρ H)
  (round:∀s ρ H,I s ρ H→VW fl lo c (lF (fun aW H'=>∃s',μ s'<μ s∧fZ H.length (H'.take H.length)=true∧I s' (Dz H.length aW) (H'.take H.length)) Q) ρ H):VW fl lo (.loop c) Q ρ H :=
 Pc I μ s h0 fun s ρ H h=>tU (oD (fun _ _ ⟨s',h1,h2⟩=>⟨s',h1,.inr h2⟩) fun _ _ _ h=>aaF h) (round s ρ H h)
theorem Dg {n:Nat} {v:VV} (h:below n v=true):C0 n v=v:=by
 unfold C0
 rw[if_pos h]
mutual
theorem Dd {n:Nat} (v:VV) (h:aR v=true):below n v=true:=by
 cases v with
 | any=>rfl
 | sc=>rfl
 | agg cs=>exact kM cs h
 | eQ cs=>exact kM cs h
 | tree es t=>exact kM es (E6 h).2.1
 | cO x o=>exact Dd x h
 | ref=>cases h
 | ptr=>cases h
 | sY f fA=>exact kM fA h
theorem kM {n:Nat} (vs:List VV) (h:aJ vs=true):jZ n vs=true:=by
 cases vs with
 | nil=>rfl
 |
  cons x xs =>
  simp only[aJ,Bool.and_eq_true] at h
  simp only[jZ,Dd x h.1,kM xs h.2,Bool.and_self]
end
end
end Go.PM
namespace Go.PM
def val (b:Nat):List Nat→Nat
 | []=>0
 | d::ds=>d+b*val b ds
def aC (b n:Nat):List Nat:=if h:n=0∨b<2 then [] else n % b::aC b (n / b)
termination_by n
decreasing_by exact Nat.div_lt_self (by omega) (by omega)
section
variable {b:Nat}
theorem bQ:aC b 0=[]:=by rw[aC];simp
theorem iD (hb:2≤b) {n:Nat} (hn:n≠0):aC b n=n % b::aC b (n / b):=by rw[aC,dif_neg (by omega)]
theorem pO {d:Nat} {ds:List Nat}:val b (d::ds)=d+b*val b ds:=rfl
theorem wC (xs ys:List Nat):val b (xs++ys)=val b xs+b^xs.length*val b ys:=by
 induction xs with
 | nil=>simp[val]
 |
  cons x xs ih =>
  simp only[List.cons_append,pO,ih,List.length_cons,Nat.pow_succ]
  rw[Nat.mul_add,Nat.mul_comm (b^xs.length) b,Nat.mul_assoc,Nat.add_assoc]
theorem val_one (d:Nat):val b [d]=d:=by simp[val]
theorem qB (xs:List Nat) (d:Nat):val b (xs++[d])=val b xs+b^xs.length*d:=by rw[wC,val_one]
theorem oY (n:Nat):val b (List.replicate n 0)=0:=by
 induction n with
 | zero=>rfl
 | succ n ih=>simp[List.replicate_succ,val,ih]
theorem mO {xs:List Nat} (h:∀d∈xs,d<b):val b xs<b^xs.length:=by
 induction xs with
 | nil=>simp[val]
 |
  cons x xs ih =>
  have h1:=h x List.mem_cons_self
  have h2:=ih fun d hd=>h d (List.mem_cons_of_mem _ hd)
  simp only[pO,List.length_cons,Nat.pow_succ]
  have h3:b*(val b xs+1)≤b*b^xs.length:=Nat.mul_le_mul_left _ h2
  rw[Nat.mul_add,Nat.mul_one] at h3
  rw[Nat.mul_comm (b^xs.length) b]
  omega
theorem bW (hb:2≤b) (n:Nat):val b (aC b n)=n:=by
 induction n using Nat.strongRecOn with
 |
  _ n ih =>
  by_cases h:n=0
  ·subst h;rw[bQ];rfl
  ·rw[iD hb h,pO,ih _ (Nat.div_lt_self (by omega) (by omega))]
   exact Nat.mod_add_div n b
theorem eE (hb:2≤b) (n:Nat):∀d∈aC b n,d<b:=by
 induction n using Nat.strongRecOn with
 |
  _ n ih =>
  by_cases h:n=0
  ·subst h;rw[bQ];intro d hd;cases hd
  ·rw[iD hb h]
   intro d hd
   rcases List.mem_cons.1 hd with rfl | hd
   ·exact Nat.mod_lt _ (by omega)
   ·exact ih _ (Nat.div_lt_self (by omega) (by omega)) d hd
theorem jV (hb:2≤b) {n:Nat}:aC b n=[]↔n=0:=by
 constructor
 ·intro h
  have:=bW hb n
  rw[h] at this
  exact this.symm
 ·rintro rfl;exact bQ
theorem Kk (hb:2≤b) (n:Nat):(aC b n).getLast? ≠ some 0:=by
 induction n using Nat.strongRecOn with
 |
  _ n ih =>
  by_cases h:n=0
  ·subst h;rw[bQ];simp
  ·rw[iD hb h]
   have h1:=ih _ (Nat.div_lt_self (n:=n) (k:=b) (by omega) (by omega))
   by_cases h2:n / b=0
   ·rw[h2,bQ]
    have:n<b:=by
     rcases Nat.div_eq_zero_iff.1 h2 with h | h<;>omega
    simp[Nat.mod_eq_of_lt this,h]
   ·have eW:aC b (n / b)≠[]:=fun h=>h2 ((jV hb).1 h)
    obtain⟨x,xs,hx⟩:=List.exists_cons_of_ne_nil eW
    rw[hx] at h1 ⊢
    rw[List.getLast?_cons_cons]
    exact h1
theorem JC (hb:2≤b) {xs:List Nat} (h:∀d∈xs,d<b) (hl:xs.getLast? ≠ some 0):aC b (val b xs)=xs:=by
 induction xs with
 | nil=>exact bQ
 |
  cons x xs ih =>
  have h1:=h x List.mem_cons_self
  have hr:(x+b*val b xs) % b=x:=by rw[Nat.add_mul_mod_self_left,Nat.mod_eq_of_lt h1]
  have hq:(x+b*val b xs) / b=val b xs:=by rw[Nat.add_mul_div_left _ _ (by omega),Nat.div_eq_of_lt h1,Nat.zero_add]
  cases xs with
  |
   nil =>
   have hx:x≠0:=by rintro rfl;simp at hl
   rw[val_one,iD hb hx,Nat.mod_eq_of_lt h1,Nat.div_eq_of_lt h1,bQ]
  |
   cons y ys =>
   rw[List.getLast?_cons_cons] at hl
   have h2:=ih (fun d hd=>h d (List.mem_cons_of_mem _ hd)) hl
   have h3:val b (y::ys)≠0:=fun h0=>by rw[h0,bQ] at h2;cases h2
   have h4:b*val b (y::ys)≠0:=Nat.mul_ne_zero (by omega) h3
   rw[pO,iD hb (by omega),hr,hq,h2]
theorem HO (hb:2≤b) {n:Nat} (hn:n≠0):b^((aC b n).length-1)≤n:=by
 induction n using Nat.strongRecOn with
 |
  _ n ih =>
  rw[iD hb hn]
  by_cases h2:n / b=0
  ·rw[h2,bQ];simp;omega
  ·have h3:=ih _ (Nat.div_lt_self (by omega) (by omega)) h2
   have eW:aC b (n / b)≠[]:=fun h=>h2 ((jV hb).1 h)
   obtain⟨x,xs,hx⟩:=List.exists_cons_of_ne_nil eW
   rw[hx] at h3 ⊢
   simp only[List.length_cons,Nat.add_sub_cancel] at h3 ⊢
   rw[Nat.pow_succ]
   calc b^xs.length*b≤n / b*b:=Nat.mul_le_mul_right _ h3
    _≤n:=Nat.div_mul_le_self n b
theorem fP (hb:2≤b) (n:Nat):n<b^(aC b n).length:=by
 have:=mO (eE hb n)
 rwa [bW hb] at this
theorem kH (hb:2≤b) {n k:Nat} (h:n<b^k):(aC b n).length≤k:=by
 by_cases hn:n=0
 ·subst hn;rw[bQ];simp
 ·have h1:=HO hb hn
  have h2:b^((aC b n).length-1)<b^k:=Nat.lt_of_le_of_lt h1 h
  have h3:(aC b n).length-1<k:=(Nat.pow_lt_pow_iff_right (by omega)).1 h2
  have eW:aC b n≠[]:=fun h=>hn ((jV hb).1 h)
  have:=List.length_pos_iff.2 eW
  omega
theorem dG (hb:2≤b) {m n:Nat} (h:m≤n):(aC b m).length≤(aC b n).length :=
 kH hb (Nat.lt_of_le_of_lt h (fP hb n))
theorem nI (xs:List Nat) (i:Nat):val b xs=val b (xs.take i)+b^(xs.take i).length*val b (xs.drop i):=by
 rw[←wC,List.take_append_drop]
theorem aU {xs:List Nat} {i d:Nat} (h:xs[i]? = some d):val b (xs.take (i+1))=val b (xs.take i)+b^i*d:=by
 have aX:=(List.getElem?_eq_some_iff.1 h).1
 rw[List.take_add_one,h]
 simp only[Option.toList_some]
 rw[qB,List.length_take,Nat.min_eq_left (by omega)]
theorem qG {xs:List Nat} {i d:Nat} (h:xs[i]? = some d):val b (xs.drop i)=d+b*val b (xs.drop (i+1)):=by
 obtain⟨aX,he⟩:=List.getElem?_eq_some_iff.1 h
 rw[List.drop_eq_getElem_cons aX,he,pO]
theorem Dx {P A B O c x y s q r W:Nat} (h:A+B=O+P*c) (hs:c+x+y=s) (hr:r+W*q=s):(A+P*x)+(B+P*y)=(O+P*r)+(P*W)*q:=by grind
theorem GH {P A B O l x y r W l':Nat} (h:A+P*l=O+B) (hd:r+y+l=x+W*l'):(A+P*x)+(P*W)*l'=(O+P*r)+(B+P*y):=by grind
theorem XD {xs:List Nat} {i d:Nat} (h:i<xs.length):(xs.set i d).take (i+1)=xs.take i++[d]:=by
 rw[List.set_eq_take_append_cons_drop,if_pos h,List.take_append]
 simp[List.take_take,Nat.min_eq_left (by omega:i≤xs.length),Nat.min_eq_right (by omega:i≤i+1)]
theorem dL {xs:List Nat} {i d:Nat} (h:i<xs.length):val b ((xs.set i d).take (i+1))=val b (xs.take i)+b^i*d:=by
 rw[XD h,qB,List.length_take,Nat.min_eq_left (by omega)]
theorem kC {xs:List Nat} {i d:Nat} (h:∀x∈xs,x<b) (hd:d<b):∀x∈xs.set i d,x<b:=by
 intro x hx
 rcases List.mem_or_eq_of_mem_set hx with h1 | h1
 ·exact h x h1
 ·subst h1;exact hd
theorem iI {xs:List Nat} {i:Nat} (h:xs.length≤i):val b (xs.take i)=val b xs:=by rw[List.take_of_length_le h]
theorem xP (hb:0<b) (n:Nat):∀x∈List.replicate n 0,x<b:=by
 intro x hx
 rw[List.eq_of_mem_replicate hx]
 exact hb
theorem T2 {P x y R t:Nat} (ht:t<P) (h:x<y):t+P*(x+R)<P*(y+R):=by
 have h1:P*(x+R+1)≤P*(y+R):=Nat.mul_le_mul_left _ (by omega)
 rw[Nat.mul_add,Nat.mul_one] at h1
 omega
theorem Cm {xs ys:List Nat} {i x y:Nat} (hx:∀d∈xs,d<b) (hl:xs.length=ys.length) (hi:xs[i]? = some x) (hj:ys[i]? = some y) (hd:xs.drop (i+1)=ys.drop (i+1)) (h:x<y):val b xs<val b ys:=by
 have h1:=(List.getElem?_eq_some_iff.1 hi).1
 have ht:(xs.take i).length=i:=by simp;omega
 have YG:(ys.take i).length=i:=by simp;omega
 have h2:=mO (b:=b) (xs:=xs.take i) fun d hd=>hx d (List.mem_of_mem_take hd)
 rw[ht] at h2
 rw[nI xs i,nI ys i,ht,YG,qG hi,qG hj,hd]
 have:=T2 (R:=b*val b (ys.drop (i+1))) h2 h
 omega
theorem NJ (hb:2≤b) {m n:Nat} (h:aC b m=aC b n):m=n:=by
 have:=congrArg (val b) h
 rwa [bW hb,bW hb] at this
def dY (a b:Nat):Int:=if a<b then -1 else if a=b then 0 else 1
theorem Cd (hb:2≤b) {m n:Nat} (h:(aC b m).length<(aC b n).length):m<n:=by
 rcases Nat.lt_or_ge m n with h1 | h1
 ·exact h1
 ·have:=dG hb h1
  omega
end
end Go.PM
namespace Go.PM
abbrev VI (n:Int):VV := .sc (.int .i64 n)
abbrev VK (k:IntKind) (n:Int):VV := .sc (.int k n)
abbrev VB (t:Bool):VV := .sc (.bool t)
abbrev bL {α:Type} (f:α→VV) (xs:List α):VV := .tree (xs.map f) .op
section
variable {α:Type} {f:α→VV} {xs ys:List α} {x:α} {t:TK} {H:aA} {size i:Nat} {k:IntKind}
theorem dP:oG (.tree (xs.map f) t) H=some (VI xs.length):=by simp[oG]
theorem aM (hx:xs[i]? = some x) (hs:(aB (f x)).length=size):bE size (.tree (xs.map f) t) (VK k (i:Int)) H=some (.cO (f x) 0) :=
 Tb (by simp[hx]) hs
theorem Pp (hs:∀x,(aB (f x)).length=size):∀y∈xs.map f,(aB y).length=size:=by
 intro y hy
 obtain⟨x,_,rfl⟩:=List.mem_map.1 hy
 exact hs x
theorem dQ (hp:∀x,aR (f x)=true):aJ (xs.map f)=true:=by
 rw[zG]
 intro y hy
 obtain⟨x,_,rfl⟩:=List.mem_map.1 hy
 exact hp x
theorem Y8 (hp:∀x,gO (f x)=true):pM (xs.map f)=true:=by
 rw[I1]
 intro y hy
 obtain⟨x,_,rfl⟩:=List.mem_map.1 hy
 exact hp x
theorem RQ {size:Nat} (hs:∀x,(aB (f x)).length=size):uni (xs.map f)=true:=by
 cases xs with
 | nil=>rfl
 |
  cons x xs =>
  simp only[List.map_cons,uni,List.all_eq_true]
  intro y hy
  obtain⟨z,_,rfl⟩:=List.mem_map.1 hy
  simp[hs]
theorem jA {size:Nat} (hs:∀x,(aB (f x)).length=size) (hp:∀x,aR (f x)=true):aR (bL f xs)=true:=by
 simp only[bL,aR,dQ hp,RQ hs,decide_true,Bool.and_self]
theorem By {size:Nat} (hs:∀x,(aB (f x)).length=size) (hp:∀x,gO (f x)=true) (he:∀x,xR (f x)=true):gO (bL f xs)=true:=by
 have h4:(xs.map f).all xR=true:=by
  rw[List.all_eq_true]
  intro y hy
  obtain⟨z,_,rfl⟩:=List.mem_map.1 hy
  exact he z
 simp only[bL,gO,Y8 hp,RQ hs,h4,decide_true,Bool.and_self]
theorem Zd {es:List VV} {h:Nat} (eW:0<es.length) (hs:∀x∈es,(aB x).length=size) (hh:h≤es.length) {k2:IntKind} :
  Ei size (.tree es t) none (some (VK k2 h)) none H=some (.tree (es.take h) .op):=by
 cases es with
 | nil=>simp at eW
 |
  cons y ys =>
  have hy:=hs y List.mem_cons_self
  simp only[List.length_cons] at hh
  have e1:(0:Int)≤h∧(h:Int)≤((ys.length+1:Nat):Int):=by omega
  simp only[Ei,D5,hy,if_true,dR,e1,Int.toNat_natCast,Option.isSome_none,Bool.false_eq_true,false_and,if_false]
  simp
theorem NN (h:0<xs.length):0<(xs.map f).length:=by simpa using h
theorem Wb {b g o n c:Nat} {es:List VV} {w:Bool} {l h:Nat} (hr:aQ H b g=some (es,size,w)) (hl:l≤h) (hh:h≤c) {k1 k2:IntKind} :
  Ei size (.ref b g o n c) (some (VK k1 l)) (some (VK k2 h)) none H=some (.ref b g (o+l) (h-l) (c-l)):=by
 have e1:(0:Int)≤h∧(h:Int)≤(c:Int):=by omega
 have e2:(0:Int)≤l∧(l:Int)≤(h:Int):=by omega
 simp only[Ei,D5,hr,if_true,dR,e1,e2,Int.toNat_natCast,Option.isSome_none,Bool.false_eq_true,false_and,if_false]
 simp[hl]
theorem xA {b g o n c:Nat} {es:List VV} {w:Bool} {h:Nat} (hr:aQ H b g=some (es,size,w)) (hh:h≤c) {k2:IntKind} :
  Ei size (.ref b g o n c) none (some (VK k2 h)) none H=some (.ref b g o h c):=by
 have e1:(0:Int)≤h∧(h:Int)≤(c:Int):=by omega
 simp only[Ei,D5,hr,if_true,dR,e1,Int.toNat_natCast,Option.isSome_none,Bool.false_eq_true,false_and,if_false]
 simp
theorem Gw {h:Nat} (hs:∀x,(aB (f x)).length=size) (eW:0<xs.length) (hh:h≤xs.length) {k2:IntKind} :
  Ei size (.tree (xs.map f) t) none (some (VK k2 h)) none H=some (bL f (xs.take h)):=by
 rw[Zd (NN eW) (Pp hs) (by simpa using hh)]
 simp[bL]
theorem Nj {b g e:Nat} {es:List VV} {w:Bool} {L K:aA} (h:b=L.length):aQ (L ++ .row g es e w::K) b g=some (es,e,w):=by
 subst h
 simp[aQ]
theorem bT {g e:Nat} {es:List VV} {w:Bool} {K:aA}:aQ (.row g es e w::K) 0 g=some (es,e,w):=by simp[aQ]
theorem cP {n:Nat}:(n=n+1)=False:=eq_false fun h=>by omega
theorem XJ {g g' e:Nat} {es:List VV} {w:Bool} {K:aA} (h:g'≠g):aQ (.row g' es e w::K) 0 g=none:=by simp[aQ,h]
theorem cB {g e:Nat} {es:List VV} {w:Bool} {K:aA}:aQ (.row (g+1) es e w::K) 0 g=none:=XJ (Nat.succ_ne_self g)
theorem B2 {b g:Nat} {x:iY} {K:aA}:aQ (x::K) (b+1) g=aQ K b g:=by simp[aQ]
theorem bB {b g o n c e:Nat} {es:List VV} {w:Bool} (h:aQ H b g=some (es,e,w)) (hi:i<n):bE e (.ref b g o n c) (VK k (i:Int)) H=some (.ptr b g (o+i) 0):=Us h hi
theorem kX {b g j e lo:Nat} {es:List VV} {v:VV} (h:aQ H b g=some (es,e,true)) (hj:j<es.length) (gF:lo≤b) (hv:(aB v).length=e) (hs:(aB v).all cH=true):cQ lo e (.ptr b g j 0) v H=some (H.set b (.row g (es.set j v) e true)):=by
 obtain⟨x,hx⟩:∃x,es[j]? = some x:=⟨_,List.getElem?_eq_getElem hj⟩
 simp only[cQ,h,hx]
 rw[if_pos ⟨hv,gF,hs⟩,if_pos ⟨trivial,trivial⟩]
theorem uE {z:List Value} {bytes n:Nat} (hz:elemOf (z.map iL)=f x) (hn:n*bytes≤281474976710656) (hm:n≤9223372036854775807):yK z bytes (VI n) (VI n) H=some (.ref H.length 0 0 n n,H++[.row 0 ((List.replicate n x).map f) z.length true]):=by
 simp only[yK]
 rw[if_pos ⟨by omega,by omega,by omega,by omega⟩,hz]
 simp
theorem rL {ag w:Bool} {b gn e j o:Nat} (h:aQ H b gn=some (xs.map f,e,w)) (hx:xs[j]? = some x):dU ag size (.ptr b gn j o) H=dW ag size (f x) o :=
 MP h (by simp[hx])
theorem fH {b g j e lo:Nat} (h:aQ H b g=some (xs.map f,e,true)) (hj:j<xs.length) (gF:lo≤b) (hv:(aB (f x)).length=e) (hs:(aB (f x)).all cH=true):cQ lo e (.ptr b g j 0) (f x) H=some (H.set b (.row g ((xs.set j x).map f) e true)):=by
 rw[kX h (by simpa using hj) gF hv hs,List.map_set]
theorem HH {b gn n c e:Nat} {es:List VV} {w:Bool} (h:aQ H b gn=some (es,e,w)) (hn:n≤es.length) (hc:n≤c) (hp:aJ es=true):fz depth H (.ref b gn 0 n c)=some (.tree (es.take n) .op):=by
 have:aR (.ref b gn 0 n c)=false:=rfl
 show fz (7+1) H _=_
 unfold fz
 simp only[this,h,Bool.false_eq_true,if_false]
 have A7:aJ (es.take n)=true:=zG.2 fun x hx=>zG.1 hp x (List.mem_of_mem_take hx)
 rw[if_pos ⟨by omega,hc⟩,List.drop_zero,mapM_pure A7]
 rfl
theorem TC.flat {fn:Nat} {args kI:List VV} {r:VV} (h:TC fn kI r) (xU:CC.contains fn=false) (Ym:aJ kI=true) (hf:args.mapM (fz depth H)=some kI) (hr:Gf r=true) :
  ∀(lo:Nat) (K:VV→aA→Prop),dD fn args lo H K=K r H:=by
 intro lo K
 cases hp:aJ args with
 |
  true =>
  have:=mapM_pure (n:=7) (H:=H) hp
  rw[show fz depth H=fz (7+1) H from rfl,this] at hf
  cases hf
  exact h lo H K
 | false=>rw[h.ET xU Ym hf hp,hr,if_pos rfl]
theorem fz1 {v v':VV} (h:fz depth H v=some v'):[v].mapM (fz depth H)=some [v']:=by rw[List.mapM_cons,h];rfl
theorem Yq {v v' u u':VV} (h:fz depth H v=some v') (hu:fz depth H u=some u'):[v,u].mapM (fz depth H)=some [v',u']:=by rw[List.mapM_cons,h,fz1 hu];rfl
theorem TC.Y9 {fn b gn n c e size:Nat} {w:Bool} {r:VV} (h:TC fn [bL f xs] r) (hr:aQ H b gn=some (xs.map f,e,w)) (hn:n=xs.length) (hc:n≤c) (hs:∀x,(aB (f x)).length=size) (hp:∀x,aR (f x)=true) (xU:CC.contains fn=false) (hf:Gf r=false) :
  ∀(lo:Nat) (K:VV→aA→Prop),dD fn [.ref b gn 0 n c] lo H K=K r (cJ H [b]):=by
 intro lo K
 have e1:fz depth H (.ref b gn 0 n c)=some (bL f xs):=DB hr (by simpa using hn) hc (dQ hp)
 have e2:iB depth H (.ref b gn 0 n c)=[b]:=Kx hr (by simpa using hn) (dQ hp)
 have e3:[VV.ref b gn 0 n c].mapM (fz depth H)=some [bL f xs]:=by rw[List.mapM_cons,e1];rfl
 rw[h.ET xU (by simp only[aJ,jA hs hp,Bool.and_self]) e3 rfl,hf]
 simp only[Bool.false_eq_true,if_false,List.flatMap_cons,List.flatMap_nil,e2,List.append_nil]
theorem ZW {es:List VV} {e:Nat} (hp:aJ es=true):fz depth H (.tree es (.cl e))=some (.tree es .op):=by
 show fz (7+1) H _=_
 unfold fz
 have:aR (.tree es (.cl e))=false:=by simp[aR]
 simp only[this,Bool.false_eq_true,if_false,mapM_pure hp]
 rfl
theorem VD {es:List VV} {e:Nat} (hp:aJ es=true):iB depth H (.tree es (.cl e))=[]:=by
 show iB (7+1) H _=_
 unfold iB
 have:aR (.tree es (.cl e))=false:=by simp[aR]
 simp only[this,Bool.false_eq_true,if_false,zO hp]
theorem DL:fz depth H (.tree [] .nil)=some (.tree [] .op):=by
 show fz (7+1) H _=_
 unfold fz
 have:aR (.tree [] .nil)=false:=by simp[aR]
 simp only[this,Bool.false_eq_true,if_false]
 rfl
theorem TC.args {fn:Nat} {args kI:List VV} {r:VV} (h:TC fn kI r) (xU:CC.contains fn=false) (Ym:aJ kI=true) (hf:args.mapM (fz depth H)=some kI) (hi:args.flatMap (iB depth H)=[]) :
  ∀(lo:Nat) (K:VV→aA→Prop),dD fn args lo H K=K r H:=by
 intro lo K
 cases hp:aJ args with
 |
  true =>
  have:=mapM_pure (n:=7) (H:=H) hp
  rw[show fz depth H=fz (7+1) H from rfl,this] at hf
  cases hf
  exact h lo H K
 |
  false =>
  rw[h.ET xU Ym hf hp,hi]
  split<;>rfl
theorem oC {lr:Bool} {z:List Value} (hz:(z.map iL).all cH=true):rN lr z 0 [] H=some (.ref H.length 0 0 0 0,H++[.row 0 [] z.length true]):=by
 simp[rN,tX,hz]
theorem sK {z:List Value} {v:VV} (hz:(z.map iL).all cH=true) (hv:(aB v).length=z.length) (hs:(aB v).all cH=true):rN false z 1 [(0,v)] H=some (.tree [v] (.cl z.length),H):=by
 simp only[rN,tX,List.replicate_succ,List.replicate_zero,List.length_cons,List.length_nil,hv,hs,and_self,if_true,List.set_cons_zero,hz]
 simp[hs]
theorem Ws {z:List Value} {u v:VV} (hz:(z.map iL).all cH=true) (hu:(aB u).length=z.length) (hus:(aB u).all cH=true) (hv:(aB v).length=z.length) (hs:(aB v).all cH=true):rN false z 2 [(0,u),(1,v)] H=some (.tree [u,v] (.cl z.length),H):=by
 simp[rN,tX,hv,hs,hu,hus,hz,List.replicate_succ]
end
theorem wrap32 (n:Nat):IntKind.u32.wrap (n:Int)=((n % 4294967296:Nat):Int):=by rw[IntKind.wrap_u32];omega
theorem wrap_u64 (n:Int):IntKind.u64.wrap n=n % 18446744073709551616:=by simp[IntKind.wrap,IntKind.bits,IntKind.signed]
theorem eH (n:Nat) (h:n<18446744073709551616):IntKind.u64.wrap (n:Int)=(n:Int):=by rw[wrap_u64];omega
theorem wrapN {x:Int} (n:Nat) (h:x=n) (hn:n≤9223372036854775807):IntKind.i64.wrap x=(n:Int):=by subst h;exact wrap64 (by omega) (by omega)
theorem qP (n:Nat) (k:IntKind):cX .shr (.int .u64 (n:Int)) (.int k 32)=some (.int .u64 ((n / 4294967296:Nat):Int)):=by
 simp only[cX]
 have h1:¬((32:Int)<0):=by decide
 have h2:Nat.min (Int.toNat 32) IntKind.u64.bits=32:=by decide
 rw[if_neg h1,h2]
 congr 2
 rw[Int.fdiv_eq_ediv_of_nonneg _ (by decide)]
 omega
theorem B7 (n:Nat) (k:IntKind) (h:n<4294967296):cX .shl (.int .u64 (n:Int)) (.int k 32)=some (.int .u64 ((n*4294967296:Nat):Int)):=by
 simp only[cX]
 have h1:¬((32:Int)<0):=by decide
 have h2:Nat.min (Int.toNat 32) IntKind.u64.bits=32:=by decide
 rw[if_neg h1,h2]
 congr 2
 have:(n:Int)*2^32=((n*4294967296:Nat):Int):=by omega
 rw[this]
 exact eH _ (by omega)
section
variable {n k g:Nat} {K:aA} {x y:iY}
theorem ZC:aQ (List.replicate n iY.dead++K) n g=aQ K 0 g:=by
 unfold aQ
 rw[List.getElem?_append_right (by simp)]
 simp
theorem Yv:aQ (List.replicate n iY.dead++K) (n+k) g=aQ K k g:=by
 unfold aQ
 rw[List.getElem?_append_right (by simp)]
 simp
theorem adF:(List.replicate n iY.dead++K).set n y=List.replicate n iY.dead++K.set 0 y:=by
 rw[List.set_append_right _ _ (by simp)]
 simp
end
theorem uC {k g e:Nat} {es:List VV} {w:Bool} {K:aA} (h:jZ k es=true):fZ k (.row g es e w::K)=fZ k K:=by
 unfold fZ
 rw[List.all_cons]
 simp only[h,Bool.true_and]
theorem FB {k:Nat}:fZ k []=true:=rfl
theorem pJ {size:Nat} {v:VV} {t:TK} {H:aA} (h:(aB v).length=size) (hs:(aB v).all cH=true):eX size (.tree [v] t) H=some [v]:=by
 simp[eX,h,hs]
theorem pK {α:Type} {f:α→VV} {xs:List α} {x:α} {lo b g n e bytes:Nat} {H:aA} (h:aQ H b g=some (xs.map f,e,true)) (hn:n=xs.length) (gF:lo≤b) (he:1≤e) (hb:1≤bytes) (Bc:(n+1)*bytes≤140737488355328) :
  gH lo e bytes (.ref b g 0 n n) [f x] H=some (.ref b (g+1) 0 (n+1) (n+1),H.set b (.row (g+1) ((xs++[x]).map f) e true)):=by
 subst hn
 simp only[gH,h,List.length_cons,List.length_nil,Nat.zero_add]
 rw[if_pos ⟨hb,he⟩,if_pos ⟨trivial,gF,by simp⟩,if_neg (by omega),if_pos Bc,List.drop_zero,List.take_of_length_le (by simp)]
 simp
section
variable {H:aA} {b g o n c j lo size:Nat} {neg ag:Bool} {k:IntKind} {i:Int} {v:VV}
theorem kP:dU ag size (.ptr b g j o) H=(match aQ H b g with
 |
  some (es,_,_)=>match es[j]? with
  | some x=>dW ag size x o
  | none=>none
 | none=>none):=rfl
theorem Gv:cQ lo size (.ptr b g j o) v H=(match aQ H b g with
 |
  some (es,e,true)=>match es[j]? with
  |
   some x =>
   if (aB v).length=size∧lo≤b∧(aB v).all cH then
    if o=0∧size=e then some (H.set b (.row g (es.set j v) e true))
    else if 2≤e∧o+size≤e then some (H.set b (.row g (es.set j (.agg (cL (aB x) o (aB v)))) e true))
    else none
   else none
  | none=>none
 | _=>none):=rfl
theorem Kt:oG (.ref b g o n c) H=(aQ H b g).map fun _ => .sc (.int .i64 n):=rfl
theorem Gu:EX size (.ptr b g j o) H=(aQ H b g).map fun _ => .ptr b g j (o+size):=rfl
theorem Kq:Uf (.ptr b g j o) H=(aQ H b g).map fun _ => .ptr b g j o:=rfl
theorem GI:Dh neg (.ref b g o n c) H=(aQ H b g).map fun _ => .sc (.bool (false != neg)):=rfl
theorem IE:Dh neg (.tree [] .nil) H=some (.sc (.bool (true != neg))):=rfl
theorem G4 {x:VV} {xs:List VV} {t:TK}:Dh neg (.tree (x::xs) t) H=some (.sc (.bool (false != neg))):=rfl
theorem GJ:bE size (.ref b g o n c) (.sc (.int k i)) H=(match aQ H b g with
 | some (_,e,_)=>if e=size∧0≤i∧i<n then some (.ptr b g (o+i.toNat) 0) else none
 | none=>none):=rfl
end
theorem Ej {v:Value}:isAny (.sc v)=false:=rfl
theorem zN {es:List VV} {t:TK}:isAny (.tree es t)=false:=rfl
theorem Cf {b g o n c:Nat}:isAny (.ref b g o n c)=false:=rfl
theorem Cj {cs:List VV}:isAny (.agg cs)=false:=rfl
theorem Lb {f:Nat} {cs:List VV}:isAny (.sY f cs)=false:=rfl
theorem An {x:VV}:elemOf [x]=x:=rfl
theorem zP {x y:VV} {cs:List VV}:elemOf (x::y::cs) = .agg (x::y::cs):=rfl
theorem fD {k t:Nat} {ρ:cR}:Dz k ρ t=C0 k (ρ t):=rfl
theorem Je {k:Nat} {v:Value}:C0 k (.sc v) = .sc v:=rfl
theorem vP {k:Nat} {v:VV} (h:aR v=true):C0 k v=v:=Dg (Dd v h)
theorem yT {k b g o n c:Nat} (h:b<k):C0 k (.ref b g o n c) = .ref b g o n c:=Dg (by simp[below,h])
theorem PE {v:Value}:cH (.sc v)=true:=rfl
theorem HV {es:List VV} {t:TK}:cH (.tree es t)=true:=rfl
theorem Lw {b g o n c:Nat}:cH (.ref b g o n c)=true:=rfl
theorem Kl {b g o n:Nat}:cH (.ptr b g o n)=true:=rfl
theorem Jd {x:VV} {o:Nat}:cH (.cO x o)=true:=rfl
theorem KL {f:Nat} {cs:List VV}:cH (.sY f cs)=true:=rfl
theorem K3 {v:Value}:aB (.sc v)=[.sc v]:=rfl
theorem Ir {cs:List VV}:aB (.agg cs)=cs:=rfl
theorem GQ {es:List VV} {t:TK}:aB (.tree es t)=[.tree es t]:=rfl
theorem HT {b g o n c:Nat}:aB (.ref b g o n c)=[.ref b g o n c]:=rfl
theorem N1 {k k':IntKind} {n:Int}:Re k (.int k' n)=some (.int k (k.wrap n)):=rfl
theorem KF {args:List VV} {t:Nat}:I5 args t=args.getD t nX:=rfl
theorem agF {n:Nat}:LT n = .tmp n:=rfl
theorem afE {n:Int}:LI n = .const (.int .i64 n):=rfl
theorem ahO:LG = .const (.bool true):=rfl
theorem agZ:LF = .const (.bool false):=rfl
theorem aiP {n:Nat}:LL n = .load false 1 (.tmp n):=rfl
theorem ahT {n:Nat}:LK n = .load true 3 (.tmp n):=rfl
theorem agO {n k:Nat}:LX n k = .ext (.tmp n) k:=rfl
theorem ahD {k n:Nat}:LA k n = .faddr k (.tmp n):=rfl
theorem ahN {d:Nat} {p:lT}:LO d p=⟨some d,p,none,false,[]⟩:=rfl
theorem afF {d:Nat} {p:lT}:LQ d p=⟨some d,p,none,true,[]⟩:=rfl
theorem agG {p:lT}:LN p=⟨none,p,none,false,[]⟩:=rfl
theorem agT {d s:Nat}:LM d s=⟨some d,.mv (.tmp s),none,false,[]⟩:=rfl
theorem agY {g d:Nat} {p:lT}:LY g d p=⟨some d,p,some (g,true),false,[]⟩:=rfl
theorem agD {g d:Nat} {p:lT}:LZ g d p=⟨some d,p,some (g,false),false,[]⟩:=rfl
theorem agB {l:List PI} {c:aE}:LS l c = .seq (.dX l) c:=rfl
theorem VX:type_of% (
 And.intro @WQ<|And.intro @Xf<|And.intro @Pr<|And.intro @Sj<|And.intro @Rv<|And.intro @WD<|And.intro @RF <|
 And.intro @Pm<|And.intro @AE<|And.intro @CW<|And.intro @DP<|And.intro @CH<|And.intro @Bg <|
 And.intro @IL<|And.intro @ED<|And.intro @Ky<|And.intro @Jt<|And.intro @Ov<|And.intro @N6 <|
 And.intro @HR<|And.intro @KO<|And.intro @XR<|And.intro @aaB<|And.intro @VA<|And.intro @Z6<|And.intro @GU <|
 And.intro @Vz<|And.intro @NL<|And.intro @Sq<|And.intro @SS<|And.intro @KA<|And.intro @Kn<|And.intro @Xu <|
 And.intro @Ru<|And.intro @SK<|And.intro @SD<|And.intro @R9<|And.intro @Lv<|And.intro @Sm<|And.intro @KB <|
 And.intro @Lr<|And.intro @Pv<|And.intro @Nl<|And.intro @Oh<|And.intro @RP<|And.intro @PC<|And.intro @Su <|
 And.intro @RT<|And.intro @Oj<|And.intro @Sf<|And.intro @Sd<|And.intro @Sb<|And.intro @OK<|And.intro @SG <|
 And.intro @Ks<|And.intro @Sx<|And.intro @Og<|And.intro @Kw<|And.intro @Nr<|And.intro @Le <|
 And.intro @Ak<|And.intro @KI<|And.intro @N4<|And.intro @Lj<|And.intro @IV<|And.intro @K6 <|
 And.intro @sQ<|And.intro @KS<|And.intro @RS<|And.intro @Kj<|And.intro @Oa<|And.intro @SQ<|And.intro @OZ <|
 And.intro @SO<|And.intro @Sa<|And.intro @St<|And.intro @PJ<|And.intro @K0<|And.intro @O5<|And.intro @Ok <|
 And.intro @SF<|And.intro @Si<|And.intro @OW<|And.intro @N7<|And.intro @Lh<|And.intro @O7<|And.intro @Wa <|
 And.intro @Ma<|And.intro @Xr<|And.intro @Sp<|And.intro @WK<|And.intro @WE<|And.intro @Vr<|And.intro @Vj <|
 And.intro @List.length_map.{0,0}<|And.intro @List.all_cons.{0}<|And.intro @List.all_nil.{0}<|And.intro @PE<|And.intro @Bool.and_self <|
 And.intro @Bool.and_true<|And.intro @N1<|And.intro @R2<|And.intro @SB<|And.intro @Po<|And.intro @O3 <|
 And.intro @Oo<|And.intro @NG<|And.intro @Ob<|And.intro @Oz<|And.intro @OT<|And.intro @Od<|And.intro @Pq <|
 And.intro @RB<|And.intro @Sh<|And.intro @Value.bool.injEq<|And.intro @decide_eq_true_eq<|And.intro @decide_eq_false_iff_not <|
 And.intro @Bool.not_true<|And.intro @Bool.not_false<|And.intro @decide_true<|And.intro @decide_false<|And.intro @Bool.not_eq_true' <|
 And.intro @Bool.not_eq_false'<|And.intro @Bool.false_eq_true<|And.intro @false_and<|And.intro @and_false<|And.intro @Option.map_some.{0,0} <|
 And.intro @Option.map_none.{0,0}<|And.intro @if_true.{1}<|And.intro @if_false.{1}<|And.intro @List.map_cons.{0,0}<|And.intro @List.map_nil.{0,0} <|
 And.intro @List.cons_append.{0}<|And.intro @List.nil_append.{0}<|And.intro @and_true<|And.intro @true_and<|And.intro @Nat.zero_add <|
 And.intro @Nat.add_zero<|And.intro @List.length_cons.{0}<|And.intro @List.length_nil.{0}<|And.intro @KF<|And.intro @List.getD_cons_zero.{0} <|
 And.intro @List.getD_cons_succ.{0}<|And.intro @List.getD_nil.{0}<|And.intro @VV.sc.injEq<|And.intro @List.getElem?_cons_zero.{0} <|
 And.intro @List.getElem?_cons_succ.{0}<|And.intro @HV<|And.intro @Lw<|And.intro @Kl<|And.intro @Jd <|
 And.intro @KL<|And.intro @K3<|And.intro @Ir<|And.intro @GQ<|And.intro @HT<|And.intro @agF<|And.intro @afE <|
 And.intro @ahO<|And.intro @agZ<|And.intro @aiP<|And.intro @ahT<|And.intro @agO<|And.intro @ahD<|And.intro @ahN<|And.intro @afF <|
 And.intro @agG<|And.intro @agT<|And.intro @agY<|And.intro @agD <| @agB) :=
 And.intro @WQ<|And.intro @Xf<|And.intro @Pr<|And.intro @Sj<|And.intro @Rv<|And.intro @WD<|And.intro @RF <|
 And.intro @Pm<|And.intro @AE<|And.intro @CW<|And.intro @DP<|And.intro @CH<|And.intro @Bg <|
 And.intro @IL<|And.intro @ED<|And.intro @Ky<|And.intro @Jt<|And.intro @Ov<|And.intro @N6 <|
 And.intro @HR<|And.intro @KO<|And.intro @XR<|And.intro @aaB<|And.intro @VA<|And.intro @Z6<|And.intro @GU <|
 And.intro @Vz<|And.intro @NL<|And.intro @Sq<|And.intro @SS<|And.intro @KA<|And.intro @Kn<|And.intro @Xu <|
 And.intro @Ru<|And.intro @SK<|And.intro @SD<|And.intro @R9<|And.intro @Lv<|And.intro @Sm<|And.intro @KB <|
 And.intro @Lr<|And.intro @Pv<|And.intro @Nl<|And.intro @Oh<|And.intro @RP<|And.intro @PC<|And.intro @Su <|
 And.intro @RT<|And.intro @Oj<|And.intro @Sf<|And.intro @Sd<|And.intro @Sb<|And.intro @OK<|And.intro @SG <|
 And.intro @Ks<|And.intro @Sx<|And.intro @Og<|And.intro @Kw<|And.intro @Nr<|And.intro @Le <|
 And.intro @Ak<|And.intro @KI<|And.intro @N4<|And.intro @Lj<|And.intro @IV<|And.intro @K6 <|
 And.intro @sQ<|And.intro @KS<|And.intro @RS<|And.intro @Kj<|And.intro @Oa<|And.intro @SQ<|And.intro @OZ <|
 And.intro @SO<|And.intro @Sa<|And.intro @St<|And.intro @PJ<|And.intro @K0<|And.intro @O5<|And.intro @Ok <|
 And.intro @SF<|And.intro @Si<|And.intro @OW<|And.intro @N7<|And.intro @Lh<|And.intro @O7<|And.intro @Wa <|
 And.intro @Ma<|And.intro @Xr<|And.intro @Sp<|And.intro @WK<|And.intro @WE<|And.intro @Vr<|And.intro @Vj <|
 And.intro @List.length_map.{0,0}<|And.intro @List.all_cons.{0}<|And.intro @List.all_nil.{0}<|And.intro @PE<|And.intro @Bool.and_self <|
 And.intro @Bool.and_true<|And.intro @N1<|And.intro @R2<|And.intro @SB<|And.intro @Po<|And.intro @O3 <|
 And.intro @Oo<|And.intro @NG<|And.intro @Ob<|And.intro @Oz<|And.intro @OT<|And.intro @Od<|And.intro @Pq <|
 And.intro @RB<|And.intro @Sh<|And.intro @Value.bool.injEq<|And.intro @decide_eq_true_eq<|And.intro @decide_eq_false_iff_not <|
 And.intro @Bool.not_true<|And.intro @Bool.not_false<|And.intro @decide_true<|And.intro @decide_false<|And.intro @Bool.not_eq_true' <|
 And.intro @Bool.not_eq_false'<|And.intro @Bool.false_eq_true<|And.intro @false_and<|And.intro @and_false<|And.intro @Option.map_some.{0,0} <|
 And.intro @Option.map_none.{0,0}<|And.intro @if_true.{1}<|And.intro @if_false.{1}<|And.intro @List.map_cons.{0,0}<|And.intro @List.map_nil.{0,0} <|
 And.intro @List.cons_append.{0}<|And.intro @List.nil_append.{0}<|And.intro @and_true<|And.intro @true_and<|And.intro @Nat.zero_add <|
 And.intro @Nat.add_zero<|And.intro @List.length_cons.{0}<|And.intro @List.length_nil.{0}<|And.intro @KF<|And.intro @List.getD_cons_zero.{0} <|
 And.intro @List.getD_cons_succ.{0}<|And.intro @List.getD_nil.{0}<|And.intro @VV.sc.injEq<|And.intro @List.getElem?_cons_zero.{0} <|
 And.intro @List.getElem?_cons_succ.{0}<|And.intro @HV<|And.intro @Lw<|And.intro @Kl<|And.intro @Jd <|
 And.intro @KL<|And.intro @K3<|And.intro @Ir<|And.intro @GQ<|And.intro @HT<|And.intro @agF<|And.intro @afE <|
 And.intro @ahO<|And.intro @agZ<|And.intro @aiP<|And.intro @ahT<|And.intro @agO<|And.intro @ahD<|And.intro @ahN<|And.intro @afF <|
 And.intro @agG<|And.intro @agT<|And.intro @agY<|And.intro @agD <| @agB
theorem iA:type_of% (
 And.intro @kP<|And.intro @Gv<|And.intro @GJ<|And.intro @Kt<|And.intro @Gu<|And.intro @Kq <|
 And.intro @GI<|And.intro @IE<|And.intro @G4<|And.intro @bT<|And.intro @B2<|And.intro @List.set_cons_zero.{0} <|
 And.intro @List.set_cons_succ.{0}<|And.intro @An<|And.intro @zP<|And.intro @mD.eq_1<|And.intro @oT.eq_1 <|
 And.intro @oT.eq_2<|And.intro @CS.eq_1<|And.intro @CS.eq_2<|And.intro @vH.eq_1<|And.intro @vH.eq_2<|And.intro @Ej <|
 And.intro @zN<|And.intro @Cf<|And.intro @Cj<|And.intro @Lb<|And.intro @List.take_zero.{0} <|
 And.intro @List.take_succ_cons.{0}<|And.intro @List.take_nil.{0}<|And.intro @List.drop_zero.{0}<|And.intro @List.drop_succ_cons.{0} <|
 And.intro @List.drop_nil.{0}<|And.intro @List.append_nil.{0}<|And.intro @Nat.le_refl<|And.intro @cL.eq_1<|And.intro @Int.toNat_natCast <|
 And.intro @eq_self.{1}<|And.intro @ge_iff_le.{0} <| @Bool.and_eq_true) :=
 And.intro @kP<|And.intro @Gv<|And.intro @GJ<|And.intro @Kt<|And.intro @Gu<|And.intro @Kq <|
 And.intro @GI<|And.intro @IE<|And.intro @G4<|And.intro @bT<|And.intro @B2<|And.intro @List.set_cons_zero.{0} <|
 And.intro @List.set_cons_succ.{0}<|And.intro @An<|And.intro @zP<|And.intro @mD.eq_1<|And.intro @oT.eq_1 <|
 And.intro @oT.eq_2<|And.intro @CS.eq_1<|And.intro @CS.eq_2<|And.intro @vH.eq_1<|And.intro @vH.eq_2<|And.intro @Ej <|
 And.intro @zN<|And.intro @Cf<|And.intro @Cj<|And.intro @Lb<|And.intro @List.take_zero.{0} <|
 And.intro @List.take_succ_cons.{0}<|And.intro @List.take_nil.{0}<|And.intro @List.drop_zero.{0}<|And.intro @List.drop_succ_cons.{0} <|
 And.intro @List.drop_nil.{0}<|And.intro @List.append_nil.{0}<|And.intro @Nat.le_refl<|And.intro @cL.eq_1<|And.intro @Int.toNat_natCast <|
 And.intro @eq_self.{1}<|And.intro @ge_iff_le.{0} <| @Bool.and_eq_true
end Go.PM
namespace Go.PM
theorem TC.vt {f:Nat} {args:List VV} {r:VV} (h:TC f args r) (xU:CC.contains f=false) (hp:aJ args=true):VT f args r:=by
 have h1:=h 0 [] fun x _=>x=r
 unfold dD at h1
 simp only[xU,hp,Bool.false_eq_true,if_false,if_true] at h1
 have h2:D3 f args fun x=>x=r:=by rw[h1];trivial
 unfold D3 tk at h2
 split at h2
 ·rename_i x hx
  rw[←h2]
  exact(MM hx).2.2
 ·exact h2.elim
theorem TC.yes {f:Nat} {args:List VV} {dT:List Value} {H:aD} (h:TC f args (.sc (.bool true))) (xU:CC.contains f=false) (hp:aJ args=true) (hl:VL (bare (· < H.length) H) args dT) :
  ∃v H',pC f dT H.length H=some (v,H')∧v = .bool true:=by
 obtain⟨P',pv,h1,_,h2⟩:=h.vt xU hp (· < H.length) H dT H.length (fun _ h=>h) hl (Nat.le_refl _)
 cases h2
 exact⟨_,P',h1,rfl⟩
theorem VR.grow {H L:aD} {x:VV} {v:Value} (h:VR (bare (· < H.length) H) x v):VR (bare (· < (H++L).length) (H++L)) x v :=
 h.Bz fun b hb=>⟨by show b<_;rw[List.length_append];omega,List.getElem?_append_left hb⟩
end Go.PM
namespace Go.PM
mutual
def wO (n:Nat):VV→Bool
 | .any=>false
 | .sc v=>lS v
 | .agg cs=>wM n cs
 | .eQ vs=>wM n vs
 | .tree es k=>es.isEmpty&&decide (k = .nil)
 | .cO _ _=>false
 | .ref b _ _ _ _=>decide (n≤b)
 | .ptr b _ _ _=>decide (n≤b)
 | .sY _ _=>false
def wM (n:Nat):List VV→Bool
 | []=>true
 | x::xs=>wO n x&&wM n xs
end
theorem EM {n:Nat} {es:List VV}:wM n es=true↔∀x∈es,wO n x=true:=by
 induction es with
 | nil=>simp[wM]
 | cons x xs ih=>simp[wM,ih]
theorem TH {n:Nat} {es:List VV} (h:wM n es=true):wM n (es.flatMap aB)=true:=by
 rw[EM] at h ⊢
 intro x hx
 obtain⟨y,hy,AI⟩:=List.mem_flatMap.1 hx
 have:=h y hy
 unfold aB at AI
 split at AI
 ·exact EM.1 (by simpa[wO] using this) x AI
 ·rw[List.mem_singleton] at AI;subst AI;exact this
def oQ (n:Nat) (L:aA):Bool:=L.all fun
 | .row _ es _ _=>wM n es
 | .dead=>true
theorem VR.own {V V':View} {k0:Nat} (Kc:∀q,V.base≤q∧q<V.P.length→V'.base≤q∧q<V'.P.length∧∀b' g' es e w,b'<k0→V'.H[b']? = some (.row g' es e w)→V'.m b'≠q) (hl:V.H.length≤V'.H.length) (hH:∀b,k0≤b→V'.H[b]? = V.H[b]?) (hm:∀b,k0≤b→V'.m b=V.m b) {x:VV} {v:Value} (h:VR V x v):wO k0 x=true→VR V' x v:=by
 induction h using VR.rec (motive_2:=fun xs vs _=>wM k0 xs=true→VL V' xs vs) with
 | any=>intro hx;cases hx
 | sc _ h=>intro _;exact .sc _ h
 | agg cs ps _ ih=>intro hx;exact .agg _ _ (ih hx)
 | eQ cs ps _ ih=>intro hx;exact .eQ _ _ (ih hx)
 | nC k hk=>intro _;exact .nC k hk
 |
  tree es k b o c r e p hF hb ho hc he hk _ _ =>
  intro hx
  simp only[wO,Bool.and_eq_true,decide_eq_true_eq] at hx
  obtain⟨_,rfl⟩:=hx
  exact hk.elim
 | cO=>intro hx;cases hx
 |
  ref b g o n c a n' c' aX hg ha hq =>
  intro hx
  have hb:k0≤b:=by simpa[wO] using hx
  exact .ref b g o n c a n' c' (Nat.lt_of_lt_of_le aX hl) (fun g' es e w hr=>hg g' es e w (by rw[←hH b hb];exact hr)) (fun es e w hr=>by rw[hm b hb];exact ha es e w (by rw[←hH b hb];exact hr)) fun a0 h=>by
   obtain⟨q1,q2,q3⟩:=hq a0 h
   obtain⟨q4,q5,q6⟩:=Kc _ ⟨q1,q2⟩
   refine⟨q4,q5,fun b' g' es e w hr eW => ?_⟩
   rcases Nat.lt_or_ge b' k0 with Jb | Cv
   ·exact q6 b' g' es e w Jb hr
   ·rw[hm b' Cv]
    exact q3 b' g' es e w (by rw[←hH b' Cv];exact hr) eW
 |
  ptr b g j off a aX hg ha hq =>
  intro hx
  have hb:k0≤b:=by simpa[wO] using hx
  exact .ptr b g j off a (Nat.lt_of_lt_of_le aX hl) (fun g' es e w hr=>hg g' es e w (by rw[←hH b hb];exact hr)) (fun es e w hr=>by rw[hm b hb];exact ha es e w (by rw[←hH b hb];exact hr)) fun a0 h=>by
   obtain⟨q1,q2,q3⟩:=hq a0 h
   obtain⟨q4,q5,q6⟩:=Kc _ ⟨q1,q2⟩
   refine⟨q4,q5,fun b' g' es e w hr eW => ?_⟩
   rcases Nat.lt_or_ge b' k0 with Jb | Cv
   ·exact q6 b' g' es e w Jb hr
   ·rw[hm b' Cv]
    exact q3 b' g' es e w (by rw[←hH b' Cv];exact hr) eW
 | sY=>intro hx;cases hx
 | nil=>exact .nil
 |
  cons x v xs vs _ _ ih Tu =>
  rename_i hx
  simp only[wM,Bool.and_eq_true] at hx
  exact .cons _ _ _ _ (ih hx.1) (Tu hx.2)
theorem VL.own {V V':View} {n:Nat} (Kc:∀q,V.base≤q∧q<V.P.length→V'.base≤q∧q<V'.P.length∧∀b' g' es e w,b'<n→V'.H[b']? = some (.row g' es e w)→V'.m b'≠q) (hl:V.H.length≤V'.H.length) (hH:∀b,n≤b→V'.H[b]? = V.H[b]?) (hm:∀b,n≤b→V'.m b=V.m b) {xs:List VV} {vs:List Value} (h:VL V xs vs) (hx:wM n xs=true):VL V' xs vs:=by
 induction xs generalizing vs with
 | nil=>cases h;exact .nil
 |
  cons x xs ih=>cases h with
  |
   cons _ v _ vs h hs =>
   simp only[wM,Bool.and_eq_true] at hx
   exact .cons _ _ _ _ (h.own Kc hl hH hm hx.1) (ih hs hx.2)
theorem VL.Bz {V':View} {G:Nat→Prop} {P:aD} {xs:List VV} {vs:List Value} (hF:∀b,G b→V'.F b∧V'.P[b]? = P[b]?) (h:VL (bare G P) xs vs):VL V' xs vs:=by
 induction xs generalizing vs with
 | nil=>cases h;exact .nil
 |
  cons x xs ih=>cases h with
  | cons _ v _ vs h hs=>exact .cons _ _ _ _ (h.Bz hF) (ih hs)
def FC (f:Nat) (args:List VV) (R:Nat→VV→aA→Prop):Prop :=
 ∀n,qX f args n (List.replicate n .dead) fun r H'=>∃L,H'=List.replicate n .dead++L∧wO n r=true∧oQ n L=true∧R n r L
theorem FC.walk {f:Nat} {pf:aV} {args:List VV} {R:Nat→VV→aA→Prop} (fl:Fl) (ht:hJ f=some pf) (hn:args.length≤pf.ntmps)
  (h:∀n,VW fl n pf.body (AD pf.res fun r H'=>∃L,H'=List.replicate n .dead++L∧wO n r=true∧oQ n L=true∧R n r L) (I5 args) (List.replicate n .dead)):FC f args R :=
 fun n=>qX.walk fl ht hn (h n)
theorem FC.raw {f:Nat} {args kI:List VV} {R:Nat→VV→aA→Prop} {H:aA} {lo:Nat} (h:FC f kI R) (hf:args.mapM (fz depth H)=some kI):qX f args lo H fun r H'=>∃L,H'=H++L∧R H.length r L∧wO H.length r=true∧oQ H.length L=true:=by
 intro V dO dT hH hS hl
 have h1:=h H.length
 let V0:View:={ m:=V.m,F:=(· < V.P.length),H:=List.replicate H.length .dead,P:=V.P,base:=V.P.length }
 have I7:∀(b g:Nat) (es:List VV) (e:Nat) (w:Bool),V0.H[b]? ≠ some (.row g es e w):=by
  intro b g es e w hb
  have:=List.eq_of_mem_replicate (List.mem_of_getElem? hb)
  cases this
 have hS0:SR V0 H.length dO:=⟨fun b g es e w hb=>absurd hb (I7 _ _ _ _ _),fun b g es e hb=>absurd hb (I7 _ _ _ _ _),fun a b g es e w _ _ _ _ ha=>absurd ha (I7 _ _ _ _ _),fun b hb=>hb,hS.QY,Nat.le_refl _⟩
 have xX:VL V0 kI dT:=by
  have:=Cs hS (G:=(· < V.P.length)) (fun q hq=>hS.fr q hq) hl (by rw[hH];exact hf) (fun i _ g es e w hb=>hS.mlt hb)
  exact VL.Bz (V':=V0) (fun b hb=>⟨hb,rfl⟩) this
 obtain⟨pv,V1,r,k1,k3,k4,k5,L,k2,h2,h3,hR⟩:=h1 V0 dO dT rfl hS0 xX
 have RC:∀b g es e w,V1.H[b]? = some (.row g es e w)→V.P.length≤V1.m b:=by
  intro b g es e w hb
  rcases Nat.lt_or_ge (V1.m b) V.P.length with aX | Cv
  ·obtain⟨g0,es0,w0,j1,_⟩:=k4.AW b g es e w hb aX
   exact absurd j1 (I7 _ _ _ _ _)
  ·exact Cv
 have aiX:V1.H.length=H.length+(L).length:=by rw[k2];simp
 have Kr:∀q,q<V.P.length→V1.P[q]? = V.P[q]? := fun q hq=>k4.eZ q hq fun b g es e hb=>absurd hb (I7 _ _ _ _ _)
 let V2:View:={ m:=fun b=>if b<H.length then V.m b else V1.m b,F:=V.F,H:=H++L,P:=V1.P,base:=V.base }
 have Yx:∀b,H.length≤b→V2.H[b]? = V1.H[b]? := fun b hb=>by
  show (H++L)[b]? = _
  rw[k2,List.getElem?_append_right hb,List.getElem?_append_right (by simpa using hb),List.length_replicate]
 have mL:∀b,H.length≤b→V2.m b=V1.m b:=fun b hb=>by
  show (if b<H.length then V.m b else V1.m b)=_
  rw[if_neg (by omega)]
 have Y0:∀b,b<H.length→V2.H[b]? = V.H[b]? := fun b hb=>by
  show (H++L)[b]? = _
  rw[List.getElem?_append_left hb,hH]
 have mS:∀b,b<H.length→V2.m b=V.m b:=fun b hb=>by
  show (if b<H.length then V.m b else V1.m b)=_
  rw[if_pos hb]
 have hU:Up V V2:=⟨fun _ h=>h,fun b hb=>Kr b (hS.fr b hb),by show V.H.length≤(H++L).length;rw[hH];simp,fun b g es e w aX hb=>⟨g,es,w,by rw[←Y0 b (by rw[←hH];exact aX)];exact hb,Nat.le_refl _,fun _=>mS b (by rw[←hH];exact aX)⟩,rfl,k4.EV,fun b g es e w hb hm=>by
   rcases Nat.lt_or_ge b H.length with h | h
   ·exact⟨g,es,w,by rw[←Y0 b h];exact hb,mS b h,id⟩
   ·rw[mL b h] at hm
    have:=RC b g es e w (by rw[←Yx b h];exact hb)
    omega⟩
 have R5:∀ {b g es e w},V2.H[b]? = some (.row g es e w)→(b<H.length∧V.H[b]? = some (.row g es e w))∨(H.length≤b∧V1.H[b]? = some (.row g es e w)):=by
  intro b g es e w hb
  rcases Nat.lt_or_ge b H.length with h | h
  ·exact .inl ⟨h,by rw[←Y0 b h];exact hb⟩
  ·exact .inr ⟨h,by rw[←Yx b h];exact hb⟩
 have ZS:V1.H.length≤V2.H.length:=by show _≤(H++L).length;rw[aiX];simp
 have afN:∀ {b g es e w},H.length≤b→V1.H[b]? = some (.row g es e w)→wM H.length es=true:=by
  intro b g es e w hb hr
  rw[k2,List.getElem?_append_right (by simpa using hb)] at hr
  exact List.all_eq_true.1 h3 _ (List.mem_of_getElem? hr)
 have Kc:∀q,V1.base≤q∧q<V1.P.length→V2.base≤q∧q<V2.P.length∧∀b' g' es e w,b'<H.length→V2.H[b']? = some (.row g' es e w)→V2.m b'≠q:=by
  intro q hq
  have Cw:V.P.length≤q:=by have:=k4.JM;rw[this] at hq;exact hq.1
  refine⟨Nat.le_trans hS.JM Cw,hq.2,fun b' g' es e w aX hr hm => ?_⟩
  rw[mS b' aX] at hm
  have:=hS.mlt (by rw[←Y0 b' aX];exact hr)
  omega
 refine⟨pv,V2,r,k1,⟨fun b g es e w hb => ?_,fun b g es e hb => ?_,fun a b g es e w g' lD e' w' ha hb hm => ?_,fun b hb => ?_,?_,Nat.le_trans hS.JM k4.EV⟩,{ hU with eZ:=fun q hq _=>Kr q hq,Cx:=fun q hq => .inl hq },?_,L,rfl,hR,h2,h3⟩
 ·rcases R5 hb with⟨h,hb⟩ | ⟨h,hb⟩
  ·obtain⟨r,p,j1,j2,j3⟩:=hS.row b g es e w hb
   exact⟨r,p,by rw[mS b h];exact(Kr _ (hS.mlt hb)).trans j1,j2,j3.mono hU⟩
  ·obtain⟨r,p,j1,j2,j3⟩:=k3.row b g es e w hb
   exact⟨r,p,by rw[mL b h];exact j1,j2,j3.own Kc ZS (fun b hb=>Yx b hb) (fun b hb=>mL b hb) (TH (afN h hb))⟩
 ·rcases R5 hb with⟨h,hb⟩ | ⟨h,hb⟩
  ·rw[mS b h]
   exact hS.wr b g es e hb
  ·rw[mL b h]
   have:=RC b g es e true hb
   exact⟨fun hF=>by have:=hS.fr _ hF;omega,fun _=>Nat.le_trans hS.QY this⟩
 ·rcases R5 ha with⟨h,ha⟩ | ⟨h,ha⟩<;>rcases R5 hb with⟨h',hb⟩ | ⟨h',hb⟩
  ·rw[mS a h,mS b h'] at hm
   exact hS.inj a b _ _ _ _ _ _ _ _ ha hb hm
  ·rw[mS a h,mL b h'] at hm
   have:=RC b _ _ _ _ hb
   have:=hS.mlt ha
   omega
  ·rw[mL a h,mS b h'] at hm
   have:=RC a _ _ _ _ ha
   have:=hS.mlt hb
   omega
  ·rw[mL a h,mL b h'] at hm
   exact k3.inj a b _ _ _ _ _ _ _ _ ha hb hm
 ·exact Nat.lt_of_lt_of_le (hS.fr b hb) k4.EV
 ·exact Nat.le_trans hS.QY k4.EV
 ·exact k5.own Kc ZS (fun b hb=>Yx b hb) (fun b hb=>mL b hb) h2
theorem nN {f:Nat} {args:List VV} {lo:Nat} {H:aA} {K:VV→aA→Prop} (xU:CC.contains f=true) (h:qX f args lo H K):dD f args lo H K:=by
 unfold dD
 rw[if_pos xU]
 exact h
theorem FC.call {f:Nat} {args kI:List VV} {R:Nat→VV→aA→Prop} {H:aA} {lo:Nat} {K:VV→aA→Prop} (h:FC f kI R) (xU:CC.contains f=true) (hf:args.mapM (fz depth H)=some kI) (hk:∀r L,R H.length r L→K r (H++L)):dD f args lo H K :=
 nN xU ((h.raw hf).mono fun r H' ⟨L,h1,h2,_⟩=>by subst h1;exact hk r L h2)
end Go.PM
namespace Go.PM
open Go.ChangeShapes Go.WideShapes Go.ChangeAt Go.RowKit
open Go.Proofs
def zL (W:World):Prop:=∃(rb:Nat) (arr:Array Value) (e:TypeId) (fz:Nat×Nat),W.heap[rb]? = some (.cells arr e fz)
structure zZ (m m':cS) (H L:aD) (W:World) (cs HB:List Value) (vs:List VV):Prop where
 inn:In m' (H++L) W
 ext:∀b l,m b=some l→m' b=some l
 len:HB.length=cs.length
 rv:∀i,i<cs.length→RV m' (HB.getD i Go.undef) (cs.getD i Go.undef)
 sc:∀v∈HB,PM.fR v=true
 tree:VL (bare (· < (H++L).length) (H++L)) vs HB
def Kp {T:Type} (Ad:TypeId×Value→T) (P:Program) (W:World) (t:TypeId) (k:Nat) (S:List VV→Prop):Prop :=
 ∀fuel cs y,DataW.trod Ad P W 0 (fun _=>true) true fuel t cs=some y→∀(m:cS) (H:aD),In m H W→cs.length=k∧∃m' L HB vs,zZ m m' H L W cs HB vs∧S vs
theorem VL.grow {H L:aD} {xs:List VV} {vs:List Value} (h:VL (bare (· < H.length) H) xs vs):VL (bare (· < (H++L).length) (H++L)) xs vs :=
 h.Bz fun b hb=>⟨by show b<_;rw[List.length_append];omega,List.getElem?_append_left hb⟩
theorem VL.app {V:View} {xs ys:List VV} {vs ws:List Value} (h:VL V xs vs) (h':VL V ys ws):VL V (xs++ys) (vs++ws):=by
 induction xs generalizing vs with
 | nil=>cases h;exact h'
 |
  cons x xs ih=>cases h with
  | cons _ v _ vs h hs=>exact .cons _ _ _ _ h (ih hs)
theorem FK {cs ds:List Value} {i:Nat} (h:i<cs.length):(cs++ds).getD i Go.undef=cs.getD i Go.undef:=by
 simp only[List.getD_eq_getElem?_getD,List.getElem?_append_left h]
theorem Dw {cs ds:List Value} {i:Nat} (h:cs.length≤i):(cs++ds).getD i Go.undef=ds.getD (i-cs.length) Go.undef:=by
 simp only[List.getD_eq_getElem?_getD,List.getElem?_append_right h]
theorem zZ.both {m m1 m2:cS} {H L1 L2:aD} {W:World} {cs HB xW aeW:List Value} {vs vs':List VV} (h:zZ m m1 H L1 W cs HB vs) (h':zZ m1 m2 (H++L1) L2 W xW aeW vs'):zZ m m2 H (L1++L2) W (cs++xW) (HB++aeW) (vs++vs'):=by
 refine⟨by rw[←List.append_assoc];exact h'.inn,fun b l hb=>h'.ext _ _ (h.ext _ _ hb),by simp[h.len,h'.len],fun i hi => ?_,fun v hv => ?_,?_⟩
 ·rcases Nat.lt_or_ge i cs.length with aX | Cv
  ·rw[FK aX,FK (by rw[h.len];exact aX)]
   exact(h.rv i aX).mono h'.ext
  ·rw[Dw Cv,Dw (by rw[h.len];exact Cv),h.len]
   exact h'.rv _ (by rw[List.length_append] at hi;omega)
 ·rcases List.mem_append.1 hv with hv | hv
  ·exact h.sc v hv
  ·exact h'.sc v hv
 ·rw[←List.append_assoc]
  exact h.tree.grow.app h'.tree
theorem zZ.none {m:cS} {H:aD} {W:World} (hI:In m H W):zZ m m H [] W [] [] [] :=
 ⟨by rw[List.append_nil];exact hI,fun _ _ h=>h,rfl,fun i hi=>absurd hi (Nat.not_lt_zero _),fun v hv=>(by cases hv),.nil⟩
theorem Mv {T:Type} {Ad:TypeId×Value→T} {P:Program} {W:World} {t:TypeId} (ht:P.underlying t=some .string):Kp Ad P W t 1 (fun vs=>∃s:ByteArray,s.size≤maxLen∧vs=[.sc (.string s)]):=by
 intro fuel cs y h m H hI
 obtain⟨s,rfl,_,hs⟩:=DataW.trod_string ht h
 refine⟨rfl,m,[],[.string s],[.sc (.string s)],⟨by rw[List.append_nil];exact hI,fun _ _ h=>h,rfl,fun i hi => ?_,fun v hv => ?_,.cons _ _ _ _ (.sc _ rfl) .nil⟩,s,hs,rfl⟩
 ·have:i=0:=by simpa using hi
  subst this
  exact .str s
 ·rw[List.mem_singleton] at hv
  subst hv
  rfl
theorem HU {T:Type} {Ad:TypeId×Value→T} {P:Program} {W:World} {e:TypeId} {eR:Nat} {S:List VV→Prop} (ho:Kp Ad P W e eR S):∀(PR:List (List Value)),(∀cs∈PR,∃fuel y,DataW.trod Ad P W 0 (fun _=>true) true fuel e cs=some y)→∀(m:cS) (H:aD),In m H W →
  ∃(m':cS) (L:aD) (HB:List Value) (gs:List (List VV)),zZ m m' H L W PR.flatten HB gs.flatten∧gs.length=PR.length∧(∀g∈gs,S g)∧∀cs∈PR,cs.length=eR
 | [],_,m,H,hI=>⟨m,[],[],[],zZ.none hI,rfl,fun g hg=>(by cases hg),fun cs Lo=>(by cases Lo)⟩
 |
  cs::PR,h,m,H,hI=>by
  obtain⟨fuel,y,hy⟩:=h cs List.mem_cons_self
  obtain⟨hl,m1,L1,amD,g,h1,hS⟩:=ho fuel cs y hy m H hI
  obtain⟨m2,L2,alO,gs,h2,h3,h4,h5⟩:=HU ho PR (fun cs Lo=>h cs (List.mem_cons_of_mem _ Lo)) m1 (H++L1) h1.inn
  refine⟨m2,L1++L2,amD++alO,g::gs,?_,by simp[h3],fun g' VP => ?_,fun xW acZ => ?_⟩
  ·rw[List.flatten_cons,List.flatten_cons]
   exact h1.both h2
  ·rcases List.mem_cons.1 VP with rfl | VP
   ·exact hS
   ·exact h4 _ VP
  ·rcases List.mem_cons.1 acZ with rfl | acZ
   ·exact hl
   ·exact h5 _ acZ
theorem Bu {α:Type} {k:Nat}:∀ {X9:List (List α)},(∀xs∈X9,xs.length=k)→X9.flatten.length=X9.length*k
 | [],_=>by simp
 |
  xs::X9,h=>by
  rw[List.flatten_cons,List.length_append,h xs List.mem_cons_self,Bu fun y hy=>h y (List.mem_cons_of_mem _ hy),List.length_cons,Nat.succ_mul,Nat.add_comm]
theorem ES {α:Type} {k:Nat}:∀ {X9:List (List α)} (n:Nat),(∀xs∈X9,xs.length=k)→X9.flatten.take (n*k)=(X9.take n).flatten
 | [],n,_=>by simp
 | xs::X9,0,_=>by simp
 |
  xs::X9,n+1,h=>by
  have hl:=h xs List.mem_cons_self
  rw[List.flatten_cons,List.take_succ_cons,List.flatten_cons,←ES n fun y hy=>h y (List.mem_cons_of_mem _ hy),show (n+1)*k=xs.length+n*k by rw[hl,Nat.succ_mul,Nat.add_comm],List.take_length_add_append]
theorem Mx {k:Nat} (hk:1≤k) {PR:List (List Value)} (h:∀cs∈PR,cs.length=k) {i:Nat} (hi:i<PR.length*k):∃cs,PR[i / k]? = some cs∧PR.flatten.getD i Go.undef=cs.getD (i % k) Go.undef:=by
 induction PR generalizing i with
 | nil=>simp at hi
 |
  cons cs PR ih =>
  have hl:=h cs List.mem_cons_self
  rw[List.flatten_cons]
  rcases Nat.lt_or_ge i k with aX | Cv
  ·refine⟨cs,by rw[Nat.div_eq_of_lt aX];rfl,?_⟩
   rw[FK (by omega),Nat.mod_eq_of_lt aX]
  ·obtain⟨c',h1,h2⟩:=ih (fun y hy=>h y (List.mem_cons_of_mem _ hy)) (i:=i-k) (by rw[List.length_cons,Nat.succ_mul] at hi;omega)
   have e1:i / k=(i-k) / k+1:=by rw[Nat.div_eq_sub_div (by omega) Cv]
   have e2:i % k=(i-k) % k:=by rw[Nat.mod_eq_sub_mod Cv]
   exact⟨c',by rw[e1];exact h1,by rw[Dw (by omega),hl,h2,e2]⟩
theorem N5 {T:Type} {Ad:TypeId×Value→T} {α:Type} {f:α→VV} {Zz:α→Prop} {P:Program} {W:World} {t e:TypeId} {eR:Nat} (ht:P.underlying t=some (.slice e)) (akQ:P.cellsOf e=eR) (pos:1≤eR) (hB:zL W)
  (hf:∀x,(aB (f x)).length=eR) (ho:Kp Ad P W e eR fun g=>∃x:α,Zz x∧g=aB (f x)):Kp Ad P W t 1 fun vs=>∃xs:List α,xs.length≤maxLen∧(∀x∈xs,Zz x)∧vs=[bL f xs]:=by
 intro fuel cs y h m H hI
 rcases DataW.trod_slice ht h with⟨rfl,_⟩ | ⟨a,n,c,elems,rest,k,_,rfl,_,_,U0,hmx,hlen,hE,hR,_⟩
 ·refine⟨rfl,m,[],[.slice none 0 0],[.tree [] .op],⟨by rw[List.append_nil];exact hI,fun _ _ h=>h,rfl,fun i hi => ?_,fun v hv => ?_,.cons _ _ _ _ (.nC _ (.inl rfl)) .nil⟩,[],Nat.zero_le _,fun x hx=>(by cases hx),rfl⟩
  ·have:i=0:=by simpa using hi
   subst this
   exact .JO
  ·rw[List.mem_singleton] at hv
   subst hv
   rfl
 ·obtain⟨Ha,hR⟩:=hR rfl
  have Rw:∀i,i<c→∃cs,W.cells? 0 (a.add (i*eR)) eR=some cs∧∃fuel y,DataW.trod Ad P W 0 (fun _=>true) true fuel e cs=some y:=by
   intro i hi
   have key:∃y,(W.cells? 0 (a.add (i*P.cellsOf e)) (P.cellsOf e)).bind (DataW.trod Ad P W 0 (fun _=>true) true k e)=some y:=by
    rcases Nat.lt_or_ge i n with dA | dA
    ·exact⟨elems[i]'(by omega),by rw[hE i dA];exact List.getElem?_eq_getElem _⟩
    ·have:=hR (i-n) (by omega)
     rw[show n+(i-n)=i by omega] at this
     exact⟨rest[i-n]'(by omega),by rw[this];exact List.getElem?_eq_getElem _⟩
   obtain⟨y,hy⟩:=key
   rw[Option.bind_eq_some_iff,akQ] at hy
   obtain⟨cs,h1,h2⟩:=hy
   exact⟨cs,h1,k,y,h2⟩
  obtain⟨PR,lO,Lo⟩:=Sy (fun i cs=>W.cells? 0 (a.add (i*eR)) eR=some cs∧∃fuel y,DataW.trod Ad P W 0 (fun _=>true) true fuel e cs=some y) c Rw
  obtain⟨m1,L1,HB,gs,hO,X1,hgS,abX⟩:=HU ho PR (fun cs hc=>by
   obtain⟨i,hi⟩:=List.getElem?_of_mem hc
   exact(Lo i cs hi).2) m H hI
  obtain⟨xs,hxg,M7⟩:∃xs:List α,(∀x∈xs,Zz x)∧gs=xs.map fun x=>aB (f x):=by
   clear hO X1
   induction gs with
   | nil=>exact⟨[],fun x hx=>(by cases hx),rfl⟩
   |
    cons g gs ih =>
    obtain⟨xs,h1,h2⟩:=ih fun g hg=>hgS g (List.mem_cons_of_mem _ hg)
    obtain⟨x,h3,h4⟩:=hgS g List.mem_cons_self
    exact⟨x::xs,fun y hy=>by
     rcases List.mem_cons.1 hy with rfl | hy
     ·exact h3
     ·exact h1 y hy,by rw[List.map_cons,←h2,h4]⟩
  have hxl:xs.length=c:=by rw[←lO,←X1,M7,List.length_map]
  have JI:HB.length=c*eR:=by rw[hO.len,Bu abX,lO]
  obtain⟨rb,base,arr,e',fz,aiM,UU,Cw⟩:∃(rb base:Nat) (arr:Array Value) (e':TypeId) (fz:Nat×Nat),W.heap[rb]? = some (.cells arr e' fz)∧(c=0→base=0)∧(c≠0→a=⟨rb,base,none⟩):=by
   by_cases h0:c=0
   ·obtain⟨rb,arr,e',fz,hb⟩:=hB
    exact⟨rb,0,arr,e',fz,hb,fun _=>rfl,fun h=>absurd h0 h⟩
   ·obtain⟨cs,h1,_⟩:=Rw 0 (by omega)
    have h2:=(World.cells?_some h1).2
    have h3:=h2.2 0 (by omega)
    rw[List.getElem?_eq_getElem (by omega)] at h3
    have:(a.add (0*eR)).add 0=a:=by simp[Addr.add]
    rw[this] at h3
    unfold World.cell? at h3
    split at h3
    ·rename_i arr e' fz hb
     split at h3
     ·cases h3
     ·rename_i Ps
      refine⟨a.block,a.off,arr,e',fz,hb,fun h=>absurd h h0,fun _ => ?_⟩
      obtain⟨b,o,sp⟩:=a
      cases sp with
      | none=>rfl
      | some x=>simp at Ps
    ·cases h3
  have M8:∀i,i<c*eR→W.cell? ⟨rb,base+i,none⟩=some (PR.flatten.getD i Go.undef):=by
   intro i hi
   obtain⟨cs,h1,h2⟩:=Mx pos abX (i:=i) (by rw[lO];exact hi)
   have h0:c≠0:=by intro h0;rw[h0] at hi;simp at hi
   have ha:=Cw h0
   have h3:=(World.cells?_some (Lo _ _ h1).1).2
   have hr:i % eR<eR:=Nat.mod_lt _ pos
   have h4:=h3.2 (i % eR) hr
   have JQ:∀o k:Nat,(⟨rb,o,none⟩:Addr).add k=⟨rb,o+k,none⟩:=by
    intro o k
    unfold Addr.add
    split
    ·rename_i h0;subst h0;rfl
    ·rfl
   have acO:i / eR*eR+i % eR=i:=by rw[Nat.mul_comm];exact Nat.div_add_mod i eR
   rw[ha,JQ,JQ,Nat.add_assoc,acO] at h4
   rw[h2,List.getD_eq_getElem?_getD,h4]
   have aX:i % eR<cs.length:=by rw[h3.1];exact hr
   rw[List.getElem?_eq_getElem aX]
   rfl
  have uL:base+HB.length≤arr.size:=by
   rw[JI]
   by_cases h0:c=0
   ·rw[UU h0,h0];simp
   ·have Ms:1≤c*eR:=Nat.mul_pos (by omega) pos
    have h3:=M8 (c*eR-1) (by omega)
    unfold World.cell? at h3
    simp only[aiM,Option.isSome_none,Bool.false_eq_true,if_false] at h3
    have:=(Array.getElem?_eq_some_iff.1 h3).1
    omega
  have JQ:=hO.inn.add (eR:=eR) (cs:=HB) (base:=base) aiM uL (fun i hi=>by
   rw[JI] at hi
   refine⟨_,M8 i hi,(hO.rv i (by rw[Bu abX,lO];exact hi)).mono (rJ (hO.inn.PG (Nat.le_refl _))),?_⟩
   rw[List.getD_eq_getElem?_getD,List.getElem?_eq_getElem (by rw[JI];exact hi)]
   exact hO.sc _ (List.getElem_mem _))
  refine⟨rfl,_,L1++[.row HB eR false],[.slice (some ⟨(H++L1).length,0,none⟩) n c],[bL f (xs.take n)],⟨by rw[←List.append_assoc];exact JQ,fun b l hb=>rJ (hO.inn.PG (Nat.le_refl _)) _ _ (hO.ext b l hb),rfl,fun i hi => ?_,fun v hv => ?_,?_⟩,xs.take n,by rw[List.length_take];omega,fun x hx=>hxg x (List.mem_of_mem_take hx),rfl⟩
  ·have:i=0:=by simpa using hi
   subst this
   refine .slice (H++L1).length 0 n c _ _ c (bM _ _ _) U0 (Nat.le_refl _) (fun _=>rfl) ?_
   by_cases h0:c=0
   ·exact .inl h0
   ·exact .inr ⟨by simpa using Cw h0,by simpa[JI] using uL⟩
  ·rw[List.mem_singleton] at hv
   subst hv
   rfl
  ·rw[←List.append_assoc]
   refine .cons _ _ _ _ ?_ .nil
   have hl:(xs.take n).length=n:=by rw[List.length_take];omega
   have CU:∀g∈gs,g.length=eR:=fun g hg=>by
    obtain⟨x,_,rfl⟩:=hgS g hg
    exact hf x
   have key:=hO.tree.grow (L:=[J8.row HB eR false])
   have key:=key.take (n*eR)
   rw[ES n CU,M7,←List.map_take] at key
   have:=VR.tree (V:=bare (· < (H++L1++[J8.row HB eR false]).length) (H++L1++[J8.row HB eR false])) ((xs.take n).map f) .op (H++L1).length 0 c HB eR false (by show (H++L1).length<_;simp) (by show (H++L1++[J8.row HB eR false])[(H++L1).length]? = _;rw[List.getElem?_append_right (Nat.le_refl _),Nat.sub_self];rfl)
    (by rw[List.length_map,hl,JI];simp only[Nat.zero_add];exact Nat.mul_le_mul_right _ U0) (by rw[List.length_map,hl];exact U0) (fun y hy=>by
     obtain⟨x,_,rfl⟩:=List.mem_map.1 hy
     exact hf x) trivial (by rw[List.length_map,hl,List.drop_zero,List.flatMap_map,List.flatMap_def];exact key)
   rw[List.length_map,hl] at this
   exact this
end Go.PM
namespace Go.PM
def mH:aE:=(.seq (LS [LM 11 5,LM 12 0,LO 13 (.len (LT 12)),LO 14 (.bin .lss (LT 11) (LT 13))] (.cond (LT 14) .skip (.exit 0))) (.seq (.block 1 (LS [LM 17 0,LM 18 5,LO 19 (.iaddr 1 (LT 17) (LT 18)),LO 20 (LL 19),LM 21 1,LM 22 5,LO 23 (.iaddr 1 (LT 21) (LT 22)),LO 24 (LL 23),LO 25 (.bin .neq (LT 20) (LT 24))] (.cond (LT 25) (LS [LO 4 (.mv LF)] .ret) .skip))) (.dX [LM 15 5,LO 16 (.bin .add (LT 15) (LI 1)),LM 5 16])))
def rM:aE:=(LS [LO 4 (.mv LF)] (.seq (LS [LM 6 0,LO 7 (.len (LT 6)),LM 8 1,LO 9 (.len (LT 8)),LO 10 (.bin .neq (LT 7) (LT 9))] (.cond (LT 10) (LS [LO 4 (.mv LF)] .ret) .skip)) (.seq (LS [LO 5 (.mv (LI 0))] (.block 0 (.loop mH))) (LS [LO 4 (.mv LG)] .ret))))
def vW:aV:=⟨26,[(.tmp 4)],rM⟩
theorem Gc:hJ 54=some vW:=by kernel_rfl
def lU:aE:=(.seq (LS [LM 12 5,LM 13 0,LO 14 (.len (LT 13)),LO 15 (.bin .lss (LT 12) (LT 14))] (.cond (LT 15) .skip (.exit 0))) (.seq (.block 1 (LS [LM 18 1,LM 19 0,LM 20 5,LO 21 (.iaddr 1 (LT 19) (LT 20)),LO 22 (LL 21),LO 23 (.slen (LT 22)),LO 24 (.bin .sub (LT 18) (LT 23)),LM 1 24] (LS [LM 25 1,LO 26 (.bin .lss (LT 25) (LI 0))] (.cond (LT 26) (LS [LO 4 (.mv (LI (-1)))] .ret) .skip)))) (.dX [LM 16 5,LO 17 (.bin .add (LT 16) (LI 1)),LM 5 17])))
def rW:aE:=(LS [LO 4 (.mv (LI 0))] (LS [LM 6 1,LM 7 0,LO 8 (.len (LT 7)),LO 9 (.bin .sub (LT 6) (LT 8)),LM 1 9] (.seq (LS [LM 10 1,LO 11 (.bin .lss (LT 10) (LI 0))] (.cond (LT 11) (LS [LO 4 (.mv (LI (-1)))] .ret) .skip)) (.seq (LS [LO 5 (.mv (LI 0))] (.block 0 (.loop lU))) (LS [LM 27 1,LM 4 27] .ret)))))
def vO:aV:=⟨28,[(.tmp 4)],rW⟩
theorem F2:hJ 41=some vO:=by kernel_rfl
def mB:aE:=(.seq (LS [LM 21 6,LM 22 0,LO 23 (.len (LT 22)),LO 24 (.bin .lss (LT 21) (LT 23))] (.cond (LT 24) .skip (.exit 0))) (.seq (.block 1 (.dX [LM 27 5,LM 28 6,LM 29 0,LM 30 6,LO 31 (.iaddr 1 (LT 29) (LT 30)),LO 32 (LL 31),LO 33 (.iaddr 1 (LT 27) (LT 28)),LN (.store 1 (LT 33) (LT 32))])) (.dX [LM 25 6,LO 26 (.bin .add (LT 25) (LI 1)),LM 6 26])))
def mF:aE:=(.seq (LS [LM 36 7,LM 37 5,LO 38 (.len (LT 37)),LO 39 (.bin .lss (LT 36) (LT 38))] (.cond (LT 39) .skip (.exit 2))) (.seq (.block 3 (.dX [LM 42 5,LM 43 7,LO 44 (.iaddr 1 (LT 42) (LT 43)),LN (.store 1 (LT 44) (.const (.string ⟨#[126,115,112,97,114,101,126]⟩)))])) (.dX [LM 40 7,LO 41 (.bin .add (LT 40) (LI 1)),LM 7 41])))
def nP:aE:=(LS [LO 4 (.mv (.const (.slice none 0 0)))] (.seq (LS [LM 8 1,LM 9 8,LY 9 10 (.mv (LT 0)),LY 9 11 (.len (LT 10)),LY 9 12 (.bin .eql (LT 11) (LI 0)),LO 13 (.pick (LT 9) (LT 12) LF)] (.cond (LT 13) (LS [LO 4 (.mv (.const (.slice none 0 0)))] .ret) .skip)) (LS [LM 14 0,LO 15 (.len (LT 14)),LM 16 0,LO 17 (.len (LT 16)),LO 18 (.call 118 [(LT 17)]),LO 19 (.bin .add (LT 15) (LT 18)),LO 20 (.make [(.string ⟨#[]⟩)] 16 (LT 19) (LT 19)),LM 5 20] (.seq (LS [LO 6 (.mv (LI 0))] (.block 0 (.loop mB))) (.seq (LS [LM 34 0,LO 35 (.len (LT 34)),LM 7 35] (.block 2 (.loop mF))) (LS [LM 45 5,LM 46 0,LO 47 (.len (LT 46)),LO 48 (.sub 1 (LT 45) none (some (LT 47)) none),LM 4 48] .ret))))))
def pN:aV:=⟨49,[(.tmp 4)],nP⟩
theorem E9:hJ 43=some pN:=by kernel_rfl
def sO:aE:=(LS [LO 4 (.mv LF)] (LS [LM 6 1,LO 7 (.len (LT 6)),LM 8 1,LO 9 (.len (LT 8)),LO 10 (.call 118 [(LT 9)]),LO 11 (.bin .add (LT 7) (LT 10)),LM 5 11] (LS [LM 12 0,LO 13 (.len (LT 12)),LM 14 1,LO 15 (.len (LT 14)),LO 16 (.bin .eql (LT 13) (LT 15)),LM 17 16,LY 17 18 (.mv (LT 0)),LY 17 19 (.mv (LT 5)),LY 17 20 (.sub 1 (LT 18) none (some (LT 19)) none),LY 17 21 (.mv (LT 1)),LY 17 22 (.mv (LT 5)),LY 17 23 (.sub 1 (LT 21) none (some (LT 22)) none),⟨(some 24),(.call 54 [(LT 20),(LT 23)]),(some (17,true)),true,[]⟩,LO 25 (.pick (LT 17) (LT 24) LF),LM 4 25] .ret)))
def uN:aV:=⟨26,[(.tmp 4)],sO⟩
theorem BF:hJ 45=some uN:=by kernel_rfl
def lZ:aE:=(LS [LO 2 (.mv (LI 0))] (.seq (LS [LM 3 0,LO 4 (.bin .rem (LT 3) (LI 6)),LO 5 (.bin .eql (LT 4) (LI 5))] (.cond (LT 5) (LS [LO 2 (.mv (LI 0))] .ret) .skip)) (.seq (LS [LM 6 0,LO 7 (.bin .rem (LT 6) (LI 3)),LO 8 (.bin .eql (LT 7) (LI 0))] (.cond (LT 8) (LS [LO 2 (.mv (LI 1))] .ret) .skip)) (LS [LM 9 0,LM 2 9] .ret))))
def oO:aV:=⟨10,[(.tmp 2)],lZ⟩
theorem Er:hJ 118=some oO:=by kernel_rfl
end Go.PM
namespace Go.PM
def room (n:Nat):Nat:=if n % 6=5 then 0 else if n % 3=0 then 1 else n
theorem room_le (n:Nat):room n≤n+1:=by unfold room;split<;>(try split)<;>omega
theorem pS (n:Nat):TC 118 [VI n] (VI (room n)):=by
 refine TC.walk ⟨true,false⟩ Er rfl (Nat.le_of_ble_eq_true rfl) rfl rfl ?_
 have e1:cX .rem (.int .i64 (n:Int)) (.int .i64 6)=some (.int .i64 (n % 6:Nat)):=by rw[Py (by decide)];rfl
 have e2:cX .rem (.int .i64 (n:Int)) (.int .i64 3)=some (.int .i64 (n % 3:Nat)):=by rw[Py (by decide)];rfl
 by_cases h1:((n % 6:Nat):Int)=5
 ·simp only[oO,lZ,e1,h1,VX,Nat.reduceEqDiff,Nat.reduceAdd]
  unfold room
  rw[if_pos (by omega)]
  exact aG rfl
 ·by_cases h2:((n % 3:Nat):Int)=0
  ·simp only[oO,lZ,e1,e2,h1,h2,VX,Nat.reduceEqDiff,Nat.reduceAdd]
   unfold room
   rw[if_neg (by omega),if_pos (by omega)]
   exact aG rfl
  ·simp only[oO,lZ,e1,e2,h1,h2,VX,Nat.reduceEqDiff,Nat.reduceAdd]
   unfold room
   rw[if_neg (by omega),if_neg (by omega)]
   exact aG rfl
abbrev nV (n:Int):VV := .sc (.int .i64 n)
abbrev Z8 (xs:List Int):VV:=bL nV xs
theorem Fk {n g e:Nat} {es:List VV} {w:Bool} {K:aA}:aQ (List.replicate n iY.dead ++ .row g es e w::K) n g=some (es,e,w):=Nj (by simp)
theorem Z3 {n:Nat} {x y:iY} {K:aA}:(List.replicate n iY.dead++x::K).set n y=List.replicate n iY.dead++y::K:=by
 rw[List.set_append_right _ _ (by simp)]
 simp
theorem OE {α:Type} (ys:List α) (k:Nat) (z x:α):(ys++List.replicate (k+1) z).set ys.length x=(ys++[x])++List.replicate k z:=by
 rw[List.set_append_right _ _ (Nat.le_refl _),Nat.sub_self,List.replicate_succ,List.set_cons_zero,List.append_assoc]
 rfl
def gI {α:Type} (fill:α) (xs:List α):List α:=xs++List.replicate (room xs.length) fill
theorem Nq {α:Type} (fill:α) (xs:List α):(gI fill xs).length=xs.length+room xs.length:=by simp[gI]
theorem D4 {α:Type} (fill:α) (xs:List α):(gI fill xs).take xs.length=xs:=by simp[gI]
def ToR {α:Type} (f:α→VV) (e:Nat) (fill:α) (xs:List α) (bare:Bool) (n:Nat) (r:VV) (L:aA):Prop :=
 (bare=true∧xs=[]∧r = .tree [] .nil∧L=[])∨(r = .ref n 0 0 xs.length (xs.length+room xs.length)∧L=[.row 0 ((gI fill xs).map f) e true])
theorem ToR.no {α:Type} {f:α→VV} {e:Nat} {fill:α} {xs:List α} {n:Nat} {r:VV} {L:aA} (h:ToR f e fill xs false n r L):r = .ref n 0 0 xs.length (xs.length+room xs.length)∧L=[.row 0 ((gI fill xs).map f) e true]:=by
 rcases h with h | h
 ·cases h.1
 ·exact h
theorem Nv {α:Type} {f:α→VV} {n:Nat} (hf:∀x,wO n (f x)=true) (xs:List α):wM n (xs.map f)=true:=by
 rw[EM]
 intro x hx
 obtain⟨y,_,rfl⟩:=List.mem_map.1 hx
 exact hf y
end Go.PM
namespace Go.PM
abbrev sV (s:ByteArray):VV := .sc (.string s)
theorem FV:∀s:ByteArray,(aB (sV s)).length=1:=fun _=>rfl
abbrev fU (xs:List ByteArray):VV:=bL sV xs
theorem eI (xs:List ByteArray):aR (fU xs)=true:=jA FV fun _=>rfl
def kG:ByteArray:=⟨#[126,115,112,97,114,101,126]⟩
instance:Inhabited ByteArray:=⟨ByteArray.empty⟩
theorem VC {a b:ByteArray}:(a.toList == b.toList)=decide (a=b):=by
 by_cases h:a=b
 ·subst h;simp
 ·rw[decide_eq_false h,beq_eq_false_iff_ne]
  intro he
  apply h
  obtain⟨⟨x⟩⟩:=a
  obtain⟨⟨y⟩⟩:=b
  rw[ByteArray.toList_eq,ByteArray.toList_eq] at he
  simp at he
  rw[he]
theorem EC {a b:ByteArray}:cX .neq (.string a) (.string b)=some (.bool (!decide (a=b))):=by
 rw[←VC];rfl
end Go.PM