/- Texts of a claim, in one: part 4. -/
import Derived.Test.YtodamlihdkalfaaGreatDoorKQc
set_option linter.unusedSimpArgs false
set_option linter.unusedVariables false
namespace Go.PM
structure View where
 m:Nat→Nat
 F:Nat→Prop
 H:aB
 P:aD
 base:Nat
def kindOk (k:TK) (n c e:Nat) (p:Bool):Prop :=
 match k with
 | .op=>True
 | .cl e'=>e'=e∧c=n∧p=false
 | .nil=>False
mutual
inductive VR (V:View):VV→Value→Prop
 | any (v:Value):VR V .any v
 | sc (v:Value) (h:lM v=true):VR V (.sc v) v
 | agg (cs:List VV) (ps:List Value) (h:VL V cs ps):VR V (.agg cs) (.agg ps.toArray)
 | eK (cs:List VV) (ps:List Value) (h:VL V cs ps):VR V (.eK cs) (.tuple ps.toArray)
 | nJ (k:TK) (hk:k = .op∨k = .nil):VR V (.tree [] k) (.slice none 0 0)
 | tree (es:List VV) (k:TK) (b o c:Nat) (r:List Value) (e:Nat) (p:Bool) (hF:V.F b) (hb:V.P[b]? = some (.row r e p)) (ho:o+es.length*e≤r.length)
  (hc:es.length≤c) (he:∀x∈es,(aA x).length=e) (hk:kindOk k es.length c e p) (hl:VL V (es.flatMap aA) ((r.drop o).take (es.length*e))) :
  VR V (.tree es k) (.slice (some ⟨b,o,none⟩) es.length c)
 | cO (x:VV) (off b o:Nat) (r:List Value) (e:Nat) (p:Bool) (hF:V.F b) (hb:V.P[b]? = some (.row r e p)) (ho:o+(aA x).length≤r.length)
  (hl:VL V (aA x) ((r.drop o).take (aA x).length)):VR V (.cO x off) (.pointer (some ⟨b,o+off,none⟩))
 | ref (b g o n c:Nat) (a:Option Addr) (n' c':Nat) (aX:b<V.H.length) (hg:∀g' es e w,V.H[b]? = some (.row g' es e w)→g≤g')
  (h:∀es e w,V.H[b]? = some (.row g es e w)→a=some ⟨V.m b,o*e,none⟩∧n'=n∧c'=c)
  (hq:∀a0,a=some a0→V.base≤a0.block∧a0.block<V.P.length∧∀b' g' es e w,V.H[b']? = some (.row g' es e w)→b'≠b→V.m b'≠a0.block):VR V (.ref b g o n c) (.slice a n' c')
 | ptr (b g j off:Nat) (a:Option Addr) (aX:b<V.H.length) (hg:∀g' es e w,V.H[b]? = some (.row g' es e w)→g≤g')
  (h:∀es e w,V.H[b]? = some (.row g es e w)→a=some ⟨V.m b,j*e+off,none⟩)
  (hq:∀a0,a=some a0→V.base≤a0.block∧a0.block<V.P.length∧∀b' g' es e w,V.H[b']? = some (.row g' es e w)→b'≠b→V.m b'≠a0.block):VR V (.ptr b g j off) (.pointer a)
 | sM (f:Nat) (fA:List VV) (ps:List Value) (h:VL V fA ps):VR V (.sM f fA) (.func (.func f) #[] ps.toArray)
inductive VL (V:View):List VV→List Value→Prop
 | nil:VL V [] []
 | cons (x:VV) (v:Value) (xs:List VV) (vs:List Value) (h:VR V x v) (hs:VL V xs vs):VL V (x::xs) (v::vs)
end
structure Up (V V':View):Prop where
 F:∀b,V.F b→V'.F b
 P:∀b,V.F b→V'.P[b]? = V.P[b]?
 len:V.H.length≤V'.H.length
 row:∀b g' lB e w',b<V.H.length→V'.H[b]? = some (.row g' lB e w')→∃g es w,V.H[b]? = some (.row g es e w)∧g≤g'∧(g'=g→V'.m b=V.m b)
 JZ:V'.base=V.base
 Eo:V.P.length≤V'.P.length
 AH:∀b g es e w,V'.H[b]? = some (.row g es e w)→V'.m b<V.P.length→∃g0 es0 w0,V.H[b]? = some (.row g0 es0 e w0)∧V'.m b=V.m b∧(w=true→w0=true)
section
variable {V V' Og:View}
theorem Up.refl (V:View):Up V V:=⟨fun _ h=>h,fun _ _=>rfl,Nat.le_refl _,fun b g es e w _ h=>⟨g,es,w,h,Nat.le_refl _,fun _=>rfl⟩,rfl,Nat.le_refl _,fun b g es e w h _=>⟨g,es,w,h,rfl,id⟩⟩
theorem Up.trans (h:Up V V') (h':Up V' Og):Up V Og :=
 ⟨fun b hb=>h'.F b (h.F b hb),fun b hb=>(h'.P b (h.F b hb)).trans (h.P b hb),Nat.le_trans h.len h'.len,fun b g es e w hb hr=>by
  obtain⟨g1,Al,w1,h1,h2,h3⟩:=h'.row b g es e w (Nat.lt_of_lt_of_le hb h.len) hr
  obtain⟨g2,US,w2,h4,h5,h6⟩:=h.row b g1 Al e w1 hb h1
  exact⟨g2,US,w2,h4,Nat.le_trans h5 h2,fun hg=>(h3 (by omega)).trans (h6 (by omega))⟩,h'.JZ.trans h.JZ,Nat.le_trans h.Eo h'.Eo,fun b g es e w hb hm=>by
   obtain⟨g1,Al,w1,h1,h2,h3⟩:=h'.AH b g es e w hb (Nat.lt_of_lt_of_le hm h.Eo)
   obtain⟨g2,US,w2,h4,h5,h6⟩:=h.AH b g1 Al e w1 h1 (by rw[←h2];exact hm)
   exact⟨g2,US,w2,h4,h2.trans h5,fun hw=>h6 (h3 hw)⟩⟩
theorem Up.hq (u:Up V V') {b q:Nat} (h:V.base≤q∧q<V.P.length∧∀b' g' es e w,V.H[b']? = some (.row g' es e w)→b'≠b→V.m b'≠q):V'.base≤q∧q<V'.P.length∧∀b' g' es e w,V'.H[b']? = some (.row g' es e w)→b'≠b→V'.m b'≠q:=by
 refine⟨by rw[u.JZ];exact h.1,Nat.lt_of_lt_of_le h.2.1 u.Eo,fun b' g' es e w hb eW hm => ?_⟩
 obtain⟨g0,es0,w0,h1,h2,_⟩:=u.AH b' g' es e w hb (by rw[hm];exact h.2.1)
 exact h.2.2 b' _ _ _ _ h1 eW (h2.symm.trans hm)
theorem VR.mono (u:Up V V') {x:VV} {v:Value} (h:VR V x v):VR V' x v:=by
 induction h using VR.rec (motive_2:=fun xs vs _=>VL V' xs vs) with
 | any=>exact .any _
 | sc _ h=>exact .sc _ h
 | agg cs ps _ ih=>exact .agg _ _ ih
 | eK cs ps _ ih=>exact .eK _ _ ih
 | nJ k hk=>exact .nJ k hk
 | tree es k b o c r e p hF hb ho hc he hk _ ih=>exact .tree es k b o c r e p (u.F _ hF) (by rw[u.P _ hF];exact hb) ho hc he hk ih
 | cO x off b o r e p hF hb ho _ ih=>exact .cO x off b o r e p (u.F _ hF) (by rw[u.P _ hF];exact hb) ho ih
 |
  ref b g o n c a n' c' aX hg h hq =>
  refine .ref b g o n c a n' c' (Nat.lt_of_lt_of_le aX u.len) (fun g' es e w hr => ?_) (fun es e w hr => ?_) fun a0 ha=>u.hq (hq a0 ha)
  ·obtain⟨g1,Al,w1,h1,h2,_⟩:=u.row b g' es e w aX hr
   exact Nat.le_trans (hg _ _ _ _ h1) h2
  ·obtain⟨g1,Al,w1,h1,h2,h3⟩:=u.row b g es e w aX hr
   have h4:=hg _ _ _ _ h1
   have h5:g=g1:=by omega
   subst h5
   rw[h3 rfl]
   exact h _ _ _ h1
 |
  ptr b g j off a aX hg h hq =>
  refine .ptr b g j off a (Nat.lt_of_lt_of_le aX u.len) (fun g' es e w hr => ?_) (fun es e w hr => ?_) fun a0 ha=>u.hq (hq a0 ha)
  ·obtain⟨g1,Al,w1,h1,h2,_⟩:=u.row b g' es e w aX hr
   exact Nat.le_trans (hg _ _ _ _ h1) h2
  ·obtain⟨g1,Al,w1,h1,h2,h3⟩:=u.row b g es e w aX hr
   have h4:=hg _ _ _ _ h1
   have h5:g=g1:=by omega
   subst h5
   rw[h3 rfl]
   exact h _ _ _ h1
 | sM f fA ps _ ih=>exact .sM _ _ _ ih
 | nil=>exact .nil
 | cons x v xs vs _ _ ih Uc=>exact .cons _ _ _ _ ih Uc
theorem VL.mono (u:Up V V') {xs:List VV} {vs:List Value} (h:VL V xs vs):VL V' xs vs:=by
 induction xs generalizing vs with
 | nil=>cases h;exact .nil
 |
  cons x xs ih=>cases h with
  | cons _ v _ vs h hs=>exact .cons _ _ _ _ (h.mono u) (ih hs)
end
section
variable {V:View} {xs ys:List VV} {vs ws:List Value}
theorem VL.length:∀ {xs:List VV} {vs:List Value},VL V xs vs→vs.length=xs.length
 | _,_,.nil=>rfl
 | _,_,.cons _ _ _ _ _ hs=>by simp[hs.length]
theorem VL.append:∀ {xs:List VV} {vs:List Value},VL V xs vs→VL V ys ws→VL V (xs++ys) (vs++ws)
 | _,_,.nil,h'=>h'
 | _,_,.cons _ _ _ _ h hs,h' => .cons _ _ _ _ h (hs.append h')
theorem VL.take (n:Nat):∀ {xs:List VV} {vs:List Value} ,VL V xs vs→VL V (xs.take n) (vs.take n):=by
 induction n with
 | zero=>intro xs vs _;simp;exact .nil
 |
  succ n ih=>intro xs vs h;cases h with
  | nil=>simp;exact .nil
  | cons x v xs vs h hs=>exact .cons _ _ _ _ h (ih hs)
theorem VL.drop (n:Nat):∀ {xs:List VV} {vs:List Value} ,VL V xs vs→VL V (xs.drop n) (vs.drop n):=by
 induction n with
 | zero=>intro xs vs h;simpa using h
 |
  succ n ih=>intro xs vs h;cases h with
  | nil=>simp;exact .nil
  | cons x v xs vs h hs=>exact ih hs
theorem VL.get (h:VL V xs vs) {i:Nat} {x:VV} (hx:xs[i]? = some x):∃v,vs[i]? = some v∧VR V x v:=by
 induction i generalizing xs vs with
 |
  zero=>cases h with
  | nil=>cases hx
  | cons y v xs vs h hs=>simp at hx;subst hx;exact⟨v,rfl,h⟩
 |
  succ i ih=>cases h with
  | nil=>cases hx
  | cons y v xs vs h hs=>exact ih hs (by simpa using hx)
theorem VL.map {α:Type} {f:α→VV} {g:α→Value}:∀ {l:List α},(∀x∈l,VR V (f x) (g x))→VL V (l.map f) (l.map g)
 | [],_ => .nil
 | x::l,h => .cons _ _ _ _ (h x (by simp)) (VL.map fun y hy=>h y (by simp[hy]))
theorem VL.replicate {x:VV} {v:Value} (h:VR V x v):∀n,VL V (List.replicate n x) (List.replicate n v)
 | 0 => .nil
 | n+1 => .cons _ _ _ _ h (VL.replicate h n)
theorem VL.gW {cs new:List VV} {ps pn:List Value} (h:VL V cs ps) (hn:VL V new pn) (o:Nat):VL V (cK cs o new) (gW ps o pn):=by
 unfold cK PM.gW
 rw[←hn.length]
 exact((h.take o).append hn).append (h.drop _)
theorem VR.iL (v:Value):VR V (iL v) v:=by
 unfold PM.iL
 split
 ·exact .nJ _ (.inr rfl)
 ·split
  ·rename_i h;exact .sc _ h
  ·exact .any _
theorem VR.inj (v:Value):VR V (inj v) v:=by
 unfold PM.inj
 split
 ·rename_i cs
  have:(Value.agg cs) = .agg cs.toList.toArray:=by simp
  rw[this]
  refine .agg _ _ ?_
  have:=VL.map (V:=V) (f:=PM.iL) (g:=id) (l:=cs.toList) fun x _=>VR.iL x
  simpa using this
 ·rename_i vs
  split
  ·rename_i h
   have:vs=[].toArray:=by simpa using h
   rw[this]
   exact .eK _ _ .nil
  ·exact .any _
 ·exact VR.iL _
theorem VL.zero (z:List Value):VL V (z.map PM.iL) z:=by
 have:=VL.map (V:=V) (f:=PM.iL) (g:=id) (l:=z) fun x _=>VR.iL x
 simpa using this
theorem VR.cells {x:VV} {v:Value} (h:VR V x v) (hx:x ≠ .any):VL V (aA x) (aL v):=by
 cases h with
 | any=>exact absurd rfl hx
 |
  sc v h =>
  have:aL v=[v]:=by cases v<;>first | rfl | cases h
  rw[this]
  exact .cons _ _ _ _ (.sc v h) .nil
 | agg cs ps h=>simpa[aA,aL] using h
 | eK cs ps h=>exact .cons _ _ _ _ (.eK _ _ h) .nil
 | nJ k hk=>exact .cons _ _ _ _ (.nJ k hk) .nil
 | tree es k b o c r e p hF hb ho hc he hk hl=>exact .cons _ _ _ _ (.tree es k b o c r e p hF hb ho hc he hk hl) .nil
 | cO x off b o r e p hF hb ho hl=>exact .cons _ _ _ _ (.cO x off b o r e p hF hb ho hl) .nil
 | ref b g o n c a n' c' aX hg h hq=>exact .cons _ _ _ _ (.ref b g o n c a n' c' aX hg h hq) .nil
 | ptr b g j off a aX hg h hq=>exact .cons _ _ _ _ (.ptr b g j off a aX hg h hq) .nil
 | sM f fA ps h=>exact .cons _ _ _ _ (.sM _ _ _ h) .nil
theorem VR.fS {x:VV} {v:Value} (h:VR V x v) (hx:cJ x=true):fS v=true:=by
 cases h with
 | sc v h=>cases v<;>first | rfl | cases h
 | any=>cases hx
 | agg=>cases hx
 | eK=>cases hx
 | _=>rfl
theorem VL.fS:∀ {xs:List VV} {vs:List Value},VL V xs vs→xs.all cJ=true→vs.all PM.fS=true
 | _,_,.nil,_=>rfl
 |
  _,_,.cons _ _ _ _ h hs,hx=>by
  rw[List.all_cons,Bool.and_eq_true] at hx ⊢
  exact⟨h.fS hx.1,hs.fS hx.2⟩
theorem PO {x:VV} (h:(aA x).all cJ=true):x ≠ .any:=by
 rintro rfl
 cases h
theorem iZ {es:List VV} {e:Nat} (he:∀x∈es,(aA x).length=e):(es.flatMap aA).length=es.length*e:=by
 induction es with
 | nil=>simp
 |
  cons x xs ih =>
  rw[List.flatMap_cons,List.length_append,ih fun y hy=>he y (List.mem_cons_of_mem _ hy),he x List.mem_cons_self,List.length_cons,Nat.succ_mul]
  omega
theorem rQ {es:List VV} {e:Nat} (he:∀x∈es,(aA x).length=e) (i:Nat):(es.flatMap aA).drop (i*e)=(es.drop i).flatMap aA:=by
 induction i generalizing es with
 | zero=>simp
 |
  succ i ih =>
  cases es with
  | nil=>simp
  |
   cons x xs =>
   have hx:=he x List.mem_cons_self
   rw[List.flatMap_cons,List.drop_succ_cons,←ih fun y hy=>he y (List.mem_cons_of_mem _ hy),show (i+1)*e=(aA x).length+i*e by rw[hx,Nat.succ_mul];omega,List.drop_append]
   simp
theorem rE {es:List VV} {e:Nat} (he:∀x∈es,(aA x).length=e) (i:Nat):(es.flatMap aA).take (i*e)=(es.take i).flatMap aA:=by
 induction i generalizing es with
 | zero=>simp
 |
  succ i ih =>
  cases es with
  | nil=>simp
  |
   cons x xs =>
   have hx:=he x List.mem_cons_self
   rw[List.flatMap_cons,List.take_succ_cons,List.flatMap_cons,←ih fun y hy=>he y (List.mem_cons_of_mem _ hy),show (i+1)*e=(aA x).length+i*e by rw[hx,Nat.succ_mul];omega,List.take_append]
   simp
   exact List.take_of_length_le (by omega)
theorem IS {es:List VV} {e:Nat} (he:∀x∈es,(aA x).length=e) {j:Nat} {x:VV} (hx:es[j]? = some x):((es.flatMap aA).drop (j*e)).take e=aA x:=by
 obtain⟨aX,TW⟩:=List.getElem?_eq_some_iff.1 hx
 rw[rQ he,List.drop_eq_getElem_cons aX,TW,List.flatMap_cons,List.take_append,←he x (List.mem_of_getElem? hx)]
 simp
theorem tP {es new:List VV} {e:Nat} (he:∀x∈es,(aA x).length=e) (hn:∀x∈new,(aA x).length=e) (o:Nat):cK (es.flatMap aA) (o*e) (new.flatMap aA)=(cK es o new).flatMap aA:=by
 unfold cK
 rw[rE he,iZ hn,show o*e+new.length*e=(o+new.length)*e by rw[Nat.add_mul],rQ he]
 simp
theorem Gz {es:List VV} {j:Nat} {x:VV} (hj:j<es.length):cK es j [x]=es.set j x:=by
 unfold cK
 rw[List.set_eq_take_append_cons_drop,if_pos hj]
 simp
theorem Pj {cs new:List VV} {o:Nat} (h:o+new.length≤cs.length):(cK cs o new).length=cs.length:=by
 unfold cK
 simp
 omega
theorem GC {cs new:List VV} {o:Nat} {x:VV} (h:x∈cK cs o new):x∈cs∨x∈new:=by
 unfold cK at h
 rw[List.mem_append,List.mem_append] at h
 rcases h with(h | h) | h
 ·exact .inl (List.mem_of_mem_take h)
 ·exact .inr h
 ·exact .inl (List.mem_of_mem_drop h)
theorem lH {cs:List VV} (h:cs.all cJ=true):aA (elemOf cs)=cs:=by
 unfold elemOf
 split
 ·rename_i x
  simp only[List.all_cons,List.all_nil,Bool.and_true] at h
  cases x<;>first | rfl | cases h
 ·rfl
theorem cY {H:aB} {b g:Nat} {es:List VV} {e:Nat} {w:Bool}:aV H b g=some (es,e,w)↔H[b]? = some (.row g es e w):=by
 unfold aV
 constructor
 ·intro h
  split at h
  ·rename_i hb
   split at h
   ·rename_i hg;subst hg;cases h;exact hb
   ·cases h
  ·cases h
 ·intro h
  rw[h]
  simp
end
structure SR (V:View) (lo dN:Nat):Prop where
 row:∀b g es e w,V.H[b]? = some (.row g es e w)→∃r p,V.P[V.m b]? = some (.row r e p)∧(∀x∈es,(aA x).length=e)∧VL V (es.flatMap aA) r
 wr:∀b g es e,V.H[b]? = some (.row g es e true)→¬V.F (V.m b)∧(lo≤b→dN≤V.m b)
 inj:∀a b g es e w g' lB e' w',V.H[a]? = some (.row g es e w)→V.H[b]? = some (.row g' lB e' w')→V.m a=V.m b→a=b
 fr:∀b,V.F b→b<V.P.length
 P5:dN≤V.P.length
 JZ:V.base≤V.P.length
structure CF (lo:Nat) (V V':View):Prop extends Up V V' where
 jO:∀q,q<V.P.length→(∀b g es e,V.H[b]? = some (.row g es e true)→lo≤b→V.m b≠q)→V'.P[q]? = V.P[q]?
 Cp:∀q,V'.F q→V.F q∨V.P.length≤q∨∃b g es e w,V.H[b]? = some (.row g es e w)∧V.m b=q
section
variable {V V' Og:View} {lo:Nat}
theorem CF.refl (lo:Nat) (V:View):CF lo V V :=
 { Up.refl V with jO:=fun _ _ _=>rfl,Cp:=fun _ h => .inl h }
theorem CF.trans (h:CF lo V V') (h':CF lo V' Og):CF lo V Og :=
 { Up.trans h.toUp h'.toUp with
  jO:=fun q hq hn=>by
   rw[h'.jO q (Nat.lt_of_lt_of_le hq h.Eo) ?_,h.jO q hq hn]
   intro b g es e hb hl hm
   obtain⟨g1,Al,w1,h1,h2,h3⟩:=h.AH b g es e true hb (by rw[hm];exact hq)
   have:=h3 rfl
   subst this
   exact hn b g1 Al e h1 hl (h2.symm.trans hm)
  Cp:=fun q hq=>by
   rcases h'.Cp q hq with h1 | h1 | ⟨b,g,es,e,w,h1,h2⟩
   ·exact h.Cp q h1
   ·exact .inr (.inl (Nat.le_trans h.Eo h1))
   ·rcases Nat.lt_or_ge q V.P.length with hl | hl
    ·obtain⟨g1,Al,w1,h3,h4,_⟩:=h.AH b g es e w h1 (by rw[h2];exact hl)
     exact .inr (.inr ⟨b,g1,Al,e,w1,h3,h4.symm.trans h2⟩)
    ·exact .inr (.inl hl) }
end
end Go.PM
namespace Go.PM
def Us (m:Nat→Nat) (b v:Nat):Nat→Nat:=fun k=>if k=b then v else m k
theorem kD {m:Nat→Nat} {b v:Nat}:Us m b v b=v:=by simp[Us]
theorem kW {m:Nat→Nat} {b v k:Nat} (h:k≠b):Us m b v k=m k:=by simp[Us,h]
section
variable {V:View} {lo dN:Nat}
theorem SR.mlt (hS:SR V lo dN) {b g e:Nat} {es:List VV} {w:Bool} (hb:V.H[b]? = some (.row g es e w)):V.m b<V.P.length:=by
 obtain⟨r,p,h,_⟩:=hS.row b g es e w hb
 exact(List.getElem?_eq_some_iff.1 h).1
theorem Aa (hS:SR V lo dN) (x:JP):SR { V with P:=V.P++[x],F:=fun q=>V.F q∨q=V.P.length } lo dN∧CF lo V { V with P:=V.P++[x],F:=fun q=>V.F q∨q=V.P.length }:=by
 have hU:Up V { V with P:=V.P++[x],F:=fun q=>V.F q∨q=V.P.length }:=⟨fun _ h => .inl h,fun b hb=>List.getElem?_append_left (hS.fr b hb),Nat.le_refl _,fun b g es e w _ h=>⟨g,es,w,h,Nat.le_refl _,fun _=>rfl⟩,rfl,by simp,fun b g es e w hb _=>⟨g,es,w,hb,rfl,id⟩⟩
 refine⟨⟨fun b g es e w hb => ?_,fun b g es e hb=>⟨fun hF => ?_,(hS.wr b g es e hb).2⟩,hS.inj,fun b hb => ?_,by have:=hS.P5;simp;omega,by have:=hS.JZ;simp;omega⟩,{ hU with jO:=fun q hq _=>List.getElem?_append_left hq,Cp:=fun q hq => ?_ }⟩
 ·obtain⟨r,p,h1,h2,h3⟩:=hS.row b g es e w hb
  exact⟨r,p,by rw[←h1];exact List.getElem?_append_left (hS.mlt hb),h2,h3.mono hU⟩
 ·rcases hF with hF | hF
  ·exact(hS.wr b g es e hb).1 hF
  ·have h1:V.m b=V.P.length:=hF
   have:=hS.mlt hb
   omega
 ·rcases hb with hb | hb
  ·have:=hS.fr b hb
   simp;omega
  ·subst hb;simp
 ·rcases hq with hq | hq
  ·exact .inl hq
  ·exact .inr (.inl (by omega))
theorem oZ (hS:SR V lo dN) {es:List VV} {r:List Value} {e:Nat} (p:Bool) (he:∀x∈es,(aA x).length=e) (hl:VL V (es.flatMap aA) r) :
  SR { V with m:=Us V.m V.H.length V.P.length,H:=V.H++[.row 0 es e true],P:=V.P++[.row r e p] } lo dN∧CF lo V { V with m:=Us V.m V.H.length V.P.length,H:=V.H++[.row 0 es e true],P:=V.P++[.row r e p] }:=by
 have AH:∀b g lB e' w,(V.H++[jR.row 0 es e true])[b]? = some (.row g lB e' w)→(b=V.H.length∧g=0∧lB=es∧e'=e∧w=true)∨(b≠V.H.length∧V.H[b]? = some (.row g lB e' w)):=by
  intro b g lB e' w hb
  rcases Nat.lt_trichotomy b V.H.length with h | h | h
  ·rw[List.getElem?_append_left h] at hb
   exact .inr ⟨by omega,hb⟩
  ·subst h
   rw[List.getElem?_append_right (Nat.le_refl _)] at hb
   simp at hb
   obtain⟨h1,h2,h3,h4⟩:=hb
   exact .inl ⟨rfl,h1.symm,h2.symm,h3.symm,h4⟩
  ·rw[List.getElem?_eq_none (by simp;omega)] at hb
   cases hb
 have hU:Up V { V with m:=Us V.m V.H.length V.P.length,H:=V.H++[.row 0 es e true],P:=V.P++[.row r e p] } :=
  ⟨fun _ h=>h,fun b hb=>List.getElem?_append_left (hS.fr b hb),by simp,fun b g' lB e' w' aX hb=>by
   rcases AH b g' lB e' w' hb with⟨h,_⟩ | ⟨h,hb⟩
   ·omega
   ·exact⟨g',lB,w',hb,Nat.le_refl _,fun _=>kW h⟩,rfl,by simp,fun b g lB e' w hb hm=>by
   rcases AH b g lB e' w hb with⟨rfl,_⟩ | ⟨h,hb⟩
   ·simp only[kD] at hm
    omega
   ·exact⟨g,lB,w,hb,kW h,id⟩⟩
 refine⟨⟨fun b g lB e' w hb => ?_,fun b g lB e' hb => ?_,fun a b g Al e1 w1 g' US e2 w2 ha hb hm => ?_,fun b hb=>by have:=hS.fr b hb;simp;omega,by have:=hS.P5;simp;omega,by have:=hS.JZ;simp;omega⟩,
  { hU with jO:=fun q hq _=>List.getElem?_append_left hq,Cp:=fun q hq => .inl hq }⟩
 ·rcases AH b g lB e' w hb with⟨rfl,rfl,rfl,rfl,rfl⟩ | ⟨h,hb⟩
  ·exact⟨r,p,by simp only[kD];simp,he,hl.mono hU⟩
  ·obtain⟨r1,p1,h1,h2,h3⟩:=hS.row b g lB e' w hb
   refine⟨r1,p1,?_,h2,h3.mono hU⟩
   simp only[kW h]
   rw[List.getElem?_append_left (hS.mlt hb)]
   exact h1
 ·rcases AH b g lB e' true hb with⟨rfl,_⟩ | ⟨h,hb⟩
  ·simp only[kD]
   exact⟨fun hF=>by have:=hS.fr _ hF;omega,fun _=>hS.P5⟩
  ·simp only[kW h]
   exact hS.wr b g lB e' hb
 ·rcases AH a g Al e1 w1 ha with⟨rfl,_⟩ | ⟨h,ha⟩
  ·rcases AH b g' US e2 w2 hb with⟨rfl,_⟩ | ⟨h',hb⟩
   ·rfl
   ·simp only[kD,kW h'] at hm
    have:=hS.mlt hb
    omega
  ·rcases AH b g' US e2 w2 hb with⟨rfl,_⟩ | ⟨h',hb⟩
   ·simp only[kD,kW h] at hm
    have:=hS.mlt ha
    omega
   ·simp only[kW h,kW h'] at hm
    exact hS.inj a b _ _ _ _ _ _ _ _ ha hb hm
theorem fC {H:aB} {b:Nat} {x:jR} (hb:b<H.length) {a:Nat} {y:jR} (h:(H.set b x)[a]? = some y):(a=b∧y=x)∨(a≠b∧H[a]? = some y):=by
 by_cases he:a=b
 ·subst he
  rw[List.getElem?_set_self hb] at h
  cases h
  exact .inl ⟨rfl,rfl⟩
 ·rw[List.getElem?_set_ne (Ne.symm he)] at h
  exact .inr ⟨he,h⟩
theorem Bn (hS:SR V lo dN) {b g e:Nat} {es lB:List VV} {r':List Value} (hb:V.H[b]? = some (.row g es e true)) (gY:lo≤b) (he:∀x∈lB,(aA x).length=e) (hl:VL V (lB.flatMap aA) r') {r:List Value} {p:Bool} (hp:V.P[V.m b]? = some (.row r e p)) :
  SR { V with H:=V.H.set b (.row g lB e true),P:=V.P.set (V.m b) (.row r' e p) } lo dN∧CF lo V { V with H:=V.H.set b (.row g lB e true),P:=V.P.set (V.m b) (.row r' e p) }:=by
 have sN:=(List.getElem?_eq_some_iff.1 hb).1
 have Jq:=hS.mlt hb
 have hU:Up V { V with H:=V.H.set b (.row g lB e true),P:=V.P.set (V.m b) (.row r' e p) } :=
  ⟨fun _ h=>h,fun q hq=>List.getElem?_set_ne (fun h=>(hS.wr b g es e hb).1 (by rw[h];exact hq)),by simp,fun a g' Al e1 w1 aX ha=>by
   rcases fC sN ha with⟨rfl,h⟩ | ⟨_,h⟩
   ·cases h
    exact⟨g,es,true,hb,Nat.le_refl _,fun _=>rfl⟩
   ·exact⟨g',Al,w1,h,Nat.le_refl _,fun _=>rfl⟩,rfl,by simp,fun a g1 Al e1 w1 ha _=>by
   rcases fC sN ha with⟨rfl,h⟩ | ⟨eW,h⟩
   ·cases h
    exact⟨g,es,true,hb,rfl,fun _=>rfl⟩
   ·exact⟨g1,Al,w1,h,rfl,id⟩⟩
 refine⟨⟨fun a g1 Al e1 w1 ha => ?_,fun a g1 Al e1 ha => ?_,fun a c g1 Al e1 w1 g2 US e2 w2 ha hc hm => ?_,fun q hq=>by have:=hS.fr q hq;simp;omega,by have:=hS.P5;simp;omega,by have:=hS.JZ;simp;omega⟩,
  { hU with jO:=fun q hq hn=>List.getElem?_set_ne (hn b g es e hb gY),Cp:=fun q hq => .inl hq }⟩
 ·rcases fC sN ha with⟨rfl,h⟩ | ⟨eW,h⟩
  ·cases h
   exact⟨r',p,List.getElem?_set_self Jq,he,hl.mono hU⟩
  ·obtain⟨r1,p1,h1,h2,h3⟩:=hS.row a g1 Al e1 w1 h
   exact⟨r1,p1,by rw[←h1];exact List.getElem?_set_ne (fun hm=>eW (hS.inj _ _ _ _ _ _ _ _ _ _ h hb hm.symm)),h2,h3.mono hU⟩
 ·rcases fC sN ha with⟨rfl,h⟩ | ⟨eW,h⟩
  ·cases h
   exact hS.wr _ _ _ _ hb
  ·exact hS.wr _ _ _ _ h
 ·rcases fC sN ha with⟨rfl,h⟩ | ⟨eW,h⟩<;>rcases fC sN hc with⟨rfl,h'⟩ | ⟨TB,h'⟩
  ·rfl
  ·exact hS.inj _ _ _ _ _ _ _ _ _ _ hb h' hm
  ·exact hS.inj _ _ _ _ _ _ _ _ _ _ h hb hm
  ·exact hS.inj _ _ _ _ _ _ _ _ _ _ h h' hm
theorem Qe (hS:SR V lo dN) {b g e:Nat} {es lB:List VV} {r':List Value} (hb:V.H[b]? = some (.row g es e true)) (gY:lo≤b) (he:∀x∈lB,(aA x).length=e) (hl:VL V (lB.flatMap aA) r') {P1:aD} (hP:P1.length=V.P.length) (hk:∀q,q≠V.m b→P1[q]? = V.P[q]?) (p:Bool) :
  SR { V with m:=Us V.m b V.P.length,H:=V.H.set b (.row (g+1) lB e true),P:=P1++[.row r' e p] } lo dN∧CF lo V { V with m:=Us V.m b V.P.length,H:=V.H.set b (.row (g+1) lB e true),P:=P1++[.row r' e p] }:=by
 have sN:=(List.getElem?_eq_some_iff.1 hb).1
 have Jq:=hS.mlt hb
 have wB:∀q,q<V.P.length→q≠V.m b→(P1++[JP.row r' e p])[q]? = V.P[q]? := fun q hq hn=>by rw[List.getElem?_append_left (by omega)];exact hk q hn
 have hU:Up V { V with m:=Us V.m b V.P.length,H:=V.H.set b (.row (g+1) lB e true),P:=P1++[.row r' e p] } :=
  ⟨fun _ h=>h,fun q hq=>wB q (hS.fr q hq) (fun h=>(hS.wr b g es e hb).1 (by rw[←h];exact hq)),by simp,fun a g' Al e1 w1 aX ha=>by
   rcases fC sN ha with⟨rfl,h⟩ | ⟨eW,h⟩
   ·cases h
    exact⟨g,es,true,hb,by omega,fun h=>by omega⟩
   ·exact⟨g',Al,w1,h,Nat.le_refl _,fun _=>kW eW⟩,rfl,by simp;omega,fun a g1 Al e1 w1 ha hm=>by
   rcases fC sN ha with⟨rfl,h⟩ | ⟨eW,h⟩
   ·simp only[kD] at hm
    omega
   ·exact⟨g1,Al,w1,h,kW eW,id⟩⟩
 refine⟨⟨fun a g1 Al e1 w1 ha => ?_,fun a g1 Al e1 ha => ?_,fun a c g1 Al e1 w1 g2 US e2 w2 ha hc hm => ?_,fun q hq=>by have:=hS.fr q hq;simp;omega,by have:=hS.P5;simp;omega,by have:=hS.JZ;simp;omega⟩,
  { hU with jO:=fun q hq hn=>wB q hq (Ne.symm (hn b g es e hb gY)),Cp:=fun q hq => .inl hq }⟩
 ·rcases fC sN ha with⟨rfl,h⟩ | ⟨eW,h⟩
  ·cases h
   refine⟨r',p,?_,he,hl.mono hU⟩
   simp only[kD]
   rw[←hP]
   simp
  ·obtain⟨r1,p1,h1,h2,h3⟩:=hS.row a g1 Al e1 w1 h
   refine⟨r1,p1,?_,h2,h3.mono hU⟩
   simp only[kW eW]
   rw[wB _ (hS.mlt h) (fun hm=>eW (hS.inj _ _ _ _ _ _ _ _ _ _ h hb hm))]
   exact h1
 ·rcases fC sN ha with⟨rfl,h⟩ | ⟨eW,h⟩
  ·cases h
   simp only[kD]
   exact⟨fun hF=>by have:=hS.fr _ hF;omega,fun _=>hS.P5⟩
  ·simp only[kW eW]
   exact hS.wr _ _ _ _ h
 ·rcases fC sN ha with⟨rfl,h⟩ | ⟨eW,h⟩<;>rcases fC sN hc with⟨rfl,h'⟩ | ⟨TB,h'⟩
  ·rfl
  ·simp only[kD,kW TB] at hm
   have:=hS.mlt h'
   omega
  ·simp only[kD,kW eW] at hm
   have:=hS.mlt h
   omega
  ·simp only[kW eW,kW TB] at hm
   exact hS.inj _ _ _ _ _ _ _ _ _ _ h h' hm
def View.freeze (V:View) (b:Nat):View :=
 match V.H[b]? with
 | some (.row _ _ _ _)=>{ V with H:=zH V.H b,F:=fun q=>V.F q∨q=V.m b }
 | _=>V
theorem Pl (V:View) (b:Nat):(V.freeze b).H=zH V.H b:=by
 unfold View.freeze zH
 cases h:V.H[b]? with
 | none=>rfl
 | some x=>cases x<;>rfl
theorem Xl (V:View) (b:Nat):(V.freeze b).P=V.P:=by
 unfold View.freeze
 split<;>rfl
theorem Nn (V:View) (b:Nat):(V.freeze b).m=V.m:=by
 unfold View.freeze
 split<;>rfl
theorem LJ (hS:SR V lo dN) (b:Nat):SR (V.freeze b) lo dN∧CF lo V (V.freeze b)∧(∀g es e w,V.H[b]? = some (.row g es e w)→(V.freeze b).F (V.m b)):=by
 unfold View.freeze
 split
 case h_2 eW=>exact⟨hS,CF.refl _ _,fun g es e w h=>absurd h (eW _ _ _ _)⟩
 rename_i g es e w hb
 have sN:=(List.getElem?_eq_some_iff.1 hb).1
 have hf:zH V.H b=V.H.set b (.row g es e false):=by unfold zH;rw[hb]
 rw[hf]
 have hU:Up V { V with H:=V.H.set b (.row g es e false),F:=fun q=>V.F q∨q=V.m b } :=
  ⟨fun _ h => .inl h,fun _ _=>rfl,by simp,fun a g' Al e1 w1 aX ha=>by
   rcases fC sN ha with⟨rfl,h⟩ | ⟨_,h⟩
   ·cases h
    exact⟨g,es,w,hb,Nat.le_refl _,fun _=>rfl⟩
   ·exact⟨g',Al,w1,h,Nat.le_refl _,fun _=>rfl⟩,rfl,Nat.le_refl _,fun a g1 Al e1 w1 ha hm=>by
   rcases fC sN ha with⟨rfl,h⟩ | ⟨eW,h⟩
   ·cases h
    exact⟨g,es,w,hb,rfl,fun h=>by cases h⟩
   ·exact⟨g1,Al,w1,h,rfl,id⟩⟩
 refine⟨⟨fun a g1 Al e1 w1 ha => ?_,fun a g1 Al e1 ha => ?_,fun a c g1 Al e1 w1 g2 US e2 w2 ha hc hm => ?_,fun q hq => ?_,hS.P5,hS.JZ⟩,
  { hU with jO:=fun q hq hn=>rfl,Cp:=fun q hq => ?_ },fun _ _ _ _ _ => .inr rfl⟩
 ·rcases fC sN ha with⟨rfl,h⟩ | ⟨eW,h⟩
  ·cases h
   obtain⟨r1,p1,h1,h2,h3⟩:=hS.row _ _ _ _ _ hb
   exact⟨r1,p1,h1,h2,h3.mono hU⟩
  ·obtain⟨r1,p1,h1,h2,h3⟩:=hS.row _ _ _ _ _ h
   exact⟨r1,p1,h1,h2,h3.mono hU⟩
 ·rcases fC sN ha with⟨rfl,h⟩ | ⟨eW,h⟩
  ·cases h
  ·refine⟨fun hF => ?_,(hS.wr _ _ _ _ h).2⟩
   rcases hF with hF | hF
   ·exact(hS.wr _ _ _ _ h).1 hF
   ·exact eW (hS.inj _ _ _ _ _ _ _ _ _ _ h hb hF)
 ·rcases fC sN ha with⟨rfl,h⟩ | ⟨eW,h⟩<;>rcases fC sN hc with⟨rfl,h'⟩ | ⟨TB,h'⟩
  ·rfl
  ·exact hS.inj _ _ _ _ _ _ _ _ _ _ hb h' hm
  ·exact hS.inj _ _ _ _ _ _ _ _ _ _ h hb hm
  ·exact hS.inj _ _ _ _ _ _ _ _ _ _ h h' hm
 ·rcases hq with hq | hq
  ·exact hS.fr q hq
  ·subst hq;exact hS.mlt hb
 ·rcases hq with hq | hq
  ·exact .inl hq
  ·exact .inr (.inr ⟨b,g,es,e,w,hb,hq.symm⟩)
end
end Go.PM
namespace Go.PM
section
variable {V:View} {lo dN:Nat} {ρ:cP} {iY:Env}
def ER (V:View) (ρ:cP) (iY:Env):Prop:=∀t,VR V (ρ t) (iY t)
theorem ER.mono {V':View} (u:Up V V') (h:ER V ρ iY):ER V' ρ iY:=fun t=>(h t).mono u
theorem ER.ev (h:ER V ρ iY) (x:Operand):VR V (dH ρ x) (ev iY x):=by
 cases x with
 | tmp t=>exact h t
 | const v=>exact VR.inj v
 | global g=>exact .any _
 | func f=>exact .sM f [] [] .nil
theorem ER.put {d:Option Nat} {x:VV} {v:Value} (h:ER V ρ iY) (hx:VR V x v):ER V (G8 ρ d x) (put iY d v):=by
 cases d with
 | none=>exact h
 |
  some d =>
  intro t
  simp only[G8,PM.put]
  split
  ·exact hx
  ·exact h t
theorem ER.evs (h:ER V ρ iY) (xs:List Operand):VL V (xs.map (dH ρ)) (xs.map (PM.ev iY)):=VL.map fun x _=>h.ev x
def fO (lo dN:Nat) (V:View) (r:Option (Value×aD)) (v:VV) (H':aB):Prop :=
 ∃pv V',r=some (pv,V'.P)∧V'.H=H'∧SR V' lo dN∧CF lo V V'∧VR V' v pv
theorem fO.pure (hS:SR V lo dN) {r:Option Value} {v:VV} {pv:Value} (h:r=some pv) (hv:VR V v pv):fO lo dN V (r.map (·,V.P)) v V.H :=
 ⟨pv,V,by rw[h];rfl,rfl,hS,CF.refl _ _,hv⟩
theorem fO.of {V':View} {pv:Value} {v:VV} (h:SR V' lo dN∧CF lo V V') (hv:VR V' v pv):fO lo dN V (some (pv,V'.P)) v V'.H:=⟨pv,V',rfl,rfl,h.1,h.2,hv⟩
theorem fO.same (hS:SR V lo dN) {v:VV} {pv:Value} (hv:VR V v pv):fO lo dN V (some (pv,V.P)) v V.H :=
 ⟨pv,V,rfl,rfl,hS,CF.refl _ _,hv⟩
theorem bZ {α β:Type} {o:Option α} {f:α→β} {b:β} (h:o.map f=some b):∃a,o=some a∧f a=b:=by
 cases o with
 | none=>cases h
 | some a=>cases h;exact⟨a,rfl,rfl⟩
theorem oR {x:VV} {v u:Value} (h:VR V x u) (hx:x = .sc v):u=v∧lM v=true:=by
 subst hx
 cases h with
 | sc v h=>exact⟨rfl,h⟩
theorem VA {op:BinOp} {a b c:Value} (h:cU op a b=some c):lM c=true:=by
 unfold cU at h
 split at h
 ·split at h<;>cases h;rfl
 ·split at h<;>cases h;rfl
 ·split at h
  ·split at h<;>first | (cases h;rfl) | (split at h<;>cases h<;>rfl) | cases h
  ·cases h
 ·split at h<;>first | (cases h;rfl) | (split at h<;>cases h<;>rfl) | cases h
 ·cases h
theorem X6 {op:UnOp} {a c:Value} (h:Wv op a=some c):lM c=true:=by
 unfold Wv at h
 split at h<;>cases h<;>rfl
theorem Xd {n:Bool} {a b c:Value} (h:Mq n a b=some c):lM c=true:=by
 unfold Mq at h
 split at h<;>cases h;rfl
theorem WT {k:IntKind} {a c:Value} (h:Q3 k a=some c):lM c=true:=by
 unfold Q3 at h
 split at h<;>cases h;rfl
theorem Wa {a c:Value} (h:TP a=some c):lM c=true:=by
 unfold TP at h
 split at h<;>cases h;rfl
theorem Tz {a c:Value} (h:yO a=some c):lM c=true:=by
 unfold yO at h
 split at h<;>cases h;rfl
theorem Ud {a b c:Value} (h:DN a b=some c):lM c=true:=by
 unfold DN at h
 split at h
 ·split at h<;>cases h;rfl
 ·cases h
theorem UK {a b c:Value} (h:Nd a b=some c):lM c=true:=by
 unfold Nd at h
 split at h<;>cases h;rfl
theorem UH {a b c:Value} (h:N7 a b=some c):lM c=true:=by
 unfold N7 at h
 split at h<;>cases h;rfl
theorem BT (hS:SR V lo dN) {f:Value→Option Value} (hf:∀a c,f a=some c→lM c=true) {x v:VV} {u:Value} (hx:VR V x u) (h:HL f x=some v):fO lo dN V ((f u).map (·,V.P)) v V.H:=by
 unfold HL at h
 split at h
 ·obtain⟨h1,_⟩:=oR hx rfl
  subst h1
  obtain⟨c,hc,rfl⟩:=bZ h
  exact fO.pure hS hc (.sc _ (hf _ _ hc))
 ·cases h
theorem xX (hS:SR V lo dN) {f:Value→Value→Option Value} (hf:∀a b c,f a b=some c→lM c=true) {x y v:VV} {u w:Value} (hx:VR V x u) (hy:VR V y w) (h:Fa f x y=some v):fO lo dN V ((f u w).map (·,V.P)) v V.H:=by
 unfold Fa at h
 split at h
 ·obtain⟨h1,_⟩:=oR hx rfl
  obtain⟨h2,_⟩:=oR hy rfl
  subst h1 h2
  obtain⟨c,hc,rfl⟩:=bZ h
  exact fO.pure hS hc (.sc _ (hf _ _ _ hc))
 ·cases h
theorem Qy {α:Type} (l:List α) {o n a k:Nat} (h:a+k≤n):(((l.drop o).take n).drop a).take k=(l.drop (o+a)).take k:=by
 rw[List.drop_take,List.take_take,List.drop_drop,Nat.min_eq_left (by omega)]
theorem NO {x v:VV} {agg:Bool} {size off b o e:Nat} {r:List Value} {p:Bool} (hb:V.P[b]? = some (.row r e p)) (ho:o+(aA x).length≤r.length) (hl:VL V (aA x) ((r.drop o).take (aA x).length)) (h:eX agg size x off=some v) :
  ∃u,lZ agg size (.pointer (some ⟨b,o+off,none⟩)) V.P=some u∧VR V v u:=by
 unfold eX at h
 cases agg with
 |
  true =>
  simp only[if_true] at h
  split at h
  ·rename_i hs
   cases h
   refine⟨.agg ((r.drop (o+off)).take size).toArray,?_,.agg _ _ ?_⟩
   ·simp only[lZ,if_true,yR hb (show o+off+size≤r.length by omega)]
    rfl
   ·have:=(hl.drop off).take size
    rw[Qy _ hs] at this
    exact this
  ·cases h
 |
  false =>
  simp only[Bool.false_eq_true,if_false] at h
  obtain⟨u,hu,hv⟩:=hl.get h
  have ZX:=(List.getElem?_eq_some_iff.1 h).1
  rw[List.getElem?_take,if_pos ZX,List.getElem?_drop] at hu
  refine⟨u,?_,hv⟩
  have aX:=(List.getElem?_eq_some_iff.1 hu).1
  simp only[lZ,Bool.false_eq_true,if_false,yR hb (show o+off+1≤r.length by omega)]
  rw[List.drop_eq_getElem_cons aX]
  simp only[List.take_succ_cons,List.take_zero]
  rw[List.getElem?_eq_getElem aX] at hu
  injection hu with hu
  rw[hu]
theorem I9 (hS:SR V lo dN) {b g e j:Nat} {es:List VV} {w:Bool} {x:VV} (hb:V.H[b]? = some (.row g es e w)) (hx:es[j]? = some x) :
  ∃r p,V.P[V.m b]? = some (.row r e p)∧(aA x).length=e∧j*e+(aA x).length≤r.length∧VL V (aA x) ((r.drop (j*e)).take (aA x).length):=by
 obtain⟨r,p,h1,h2,h3⟩:=hS.row b g es e w hb
 have hxe:=h2 x (List.mem_of_getElem? hx)
 have hj:=(List.getElem?_eq_some_iff.1 hx).1
 have hlen:=h3.length
 rw[iZ h2] at hlen
 have hm:(j+1)*e≤es.length*e:=Nat.mul_le_mul_right _ hj
 rw[Nat.succ_mul] at hm
 refine⟨r,p,h1,hxe,by omega,?_⟩
 have:=(h3.drop (j*e)).take e
 rw[IS h2 hx] at this
 rw[hxe]
 exact this
theorem IW (hS:SR V lo dN) {p v:VV} {u:Value} {agg:Bool} {size:Nat} (hp:VR V p u) (h:gS agg size p V.H=some v):∃w,lZ agg size u V.P=some w∧VR V v w:=by
 unfold gS at h
 split at h
 ·cases hp with
  | cO x off b o r e p hF hb ho hl=>exact NO hb ho hl h
 ·split at h
  ·rename_i es e w hr
   rw[cY] at hr
   split at h
   ·rename_i x hx
    cases hp with
    |
     ptr b g j off a aX hg ha hq =>
     have:=ha _ _ _ hr
     subst this
     obtain⟨r,p,h1,h2,h3,h4⟩:=I9 hS hr hx
     exact NO h1 h3 h4 h
   ·cases h
  ·cases h
 ·cases h
theorem NI (hS:SR V lo dN) {x i v:VV} {u k:Value} {size:Nat} (hx:VR V x u) (hi:VR V i k) (h:bF size x i V.H=some v):∃w,MG size u k=some w∧VR V v w:=by
 unfold bF at h
 split at h
 ·rename_i es tk ik i
  obtain⟨rfl,_⟩:=oR hi rfl
  split at h
  ·rename_i h0
   split at h
   ·rename_i y hy
    split at h
    ·rename_i BH
     cases h
     have aX:=(List.getElem?_eq_some_iff.1 hy).1
     cases hx with
     | nJ=>simp at aX
     |
      tree es k b o c r e p hF hb ho hc he hk hl =>
      have hye:=he y (List.mem_of_getElem? hy)
      have JL:e=size:=by omega
      subst JL
      have hm:(i.toNat+1)*e≤es.length*e:=Nat.mul_le_mul_right _ aX
      rw[Nat.succ_mul] at hm
      refine⟨_,OS h0 (by omega),?_⟩
      have h1:=(hl.drop (i.toNat*e)).take e
      rw[IS he hy,Qy _ (by omega)] at h1
      exact .cO y 0 b (o+i.toNat*e) r e p hF hb (by omega) (by rw[hye];exact h1)
    ·cases h
   ·cases h
  ·cases h
 ·rename_i b g o n c ik i
  obtain⟨rfl,_⟩:=oR hi rfl
  split at h
  ·rename_i es e w hr
   rw[cY] at hr
   split at h
   ·rename_i hc
    obtain⟨rfl,h0,h1⟩:=hc
    cases h
    cases hx with
    |
     ref b g o n c a n' c' aX hg ha hq =>
     obtain⟨rfl,rfl,rfl⟩:=ha _ _ _ hr
     refine⟨_,OS h0 h1,.ptr b g (o+i.toNat) 0 _ aX hg (fun lB e' w' EZ => ?_) fun a0 h=>by cases h;exact hq ⟨V.m b,o*e,none⟩ rfl⟩
     rw[hr] at EZ
     cases EZ
     rw[Nat.add_mul,Nat.add_zero]
   ·cases h
  ·cases h
 ·cases h
theorem xT {l:Option Operand} {lv:Option Value} (hE:ER V ρ iY) (h:D7 (l.map (dH ρ))=some lv):l.map (ev iY)=lv:=by
 cases l with
 | none=>cases h;rfl
 |
  some x =>
  simp only[Option.map_some,D7] at h
  split at h
  ·rename_i hv;cases hv
  ·rename_i v hv
   cases h
   injection hv with hv
   obtain⟨h1,_⟩:=oR (hE.ev x) hv
   rw[Option.map_some,h1]
  ·cases h
theorem E7 {v:Option Value} {d:Option Nat} {t x:Nat} (hd:∀y,d=some y→y≤t) (h:dO v d t=some x):x≤t:=by
 unfold dO at h
 split at h
 ·exact hd _ h
 ·split at h
  ·cases h;omega
  ·cases h
 ·cases h
theorem KO {v:Option Value} {d d':Option Nat} {t t' x:Nat} (ht:t≤t') (hd:v=none→d=d') (h:dO v d t=some x):dO v d' t'=some x:=by
 unfold dO at h ⊢
 cases v with
 | none=>rw[←hd rfl];exact h
 |
  some v =>
  cases v with
  |
   int k i =>
   simp only at h ⊢
   split at h
   ·rename_i h1;rw[if_pos (by omega)];exact h
   ·cases h
  | _=>simp only at h ⊢;exact h
theorem Kp (hS:SR V lo dN) (size:Nat):fO lo dN V (some (.slice (some ⟨V.P.length,0,none⟩) 0 0,V.P++[.row [] size false])) (.tree [] (.cl size)) V.H:=by
 exact(fO.of (Aa hS (.row [] size false)) (.tree [] (.cl size) V.P.length 0 0 [] size false (.inr rfl) (by simp) (by simp) (by simp) (fun x hx=>by cases hx) ⟨rfl,rfl,rfl⟩ (by simp;exact .nil)) :)
theorem TO (hS:SR V lo dN) (hE:ER V ρ iY) {x v:VV} {u:Value} {size:Nat} {l h m:Option Operand} (hx:VR V x u) (hv:Ej size x (l.map (dH ρ)) (h.map (dH ρ)) (m.map (dH ρ)) V.H=some v) :
  fO lo dN V (AG size u (l.map (ev iY)) (h.map (ev iY)) (m.map (ev iY)) V.P) v V.H:=by
 unfold Ej at hv
 split at hv
 case h_2=>cases hv
 rename_i lv hhv mv hl hh hm
 rw[xT hE hl,xT hE hh,xT hE hm]
 split at hv
 ·rename_i y ys tk
  split at hv
  case isFalse=>cases hv
  rename_i BH
  split at hv
  ·cases hv
  rename_i m0 XN
  split at hv
  ·cases hv
  rename_i h0 hh0
  split at hv
  ·cases hv
  rename_i l0 xN
  cases hx with
  |
   tree es k b o c r e p hF hb ho hc he hk hl =>
   have JL:e=size:=by rw[←he y List.mem_cons_self];exact BH
   subst JL
   have hlen:(y::ys).length=ys.length+1:=rfl
   rw[hlen] at ho hc
   have b1:m0≤ys.length+1:=E7 (fun z hz=>by injection hz with hz;omega) XN
   have b2:h0≤m0:=by
    refine E7 (fun z hz => ?_) hh0
    split at hz
    ·cases hz
    ·rename_i hmn
     injection hz with hz
     have:mv=none:=by cases mv<;>simp_all
     subst this
     simp[dO] at XN
     omega
   have b3:l0≤h0:=E7 (fun z hz=>by injection hz with hz;omega) xN
   have e1:dO mv (some c) c=some (if mv.isSome then m0 else c):=by
    cases mv with
    | none=>rfl
    | some q=>exact KO hc (fun hq=>by cases hq) XN
   have e2:dO hhv (if mv.isSome then none else some (ys.length+1)) (if mv.isSome then m0 else c)=some h0:=by
    cases mv with
    |
     none =>
     simp only[Option.isSome_none,Bool.false_eq_true,if_false] at hh0 ⊢
     exact KO (by omega) (fun _=>rfl) hh0
    | some q=>exact hh0
   unfold AG
   simp only[hb,if_true]
   rw[e1]
   simp only
   rw[hlen,e2]
   simp only
   rw[xN]
   simp only
   by_cases lG:mv.isSome=true∧m0=l0
   ·rw[if_pos lG] at hv
    cases hv
    rw[if_pos ⟨lG.1,by rw[if_pos lG.1];exact lG.2⟩]
    exact Kp hS e
   ·rw[if_neg lG] at hv
    cases hv
    rw[if_neg (fun hh=>lG ⟨hh.1,by have:=hh.2;rw[if_pos hh.1] at this;exact this⟩)]
    have aX:(((y::ys).drop l0).take (h0-l0)).length=h0-l0:=by simp;omega
    have LD:l0*e+(h0-l0)*e=h0*e:=by rw[←Nat.add_mul];congr 1;omega
    have XF:h0*e≤(ys.length+1)*e:=Nat.mul_le_mul_right _ (by omega)
    have MQ:h0-l0≤(if mv.isSome then m0 else c)-l0:=by split<;>omega
    have:=VR.tree (V:=V) (((y::ys).drop l0).take (h0-l0)) .op b (o+l0*e) ((if mv.isSome then m0 else c)-l0) r e p hF hb (by rw[aX];omega) (by rw[aX];exact MQ) (fun z hz=>he z (List.mem_of_mem_drop (List.mem_of_mem_take hz))) trivial (by
     rw[aX]
     have h1:=(hl.drop (l0*e)).take ((h0-l0)*e)
     rw[Qy _ (by rw[hlen];omega),rQ he,rE (fun z hz=>he z (List.mem_of_mem_drop hz))] at h1
     exact h1)
    rw[aX] at this
    exact fO.same hS this
 ·rename_i b g o n c
  split at hv
  case h_2=>cases hv
  rename_i es e w hr
  rw[cY] at hr
  split at hv
  case isFalse=>cases hv
  rename_i BH
  subst BH
  split at hv
  ·cases hv
  rename_i m0 XN
  split at hv
  ·cases hv
  rename_i h0 hh0
  split at hv
  ·cases hv
  rename_i l0 xN
  cases hx with
  |
   ref b g o n c a n' c' aX hg ha hq =>
   obtain⟨rfl,rfl,rfl⟩:=ha _ _ _ hr
   obtain⟨r,p,h1,_⟩:=hS.row b g es e w hr
   unfold AG
   simp only[h1,if_true]
   rw[XN]
   simp only
   rw[hh0]
   simp only
   rw[xN]
   simp only
   by_cases lG:mv.isSome=true∧m0=l0
   ·rw[if_pos lG] at hv
    cases hv
    rw[if_pos lG]
    exact Kp hS e
   ·rw[if_neg lG] at hv
    cases hv
    rw[if_neg lG]
    refine fO.same hS (.ref b g (o+l0) _ _ _ _ _ aX hg (fun lB e' w' EZ => ?_) fun a0 h=>by cases h;exact hq ⟨V.m b,o*e,none⟩ rfl)
    rw[hr] at EZ
    cases EZ
    exact⟨by rw[Nat.add_mul],rfl,rfl⟩
 ·cases hv
theorem xV {es:List VV} (h:(es.all fun x=>(aA x).all cJ)=true):(es.flatMap aA).all cJ=true:=by
 rw[List.all_eq_true] at h ⊢
 intro x hx
 obtain⟨y,hy,Ar⟩:=List.mem_flatMap.1 hx
 exact List.all_eq_true.1 (h y hy) x Ar
theorem tE (hS:SR V lo dN) {y:VV} {u:Value} {size:Nat} {new:List VV} (hy:VR V y u) (h:eY size y V.H=some new) :
  pO u=some new.length∧(∀x∈new,(aA x).length=size)∧(new.flatMap aA).all cJ=true∧∀n,n≤new.length→∃pn,iD V.P size n u=some pn∧VL V ((new.take n).flatMap aA) pn:=by
 unfold eY at h
 split at h
 ·rename_i es tk
  split at h
  case isFalse=>cases h
  rename_i jX
  cases h
  have UP:∀x∈new,(aA x).length=size∧(aA x).all cJ=true:=fun x hx=>by
   have:=List.all_eq_true.1 jX x hx
   simpa using this
  refine⟨?_,fun x hx=>(UP x hx).1,xV (List.all_eq_true.2 fun x hx=>(UP x hx).2),fun n hn => ?_⟩
  ·cases hy<;>rfl
  ·cases hy with
   |
    nJ k hk =>
    have:n=0:=by simpa using hn
    subst this
    exact⟨[],rfl,by simp;exact .nil⟩
   |
    tree es k b o c r e p hF hb ho hc he hk hl =>
    cases JL:new with
    |
     nil =>
     rw[JL] at hn
     have:n=0:=by simpa using hn
     subst this
     refine⟨[],?_,by simp;exact .nil⟩
     simp only[iD,Nat.zero_mul]
     rw[yR hb (by omega)]
     simp
    |
     cons x xs =>
     have MV:e=size:=by rw[←he x (by rw[JL];exact List.mem_cons_self)];exact(UP x (by rw[JL];exact List.mem_cons_self)).1
     subst MV
     have hm:n*e≤new.length*e:=Nat.mul_le_mul_right _ hn
     refine⟨_,by simp only[iD];exact yR hb (by omega),?_⟩
     rw[←JL,←rE he]
     have h1:=hl.take (n*e)
     rw[List.take_take,Nat.min_eq_left hm] at h1
     exact h1
 ·rename_i b g o n c
  split at h
  case h_2=>cases h
  rename_i es e w hr
  rw[cY] at hr
  split at h
  case isFalse=>cases h
  rename_i hc
  obtain⟨rfl,hlen,jX⟩:=hc
  cases h
  obtain⟨r,p,h1,h2,h3⟩:=hS.row b g es e w hr
  have Yg:((es.drop o).take n).length=n:=by simp;omega
  have G9:=h3.length
  rw[iZ h2] at G9
  cases hy with
  |
   ref b g o n c a n' c' aX hg ha hq =>
   obtain⟨rfl,rfl,rfl⟩:=ha _ _ _ hr
   have WL:∀x∈(es.drop o).take n',(aA x).length=e:=fun x hx=>h2 x (List.mem_of_mem_drop (List.mem_of_mem_take hx))
   refine⟨by rw[Yg];rfl,WL,xV jX,fun k hk => ?_⟩
   rw[Yg] at hk
   have hm:(o+k)*e≤es.length*e:=Nat.mul_le_mul_right _ (by omega)
   rw[Nat.add_mul] at hm
   refine⟨_,by simp only[iD];exact yR h1 (by omega),?_⟩
   rw[List.take_take,Nat.min_eq_left hk]
   have h4:=(h3.drop (o*e)).take (k*e)
   rw[rQ h2,rE (fun x hx=>h2 x (List.mem_of_mem_drop hx))] at h4
   exact h4
 ·rename_i s
  split at h
  case isFalse=>cases h
  rename_i hs
  subst hs
  cases h
  obtain⟨rfl,_⟩:=oR hy rfl
  have hlen:(s.data.toList.map fun b=>VV.sc (.int .u8 (b.toNat:Int))).length=s.size:=by simp
  refine⟨by rw[hlen];rfl,fun x hx => ?_,?_,fun n hn => ?_⟩
  ·obtain⟨b,_,rfl⟩:=List.mem_map.1 hx
   rfl
  ·refine xV (List.all_eq_true.2 fun x hx => ?_)
   obtain⟨b,_,rfl⟩:=List.mem_map.1 hx
   rfl
  ·refine⟨(s.data.toList.take n).map fun b=>Value.int .u8 (b.toNat:Int),by simp only[iD,if_true],?_⟩
   rw[←List.map_take,List.flatMap_map]
   have:((s.data.toList.take n).flatMap fun a=>aA (VV.sc (.int .u8 (a.toNat:Int))))=(s.data.toList.take n).map fun a=>VV.sc (.int .u8 (a.toNat:Int)):=by
    generalize s.data.toList.take n=l
    induction l with
    | nil=>rfl
    | cons a l ih=>rw[List.flatMap_cons,ih];rfl
   rw[this]
   exact VL.map fun b _ => .sc _ rfl
 ·cases h
end
end Go.PM
namespace Go.PM
section
variable {V:View} {lo dN:Nat} {ρ:cP} {iY:Env}
theorem Hv (hS:SR V lo dN) {es:List VV} {r:List Value} {e n c:Nat} {p:Bool}:VR { V with m:=Us V.m V.H.length V.P.length,H:=V.H++[.row 0 es e true],P:=V.P++[.row r e p] } (.ref V.H.length 0 0 n c) (.slice (some ⟨V.P.length,0,none⟩) n c):=by
 refine .ref _ _ _ _ _ _ _ _ (by simp) (fun g' es e w _=>Nat.zero_le _) (fun lB e' w' h=>⟨?_,rfl,rfl⟩) fun a0 ha => ?_
 ·simp only[kD,Nat.zero_mul]
 ·cases ha
  refine⟨hS.JZ,by simp,fun b' g' lB e' w' hb eW hm => ?_⟩
  have wX:(V.H++[jR.row 0 es e true])[b']? = some (.row g' lB e' w'):=hb
  have aX:b'<V.H.length:=by
   have:=(List.getElem?_eq_some_iff.1 wX).1
   simp at this
   omega
  rw[List.getElem?_append_left aX] at wX
  have h2:=hS.mlt wX
  simp only[kW (show b'≠V.H.length by omega)] at hm
  omega
theorem Sc (hS:SR V lo dN) {es:List VV} {r:List Value} {e:Nat} {p:Bool}:VR { V with m:=Us V.m V.H.length V.P.length,H:=V.H++[.row 0 es e true],P:=V.P++[.row r e p] } (.ptr V.H.length 0 0 0) (.pointer (some ⟨V.P.length,0,none⟩)):=by
 refine .ptr _ _ _ _ _ (by simp) (fun g' es e w _=>Nat.zero_le _) (fun lB e' w' h => ?_) fun a0 ha => ?_
 ·simp only[kD,Nat.zero_mul]
 ·cases ha
  refine⟨hS.JZ,by simp,fun b' g' lB e' w' hb eW hm => ?_⟩
  have wX:(V.H++[jR.row 0 es e true])[b']? = some (.row g' lB e' w'):=hb
  have aX:b'<V.H.length:=by
   have:=(List.getElem?_eq_some_iff.1 wX).1
   simp at this
   omega
  rw[List.getElem?_append_left aX] at wX
  have h2:=hS.mlt wX
  simp only[kW (show b'≠V.H.length by omega)] at hm
  omega
theorem Eh (hS:SR V lo dN) {x v:VV} {u:Value} {size bytes:Nat} {nw:List VV} {pn:List Value} {H':aB} (hx:VR V x u) (hn:∀x∈nw,(aA x).length=size) (AI:(nw.flatMap aA).all cJ=true) (hl:VL V (nw.flatMap aA) pn) (h:gF lo size bytes x nw V.H=some (v,H')) :
  fO lo dN V (dJ dN size bytes u nw.length pn V.P) v H':=by
 unfold gF at h
 split at h
 case isFalse=>cases h
 rename_i Zc
 have Jq:pn.length=nw.length*size:=by rw[hl.length,iZ hn]
 unfold dJ
 rw[if_pos ⟨Zc.1,Zc.2,hl.fS AI,Jq⟩]
 split at h
 ·cases hx with
  | tree es k b o c r e p hF hb ho hc he hk hl=>exact hk.elim
  |
   nJ =>
   simp only[and_self,if_true]
   split at h
   ·rename_i h0
    cases h
    rw[if_pos h0]
    exact fO.same hS (.nJ _ (.inr rfl))
   ·rename_i h0
    split at h
    case isFalse=>cases h
    rename_i h1
    cases h
    rw[if_neg h0,if_pos h1]
    exact(fO.of (oZ hS (es:=nw) (r:=pn) (e:=size) true hn hl) (Hv hS) :)
 ·rename_i es e
  split at h
  case isFalse=>cases h
  rename_i JL
  subst JL
  cases hx with
  | nJ k hk=>rcases hk with hk | hk<;>cases hk
  |
   tree es k b o c r e' p hF hb ho hc he hk AO =>
   obtain⟨h1,h2,h3⟩:=hk
   subst h1 h2 h3
   simp only[hb]
   rw[if_pos ⟨trivial,ho⟩]
   split at h
   ·rename_i h0
    cases h
    rw[if_pos (by omega),if_pos h0]
    exact fO.same hS (.tree es _ b o _ r e false hF hb ho hc he ⟨rfl,rfl,rfl⟩ AO)
   ·rename_i h0
    split at h
    case isFalse=>cases h
    rename_i BH
    cases h
    rw[if_neg (by omega),if_pos BH]
    simp only[Bool.false_eq_true,if_false]
    have jX:∀x∈es++nw,(aA x).length=e:=fun x hx=>by
     rcases List.mem_append.1 hx with h | h
     ·exact he x h
     ·exact hn x h
    exact(fO.of (oZ hS (es:=es++nw) (r:=(r.drop o).take (es.length*e)++pn) (e:=e) true jX (by rw[List.flatMap_append];exact AO.append hl)) (Hv hS) :)
 ·rename_i b g o n c
  split at h
  case h_2=>cases h
  rename_i es e hr
  rw[cY] at hr
  split at h
  case isFalse=>cases h
  rename_i hc
  obtain⟨rfl,gY,hon⟩:=hc
  obtain⟨r,p,h1,h2,h3⟩:=hS.row b g es e true hr
  have G9:=h3.length
  rw[iZ h2] at G9
  have Cy:=(hS.wr b g es e hr).2 gY
  cases hx with
  |
   ref b g o n c a n' c' aX hg ha hq =>
   obtain⟨rfl,rfl,rfl⟩:=ha _ _ _ hr
   have hm:(o+n')*e≤es.length*e:=Nat.mul_le_mul_right _ hon
   rw[Nat.add_mul] at hm
   simp only[h1]
   rw[if_pos ⟨trivial,by omega⟩]
   split at h
   ·rename_i Uu
    rw[if_pos Uu]
    split at h
    ·rename_i h0
     cases h
     rw[if_pos h0]
     exact fO.same hS (.ref _ _ _ _ _ _ _ _ aX hg ha hq)
    ·rename_i h0
     split at h
     case isFalse=>cases h
     rename_i vG
     cases h
     rw[if_neg h0]
     have XF:(o+n'+nw.length)*e≤es.length*e:=Nat.mul_le_mul_right _ vG
     rw[Nat.add_mul,Nat.add_mul] at XF
     have jX:∀x∈cK es (o+n') nw,(aA x).length=e:=fun x hx=>by
      rcases GC hx with h | h
      ·exact h2 x h
      ·exact hn x h
     have CR:VL V ((cK es (o+n') nw).flatMap aA) (gW r (o*e+n'*e) pn):=by
      rw[←tP h2 hn,Nat.add_mul]
      exact h3.gW hl _
     obtain⟨g1,g2⟩:=Bn hS hr gY jX CR h1
     refine⟨.slice (some ⟨V.m b,o*e,none⟩) (n'+nw.length) c',{ V with H:=V.H.set b (.row g (cK es (o+n') nw) e true),P:=V.P.set (V.m b) (.row (gW r (o*e+n'*e) pn) e p) },?_,rfl,g1,g2,?_⟩
     ·unfold aD.write
      simp only[h1]
      rw[if_pos ⟨Cy,by omega,hl.fS AI⟩]
      rfl
     ·refine .ref _ _ _ _ _ _ _ _ (by simpa using aX) (fun g' lB e' w' EZ => ?_) (fun lB e' w' EZ => ?_) fun a0 h=>by cases h;exact g2.toUp.hq (hq _ rfl)
      ·rcases fC aX EZ with⟨_,h⟩ | ⟨h,_⟩
       ·cases h;exact Nat.le_refl _
       ·exact absurd rfl h
      ·rcases fC aX EZ with⟨_,h⟩ | ⟨h,_⟩
       ·cases h;exact⟨rfl,rfl,rfl⟩
       ·exact absurd rfl h
   ·rename_i Uu
    split at h
    case isFalse=>cases h
    rename_i BH
    cases h
    rw[if_neg Uu,if_pos BH]
    have jX:∀x∈(es.drop o).take n'++nw,(aA x).length=e:=fun x hx=>by
     rcases List.mem_append.1 hx with h | h
     ·exact h2 x (List.mem_of_mem_drop (List.mem_of_mem_take h))
     ·exact hn x h
    have CR:VL V (((es.drop o).take n'++nw).flatMap aA) ((r.drop (o*e)).take (n'*e)++pn):=by
     rw[List.flatMap_append]
     refine VL.append ?_ hl
     have h4:=(h3.drop (o*e)).take (n'*e)
     rw[rQ h2,rE (fun x hx=>h2 x (List.mem_of_mem_drop hx))] at h4
     exact h4
    have fin:∀P1:aD,P1.length=V.P.length→(∀q,q≠V.m b→P1[q]? = V.P[q]?) →
      fO lo dN V (some (.slice (some ⟨V.P.length,0,none⟩) (n'+nw.length) (n'+nw.length),P1++[.row ((r.drop (o*e)).take (n'*e)++pn) e true])) (.ref b (g+1) 0 (n'+nw.length) (n'+nw.length)) (V.H.set b (.row (g+1) ((es.drop o).take n'++nw) e true)):=by
     intro P1 hP hk
     refine(fO.of (Qe hS hr gY jX CR hP hk true) ?_ :)
     refine .ref _ _ _ _ _ _ _ _ (by simpa using aX) (fun g' lB e' w' EZ => ?_) (fun lB e' w' EZ => ?_) fun a0 h => ?_
     ·rcases fC aX EZ with⟨_,h⟩ | ⟨h,_⟩
      ·cases h;exact Nat.le_refl _
      ·exact absurd rfl h
     ·rcases fC aX EZ with⟨_,h⟩ | ⟨h,_⟩
      ·cases h;exact⟨by simp only[kD,Nat.zero_mul],rfl,rfl⟩
      ·exact absurd rfl h
     ·cases h
      refine⟨hS.JZ,by simp[hP],fun b' g' lB e' w' hb eW hm => ?_⟩
      rcases fC aX hb with⟨h,_⟩ | ⟨_,h⟩
      ·exact eW h
      ·simp only[kW eW] at hm
       have:=hS.mlt h
       omega
    cases p with
    |
     true =>
     simp only[if_true,Cy]
     exact fin (V.P.set (V.m b) .dead) (by simp) fun q hq=>List.getElem?_set_ne (Ne.symm hq)
    |
     false =>
     simp only[Bool.false_eq_true,if_false]
     exact fin V.P rfl fun _ _=>rfl
 ·cases h
theorem Oi (hS:SR V lo dN) {p v:VV} {u w:Value} {size:Nat} {H':aB} (hp:VR V p u) (hv:VR V v w) (h:dC lo size p v V.H=some H'):fO lo dN V (Dq dN size u w V.P) nO H':=by
 unfold dC at h
 split at h
 case h_2=>cases h
 rename_i b g j o
 split at h
 case h_2=>cases h
 rename_i es e hr
 rw[cY] at hr
 split at h
 case h_2=>cases h
 rename_i x hx
 split at h
 case isFalse=>cases h
 rename_i hc
 obtain⟨BH,gY,AI⟩:=hc
 obtain⟨r,q,h1,h2,h3⟩:=hS.row b g es e true hr
 have G9:=h3.length
 rw[iZ h2] at G9
 have Cy:=(hS.wr b g es e hr).2 gY
 have hj:=(List.getElem?_eq_some_iff.1 hx).1
 have hxe:=h2 x (List.mem_of_getElem? hx)
 have hm:(j+1)*e≤es.length*e:=Nat.mul_le_mul_right _ hj
 rw[Nat.succ_mul] at hm
 have lG:=hv.cells (PO AI)
 have hwl:(aL w).length=size:=by rw[lG.length,BH]
 cases hp with
 |
  ptr b g j off a aX hg ha hq =>
  have:=ha _ _ _ hr
  subst this
  have fin:∀y:VV,(aA y).length=e→o+size≤e→aA y=cK (aA x) o (aA v)→H'=V.H.set b (.row g (es.set j y) e true)→fO lo dN V (Dq dN size (.pointer (some ⟨V.m b,j*e+o,none⟩)) w V.P) nO H':=by
   intro y hy ho hye hH
   subst hH
   have jX:∀z∈es.set j y,(aA z).length=e:=fun z hz=>by
    rcases List.mem_or_eq_of_mem_set hz with h | h
    ·exact h2 z h
    ·subst h;exact hy
   have CR:VL V ((es.set j y).flatMap aA) (gW r (j*e+o) (aL w)):=by
    have e1:(es.set j y).flatMap aA=cK (es.flatMap aA) (j*e+o) (aA v):=by
     rw[←Gz hj,←tP h2 (new:=[y]) (fun z hz=>by rw[List.mem_singleton] at hz;subst hz;exact hy)]
     simp only[List.flatMap_cons,List.flatMap_nil,List.append_nil]
     rw[hye]
     have hx2:=IS h2 hx
     unfold cK
     have t1:(es.flatMap aA).take (j*e+o)=(es.flatMap aA).take (j*e)++(aA x).take o:=by
      rw[List.take_add,←hx2,List.take_take,Nat.min_eq_left (by omega)]
     have t2:(es.flatMap aA).drop (j*e+o+(aA v).length)=(aA x).drop (o+(aA v).length)++(es.flatMap aA).drop (j*e+e):=by
      have t0:(es.flatMap aA).drop (j*e+e)=((es.flatMap aA).drop (j*e+(o+(aA v).length))).drop (e-(o+(aA v).length)):=by
       rw[List.drop_drop]
       congr 1
       omega
      rw[←hx2,List.drop_take,List.drop_drop,t0,List.take_append_drop,Nat.add_assoc]
     rw[t1,t2]
     have t3:(List.take o (aA x)++aA v++List.drop (o+(aA v).length) (aA x)).length=e:=by
      simp;omega
     rw[t3]
     simp only[List.append_assoc]
    rw[e1]
    exact h3.gW lG _
   obtain⟨g1,g2⟩:=Bn hS hr gY jX CR h1
   refine⟨undef,{ V with H:=V.H.set b (.row g (es.set j y) e true),P:=V.P.set (V.m b) (.row (gW r (j*e+o) (aL w)) e q) },?_,rfl,g1,g2,.eK [] [] .nil⟩
   unfold Dq
   simp only[hwl,if_true]
   unfold aD.write
   simp only[h1]
   rw[if_pos ⟨Cy,by omega,lG.fS AI⟩]
   rfl
  split at h
  ·rename_i ho
   obtain⟨rfl,rfl⟩:=ho
   cases h
   refine fin v BH (by omega) ?_ rfl
   unfold cK
   rw[Nat.zero_add,List.take_zero,List.nil_append,List.drop_of_length_le (by omega),List.append_nil]
  ·split at h
   case isFalse=>cases h
   rename_i ho
   cases h
   have Oa:(cK (aA x) o (aA v)).length=e:=by rw[Pj (by omega)];exact hxe
   exact fin (.agg (cK (aA x) o (aA v))) Oa (by omega) rfl rfl
theorem AQ {z:List Value} (hz:(z.map iL).all cJ=true):(aA (elemOf (z.map iL))).length=z.length:=by
 rw[lH hz,List.length_map]
theorem zC {z:List Value} (hz:(z.map iL).all cJ=true):∀n,VL V ((List.replicate n (elemOf (z.map iL))).flatMap aA) (cG n z):=by
 intro n
 have AI:z.all fS=true:=(VL.zero (V:=V) z).fS hz
 have We:cG n z=(List.replicate n ()).flatMap fun _=>z:=by
  rcases Nat.eq_zero_or_pos z.length with h0 | jN
  ·have:z=[]:=List.length_eq_zero_iff.1 h0
   subst this
   simp[cG]
  ·exact Np (enc:=fun(_:Unit)=>z) (eR:=z.length) (x:=()) ⟨fun _=>rfl,fun _=>AI,jN⟩
 rw[We]
 clear We
 induction n with
 | zero=>exact .nil
 |
  succ n ih =>
  rw[List.replicate_succ,List.replicate_succ,List.flatMap_cons,List.flatMap_cons,lH hz]
  exact(VL.zero z).append ih
theorem QY (hS:SR V lo dN) {z:List Value} {bytes:Nat} {l c v:VV} {u w:Value} {H':aB} (hz:(z.map iL).all cJ=true) (hl:VR V l u) (hc:VR V c w) (h:yG z bytes l c V.H=some (v,H')):fO lo dN V (RA z bytes u w V.P) v H':=by
 unfold yG at h
 split at h
 case h_2=>cases h
 obtain⟨rfl,_⟩:=oR hl rfl
 obtain⟨rfl,_⟩:=oR hc rfl
 split at h
 case isFalse=>cases h
 rename_i NH
 cases h
 unfold RA
 simp only[if_pos NH]
 exact(fO.of (oZ hS (e:=z.length) false (fun x hx=>by rw[List.eq_of_mem_replicate hx];exact AQ hz) (zC hz _)) (Hv hS) :)
theorem Tl (hS:SR V lo dN) {z:List Value} (hz:(z.map iL).all cJ=true):fO lo dN V (some (.pointer (some ⟨V.P.length,0,none⟩),V.P++[.row z z.length false])) (.ptr V.H.length 0 0 0) (V.H++[.row 0 [elemOf (z.map iL)] z.length true]):=by
 exact(fO.of (oZ hS (es:=[elemOf (z.map iL)]) (r:=z) (e:=z.length) false (fun x hx=>by rw[List.mem_singleton] at hx;subst hx;exact AQ hz) (by simp only[List.flatMap_cons,List.flatMap_nil,List.append_nil,lH hz];exact VL.zero z)) (Sc hS) :)
theorem S7 (hS:SR V lo dN) {x v:VV} {u:Value} {H':aB} {bf:Bool} (hx:VR V x u) (hs:(aA x).all cJ=true) (h:(if bf=true then some (VV.cO x 0,V.H) else some (VV.ptr V.H.length 0 0 0,V.H++[jR.row 0 [x] (aA x).length true]))=some (v,H')) :
  fO lo dN V (if (aL u).all fS then some (.pointer (some ⟨V.P.length,0,none⟩),V.P++[.row (aL u) (aL u).length false]) else none) v H':=by
 have hc:=hx.cells (PO hs)
 rw[if_pos (hc.fS hs)]
 split at h
 ·cases h
  have g:=Aa hS (.row (aL u) (aL u).length false)
  refine(fO.of g ?_ :)
  have hm:=hc.mono g.2.toUp
  refine .cO x 0 V.P.length 0 (aL u) (aL u).length false (.inr rfl) (by simp) (by rw[hc.length];omega) ?_
  rw[List.drop_zero,List.take_of_length_le (by rw[hc.length];exact Nat.le_refl _)]
  exact hm
 ·cases h
  rw[hc.length]
  exact(fO.of (oZ hS (es:=[x]) (r:=aL u) (e:=(aA x).length) false (fun y hy=>by rw[List.mem_singleton] at hy;subst hy;rfl) (by simpa using hc)) (Sc hS) :)
theorem take_set {α:Type} {l:List α} {i:Nat} {x:α} (h:i<l.length):l.set i x=l.take i++x::l.drop (i+1):=by
 rw[List.set_eq_take_append_cons_drop,if_pos h]
inductive P4 (V:View):List (Nat×VV)→List (Nat×Value)→Prop
 | nil:P4 V [] []
 | cons {i:Nat} {x:VV} {v:Value} {xs:List (Nat×VV)} {vs:List (Nat×Value)} (h:VR V x v) (hs:P4 V xs vs):P4 V ((i,x)::xs) ((i,v)::vs)
theorem CJ {e n:Nat}:∀ {parts:List (Nat×VV)} {xC:List (Nat×Value)} {es lB:List VV} {r:List Value},es.length=n→(∀x∈es,(aA x).length=e)→VL V (es.flatMap aA) r →
  P4 V parts xC→tK e es parts=some lB→lB.length=n∧(∀x∈lB,(aA x).length=e)∧∃r',tB ((List.range n).map fun i=>(i*e,e)) r xC=some r'∧VL V (lB.flatMap aA) r'
 |
  [],_,es,lB,r,hn,he,hl,.nil,h=>by
  cases h
  exact⟨hn,he,r,rfl,hl⟩
 |
  (i,v)::parts,(_,w)::xC,es,lB,r,hn,he,hl,.cons hv hps,h=>by
  unfold tK at h
  split at h
  case isFalse=>cases h
  rename_i hc
  obtain⟨hi,hve,AI⟩:=hc
  have lG:=hv.cells (PO AI)
  have hwl:(aL w).length=e:=by rw[lG.length,hve]
  have G9:=hl.length
  rw[iZ he] at G9
  have hm:(i+1)*e≤es.length*e:=Nat.mul_le_mul_right _ hi
  rw[Nat.succ_mul] at hm
  have jX:∀x∈es.set i v,(aA x).length=e:=fun x hx=>by
   rcases List.mem_or_eq_of_mem_set hx with h | h
   ·exact he x h
   ·subst h;exact hve
  have CR:VL V ((es.set i v).flatMap aA) (r.take (i*e)++aL w++r.drop (i*e+e)):=by
   have h1:=hl.gW lG (i*e)
   have h2:=tP he (new:=[v]) (fun z hz=>by rw[List.mem_singleton] at hz;subst hz;exact hve) i
   simp only[List.flatMap_cons,List.flatMap_nil,List.append_nil] at h2
   rw[h2,Gz hi] at h1
   unfold gW at h1
   rw[hwl] at h1
   exact h1
  obtain⟨g1,g2,r',g3,g4⟩:=CJ (n:=n) (by rw[List.length_set];exact hn) jX CR hps h
  refine⟨g1,g2,r',?_,g4⟩
  unfold tB
  have hr:((List.range n).map fun i=>(i*e,e))[i]? = some (i*e,e):=by simp[List.getElem?_range (show i<n by omega)]
  simp only[hr]
  rw[if_pos ⟨hwl,by omega⟩]
  exact g3
theorem Fx (hE:ER V ρ iY):∀parts:List (Nat×Operand),P4 V (parts.map fun(i,x)=>(i,dH ρ x)) (parts.map fun(i,x)=>(i,ev iY x))
 | [] => .nil
 | (i,x)::parts => .cons (hE.ev x) (Fx hE parts)
theorem D8 {e:Nat}:∀ {parts:List (Nat×VV)} {es lB:List VV},(es.all fun x=>(aA x).all cJ)=true→tK e es parts=some lB→(lB.all fun x=>(aA x).all cJ)=true
 | [],es,lB,h,hf=>by cases hf;exact h
 |
  (i,v)::parts,es,lB,h,hf=>by
  unfold tK at hf
  split at hf
  case isFalse=>cases hf
  rename_i hc
  refine D8 ?_ hf
  rw[List.all_eq_true] at h ⊢
  intro x hx
  rcases List.mem_or_eq_of_mem_set hx with h1 | h1
  ·exact h x h1
  ·subst h1;exact hc.2.2
theorem T5 (hS:SR V lo dN) {lr:Bool} {z:List Value} {n:Nat} {parts:List (Nat×VV)} {xC:List (Nat×Value)} {v:VV} {H':aB} (hp:P4 V parts xC) (h:qY lr z n parts V.H=some (v,H')):fO lo dN V (YH z n xC V.P) v H':=by
 unfold qY at h
 split at h
 case h_2=>cases h
 rename_i es JL
 split at h
 case isFalse=>cases h
 rename_i hz
 obtain⟨g1,g2,r',g3,g4⟩:=CJ (V:=V) (n:=n) (by simp) (fun x hx=>by rw[List.eq_of_mem_replicate hx];exact AQ hz) (zC hz n) hp JL
 have AI:=D8 (by
  rw[List.all_eq_true]
  intro x hx
  rw[List.eq_of_mem_replicate hx,lH hz]
  exact hz) JL
 unfold YH
 simp only[g3]
 rw[if_pos (g4.fS (xV AI))]
 split at h
 ·cases h
  exact(fO.of (oZ hS (e:=z.length) false g2 g4) (Hv hS) :)
 ·cases h
  have k:=Aa hS (.row r' z.length false)
  refine(fO.of k ?_ :)
  have hm:=g4.mono k.2.toUp
  have G9:=g4.length
  rw[iZ g2] at G9
  subst g1
  refine .tree es _ V.P.length 0 es.length r' z.length false (.inr rfl) (by simp) (by omega) (Nat.le_refl _) g2 ⟨rfl,rfl,rfl⟩ ?_
  rw[List.drop_zero,List.take_of_length_le (by omega)]
  exact hm
theorem Le (hS:SR V lo dN) {b g e o:Nat} {es nw:List VV} {pn:List Value} (hr:V.H[b]? = some (.row g es e true)) (gY:lo≤b) (vG:o+nw.length≤es.length) (hn:∀x∈nw,(aA x).length=e) (AI:(nw.flatMap aA).all cJ=true) (hl:VL V (nw.flatMap aA) pn) :
  ∃V',V.P.write dN (V.m b) (o*e) pn=some V'.P∧V'.H=V.H.set b (.row g (cK es o nw) e true)∧SR V' lo dN∧CF lo V V':=by
 obtain⟨r,q,h1,h2,h3⟩:=hS.row b g es e true hr
 have G9:=h3.length
 rw[iZ h2] at G9
 have Cy:=(hS.wr b g es e hr).2 gY
 have Jq:=hl.length
 rw[iZ hn] at Jq
 have hm:(o+nw.length)*e≤es.length*e:=Nat.mul_le_mul_right _ vG
 rw[Nat.add_mul] at hm
 have jX:∀x∈cK es o nw,(aA x).length=e:=fun x hx=>by
  rcases GC hx with h | h
  ·exact h2 x h
  ·exact hn x h
 have CR:VL V ((cK es o nw).flatMap aA) (gW r (o*e) pn):=by
  rw[←tP h2 hn]
  exact h3.gW hl _
 obtain⟨g1,g2⟩:=Bn hS hr gY jX CR h1
 refine⟨{ V with H:=V.H.set b (.row g (cK es o nw) e true),P:=V.P.set (V.m b) (.row (gW r (o*e) pn) e q) },?_,rfl,g1,g2⟩
 unfold aD.write
 simp only[h1]
 rw[if_pos ⟨Cy,by omega,hl.fS AI⟩]
theorem QC (hS:SR V lo dN) {x y v:VV} {u w:Value} {size:Nat} {H':aB} (hx:VR V x u) (hy:VR V y w) (h:K1 lo size x y V.H=some (v,H')):fO lo dN V (copyV dN size u w V.P) v H':=by
 unfold K1 at h
 split at h
 ·rename_i new hs
  obtain⟨h1,_⟩:=tE hS hy hs
  cases h
  cases hx with
  | tree es k b o c r e p hF hb ho hc he hk hl=>exact hk.elim
  |
   nJ =>
   unfold copyV
   simp only[h1]
   exact fO.same hS (.sc _ rfl)
 ·rename_i b g o d c new hs
  obtain⟨h1,h2,h3,h4⟩:=tE hS hy hs
  split at h
  case h_2=>cases h
  rename_i es e hr
  rw[cY] at hr
  split at h
  case isFalse=>cases h
  rename_i hc
  obtain⟨rfl,gY,vG⟩:=hc
  cases h
  cases hx with
  |
   ref b g o n c a n' c' aX hg ha hq =>
   obtain⟨rfl,rfl,rfl⟩:=ha _ _ _ hr
   have YN:(new.take n').length=Nat.min new.length n':=by rw[List.length_take];exact Nat.min_comm _ _
   obtain⟨pn,h5,h6⟩:=h4 (Nat.min new.length n') (Nat.min_le_left _ _)
   have ht:new.take (Nat.min new.length n')=new.take n':=by
    rw[←YN,List.length_take,←List.take_take,List.take_length]
   rw[ht] at h6
   have Jb:∀x∈new.take n',(aA x).length=e:=fun x hx=>h2 x (List.mem_of_mem_take hx)
   have AI:((new.take n').flatMap aA).all cJ=true:=by
    rw[List.all_eq_true] at h3 ⊢
    intro x hx
    obtain⟨y,hy,Ar⟩:=List.mem_flatMap.1 hx
    exact h3 x (List.mem_flatMap.2 ⟨y,List.mem_of_mem_take hy,Ar⟩)
   obtain⟨V',k1,k2,k3,k4⟩:=Le hS hr gY vG Jb AI h6
   refine⟨.int .i64 (Nat.min new.length n'),V',?_,k2,k3,k4,?_⟩
   ·unfold copyV
    simp only[h1,h5,k1]
    rfl
   ·rw[YN]
    exact .sc _ rfl
 ·cases h
theorem Ow (hS:SR V lo dN) {x:VV} {u:Value} {z:List Value} {H':aB} (hx:VR V x u) (h:Lx lo z x V.H=some H'):fO lo dN V (Mz dN z u V.P) nO H':=by
 unfold Lx at h
 split at h
 case h_2=>cases h
 rename_i b g o n c
 split at h
 case h_2=>cases h
 rename_i es e hr
 rw[cY] at hr
 cases hx with
 |
  ref b g o n c a n' c' aX hg ha hq =>
  obtain⟨rfl,rfl,rfl⟩:=ha _ _ _ hr
  unfold Mz
  simp only
  split at h
  ·rename_i h0
   cases h
   rw[if_pos h0]
   exact fO.same hS (.eK [] [] .nil)
  ·rename_i h0
   rw[if_neg h0]
   split at h
   case isFalse=>cases h
   rename_i hc
   obtain⟨rfl,gY,vG,hz⟩:=hc
   cases h
   have Jb:∀x∈List.replicate n' (elemOf (z.map iL)),(aA x).length=z.length:=fun x hx=>by rw[List.eq_of_mem_replicate hx];exact AQ hz
   obtain⟨V',k1,k2,k3,k4⟩:=Le hS hr gY (nw:=List.replicate n' (elemOf (z.map iL))) (by simpa using vG) Jb (xV (by
    rw[List.all_eq_true]
    intro x hx
    rw[List.eq_of_mem_replicate hx,lH hz]
    exact hz)) (zC hz n')
   refine⟨undef,V',?_,k2,k3,k4,.eK [] [] .nil⟩
   rw[k1]
   rfl
end
end Go.PM
namespace Go.PM
section
variable {V:View} {lo dN:Nat} {ρ:cP} {iY:Env}
theorem M6 {x v:VV} {u:Value} {neg:Bool} (hx:VR V x u) (h:Du neg x V.H=some v):∃w,W2 neg u=some w∧VR V v w:=by
 unfold Du at h
 split at h
 ·cases h
  cases hx with
  | tree es k b o c r e p hF hb ho hc he hk hl=>exact hk.elim
  | nJ=>exact⟨_,rfl,.sc _ rfl⟩
 ·cases h
  cases hx with
  | nJ k hk=>rcases hk with hk | hk<;>cases hk
  | tree=>exact⟨_,rfl,.sc _ rfl⟩
 ·cases h
  cases hx with
  | tree=>exact⟨_,rfl,.sc _ rfl⟩
 ·obtain⟨⟨es,e,w⟩,hr,rfl⟩:=bZ h
  rw[cY] at hr
  cases hx with
  |
   ref b g o n c a n' c' aX hg ha hq =>
   obtain⟨rfl,rfl,rfl⟩:=ha _ _ _ hr
   exact⟨_,rfl,.sc _ rfl⟩
 ·cases h
theorem T2 {x v:VV} {u:Value} (hx:VR V x u) (h:pF x V.H=some v):∃w,agI u=some w∧VR V v w:=by
 unfold pF at h
 split at h
 ·cases h
  cases hx<;>exact⟨_,rfl,.sc _ rfl⟩
 ·obtain⟨⟨es,e,w⟩,hr,rfl⟩:=bZ h
  rw[cY] at hr
  cases hx with
  |
   ref b g o n c a n' c' aX hg ha hq =>
   obtain⟨rfl,rfl,rfl⟩:=ha _ _ _ hr
   exact⟨_,rfl,.sc _ rfl⟩
 ·cases h
theorem Pb {x v:VV} {u:Value} {off:Nat} (hx:VR V x u) (h:Fc off x V.H=some v):∃w,VF off u=some w∧VR V v w:=by
 unfold Fc at h
 split at h
 ·cases h
  cases hx with
  | cO x off b o r e p hF hb ho hl=>exact⟨_,rfl,by rw[Nat.add_assoc];exact .cO _ _ b o r e p hF hb ho hl⟩
 ·obtain⟨⟨es,e,w⟩,hr,rfl⟩:=bZ h
  rw[cY] at hr
  cases hx with
  |
   ptr b g j off a aX hg ha hq =>
   have:=ha _ _ _ hr
   subst this
   refine⟨_,rfl,.ptr _ _ _ _ _ aX hg (fun lB e' w' EZ => ?_) fun a0 h=>by cases h;have:=hq _ rfl;exact this⟩
   rw[hr] at EZ
   cases EZ
   rw[Nat.add_assoc]
 ·cases h
theorem SH {x v:VV} {u:Value} (hx:VR V x u) (h:Tm x V.H=some v):∃w,aeF u=some w∧VR V v w:=by
 unfold Tm at h
 split at h
 ·cases h
  cases hx with
  | cO x off b o r e p hF hb ho hl=>exact⟨_,rfl,.cO _ _ b o r e p hF hb ho hl⟩
 ·obtain⟨⟨es,e,w⟩,hr,rfl⟩:=bZ h
  rw[cY] at hr
  cases hx with
  |
   ptr b g j off a aX hg ha hq =>
   have:=ha _ _ _ hr
   subst this
   exact⟨_,rfl,.ptr _ _ _ _ _ aX hg ha hq⟩
 ·cases h
theorem PH {c a b v:VV} {u x y:Value} (hc:VR V c u) (ha:VR V a x) (hb:VR V b y) (h:OT c a b=some v):∃t,u = .bool t∧VR V v (if t then x else y):=by
 unfold OT at h
 split at h
 ·rename_i t
  cases h
  obtain⟨rfl,_⟩:=oR hc rfl
  refine⟨t,rfl,?_⟩
  cases t
  ·exact hb
  ·exact ha
 ·cases h
theorem TF {x v:VV} {u:Value} {i:Nat} (hx:VR V x u) (h:W6 i x=some v):∃w,abG i u=some w∧VR V v w:=by
 unfold W6 at h
 split at h
 ·cases hx with
  |
   eK cs ps hl =>
   obtain⟨w,hw,hv⟩:=hl.get h
   exact⟨w,by simpa[abG] using hw,hv⟩
 ·cases h
theorem SE {x v:VV} {u:Value} {agg:Bool} {off size:Nat} (hx:VR V x u) (h:YG agg off size x=some v):∃w,YZ agg off size u=some w∧VR V v w:=by
 unfold YG at h
 split at h
 ·rename_i cs
  cases hx with
  |
   agg cs ps hl =>
   split at h
   ·rename_i ha
    split at h
    ·rename_i hs
     cases h
     refine⟨.agg ((ps.drop off).take size).toArray,?_,.agg _ _ ((hl.drop off).take size)⟩
     unfold YZ
     simp only[ha,if_true]
     rw[if_pos (by simpa[hl.length] using hs)]
     congr 2
     apply Array.ext'
     simp[List.extract_eq_take_drop]
    ·cases h
   ·rename_i ha
    obtain⟨w,hw,hv⟩:=hl.get h
    refine⟨w,?_,hv⟩
    unfold YZ
    simp only[ha]
    simpa using hw
 ·cases h
theorem Jy {ks:List CK}:∀ {xs ys:List VV} {us ws:List Value} {t:Bool},VL V xs us→VL V ys ws→nT ks xs ys=some t→nA ks us ws=some t:=by
 induction ks with
 |
  nil =>
  intro xs ys us ws t h1 h2 h
  cases h1 with
  |
   nil=>cases h2 with
   | nil=>exact h
   | cons=>simp[nT] at h
  | cons=>simp[nT] at h
 |
  cons k ks ih =>
  intro xs ys us ws t h1 h2 h
  cases h1 with
  | nil=>simp[nT] at h
  |
   cons x u xs us hx MV=>cases h2 with
   | nil=>cases x<;>simp[nT] at h
   |
    cons y w ys ws hy hys =>
    cases hx with
    |
     sc _ _=>cases hy with
     |
      sc _ _ =>
      simp only[nT] at h
      simp only[nA]
      split at h
      ·rename_i h1
       rw[h1]
       exact ih MV hys h
      ·rename_i h1
       rw[h1]
       exact h
      ·cases h
     | _=>simp[nT] at h
    | _=>simp[nT] at h
theorem H5 {places:List (Nat×Nat)}:∀ {parts:List (Nat×VV)} {xC:List (Nat×Value)} {cs xM:List VV} {r:List Value},VL V cs r→P4 V parts xC→Bt places cs parts=some xM →
  ∃r',tB places r xC=some r'∧VL V xM r'
 | [],_,cs,xM,r,hl,.nil,h=>by cases h;exact⟨r,rfl,hl⟩
 |
  (i,v)::parts,(_,w)::xC,cs,xM,r,hl,.cons hv hps,h=>by
  unfold Bt at h
  unfold tB
  split at h
  ·cases h
  ·rename_i off size Jq
   simp only[Jq]
   split at h
   case isFalse=>cases h
   rename_i hc
   have lG:=hv.cells (fun e=>by subst e;cases hc.2.2)
   rw[if_pos ⟨by rw[lG.length];exact hc.1,by rw[hl.length];exact hc.2.1⟩]
   exact H5 (((hl.take off).append lG).append (hl.drop _)) hps h
theorem F8:∀ {es:List VV} {r:List Value} {bs:List UInt8},VL V (es.flatMap aA) r→EU es=some bs→rM r=some bs
 | [],_,bs,.nil,h=>h
 |
  x::es,r,bs,hl,h=>by
  unfold EU at h
  split at h
  ·rename_i e;cases e
  ·rename_i n r' e
   cases e
   obtain⟨t,ht,rfl⟩:=bZ h
   rw[List.flatMap_cons] at hl
   cases hl with
   |
    cons _ u _ us hu hus =>
    obtain⟨rfl,_⟩:=oR hu rfl
    unfold rM
    rw[F8 hus ht]
    rfl
  ·cases h
theorem lift {r:Option VV} {v:VV} {H':aB} {s:Option (Value×aD)} (h:r.map (·,V.H)=some (v,H')) (k:r=some v→fO lo dN V s v V.H):fO lo dN V s v H':=by
 obtain⟨a,ha,he⟩:=bZ h
 cases he
 exact k ha
theorem TD (hS:SR V lo dN) (hE:ER V ρ iY) {fl:Fl} {o:lO} {v:VV} {H':aB} {q:Bool} (h:vop fl lo o ρ V.H=some (v,H')):fO lo dN V (iN dN q o iY V.P) v H':=by
 cases o<;>simp only[vop] at h
 case mv x=>cases h;rw[YJ];exact fO.same hS (hE.ev x)
 case pick c a b =>
  refine lift h fun h => ?_
  obtain⟨t,ht,hv⟩:=PH (hE.ev c) (hE.ev a) (hE.ev b) h
  rw[Tx,ht]
  exact fO.same hS hv
 case bin op x y=>rw[VE];exact lift h fun h=>xX (f:=cU op) hS (fun _ _ _=>VA) (hE.ev x) (hE.ev y) h
 case eqb neg x y=>rw[Wu];exact lift h fun h=>xX (f:=Mq neg) hS (fun _ _ _=>Xd) (hE.ev x) (hE.ev y) h
 case isnil neg x =>
  rw[QQ]
  refine lift h fun h => ?_
  obtain⟨w,h1,h2⟩:=M6 (hE.ev x) h
  exact fO.pure hS h1 h2
 case eqagg neg ks x y =>
  rw[QI]
  refine lift h fun h => ?_
  unfold Q0 at h
  split at h
  case h_2=>cases h
  rename_i a b hx hy
  obtain⟨t,ht,rfl⟩:=bZ h
  have h1:=hE.ev x
  have h2:=hE.ev y
  rw[hx] at h1
  rw[hy] at h2
  generalize ev iY x=u at h1 ⊢
  generalize ev iY y=w at h2 ⊢
  cases h1 with
  |
   agg cs ps h1=>cases h2 with
   |
    agg xM ps' h2 =>
    refine fO.pure hS (pv := .bool (t != neg)) ?_ (.sc _ rfl)
    unfold Xp
    simp only
    rw[Jy h1 h2 ht]
    rfl
 case un op x=>rw[X3];exact lift h fun h=>BT (f:=Wv op) hS (fun _ _=>X6) (hE.ev x) h
 case cvt k x=>rw[W0];exact lift h fun h=>BT (f:=Q3 k) hS (fun _ _=>WT) (hE.ev x) h
 case cvs x =>
  have e:iN dN q (.cvs x) iY V.P=(TP (ev iY x)).map (·,V.P):=cT rfl
  rw[e];exact lift h fun h=>BT (f:=TP) hS (fun _ _=>Wa) (hE.ev x) h
 case ext x i =>
  rw[Wx]
  refine lift h fun h => ?_
  obtain⟨w,h1,h2⟩:=TF (hE.ev x) h
  exact fO.pure hS h1 h2
 case fld agg off size x =>
  rw[Wj]
  refine lift h fun h => ?_
  obtain⟨w,h1,h2⟩:=SE (hE.ev x) h
  exact fO.pure hS h1 h2
 case build zero places parts =>
  obtain⟨cs,K8,he⟩:=bZ h
  cases he
  obtain⟨r,h1,h2⟩:=H5 (VL.zero zero) (Fx hE parts) K8
  rw[QD,h1]
  exact fO.same hS (.agg _ _ h2)
 case chk x =>
  rw[WW]
  refine lift h fun h => ?_
  obtain⟨w,h1,h2⟩:=SH (hE.ev x) h
  exact fO.pure hS h1 h2
 case faddr off x =>
  rw[PV]
  refine lift h fun h => ?_
  obtain⟨w,h1,h2⟩:=Pb (hE.ev x) h
  exact fO.pure hS h1 h2
 case iaddr size x i =>
  rw[QP]
  refine lift h fun h => ?_
  obtain⟨w,h1,h2⟩:=NI hS (hE.ev x) (hE.ev i) h
  exact fO.pure hS h1 h2
 case sidx x i =>
  have e:iN dN q (.sidx x i) iY V.P=(DN (ev iY x) (ev iY i)).map (·,V.P):=cT rfl
  rw[e];exact lift h fun h=>xX (f:=DN) hS (fun _ _ _=>Ud) (hE.ev x) (hE.ev i) h
 case ssub x l h' =>
  refine lift h fun h => ?_
  unfold sC at h
  split at h
  case h_2=>cases h
  rename_i s lv hv hx h1 h2
  split at h
  case h_2=>cases h
  rename_i a b Dw
  cases h
  obtain⟨e1,_⟩:=oR (hE.ev x) hx
  have e:iN dN q (.ssub x l h') iY V.P=some (.string (s.extract a b),V.P):=by
   rw[cT rfl]
   simp only[gL,e1]
   rw[xT hE h1,xT hE h2,Dw]
   rfl
  rw[e]
  exact fO.same hS (.sc _ rfl)
 case mkfn f fA =>
  cases h
  rw[Ua]
  exact fO.same hS (.sM _ _ _ (hE.evs fA))
 case len x =>
  rw[Ve]
  refine lift h fun h => ?_
  obtain⟨w,h1,h2⟩:=T2 (hE.ev x) h
  exact fO.pure hS h1 h2
 case slen x =>
  have e:iN dN q (.slen x) iY V.P=(yO (ev iY x)).map (·,V.P):=cT rfl
  rw[e];exact lift h fun h=>BT (f:=yO) hS (fun _ _=>Tz) (hE.ev x) h
 case min x y=>rw[Xo];exact lift h fun h=>xX (f:=Nd) hS (fun _ _ _=>UK) (hE.ev x) (hE.ev y) h
 case max x y=>rw[WK];exact lift h fun h=>xX (f:=N7) hS (fun _ _ _=>UH) (hE.ev x) (hE.ev y) h
 case load agg size p =>
  rw[TT]
  refine lift h fun h => ?_
  obtain⟨w,h1,h2⟩:=IW hS (hE.ev p) h
  exact fO.pure hS h1 h2
 case sub size x l hh m =>
  rw[V3]
  exact lift h fun h=>TO hS hE (hE.ev x) h
 case b2s x =>
  split at h
  ·cases h
  rename_i y eW
  split at h
  case h_2=>cases h
  rename_i es JL
  obtain⟨bs,Zc,he⟩:=bZ h
  cases he
  obtain⟨h1,h2,h3,h4⟩:=tE hS (hE.ev x) JL
  obtain⟨pn,h5,h6⟩:=h4 es.length (Nat.le_refl _)
  rw[List.take_length] at h6
  have hb:=F8 h6 Zc
  have hx:=hE.ev x
  have e:iN dN q (.b2s x) iY V.P=some (.string ⟨bs.toArray⟩,V.P):=by
   apply nK
   simp only[pop]
   generalize ev iY x=u at *
   cases u<;>first | (exfalso;simp[pO] at h1;done) | skip
   case string s =>
    generalize dH ρ x=y at *
    cases hx with
    | any=>simp[eY] at JL
    | sc _ _=>exact absurd rfl (eW _)
   case slice a n c =>
    injection h1 with h1
    subst h1
    cases a with
    |
     none =>
     simp only[iD] at h5
     split at h5
     ·cases h5
      cases hb
      rfl
     ·cases h5
    |
     some a =>
     obtain⟨b,o,sp⟩:=a
     cases sp with
     | some s=>simp[iD] at h5
     |
      none =>
      simp only[iD,Nat.mul_one] at h5
      simp only[h5,hb]
      rfl
  rw[e]
  exact fO.same hS (.sc _ rfl)
 case new zero =>
  split at h
  case isFalse=>cases h
  rename_i hz
  cases h
  rw[Vx]
  exact Tl hS hz
 case box x =>
  split at h
  case isFalse=>cases h
  rename_i hs
  rw[UG]
  exact S7 hS (hE.ev x) hs h
 case make zero bytes l c =>
  split at h
  case isFalse=>cases h
  rename_i hz
  rw[T4]
  exact QY hS hz (hE.ev l) (hE.ev c) h
 case lit zero n parts =>
  rw[UR]
  exact T5 hS (Fx hE parts) h
 case store size p x =>
  obtain⟨a,ha,he⟩:=bZ h
  cases he
  rw[Qm]
  exact Oi hS (hE.ev p) (hE.ev x) ha
 case app size bytes x y =>
  split at h
  case h_2=>cases h
  rename_i new hn
  obtain⟨h1,h2,h3,h4⟩:=tE hS (hE.ev y) hn
  obtain⟨pn,h5,h6⟩:=h4 new.length (Nat.le_refl _)
  rw[List.take_length] at h6
  rw[Wn]
  unfold acG
  simp only[h1,h5]
  exact Eh hS (hE.ev x) h2 h3 h6 h
 case appz zero bytes x n =>
  split at h
  case h_2=>cases h
  rename_i k hk
  split at h
  case isFalse=>cases h
  rename_i hc
  obtain⟨e1,_⟩:=oR (hE.ev n) hk
  have Jb:∀x∈List.replicate k.toNat (elemOf (zero.map iL)),(aA x).length=zero.length:=fun x hx=>by rw[List.eq_of_mem_replicate hx];exact AQ hc.2.2
  have:=Eh hS (hE.ev x) Jb (xV (by
    rw[List.all_eq_true]
    intro x hx
    rw[List.eq_of_mem_replicate hx,lH hc.2.2]
    exact hc.2.2)) (zC hc.2.2 _) h
  rw[List.length_replicate] at this
  rw[S3]
  unfold Wq
  rw[e1]
  simp only[if_pos (show 0≤k∧k*(bytes:Int)≤140737488355328 from⟨hc.1,hc.2.1⟩)]
  exact this
 case copy size x y =>
  rw[Ty]
  exact QC hS (hE.ev x) (hE.ev y) h
 case clear zero x =>
  obtain⟨a,ha,he⟩:=bZ h
  cases he
  rw[QV]
  exact Ow hS (hE.ev x) ha
 all_goals cases h
end
end Go.PM
namespace Go.PM
def bare (F:Nat→Prop) (P:aD):View:=⟨fun _=>0,F,[],P,0⟩
theorem yX {es:List VV}:aK es=true↔∀x∈es,aW x=true:=by
 induction es with
 | nil=>simp[aK]
 | cons x xs ih=>simp[aK,ih]
theorem Bg {x:VV} (h:aW x=true):aK (aA x)=true:=by
 unfold aA
 split
 ·simpa[aW] using h
 ·simp[aK,h]
theorem IA {es:List VV} (h:aK es=true):aK (es.flatMap aA)=true:=by
 rw[yX] at h ⊢
 intro x hx
 obtain⟨y,hy,Ar⟩:=List.mem_flatMap.1 hx
 exact yX.1 (Bg (h y hy)) x Ar
theorem FP {es:List VV} {k:TK} (h:aW (.tree es k)=true):k = .op∧aK es=true∧uni es=true:=by
 simp only[aW,Bool.and_eq_true,decide_eq_true_eq] at h
 exact⟨h.1.1,h.1.2,h.2⟩
theorem GM {x:VV} (h:aW x=true):x ≠ .any:=by
 rintro rfl
 cases h
theorem YR {es:List VV} (h:uni es=true):∃e,∀x∈es,(aA x).length=e:=by
 cases es with
 | nil=>exact⟨0,fun x hx=>by cases hx⟩
 |
  cons x xs =>
  refine⟨(aA x).length,fun y hy => ?_⟩
  rcases List.mem_cons.1 hy with rfl | hy
  ·rfl
  ·have:=List.all_eq_true.1 h y hy
   simpa using this
section
variable {V V':View}
theorem VR.pure {x:VV} {v:Value} (hF:∀b,V.F b→V'.F b∧V'.P[b]? = V.P[b]?) (h:VR V x v):aW x=true→VR V' x v:=by
 induction h using VR.rec (motive_2:=fun xs vs _=>aK xs=true→VL V' xs vs) with
 | any=>intro hp;cases hp
 | sc _ h=>intro _;exact .sc _ h
 | agg cs ps _ ih=>intro hp;exact .agg _ _ (ih hp)
 | eK cs ps _ ih=>intro hp;exact .eK _ _ (ih hp)
 | nJ k hk=>intro _;exact .nJ k hk
 | tree es k b o c r e p PJ hb ho hc he hk _ ih=>intro hp;exact .tree es k b o c r e p (hF _ PJ).1 (by rw[(hF _ PJ).2];exact hb) ho hc he hk (ih (IA (FP hp).2.1))
 | cO x off b o r e p PJ hb ho _ ih=>intro hp;exact .cO x off b o r e p (hF _ PJ).1 (by rw[(hF _ PJ).2];exact hb) ho (ih (Bg hp))
 | ref=>intro hp;cases hp
 | ptr=>intro hp;cases hp
 | sM f fA ps _ ih=>intro hp;exact .sM _ _ _ (ih hp)
 | nil=>exact .nil
 |
  cons x v xs vs _ _ ih Uc =>
  rename_i hp
  simp only[aK,Bool.and_eq_true] at hp
  exact .cons _ _ _ _ (ih hp.1) (Uc hp.2)
theorem VL.pure {xs:List VV} {vs:List Value} (hF:∀b,V.F b→V'.F b∧V'.P[b]? = V.P[b]?) (h:VL V xs vs) (hp:aK xs=true):VL V' xs vs:=by
 induction xs generalizing vs with
 | nil=>cases h;exact .nil
 |
  cons x xs ih=>cases h with
  |
   cons _ v _ vs h hs =>
   simp only[aK,Bool.and_eq_true] at hp
   exact .cons _ _ _ _ (h.pure hF hp.1) (ih hs hp.2)
theorem VL.flatten {es:List VV} {ps:List Value} (h:VL V es ps) (hp:aK es=true):VL V (es.flatMap aA) (ps.flatMap aL):=by
 induction es generalizing ps with
 | nil=>cases h;exact .nil
 |
  cons x xs ih =>
  cases h with
  |
   cons _ v _ vs h hs =>
   simp only[aK,Bool.and_eq_true] at hp
   rw[List.flatMap_cons,List.flatMap_cons]
   exact(h.cells (GM hp.1)).append (ih hs hp.2)
theorem LB {P P':aD} (h:P <+: P'):∀b,(bare (· < P.length) P).F b→(bare (· < P'.length) P').F b∧(bare (· < P'.length) P').P[b]? = (bare (· < P.length) P).P[b]? := by
 intro b hb
 obtain⟨L,rfl⟩:=h
 have wX:b<P.length:=hb
 exact⟨by show b<(P++L).length;simp;omega,List.getElem?_append_left wX⟩
mutual
theorem real (x:VV) (hp:aW x=true) (P:aD):∃P' pv,P <+: P'∧VR (bare (· < P'.length) P') x pv:=by
 cases x with
 | any=>cases hp
 | sc v=>exact⟨P,v,List.prefix_refl _,.sc v hp⟩
 |
  agg cs =>
  obtain⟨P',ps,h1,h2⟩:=Kk cs hp P
  exact⟨P',_,h1,.agg _ _ h2⟩
 |
  eK cs =>
  obtain⟨P',ps,h1,h2⟩:=Kk cs hp P
  exact⟨P',_,h1,.eK _ _ h2⟩
 |
  tree es k =>
  obtain⟨rfl,h1,h2⟩:=FP hp
  obtain⟨P',ps,h3,h4⟩:=Kk es h1 P
  obtain⟨e,he⟩:=YR h2
  have h5:=h4.flatten h1
  have hl:=h5.length
  rw[iZ he] at hl
  have AE:P' <+: P'++[JP.row (ps.flatMap aL) e false]:=List.prefix_append _ _
  refine⟨_,.slice (some ⟨P'.length,0,none⟩) es.length es.length,h3.trans AE,?_⟩
  refine .tree es .op P'.length 0 es.length (ps.flatMap aL) e false (show P'.length<(P'++[JP.row (ps.flatMap aL) e false]).length by simp) (by show (P'++[JP.row (ps.flatMap aL) e false])[P'.length]? = _;simp) (by omega) (Nat.le_refl _) he trivial ?_
  rw[List.drop_zero,List.take_of_length_le (by omega)]
  exact VL.pure (LB AE) h5 (IA h1)
 |
  cO x off =>
  obtain⟨P',pv,h3,h4⟩:=real x hp P
  have h5:=h4.cells (GM hp)
  have AE:P' <+: P'++[JP.row (aL pv) (aL pv).length false]:=List.prefix_append _ _
  refine⟨_,.pointer (some ⟨P'.length,0+off,none⟩),h3.trans AE,?_⟩
  refine .cO x off P'.length 0 (aL pv) (aL pv).length false (show P'.length<(P'++[JP.row (aL pv) (aL pv).length false]).length by simp) (by show (P'++[JP.row (aL pv) (aL pv).length false])[P'.length]? = _;simp) (by rw[h5.length];omega) ?_
  rw[List.drop_zero,List.take_of_length_le (by rw[h5.length];exact Nat.le_refl _)]
  exact VL.pure (LB AE) h5 (Bg hp)
 | ref=>cases hp
 | ptr=>cases hp
 |
  sM f fA =>
  obtain⟨P',ps,h1,h2⟩:=Kk fA hp P
  exact⟨P',_,h1,.sM _ _ _ h2⟩
theorem Kk (xs:List VV) (hp:aK xs=true) (P:aD):∃P' ps,P <+: P'∧VL (bare (· < P'.length) P') xs ps:=by
 cases xs with
 | nil=>exact⟨P,[],List.prefix_refl _,.nil⟩
 |
  cons x xs =>
  simp only[aK,Bool.and_eq_true] at hp
  obtain⟨P1,pv,h1,h2⟩:=real x hp.1 P
  obtain⟨P2,ps,h3,h4⟩:=Kk xs hp.2 P1
  exact⟨P2,pv::ps,h1.trans h3,.cons _ _ _ _ (h2.pure (LB h3) hp.1) h4⟩
end
theorem I0 {es:List VV}:pE es=true↔∀x∈es,gH x=true:=by
 induction es with
 | nil=>simp[pE]
 | cons x xs ih=>simp[pE,ih]
theorem A9 {es:List VV} {k:TK} (h:gH (.tree es k)=true):k = .op∧pE es=true∧uni es=true∧es.all xK=true:=by
 simp only[gH,Bool.and_eq_true,decide_eq_true_eq] at h
 exact⟨h.1.1.1,h.1.1.2,h.1.2,h.2⟩
theorem QM {x:VV} (h:gH x=true):pE (aA x)=true:=by
 unfold aA
 split
 ·simpa[gH] using h
 ·simp[pE,h]
theorem K5 {es:List VV} (h:pE es=true):pE (es.flatMap aA)=true:=by
 rw[I0] at h ⊢
 intro x hx
 obtain⟨y,hy,Ar⟩:=List.mem_flatMap.1 hx
 exact I0.1 (QM (h y hy)) x Ar
mutual
theorem OA (x:VV) (h:gH x=true):aW x=true:=by
 cases x with
 | sc v=>exact h
 | agg cs=>exact BS cs h
 | eK cs=>exact BS cs h
 |
  tree es k =>
  obtain⟨h1,h2,h3,_⟩:=A9 h
  simp[aW,h1,BS es h2,h3]
 | any=>cases h
 | cO=>cases h
 | ref=>cases h
 | ptr=>cases h
 | sM=>cases h
theorem BS (xs:List VV) (h:pE xs=true):aK xs=true:=by
 cases xs with
 | nil=>rfl
 |
  cons x xs =>
  simp only[pE,Bool.and_eq_true] at h
  simp[aK,OA x h.1,BS xs h.2]
end
theorem NK {e:Nat}:∀ {es lB:List VV},(∀x∈es,(aA x).length=e)→(∀x∈lB,(aA x).length=e)→es.all xK=true→lB.all xK=true→es.length=lB.length→es.flatMap aA=lB.flatMap aA→es=lB
 | [],[],_,_,_,_,_,_=>rfl
 |
  x::es,y::lB,h1,h2,h3,h4,hl,h=>by
  rw[List.flatMap_cons,List.flatMap_cons] at h
  have hx:=h1 x List.mem_cons_self
  have hy:=h2 y List.mem_cons_self
  obtain⟨e1,e2⟩:=List.append_inj h (by omega)
  simp only[List.all_cons,Bool.and_eq_true] at h3 h4
  have Ar:x=y:=by
   have g1:=h3.1
   have g2:=h4.1
   unfold aA at e1
   split at e1<;>split at e1
   ·rw[e1]
   ·rename_i cs _ _
    subst e1
    cases g1
   ·rename_i cs
    subst e1
    cases g2
   ·injection e1
  rw[Ar,NK (fun z hz=>h1 z (List.mem_cons_of_mem _ hz)) (fun z hz=>h2 z (List.mem_cons_of_mem _ hz)) h3.2 h4.2 (by simpa using hl) e2]
theorem VR.uniq {x y:VV} {v:Value} (h:VR V x v) (h':VR V y v) (hx:gH x=true) (hy:gH y=true):x=y:=by
 induction h using VR.rec (motive_2:=fun xs vs _=>∀ys,VL V ys vs→pE xs=true→pE ys=true→xs=ys) generalizing y with
 | any=>cases hx
 |
  sc _ h=>cases h' with
  | sc _ _=>rfl
  | any=>cases hy
  | agg=>cases h
  | eK=>cases h
  | nJ=>cases h
  | tree=>cases h
  | cO=>cases hy
  | ref=>cases hy
  | ptr=>cases hy
  | sM=>cases hy
 |
  agg cs ps h ih=>generalize hw:Value.agg ps.toArray=w at h';cases h' with
  | sc _ h'=>subst hw;cases h'
  | any=>cases hy
  |
   agg xM ps' h' =>
   injection hw with hw
   have:ps=ps':=by simpa using hw
   subst this
   rw[ih _ h' hx hy]
  | eK=>cases hw
  | nJ=>cases hw
  | tree=>cases hw
  | cO=>cases hy
  | ref=>cases hy
  | ptr=>cases hy
  | sM=>cases hy
 |
  eK cs ps h ih=>generalize hw:Value.tuple ps.toArray=w at h';cases h' with
  | sc _ h'=>subst hw;cases h'
  | any=>cases hy
  |
   eK xM ps' h' =>
   injection hw with hw
   have:ps=ps':=by simpa using hw
   subst this
   rw[ih _ h' hx hy]
  | agg=>cases hw
  | nJ=>cases hw
  | tree=>cases hw
  | cO=>cases hy
  | ref=>cases hy
  | ptr=>cases hy
  | sM=>cases hy
 |
  nJ k hk =>
  obtain⟨rfl,_⟩:=A9 hx
  generalize hw:Value.slice none 0 0=w at h'
  cases h' with
  | sc _ h'=>subst hw;cases h'
  | any=>cases hy
  | nJ k' Za=>obtain⟨rfl,_⟩:=A9 hy;rfl
  | agg=>cases hw
  | eK=>cases hw
  | tree=>cases hw
  | cO=>cases hy
  | ref=>cases hy
  | ptr=>cases hy
  | sM=>cases hy
 |
  tree es k b o c r e p hF hb ho hc he hk hl ih =>
  obtain⟨rfl,hx1,hx2,hx3⟩:=A9 hx
  generalize hw:Value.slice (some ⟨b,o,none⟩) es.length c=w at h'
  cases h' with
  | sc _ h'=>subst hw;cases h'
  | any=>cases hy
  | nJ=>cases hw
  | agg=>cases hw
  | eK=>cases hw
  |
   tree lB k' b' o' c' r' e' p' hF' wX Vo hc' he' Za AO =>
   obtain⟨rfl,hy1,hy2,hy3⟩:=A9 hy
   injection hw with h1 h2 h3
   injection h1 with h1
   injection h1 with h1 h4
   subst h1 h3 h4
   rw[hb] at wX
   injection wX with wX
   injection wX with g1 g2 g3
   subst g1 g2 g3
   rw[←h2] at AO
   rw[NK he he' hx3 hy3 h2 (ih _ AO (K5 hx1) (K5 hy1))]
  | cO=>cases hy
  | ref=>cases hy
  | ptr=>cases hy
  | sM=>cases hy
 | cO=>cases hx
 | ref=>cases hx
 | ptr=>cases hx
 | sM=>cases hx
 | nil=>rename_i h' _ _;cases h';rfl
 |
  cons x v xs vs _ _ ih Uc =>
  rename_i ys h' hx hy
  cases h' with
  |
   cons y _ ys _ h' hs' =>
   simp only[pE,Bool.and_eq_true] at hx hy
   rw[ih h' hx.1 hy.1,Uc _ hs' hx.2 hy.2]
end
end Go.PM
namespace Go.PM
section
variable {V:View} {lo dN:Nat}
theorem mN {α β:Type} {f:α→Option β} {x:α} {xs:List α} {r:List β} (h:(x::xs).mapM f=some r):∃y ys,f x=some y∧xs.mapM f=some ys∧r=y::ys:=by
 rw[List.mapM_cons] at h
 cases hx:f x with
 | none=>rw[hx] at h;cases h
 |
  some y =>
  rw[hx] at h
  cases hs:xs.mapM f with
  | none=>rw[hs] at h;cases h
  | some ys=>rw[hs] at h;cases h;exact⟨y,ys,rfl,rfl,rfl⟩
theorem uW {α β:Type} {f:α→Option β}:∀ {xs:List α} {r:List β},xs.mapM f=some r→r.length=xs.length
 | [],r,h=>by cases h;rfl
 |
  x::xs,r,h=>by
  obtain⟨y,ys,_,h2,rfl⟩:=mN h
  simp[uW h2]
theorem Rv {d:Nat} {H:aB} {x x':VV} (h:fz d H x=some x'):(∃cs xM,x = .agg cs∧x' = .agg xM∧xM.length=cs.length)∨(aA x=[x]∧aA x'=[x']):=by
 cases d with
 | zero=>cases h
 |
  succ d =>
  unfold fz at h
  split at h
  ·cases h
   cases x with
   | agg cs=>exact .inl ⟨cs,cs,rfl,rfl,rfl⟩
   | _=>exact .inr ⟨rfl,rfl⟩
  ·split at h
   ·obtain⟨xM,h1,rfl⟩:=bZ h
    exact .inl ⟨_,_,rfl,rfl,uW h1⟩
   ·obtain⟨xM,h1,rfl⟩:=bZ h;exact .inr ⟨rfl,rfl⟩
   ·obtain⟨xM,h1,rfl⟩:=bZ h;exact .inr ⟨rfl,rfl⟩
   ·obtain⟨xM,h1,rfl⟩:=bZ h;exact .inr ⟨rfl,rfl⟩
   ·split at h
    ·split at h
     ·obtain⟨xM,h1,rfl⟩:=bZ h;exact .inr ⟨rfl,rfl⟩
     ·cases h
    ·cases h
   ·split at h
    ·split at h
     ·obtain⟨xM,h1,rfl⟩:=bZ h;exact .inr ⟨rfl,rfl⟩
     ·cases h
    ·cases h
   ·obtain⟨xM,h1,rfl⟩:=bZ h;exact .inr ⟨rfl,rfl⟩
   ·cases h
theorem MB {d:Nat} {H:aB} {x x':VV} (h:fz d H x=some x'):(aA x').length=(aA x).length:=by
 rcases Rv h with⟨cs,xM,rfl,rfl,h'⟩ | ⟨h1,h2⟩
 ·exact h'
 ·rw[h1,h2];rfl
def Lj (V:View) (G:Nat→Prop) (ids:List Nat):Prop:=∀i∈ids,∀g es e w,V.H[i]? = some (.row g es e w)→G (V.m i)
theorem IX (hS:SR V lo dN) {G:Nat→Prop} (hG:∀q,V.F q→G q):∀(d:Nat) (v v':VV) (pv:Value),VR V v pv→fz d V.H v=some v'→Lj V G (iA d V.H v)→VR (bare G V.P) v' pv:=by
 have hFG:∀b,V.F b→(bare G V.P).F b∧(bare G V.P).P[b]? = V.P[b]? := fun b hb=>⟨hG b hb,rfl⟩
 intro d
 induction d with
 | zero=>intro v v' pv _ h;cases h
 |
  succ d ih =>
  have ihL:∀(xs FH:List VV) (ps:List Value),VL V xs ps→xs.mapM (fz d V.H)=some FH→Lj V G (xs.flatMap (iA d V.H))→VL (bare G V.P) FH ps:=by
   intro xs
   induction xs with
   | nil=>intro FH ps hl h _;cases h;cases hl;exact .nil
   |
    cons x xs ihx =>
    intro FH ps hl h hi
    obtain⟨y,ys,h1,h2,rfl⟩:=mN h
    cases hl with
    |
     cons _ v _ vs hx MV =>
     exact .cons _ _ _ _ (ih x y v hx h1 fun i Ch=>hi i (by rw[List.flatMap_cons];exact List.mem_append_left _ Ch)) (ihx ys vs MV h2 fun i Ch=>hi i (by rw[List.flatMap_cons];exact List.mem_append_right _ Ch))
  have ihC:∀(x x':VV) (ps:List Value),VL V (aA x) ps→fz d V.H x=some x'→Lj V G (iA d V.H x)→VL (bare G V.P) (aA x') ps:=by
   intro x x' ps hl h hi
   rcases Rv h with⟨cs,xM,rfl,rfl,lG⟩ | ⟨h1,h2⟩
   ·have:=ih _ _ (.agg ps.toArray) (.agg _ _ hl) h hi
    generalize hw:Value.agg ps.toArray=w at this
    cases this with
    |
     agg _ ps' AO =>
     injection hw with hw
     have:ps=ps':=by simpa using hw
     subst this
     exact AO
   ·rw[h1] at hl
    rw[h2]
    cases hl with
    |
     cons _ v _ vs hx MV =>
     cases MV
     exact .cons _ _ _ _ (ih _ _ _ hx h hi) .nil
  have ihF:∀(xs FH:List VV) (ps:List Value),VL V (xs.flatMap aA) ps→xs.mapM (fz d V.H)=some FH→Lj V G (xs.flatMap (iA d V.H))→VL (bare G V.P) (FH.flatMap aA) ps:=by
   intro xs
   induction xs with
   | nil=>intro FH ps hl h _;cases h;cases hl;exact .nil
   |
    cons x xs ihx =>
    intro FH ps hl h hi
    obtain⟨y,ys,h1,h2,rfl⟩:=mN h
    rw[List.flatMap_cons] at hl ⊢
    have hlen:=hl.length
    have a1:=hl.take (aA x).length
    have a2:=hl.drop (aA x).length
    rw[List.take_left] at a1
    rw[List.drop_left] at a2
    rw[←List.take_append_drop (aA x).length ps]
    exact(ihC x y _ a1 h1 fun i Ch=>hi i (by rw[List.flatMap_cons];exact List.mem_append_left _ Ch)).append (ihx ys _ a2 h2 fun i Ch=>hi i (by rw[List.flatMap_cons];exact List.mem_append_right _ Ch))
  have aeX:∀(xs FH:List VV) (e:Nat),xs.mapM (fz d V.H)=some FH→(∀x∈xs,(aA x).length=e)→∀x∈FH,(aA x).length=e:=by
   intro xs
   induction xs with
   | nil=>intro FH e h _ x hx;cases h;cases hx
   |
    cons x xs ihx =>
    intro FH e h he z hz
    obtain⟨y,ys,h1,h2,rfl⟩:=mN h
    rcases List.mem_cons.1 hz with rfl | hz
    ·rw[MB h1];exact he x List.mem_cons_self
    ·exact ihx ys e h2 (fun w hw=>he w (List.mem_cons_of_mem _ hw)) z hz
  intro v v' pv hv h hi
  unfold fz at h
  unfold iA at hi
  split at h
  ·rename_i hp
   cases h
   exact hv.pure hFG hp
  ·rename_i hp
   rw[if_neg hp] at hi
   split at h
   ·obtain⟨xM,h1,rfl⟩:=bZ h
    cases hv with
    | agg cs ps hl=>exact .agg _ _ (ihL _ _ _ hl h1 hi)
   ·obtain⟨xM,h1,rfl⟩:=bZ h
    cases hv with
    | eK cs ps hl=>exact .eK _ _ (ihL _ _ _ hl h1 hi)
   ·obtain⟨xM,h1,rfl⟩:=bZ h
    cases hv with
    | nJ k hk=>cases h1;exact .nJ _ (.inl rfl)
    |
     tree es k b o c r e p hF hb ho hc he hk hl =>
     have hlen:=uW h1
     have:=VR.tree (V:=bare G V.P) xM .op b o c r e p (hG b hF) hb (by rw[hlen];exact ho) (by rw[hlen];exact hc) (aeX _ _ _ h1 he) trivial (by rw[hlen];exact ihF _ _ _ hl h1 hi)
     rw[hlen] at this
     exact this
   ·obtain⟨x',h1,rfl⟩:=bZ h
    cases hv with
    |
     cO x off b o r e p hF hb ho hl =>
     have hlen:=MB h1
     exact .cO x' _ b o r e p (hG b hF) hb (by rw[hlen];exact ho) (by rw[hlen];exact ihC _ _ _ hl h1 hi)
   ·rename_i b g o n c
    split at h
    case h_2=>cases h
    rename_i es e w hr
    simp only[hr] at hi
    rw[cY] at hr
    split at h
    case isFalse=>cases h
    rename_i amM
    obtain⟨hon,A1⟩:=amM
    obtain⟨lB,h1,rfl⟩:=bZ h
    obtain⟨r,p,k1,k2,k3⟩:=hS.row b g es e w hr
    have G9:=k3.length
    rw[iZ k2] at G9
    cases hv with
    |
     ref b g o n c a n' c' aX hg ha hq =>
     obtain⟨rfl,rfl,rfl⟩:=ha _ _ _ hr
     have WL:∀x∈(es.drop o).take n',(aA x).length=e:=fun x hx=>k2 x (List.mem_of_mem_drop (List.mem_of_mem_take hx))
     have Yg:((es.drop o).take n').length=n':=by simp;omega
     have hlen:=uW h1
     rw[Yg] at hlen
     have hm:(o+n')*e≤es.length*e:=Nat.mul_le_mul_right _ hon
     rw[Nat.add_mul] at hm
     have hl:VL V (((es.drop o).take n').flatMap aA) ((r.drop (o*e)).take (n'*e)):=by
      have h4:=(k3.drop (o*e)).take (n'*e)
      rw[rQ k2,rE (fun x hx=>k2 x (List.mem_of_mem_drop hx))] at h4
      exact h4
     have hGb:G (V.m b):=hi b List.mem_cons_self _ _ _ _ hr
     have:=VR.tree (V:=bare G V.P) lB .op (V.m b) (o*e) c' r e p hGb k1 (by rw[hlen];omega) (by rw[hlen];exact A1) (aeX _ _ _ h1 WL) trivial (by rw[hlen];exact ihF _ _ _ hl h1 fun i Ch=>hi i (List.mem_cons_of_mem _ Ch))
     rw[hlen] at this
     exact this
   ·rename_i b g j o
    split at h
    case h_2=>cases h
    rename_i es e w hr
    simp only[hr] at hi
    rw[cY] at hr
    split at h
    case h_2=>cases h
    rename_i x hx
    simp only[hx] at hi
    obtain⟨x',h1,rfl⟩:=bZ h
    obtain⟨r,p,k1,k2,k3,k4⟩:=I9 hS hr hx
    cases hv with
    |
     ptr b g j off a aX hg ha hq =>
     have:=ha _ _ _ hr
     subst this
     have hlen:=MB h1
     exact .cO x' o (V.m b) (j*e) r e p (hi b List.mem_cons_self _ _ _ _ hr) k1 (by rw[hlen];exact k3) (by rw[hlen];exact ihC _ _ _ k4 h1 fun i Ch=>hi i (List.mem_cons_of_mem _ Ch))
   ·obtain⟨xM,h1,rfl⟩:=bZ h
    cases hv with
    | sM f fA ps hl=>exact .sM _ _ _ (ihL _ _ _ hl h1 hi)
   ·cases h
theorem BR (hS:SR V lo dN) {G:Nat→Prop} (hG:∀q,V.F q→G q) {d:Nat}:∀ {xs FH:List VV} {ps:List Value},VL V xs ps→xs.mapM (fz d V.H)=some FH→Lj V G (xs.flatMap (iA d V.H))→VL (bare G V.P) FH ps
 | [],FH,ps,hl,h,_=>by cases h;cases hl;exact .nil
 |
  x::xs,FH,ps,hl,h,hi=>by
  obtain⟨y,ys,h1,h2,rfl⟩:=mN h
  cases hl with
  |
   cons _ v _ vs hx MV =>
   exact .cons _ _ _ _ (IX hS hG d x y v hx h1 fun i Ch=>hi i (by rw[List.flatMap_cons];exact List.mem_append_left _ Ch)) (BR hS hG MV h2 fun i Ch=>hi i (by rw[List.flatMap_cons];exact List.mem_append_right _ Ch))
def View.cH (V:View) (ids:List Nat):View:=ids.foldl View.freeze V
theorem sW:∀(ids:List Nat) {V:View},SR V lo dN→SR (V.cH ids) lo dN∧CF lo V (V.cH ids)∧(V.cH ids).H=PM.cH V.H ids∧(V.cH ids).P=V.P∧(V.cH ids).m=V.m∧Lj V (V.cH ids).F ids
 | [],V,hS=>⟨hS,CF.refl _ _,rfl,rfl,rfl,fun i hi=>by cases hi⟩
 |
  i::ids,V,hS=>by
  obtain⟨h1,h2,h3⟩:=LJ hS i
  obtain⟨g1,g2,g3,g4,g5,g6⟩:=sW ids h1
  refine⟨g1,h2.trans g2,?_,g4.trans (Xl V i),g5.trans (Nn V i),?_⟩
  ·show ((V.freeze i).cH ids).H=_
   rw[g3,Pl]
   rfl
  ·intro k hk g es e w hr
   show ((V.freeze i).cH ids).F (V.m k)
   rcases List.mem_cons.1 hk with rfl | hk
   ·exact g2.F _ (h3 _ _ _ _ hr)
   ·have EZ:∃g es e w,(V.freeze i).H[k]? = some (.row g es e w):=by
     rw[Pl]
     unfold zH
     split
     ·rename_i g' lB e' w' hi
      by_cases hki:k=i
      ·subst hki
       exact⟨g',lB,e',false,List.getElem?_set_self (List.getElem?_eq_some_iff.1 hi).1⟩
      ·exact⟨g,es,e,w,by rw[List.getElem?_set_ne (Ne.symm hki)];exact hr⟩
     ·exact⟨g,es,e,w,hr⟩
    obtain⟨g',lB,e',w',EZ⟩:=EZ
    have:=g6 k hk _ _ _ _ EZ
    rw[Nn] at this
    exact this
end
end Go.PM