/- Texts of a claim, in one: part 4. -/
import Derived.Test.YtodamlihdkalfaaGreatDoorKVc
set_option linter.unusedSimpArgs false
set_option linter.unusedVariables false
namespace Go.PM
structure View where
 m:Nat→Nat
 F:Nat→Prop
 H:aA
 P:aD
 base:Nat
def kindOk (k:TK) (n c e:Nat) (p:Bool):Prop :=
 match k with
 | .op=>True
 | .cl e'=>e'=e∧c=n∧p=false
 | .nil=>False
mutual
inductive VR (V:View):VV→Value→Prop
 | any (v:Value):VR V .any v
 | sc (v:Value) (h:jR v=true):VR V (.sc v) v
 | agg (cs:List VV) (ps:List Value) (h:VL V cs ps):VR V (.agg cs) (.agg ps.toArray)
 | dQ (cs:List VV) (ps:List Value) (h:VL V cs ps):VR V (.dQ cs) (.tuple ps.toArray)
 | mU (k:TK) (hk:k = .op∨k = .nil):VR V (.tree [] k) (.slice none 0 0)
 | tree (es:List VV) (k:TK) (b o c:Nat) (r:List Value) (e:Nat) (p:Bool) (hF:V.F b) (hb:V.P[b]? = some (.row r e p)) (ho:o+es.length*e≤r.length)
  (hc:es.length≤c) (he:∀x∈es,(aB x).length=e) (hk:kindOk k es.length c e p) (hl:VL V (es.flatMap aB) ((r.drop o).take (es.length*e))) :
  VR V (.tree es k) (.slice (some ⟨b,o,none⟩) es.length c)
 | cY (x:VV) (off b o:Nat) (r:List Value) (e:Nat) (p:Bool) (hF:V.F b) (hb:V.P[b]? = some (.row r e p)) (ho:o+(aB x).length≤r.length)
  (hl:VL V (aB x) ((r.drop o).take (aB x).length)):VR V (.cY x off) (.pointer (some ⟨b,o+off,none⟩))
 | ref (b g o n c:Nat) (a:Option Addr) (n' c':Nat) (aV:b<V.H.length) (hg:∀g' es e w,V.H[b]? = some (.row g' es e w)→g≤g')
  (h:∀es e w,V.H[b]? = some (.row g es e w)→a=some ⟨V.m b,o*e,none⟩∧n'=n∧c'=c)
  (hq:∀a0,a=some a0→V.base≤a0.block∧a0.block<V.P.length∧∀b' g' es e w,V.H[b']? = some (.row g' es e w)→b'≠b→V.m b'≠a0.block):VR V (.ref b g o n c) (.slice a n' c')
 | ptr (b g j off:Nat) (a:Option Addr) (aV:b<V.H.length) (hg:∀g' es e w,V.H[b]? = some (.row g' es e w)→g≤g')
  (h:∀es e w,V.H[b]? = some (.row g es e w)→a=some ⟨V.m b,j*e+off,none⟩)
  (hq:∀a0,a=some a0→V.base≤a0.block∧a0.block<V.P.length∧∀b' g' es e w,V.H[b']? = some (.row g' es e w)→b'≠b→V.m b'≠a0.block):VR V (.ptr b g j off) (.pointer a)
 | sC (f:Nat) (fC:List VV) (ps:List Value) (h:VL V fC ps):VR V (.sC f fC) (.func (.func f) #[] ps.toArray)
inductive VL (V:View):List VV→List Value→Prop
 | nil:VL V [] []
 | cons (x:VV) (v:Value) (xs:List VV) (vs:List Value) (h:VR V x v) (hs:VL V xs vs):VL V (x::xs) (v::vs)
end
structure Up (V V':View):Prop where
 F:∀b,V.F b→V'.F b
 P:∀b,V.F b→V'.P[b]? = V.P[b]?
 len:V.H.length≤V'.H.length
 row:∀b g' kU e w',b<V.H.length→V'.H[b]? = some (.row g' kU e w')→∃g es w,V.H[b]? = some (.row g es e w)∧g≤g'∧(g'=g→V'.m b=V.m b)
 HD:V'.base=V.base
 Cr:V.P.length≤V'.P.length
 zM:∀b g es e w,V'.H[b]? = some (.row g es e w)→V'.m b<V.P.length→∃g0 es0 w0,V.H[b]? = some (.row g0 es0 e w0)∧V'.m b=V.m b∧(w=true→w0=true)
section
variable {V V' OT:View}
theorem Up.refl (V:View):Up V V:=⟨fun _ h=>h,fun _ _=>rfl,Nat.le_refl _,fun b g es e w _ h=>⟨g,es,w,h,Nat.le_refl _,fun _=>rfl⟩,rfl,Nat.le_refl _,fun b g es e w h _=>⟨g,es,w,h,rfl,id⟩⟩
theorem Up.trans (h:Up V V') (h':Up V' OT):Up V OT :=
 ⟨fun b hb=>h'.F b (h.F b hb),fun b hb=>(h'.P b (h.F b hb)).trans (h.P b hb),Nat.le_trans h.len h'.len,fun b g es e w hb hr=>by
  obtain⟨g1,AO,w1,h1,h2,h3⟩:=h'.row b g es e w (Nat.lt_of_lt_of_le hb h.len) hr
  obtain⟨g2,XX,w2,h4,h5,h6⟩:=h.row b g1 AO e w1 hb h1
  exact⟨g2,XX,w2,h4,Nat.le_trans h5 h2,fun hg=>(h3 (by omega)).trans (h6 (by omega))⟩,h'.HD.trans h.HD,Nat.le_trans h.Cr h'.Cr,fun b g es e w hb hm=>by
   obtain⟨g1,AO,w1,h1,h2,h3⟩:=h'.zM b g es e w hb (Nat.lt_of_lt_of_le hm h.Cr)
   obtain⟨g2,XX,w2,h4,h5,h6⟩:=h.zM b g1 AO e w1 h1 (by rw[←h2];exact hm)
   exact⟨g2,XX,w2,h4,h2.trans h5,fun hw=>h6 (h3 hw)⟩⟩
theorem Up.hq (u:Up V V') {b q:Nat} (h:V.base≤q∧q<V.P.length∧∀b' g' es e w,V.H[b']? = some (.row g' es e w)→b'≠b→V.m b'≠q):V'.base≤q∧q<V'.P.length∧∀b' g' es e w,V'.H[b']? = some (.row g' es e w)→b'≠b→V'.m b'≠q:=by
 refine⟨by rw[u.HD];exact h.1,Nat.lt_of_lt_of_le h.2.1 u.Cr,fun b' g' es e w hb eT hm => ?_⟩
 obtain⟨g0,es0,w0,h1,h2,_⟩:=u.zM b' g' es e w hb (by rw[hm];exact h.2.1)
 exact h.2.2 b' _ _ _ _ h1 eT (h2.symm.trans hm)
theorem VR.mono (u:Up V V') {x:VV} {v:Value} (h:VR V x v):VR V' x v:=by
 induction h using VR.rec (motive_2:=fun xs vs _=>VL V' xs vs) with
 | any=>exact .any _
 | sc _ h=>exact .sc _ h
 | agg cs ps _ ih=>exact .agg _ _ ih
 | dQ cs ps _ ih=>exact .dQ _ _ ih
 | mU k hk=>exact .mU k hk
 | tree es k b o c r e p hF hb ho hc he hk _ ih=>exact .tree es k b o c r e p (u.F _ hF) (by rw[u.P _ hF];exact hb) ho hc he hk ih
 | cY x off b o r e p hF hb ho _ ih=>exact .cY x off b o r e p (u.F _ hF) (by rw[u.P _ hF];exact hb) ho ih
 |
  ref b g o n c a n' c' aV hg h hq =>
  refine .ref b g o n c a n' c' (Nat.lt_of_lt_of_le aV u.len) (fun g' es e w hr => ?_) (fun es e w hr => ?_) fun a0 ha=>u.hq (hq a0 ha)
  ·obtain⟨g1,AO,w1,h1,h2,_⟩:=u.row b g' es e w aV hr
   exact Nat.le_trans (hg _ _ _ _ h1) h2
  ·obtain⟨g1,AO,w1,h1,h2,h3⟩:=u.row b g es e w aV hr
   have h4:=hg _ _ _ _ h1
   have h5:g=g1:=by omega
   subst h5
   rw[h3 rfl]
   exact h _ _ _ h1
 |
  ptr b g j off a aV hg h hq =>
  refine .ptr b g j off a (Nat.lt_of_lt_of_le aV u.len) (fun g' es e w hr => ?_) (fun es e w hr => ?_) fun a0 ha=>u.hq (hq a0 ha)
  ·obtain⟨g1,AO,w1,h1,h2,_⟩:=u.row b g' es e w aV hr
   exact Nat.le_trans (hg _ _ _ _ h1) h2
  ·obtain⟨g1,AO,w1,h1,h2,h3⟩:=u.row b g es e w aV hr
   have h4:=hg _ _ _ _ h1
   have h5:g=g1:=by omega
   subst h5
   rw[h3 rfl]
   exact h _ _ _ h1
 | sC f fC ps _ ih=>exact .sC _ _ _ ih
 | nil=>exact .nil
 | cons x v xs vs _ _ ih Qj=>exact .cons _ _ _ _ ih Qj
theorem VL.mono (u:Up V V') {xs:List VV} {vs:List Value} (h:VL V xs vs):VL V' xs vs:=by
 induction xs generalizing vs with
 | nil=>cases h;exact .nil
 |
  cons x xs ih=>cases h with
  | cons _ v _ vs h hs=>exact .cons _ _ _ _ (h.mono u) (ih hs)
end
section
variable {V:View} {xs ys:List VV} {vs ws:List Value}
theorem VL.length:∀ {xs:List VV} {vs:List Value},VL V xs vs→vs.length=xs.length
 | _,_,.nil=>rfl
 | _,_,.cons _ _ _ _ _ hs=>by simp[hs.length]
theorem VL.append:∀ {xs:List VV} {vs:List Value},VL V xs vs→VL V ys ws→VL V (xs++ys) (vs++ws)
 | _,_,.nil,h'=>h'
 | _,_,.cons _ _ _ _ h hs,h' => .cons _ _ _ _ h (hs.append h')
theorem VL.take (n:Nat):∀ {xs:List VV} {vs:List Value} ,VL V xs vs→VL V (xs.take n) (vs.take n):=by
 induction n with
 | zero=>intro xs vs _;simp;exact .nil
 |
  succ n ih=>intro xs vs h;cases h with
  | nil=>simp;exact .nil
  | cons x v xs vs h hs=>exact .cons _ _ _ _ h (ih hs)
theorem VL.drop (n:Nat):∀ {xs:List VV} {vs:List Value} ,VL V xs vs→VL V (xs.drop n) (vs.drop n):=by
 induction n with
 | zero=>intro xs vs h;simpa using h
 |
  succ n ih=>intro xs vs h;cases h with
  | nil=>simp;exact .nil
  | cons x v xs vs h hs=>exact ih hs
theorem VL.get (h:VL V xs vs) {i:Nat} {x:VV} (hx:xs[i]? = some x):∃v,vs[i]? = some v∧VR V x v:=by
 induction i generalizing xs vs with
 |
  zero=>cases h with
  | nil=>cases hx
  | cons y v xs vs h hs=>simp at hx;subst hx;exact⟨v,rfl,h⟩
 |
  succ i ih=>cases h with
  | nil=>cases hx
  | cons y v xs vs h hs=>exact ih hs (by simpa using hx)
theorem VL.map {α:Type} {f:α→VV} {g:α→Value}:∀ {l:List α},(∀x∈l,VR V (f x) (g x))→VL V (l.map f) (l.map g)
 | [],_ => .nil
 | x::l,h => .cons _ _ _ _ (h x (by simp)) (VL.map fun y hy=>h y (by simp[hy]))
theorem VL.replicate {x:VV} {v:Value} (h:VR V x v):∀n,VL V (List.replicate n x) (List.replicate n v)
 | 0 => .nil
 | n+1 => .cons _ _ _ _ h (VL.replicate h n)
theorem VL.gS {cs new:List VV} {ps pn:List Value} (h:VL V cs ps) (hn:VL V new pn) (o:Nat):VL V (cN cs o new) (gS ps o pn):=by
 unfold cN PM.gS
 rw[←hn.length]
 exact((h.take o).append hn).append (h.drop _)
theorem VR.iJ (v:Value):VR V (iJ v) v:=by
 unfold PM.iJ
 split
 ·exact .mU _ (.inr rfl)
 ·split
  ·rename_i h;exact .sc _ h
  ·exact .any _
theorem VR.inj (v:Value):VR V (inj v) v:=by
 unfold PM.inj
 split
 ·rename_i cs
  have:(Value.agg cs) = .agg cs.toList.toArray:=by simp
  rw[this]
  refine .agg _ _ ?_
  have:=VL.map (V:=V) (f:=PM.iJ) (g:=id) (l:=cs.toList) fun x _=>VR.iJ x
  simpa using this
 ·rename_i vs
  split
  ·rename_i h
   have:vs=[].toArray:=by simpa using h
   rw[this]
   exact .dQ _ _ .nil
  ·exact .any _
 ·exact VR.iJ _
theorem VL.zero (z:List Value):VL V (z.map PM.iJ) z:=by
 have:=VL.map (V:=V) (f:=PM.iJ) (g:=id) (l:=z) fun x _=>VR.iJ x
 simpa using this
theorem VR.cells {x:VV} {v:Value} (h:VR V x v) (hx:x ≠ .any):VL V (aB x) (aJ v):=by
 cases h with
 | any=>exact absurd rfl hx
 |
  sc v h =>
  have:aJ v=[v]:=by cases v<;>first | rfl | cases h
  rw[this]
  exact .cons _ _ _ _ (.sc v h) .nil
 | agg cs ps h=>simpa[aB,aJ] using h
 | dQ cs ps h=>exact .cons _ _ _ _ (.dQ _ _ h) .nil
 | mU k hk=>exact .cons _ _ _ _ (.mU k hk) .nil
 | tree es k b o c r e p hF hb ho hc he hk hl=>exact .cons _ _ _ _ (.tree es k b o c r e p hF hb ho hc he hk hl) .nil
 | cY x off b o r e p hF hb ho hl=>exact .cons _ _ _ _ (.cY x off b o r e p hF hb ho hl) .nil
 | ref b g o n c a n' c' aV hg h hq=>exact .cons _ _ _ _ (.ref b g o n c a n' c' aV hg h hq) .nil
 | ptr b g j off a aV hg h hq=>exact .cons _ _ _ _ (.ptr b g j off a aV hg h hq) .nil
 | sC f fC ps h=>exact .cons _ _ _ _ (.sC _ _ _ h) .nil
theorem VR.fD {x:VV} {v:Value} (h:VR V x v) (hx:bA x=true):fD v=true:=by
 cases h with
 | sc v h=>cases v<;>first | rfl | cases h
 | any=>cases hx
 | agg=>cases hx
 | dQ=>cases hx
 | _=>rfl
theorem VL.fD:∀ {xs:List VV} {vs:List Value},VL V xs vs→xs.all bA=true→vs.all PM.fD=true
 | _,_,.nil,_=>rfl
 |
  _,_,.cons _ _ _ _ h hs,hx=>by
  rw[List.all_cons,Bool.and_eq_true] at hx ⊢
  exact⟨h.fD hx.1,hs.fD hx.2⟩
theorem QP {x:VV} (h:(aB x).all bA=true):x ≠ .any:=by
 rintro rfl
 cases h
theorem jD {es:List VV} {e:Nat} (he:∀x∈es,(aB x).length=e):(es.flatMap aB).length=es.length*e:=by
 induction es with
 | nil=>simp
 |
  cons x xs ih =>
  rw[List.flatMap_cons,List.length_append,ih fun y hy=>he y (List.mem_cons_of_mem _ hy),he x List.mem_cons_self,List.length_cons,Nat.succ_mul]
  omega
theorem qO {es:List VV} {e:Nat} (he:∀x∈es,(aB x).length=e) (i:Nat):(es.flatMap aB).drop (i*e)=(es.drop i).flatMap aB:=by
 induction i generalizing es with
 | zero=>simp
 |
  succ i ih =>
  cases es with
  | nil=>simp
  |
   cons x xs =>
   have hx:=he x List.mem_cons_self
   rw[List.flatMap_cons,List.drop_succ_cons,←ih fun y hy=>he y (List.mem_cons_of_mem _ hy),show (i+1)*e=(aB x).length+i*e by rw[hx,Nat.succ_mul];omega,List.drop_append]
   simp
theorem rD {es:List VV} {e:Nat} (he:∀x∈es,(aB x).length=e) (i:Nat):(es.flatMap aB).take (i*e)=(es.take i).flatMap aB:=by
 induction i generalizing es with
 | zero=>simp
 |
  succ i ih =>
  cases es with
  | nil=>simp
  |
   cons x xs =>
   have hx:=he x List.mem_cons_self
   rw[List.flatMap_cons,List.take_succ_cons,List.flatMap_cons,←ih fun y hy=>he y (List.mem_cons_of_mem _ hy),show (i+1)*e=(aB x).length+i*e by rw[hx,Nat.succ_mul];omega,List.take_append]
   simp
   exact List.take_of_length_le (by omega)
theorem HQ {es:List VV} {e:Nat} (he:∀x∈es,(aB x).length=e) {j:Nat} {x:VV} (hx:es[j]? = some x):((es.flatMap aB).drop (j*e)).take e=aB x:=by
 obtain⟨aV,Tt⟩:=List.getElem?_eq_some_iff.1 hx
 rw[qO he,List.drop_eq_getElem_cons aV,Tt,List.flatMap_cons,List.take_append,←he x (List.mem_of_getElem? hx)]
 simp
theorem tD {es new:List VV} {e:Nat} (he:∀x∈es,(aB x).length=e) (hn:∀x∈new,(aB x).length=e) (o:Nat):cN (es.flatMap aB) (o*e) (new.flatMap aB)=(cN es o new).flatMap aB:=by
 unfold cN
 rw[rD he,jD hn,show o*e+new.length*e=(o+new.length)*e by rw[Nat.add_mul],qO he]
 simp
theorem Gj {es:List VV} {j:Nat} {x:VV} (hj:j<es.length):cN es j [x]=es.set j x:=by
 unfold cN
 rw[List.set_eq_take_append_cons_drop,if_pos hj]
 simp
theorem Px {cs new:List VV} {o:Nat} (h:o+new.length≤cs.length):(cN cs o new).length=cs.length:=by
 unfold cN
 simp
 omega
theorem GH {cs new:List VV} {o:Nat} {x:VV} (h:x∈cN cs o new):x∈cs∨x∈new:=by
 unfold cN at h
 rw[List.mem_append,List.mem_append] at h
 rcases h with(h | h) | h
 ·exact .inl (List.mem_of_mem_take h)
 ·exact .inr h
 ·exact .inl (List.mem_of_mem_drop h)
theorem lH {cs:List VV} (h:cs.all bA=true):aB (elemOf cs)=cs:=by
 unfold elemOf
 split
 ·rename_i x
  simp only[List.all_cons,List.all_nil,Bool.and_true] at h
  cases x<;>first | rfl | cases h
 ·rfl
theorem cC {H:aA} {b g:Nat} {es:List VV} {e:Nat} {w:Bool}:aF H b g=some (es,e,w)↔H[b]? = some (.row g es e w):=by
 unfold aF
 constructor
 ·intro h
  split at h
  ·rename_i hb
   split at h
   ·rename_i hg;subst hg;cases h;exact hb
   ·cases h
  ·cases h
 ·intro h
  rw[h]
  simp
end
structure SR (V:View) (lo dS:Nat):Prop where
 row:∀b g es e w,V.H[b]? = some (.row g es e w)→∃r p,V.P[V.m b]? = some (.row r e p)∧(∀x∈es,(aB x).length=e)∧VL V (es.flatMap aB) r
 wr:∀b g es e,V.H[b]? = some (.row g es e true)→¬V.F (V.m b)∧(lo≤b→dS≤V.m b)
 inj:∀a b g es e w g' kU e' w',V.H[a]? = some (.row g es e w)→V.H[b]? = some (.row g' kU e' w')→V.m a=V.m b→a=b
 fr:∀b,V.F b→b<V.P.length
 PO:dS≤V.P.length
 HD:V.base≤V.P.length
structure CJ (lo:Nat) (V V':View):Prop extends Up V V' where
 bM:∀q,q<V.P.length→(∀b g es e,V.H[b]? = some (.row g es e true)→lo≤b→V.m b≠q)→V'.P[q]? = V.P[q]?
 AT:∀q,V'.F q→V.F q∨V.P.length≤q∨∃b g es e w,V.H[b]? = some (.row g es e w)∧V.m b=q
section
variable {V V' OT:View} {lo:Nat}
theorem CJ.refl (lo:Nat) (V:View):CJ lo V V :=
 { Up.refl V with bM:=fun _ _ _=>rfl,AT:=fun _ h => .inl h }
theorem CJ.trans (h:CJ lo V V') (h':CJ lo V' OT):CJ lo V OT :=
 { Up.trans h.toUp h'.toUp with
  bM:=fun q hq hn=>by
   rw[h'.bM q (Nat.lt_of_lt_of_le hq h.Cr) ?_,h.bM q hq hn]
   intro b g es e hb hl hm
   obtain⟨g1,AO,w1,h1,h2,h3⟩:=h.zM b g es e true hb (by rw[hm];exact hq)
   have:=h3 rfl
   subst this
   exact hn b g1 AO e h1 hl (h2.symm.trans hm)
  AT:=fun q hq=>by
   rcases h'.AT q hq with h1 | h1 | ⟨b,g,es,e,w,h1,h2⟩
   ·exact h.AT q h1
   ·exact .inr (.inl (Nat.le_trans h.Cr h1))
   ·rcases Nat.lt_or_ge q V.P.length with hl | hl
    ·obtain⟨g1,AO,w1,h3,h4,_⟩:=h.zM b g es e w h1 (by rw[h2];exact hl)
     exact .inr (.inr ⟨b,g1,AO,e,w1,h3,h4.symm.trans h2⟩)
    ·exact .inr (.inl hl) }
end
end Go.PM
namespace Go.PM
def Vi (m:Nat→Nat) (b v:Nat):Nat→Nat:=fun k=>if k=b then v else m k
theorem kA {m:Nat→Nat} {b v:Nat}:Vi m b v b=v:=by simp[Vi]
theorem kP {m:Nat→Nat} {b v k:Nat} (h:k≠b):Vi m b v k=m k:=by simp[Vi,h]
section
variable {V:View} {lo dS:Nat}
theorem SR.mlt (hS:SR V lo dS) {b g e:Nat} {es:List VV} {w:Bool} (hb:V.H[b]? = some (.row g es e w)):V.m b<V.P.length:=by
 obtain⟨r,p,h,_⟩:=hS.row b g es e w hb
 exact(List.getElem?_eq_some_iff.1 h).1
theorem Ag (hS:SR V lo dS) (x:Oy):SR { V with P:=V.P++[x],F:=fun q=>V.F q∨q=V.P.length } lo dS∧CJ lo V { V with P:=V.P++[x],F:=fun q=>V.F q∨q=V.P.length }:=by
 have hU:Up V { V with P:=V.P++[x],F:=fun q=>V.F q∨q=V.P.length }:=⟨fun _ h => .inl h,fun b hb=>List.getElem?_append_left (hS.fr b hb),Nat.le_refl _,fun b g es e w _ h=>⟨g,es,w,h,Nat.le_refl _,fun _=>rfl⟩,rfl,by simp,fun b g es e w hb _=>⟨g,es,w,hb,rfl,id⟩⟩
 refine⟨⟨fun b g es e w hb => ?_,fun b g es e hb=>⟨fun hF => ?_,(hS.wr b g es e hb).2⟩,hS.inj,fun b hb => ?_,by have:=hS.PO;simp;omega,by have:=hS.HD;simp;omega⟩,{ hU with bM:=fun q hq _=>List.getElem?_append_left hq,AT:=fun q hq => ?_ }⟩
 ·obtain⟨r,p,h1,h2,h3⟩:=hS.row b g es e w hb
  exact⟨r,p,by rw[←h1];exact List.getElem?_append_left (hS.mlt hb),h2,h3.mono hU⟩
 ·rcases hF with hF | hF
  ·exact(hS.wr b g es e hb).1 hF
  ·have h1:V.m b=V.P.length:=hF
   have:=hS.mlt hb
   omega
 ·rcases hb with hb | hb
  ·have:=hS.fr b hb
   simp;omega
  ·subst hb;simp
 ·rcases hq with hq | hq
  ·exact .inl hq
  ·exact .inr (.inl (by omega))
theorem oY (hS:SR V lo dS) {es:List VV} {r:List Value} {e:Nat} (p:Bool) (he:∀x∈es,(aB x).length=e) (hl:VL V (es.flatMap aB) r) :
  SR { V with m:=Vi V.m V.H.length V.P.length,H:=V.H++[.row 0 es e true],P:=V.P++[.row r e p] } lo dS∧CJ lo V { V with m:=Vi V.m V.H.length V.P.length,H:=V.H++[.row 0 es e true],P:=V.P++[.row r e p] }:=by
 have zM:∀b g kU e' w,(V.H++[bU.row 0 es e true])[b]? = some (.row g kU e' w)→(b=V.H.length∧g=0∧kU=es∧e'=e∧w=true)∨(b≠V.H.length∧V.H[b]? = some (.row g kU e' w)):=by
  intro b g kU e' w hb
  rcases Nat.lt_trichotomy b V.H.length with h | h | h
  ·rw[List.getElem?_append_left h] at hb
   exact .inr ⟨by omega,hb⟩
  ·subst h
   rw[List.getElem?_append_right (Nat.le_refl _)] at hb
   simp at hb
   obtain⟨h1,h2,h3,h4⟩:=hb
   exact .inl ⟨rfl,h1.symm,h2.symm,h3.symm,h4⟩
  ·rw[List.getElem?_eq_none (by simp;omega)] at hb
   cases hb
 have hU:Up V { V with m:=Vi V.m V.H.length V.P.length,H:=V.H++[.row 0 es e true],P:=V.P++[.row r e p] } :=
  ⟨fun _ h=>h,fun b hb=>List.getElem?_append_left (hS.fr b hb),by simp,fun b g' kU e' w' aV hb=>by
   rcases zM b g' kU e' w' hb with⟨h,_⟩ | ⟨h,hb⟩
   ·omega
   ·exact⟨g',kU,w',hb,Nat.le_refl _,fun _=>kP h⟩,rfl,by simp,fun b g kU e' w hb hm=>by
   rcases zM b g kU e' w hb with⟨rfl,_⟩ | ⟨h,hb⟩
   ·simp only[kA] at hm
    omega
   ·exact⟨g,kU,w,hb,kP h,id⟩⟩
 refine⟨⟨fun b g kU e' w hb => ?_,fun b g kU e' hb => ?_,fun a b g AO e1 w1 g' XX e2 w2 ha hb hm => ?_,fun b hb=>by have:=hS.fr b hb;simp;omega,by have:=hS.PO;simp;omega,by have:=hS.HD;simp;omega⟩,
  { hU with bM:=fun q hq _=>List.getElem?_append_left hq,AT:=fun q hq => .inl hq }⟩
 ·rcases zM b g kU e' w hb with⟨rfl,rfl,rfl,rfl,rfl⟩ | ⟨h,hb⟩
  ·exact⟨r,p,by simp only[kA];simp,he,hl.mono hU⟩
  ·obtain⟨r1,p1,h1,h2,h3⟩:=hS.row b g kU e' w hb
   refine⟨r1,p1,?_,h2,h3.mono hU⟩
   simp only[kP h]
   rw[List.getElem?_append_left (hS.mlt hb)]
   exact h1
 ·rcases zM b g kU e' true hb with⟨rfl,_⟩ | ⟨h,hb⟩
  ·simp only[kA]
   exact⟨fun hF=>by have:=hS.fr _ hF;omega,fun _=>hS.PO⟩
  ·simp only[kP h]
   exact hS.wr b g kU e' hb
 ·rcases zM a g AO e1 w1 ha with⟨rfl,_⟩ | ⟨h,ha⟩
  ·rcases zM b g' XX e2 w2 hb with⟨rfl,_⟩ | ⟨h',hb⟩
   ·rfl
   ·simp only[kA,kP h'] at hm
    have:=hS.mlt hb
    omega
  ·rcases zM b g' XX e2 w2 hb with⟨rfl,_⟩ | ⟨h',hb⟩
   ·simp only[kA,kP h] at hm
    have:=hS.mlt ha
    omega
   ·simp only[kP h,kP h'] at hm
    exact hS.inj a b _ _ _ _ _ _ _ _ ha hb hm
theorem fP {H:aA} {b:Nat} {x:bU} (hb:b<H.length) {a:Nat} {y:bU} (h:(H.set b x)[a]? = some y):(a=b∧y=x)∨(a≠b∧H[a]? = some y):=by
 by_cases he:a=b
 ·subst he
  rw[List.getElem?_set_self hb] at h
  cases h
  exact .inl ⟨rfl,rfl⟩
 ·rw[List.getElem?_set_ne (Ne.symm he)] at h
  exact .inr ⟨he,h⟩
theorem Bg (hS:SR V lo dS) {b g e:Nat} {es kU:List VV} {r':List Value} (hb:V.H[b]? = some (.row g es e true)) (eJ:lo≤b) (he:∀x∈kU,(aB x).length=e) (hl:VL V (kU.flatMap aB) r') {r:List Value} {p:Bool} (hp:V.P[V.m b]? = some (.row r e p)) :
  SR { V with H:=V.H.set b (.row g kU e true),P:=V.P.set (V.m b) (.row r' e p) } lo dS∧CJ lo V { V with H:=V.H.set b (.row g kU e true),P:=V.P.set (V.m b) (.row r' e p) }:=by
 have vZ:=(List.getElem?_eq_some_iff.1 hb).1
 have PS:=hS.mlt hb
 have hU:Up V { V with H:=V.H.set b (.row g kU e true),P:=V.P.set (V.m b) (.row r' e p) } :=
  ⟨fun _ h=>h,fun q hq=>List.getElem?_set_ne (fun h=>(hS.wr b g es e hb).1 (by rw[h];exact hq)),by simp,fun a g' AO e1 w1 aV ha=>by
   rcases fP vZ ha with⟨rfl,h⟩ | ⟨_,h⟩
   ·cases h
    exact⟨g,es,true,hb,Nat.le_refl _,fun _=>rfl⟩
   ·exact⟨g',AO,w1,h,Nat.le_refl _,fun _=>rfl⟩,rfl,by simp,fun a g1 AO e1 w1 ha _=>by
   rcases fP vZ ha with⟨rfl,h⟩ | ⟨eT,h⟩
   ·cases h
    exact⟨g,es,true,hb,rfl,fun _=>rfl⟩
   ·exact⟨g1,AO,w1,h,rfl,id⟩⟩
 refine⟨⟨fun a g1 AO e1 w1 ha => ?_,fun a g1 AO e1 ha => ?_,fun a c g1 AO e1 w1 g2 XX e2 w2 ha hc hm => ?_,fun q hq=>by have:=hS.fr q hq;simp;omega,by have:=hS.PO;simp;omega,by have:=hS.HD;simp;omega⟩,
  { hU with bM:=fun q hq hn=>List.getElem?_set_ne (hn b g es e hb eJ),AT:=fun q hq => .inl hq }⟩
 ·rcases fP vZ ha with⟨rfl,h⟩ | ⟨eT,h⟩
  ·cases h
   exact⟨r',p,List.getElem?_set_self PS,he,hl.mono hU⟩
  ·obtain⟨r1,p1,h1,h2,h3⟩:=hS.row a g1 AO e1 w1 h
   exact⟨r1,p1,by rw[←h1];exact List.getElem?_set_ne (fun hm=>eT (hS.inj _ _ _ _ _ _ _ _ _ _ h hb hm.symm)),h2,h3.mono hU⟩
 ·rcases fP vZ ha with⟨rfl,h⟩ | ⟨eT,h⟩
  ·cases h
   exact hS.wr _ _ _ _ hb
  ·exact hS.wr _ _ _ _ h
 ·rcases fP vZ ha with⟨rfl,h⟩ | ⟨eT,h⟩<;>rcases fP vZ hc with⟨rfl,h'⟩ | ⟨TU,h'⟩
  ·rfl
  ·exact hS.inj _ _ _ _ _ _ _ _ _ _ hb h' hm
  ·exact hS.inj _ _ _ _ _ _ _ _ _ _ h hb hm
  ·exact hS.inj _ _ _ _ _ _ _ _ _ _ h h' hm
theorem QC (hS:SR V lo dS) {b g e:Nat} {es kU:List VV} {r':List Value} (hb:V.H[b]? = some (.row g es e true)) (eJ:lo≤b) (he:∀x∈kU,(aB x).length=e) (hl:VL V (kU.flatMap aB) r') {P1:aD} (hP:P1.length=V.P.length) (hk:∀q,q≠V.m b→P1[q]? = V.P[q]?) (p:Bool) :
  SR { V with m:=Vi V.m b V.P.length,H:=V.H.set b (.row (g+1) kU e true),P:=P1++[.row r' e p] } lo dS∧CJ lo V { V with m:=Vi V.m b V.P.length,H:=V.H.set b (.row (g+1) kU e true),P:=P1++[.row r' e p] }:=by
 have vZ:=(List.getElem?_eq_some_iff.1 hb).1
 have PS:=hS.mlt hb
 have rU:∀q,q<V.P.length→q≠V.m b→(P1++[Oy.row r' e p])[q]? = V.P[q]? := fun q hq hn=>by rw[List.getElem?_append_left (by omega)];exact hk q hn
 have hU:Up V { V with m:=Vi V.m b V.P.length,H:=V.H.set b (.row (g+1) kU e true),P:=P1++[.row r' e p] } :=
  ⟨fun _ h=>h,fun q hq=>rU q (hS.fr q hq) (fun h=>(hS.wr b g es e hb).1 (by rw[←h];exact hq)),by simp,fun a g' AO e1 w1 aV ha=>by
   rcases fP vZ ha with⟨rfl,h⟩ | ⟨eT,h⟩
   ·cases h
    exact⟨g,es,true,hb,by omega,fun h=>by omega⟩
   ·exact⟨g',AO,w1,h,Nat.le_refl _,fun _=>kP eT⟩,rfl,by simp;omega,fun a g1 AO e1 w1 ha hm=>by
   rcases fP vZ ha with⟨rfl,h⟩ | ⟨eT,h⟩
   ·simp only[kA] at hm
    omega
   ·exact⟨g1,AO,w1,h,kP eT,id⟩⟩
 refine⟨⟨fun a g1 AO e1 w1 ha => ?_,fun a g1 AO e1 ha => ?_,fun a c g1 AO e1 w1 g2 XX e2 w2 ha hc hm => ?_,fun q hq=>by have:=hS.fr q hq;simp;omega,by have:=hS.PO;simp;omega,by have:=hS.HD;simp;omega⟩,
  { hU with bM:=fun q hq hn=>rU q hq (Ne.symm (hn b g es e hb eJ)),AT:=fun q hq => .inl hq }⟩
 ·rcases fP vZ ha with⟨rfl,h⟩ | ⟨eT,h⟩
  ·cases h
   refine⟨r',p,?_,he,hl.mono hU⟩
   simp only[kA]
   rw[←hP]
   simp
  ·obtain⟨r1,p1,h1,h2,h3⟩:=hS.row a g1 AO e1 w1 h
   refine⟨r1,p1,?_,h2,h3.mono hU⟩
   simp only[kP eT]
   rw[rU _ (hS.mlt h) (fun hm=>eT (hS.inj _ _ _ _ _ _ _ _ _ _ h hb hm))]
   exact h1
 ·rcases fP vZ ha with⟨rfl,h⟩ | ⟨eT,h⟩
  ·cases h
   simp only[kA]
   exact⟨fun hF=>by have:=hS.fr _ hF;omega,fun _=>hS.PO⟩
  ·simp only[kP eT]
   exact hS.wr _ _ _ _ h
 ·rcases fP vZ ha with⟨rfl,h⟩ | ⟨eT,h⟩<;>rcases fP vZ hc with⟨rfl,h'⟩ | ⟨TU,h'⟩
  ·rfl
  ·simp only[kA,kP TU] at hm
   have:=hS.mlt h'
   omega
  ·simp only[kA,kP eT] at hm
   have:=hS.mlt h
   omega
  ·simp only[kP eT,kP TU] at hm
   exact hS.inj _ _ _ _ _ _ _ _ _ _ h h' hm
def View.freeze (V:View) (b:Nat):View :=
 match V.H[b]? with
 | some (.row _ _ _ _)=>{ V with H:=Ac V.H b,F:=fun q=>V.F q∨q=V.m b }
 | _=>V
theorem OJ (V:View) (b:Nat):(V.freeze b).H=Ac V.H b:=by
 unfold View.freeze Ac
 cases h:V.H[b]? with
 | none=>rfl
 | some x=>cases x<;>rfl
theorem Wo (V:View) (b:Nat):(V.freeze b).P=V.P:=by
 unfold View.freeze
 split<;>rfl
theorem OV (V:View) (b:Nat):(V.freeze b).m=V.m:=by
 unfold View.freeze
 split<;>rfl
theorem Mj (hS:SR V lo dS) (b:Nat):SR (V.freeze b) lo dS∧CJ lo V (V.freeze b)∧(∀g es e w,V.H[b]? = some (.row g es e w)→(V.freeze b).F (V.m b)):=by
 unfold View.freeze
 split
 case h_2 eT=>exact⟨hS,CJ.refl _ _,fun g es e w h=>absurd h (eT _ _ _ _)⟩
 rename_i g es e w hb
 have vZ:=(List.getElem?_eq_some_iff.1 hb).1
 have hf:Ac V.H b=V.H.set b (.row g es e false):=by unfold Ac;rw[hb]
 rw[hf]
 have hU:Up V { V with H:=V.H.set b (.row g es e false),F:=fun q=>V.F q∨q=V.m b } :=
  ⟨fun _ h => .inl h,fun _ _=>rfl,by simp,fun a g' AO e1 w1 aV ha=>by
   rcases fP vZ ha with⟨rfl,h⟩ | ⟨_,h⟩
   ·cases h
    exact⟨g,es,w,hb,Nat.le_refl _,fun _=>rfl⟩
   ·exact⟨g',AO,w1,h,Nat.le_refl _,fun _=>rfl⟩,rfl,Nat.le_refl _,fun a g1 AO e1 w1 ha hm=>by
   rcases fP vZ ha with⟨rfl,h⟩ | ⟨eT,h⟩
   ·cases h
    exact⟨g,es,w,hb,rfl,fun h=>by cases h⟩
   ·exact⟨g1,AO,w1,h,rfl,id⟩⟩
 refine⟨⟨fun a g1 AO e1 w1 ha => ?_,fun a g1 AO e1 ha => ?_,fun a c g1 AO e1 w1 g2 XX e2 w2 ha hc hm => ?_,fun q hq => ?_,hS.PO,hS.HD⟩,
  { hU with bM:=fun q hq hn=>rfl,AT:=fun q hq => ?_ },fun _ _ _ _ _ => .inr rfl⟩
 ·rcases fP vZ ha with⟨rfl,h⟩ | ⟨eT,h⟩
  ·cases h
   obtain⟨r1,p1,h1,h2,h3⟩:=hS.row _ _ _ _ _ hb
   exact⟨r1,p1,h1,h2,h3.mono hU⟩
  ·obtain⟨r1,p1,h1,h2,h3⟩:=hS.row _ _ _ _ _ h
   exact⟨r1,p1,h1,h2,h3.mono hU⟩
 ·rcases fP vZ ha with⟨rfl,h⟩ | ⟨eT,h⟩
  ·cases h
  ·refine⟨fun hF => ?_,(hS.wr _ _ _ _ h).2⟩
   rcases hF with hF | hF
   ·exact(hS.wr _ _ _ _ h).1 hF
   ·exact eT (hS.inj _ _ _ _ _ _ _ _ _ _ h hb hF)
 ·rcases fP vZ ha with⟨rfl,h⟩ | ⟨eT,h⟩<;>rcases fP vZ hc with⟨rfl,h'⟩ | ⟨TU,h'⟩
  ·rfl
  ·exact hS.inj _ _ _ _ _ _ _ _ _ _ hb h' hm
  ·exact hS.inj _ _ _ _ _ _ _ _ _ _ h hb hm
  ·exact hS.inj _ _ _ _ _ _ _ _ _ _ h h' hm
 ·rcases hq with hq | hq
  ·exact hS.fr q hq
  ·subst hq;exact hS.mlt hb
 ·rcases hq with hq | hq
  ·exact .inl hq
  ·exact .inr (.inr ⟨b,g,es,e,w,hb,hq.symm⟩)
end
end Go.PM
namespace Go.PM
section
variable {V:View} {lo dS:Nat} {ρ:dJ} {jB:Env}
def ER (V:View) (ρ:dJ) (jB:Env):Prop:=∀t,VR V (ρ t) (jB t)
theorem ER.mono {V':View} (u:Up V V') (h:ER V ρ jB):ER V' ρ jB:=fun t=>(h t).mono u
theorem ER.ev (h:ER V ρ jB) (x:Operand):VR V (dU ρ x) (ev jB x):=by
 cases x with
 | tmp t=>exact h t
 | const v=>exact VR.inj v
 | global g=>exact .any _
 | func f=>exact .sC f [] [] .nil
theorem ER.put {d:Option Nat} {x:VV} {v:Value} (h:ER V ρ jB) (hx:VR V x v):ER V (He ρ d x) (put jB d v):=by
 cases d with
 | none=>exact h
 |
  some d =>
  intro t
  simp only[He,PM.put]
  split
  ·exact hx
  ·exact h t
theorem ER.evs (h:ER V ρ jB) (xs:List Operand):VL V (xs.map (dU ρ)) (xs.map (PM.ev jB)):=VL.map fun x _=>h.ev x
def fT (lo dS:Nat) (V:View) (r:Option (Value×aD)) (v:VV) (H':aA):Prop :=
 ∃pv V',r=some (pv,V'.P)∧V'.H=H'∧SR V' lo dS∧CJ lo V V'∧VR V' v pv
theorem fT.pure (hS:SR V lo dS) {r:Option Value} {v:VV} {pv:Value} (h:r=some pv) (hv:VR V v pv):fT lo dS V (r.map (·,V.P)) v V.H :=
 ⟨pv,V,by rw[h];rfl,rfl,hS,CJ.refl _ _,hv⟩
theorem fT.of {V':View} {pv:Value} {v:VV} (h:SR V' lo dS∧CJ lo V V') (hv:VR V' v pv):fT lo dS V (some (pv,V'.P)) v V'.H:=⟨pv,V',rfl,rfl,h.1,h.2,hv⟩
theorem fT.same (hS:SR V lo dS) {v:VV} {pv:Value} (hv:VR V v pv):fT lo dS V (some (pv,V.P)) v V.H :=
 ⟨pv,V,rfl,rfl,hS,CJ.refl _ _,hv⟩
theorem cD {α β:Type} {o:Option α} {f:α→β} {b:β} (h:o.map f=some b):∃a,o=some a∧f a=b:=by
 cases o with
 | none=>cases h
 | some a=>cases h;exact⟨a,rfl,rfl⟩
theorem oT {x:VV} {v u:Value} (h:VR V x u) (hx:x = .sc v):u=v∧jR v=true:=by
 subst hx
 cases h with
 | sc v h=>exact⟨rfl,h⟩
theorem Yu {op:BinOp} {a b c:Value} (h:dB op a b=some c):jR c=true:=by
 unfold dB at h
 split at h
 ·split at h<;>cases h;rfl
 ·split at h<;>cases h;rfl
 ·split at h
  ·split at h<;>first | (cases h;rfl) | (split at h<;>cases h<;>rfl) | cases h
  ·cases h
 ·split at h<;>first | (cases h;rfl) | (split at h<;>cases h<;>rfl) | cases h
 ·cases h
theorem YV {op:UnOp} {a c:Value} (h:VD op a=some c):jR c=true:=by
 unfold VD at h
 split at h<;>cases h<;>rfl
theorem W1 {n:Bool} {a b c:Value} (h:PB n a b=some c):jR c=true:=by
 unfold PB at h
 split at h<;>cases h;rfl
theorem Xu {k:IntKind} {a c:Value} (h:Qi k a=some c):jR c=true:=by
 unfold Qi at h
 split at h<;>cases h;rfl
theorem WR {a c:Value} (h:TN a=some c):jR c=true:=by
 unfold TN at h
 split at h<;>cases h;rfl
theorem Tp {a c:Value} (h:wK a=some c):jR c=true:=by
 unfold wK at h
 split at h<;>cases h;rfl
theorem TO {a b c:Value} (h:E6 a b=some c):jR c=true:=by
 unfold E6 at h
 split at h
 ·split at h<;>cases h;rfl
 ·cases h
theorem Xc {a b c:Value} (h:O7 a b=some c):jR c=true:=by
 unfold O7 at h
 split at h<;>cases h;rfl
theorem X7 {a b c:Value} (h:Nh a b=some c):jR c=true:=by
 unfold Nh at h
 split at h<;>cases h;rfl
theorem BU (hS:SR V lo dS) {f:Value→Option Value} (hf:∀a c,f a=some c→jR c=true) {x v:VV} {u:Value} (hx:VR V x u) (h:Iv f x=some v):fT lo dS V ((f u).map (·,V.P)) v V.H:=by
 unfold Iv at h
 split at h
 ·obtain⟨h1,_⟩:=oT hx rfl
  subst h1
  obtain⟨c,hc,rfl⟩:=cD h
  exact fT.pure hS hc (.sc _ (hf _ _ hc))
 ·cases h
theorem xR (hS:SR V lo dS) {f:Value→Value→Option Value} (hf:∀a b c,f a b=some c→jR c=true) {x y v:VV} {u w:Value} (hx:VR V x u) (hy:VR V y w) (h:FH f x y=some v):fT lo dS V ((f u w).map (·,V.P)) v V.H:=by
 unfold FH at h
 split at h
 ·obtain⟨h1,_⟩:=oT hx rfl
  obtain⟨h2,_⟩:=oT hy rfl
  subst h1 h2
  obtain⟨c,hc,rfl⟩:=cD h
  exact fT.pure hS hc (.sc _ (hf _ _ _ hc))
 ·cases h
theorem Qw {α:Type} (l:List α) {o n a k:Nat} (h:a+k≤n):(((l.drop o).take n).drop a).take k=(l.drop (o+a)).take k:=by
 rw[List.drop_take,List.take_take,List.drop_drop,Nat.min_eq_left (by omega)]
theorem Ns {x v:VV} {agg:Bool} {size off b o e:Nat} {r:List Value} {p:Bool} (hb:V.P[b]? = some (.row r e p)) (ho:o+(aB x).length≤r.length) (hl:VL V (aB x) ((r.drop o).take (aB x).length)) (h:dN agg size x off=some v) :
  ∃u,lU agg size (.pointer (some ⟨b,o+off,none⟩)) V.P=some u∧VR V v u:=by
 unfold dN at h
 cases agg with
 |
  true =>
  simp only[if_true] at h
  split at h
  ·rename_i hs
   cases h
   refine⟨.agg ((r.drop (o+off)).take size).toArray,?_,.agg _ _ ?_⟩
   ·simp only[lU,if_true,yI hb (show o+off+size≤r.length by omega)]
    rfl
   ·have:=(hl.drop off).take size
    rw[Qw _ hs] at this
    exact this
  ·cases h
 |
  false =>
  simp only[Bool.false_eq_true,if_false] at h
  obtain⟨u,hu,hv⟩:=hl.get h
  have aeI:=(List.getElem?_eq_some_iff.1 h).1
  rw[List.getElem?_take,if_pos aeI,List.getElem?_drop] at hu
  refine⟨u,?_,hv⟩
  have aV:=(List.getElem?_eq_some_iff.1 hu).1
  simp only[lU,Bool.false_eq_true,if_false,yI hb (show o+off+1≤r.length by omega)]
  rw[List.drop_eq_getElem_cons aV]
  simp only[List.take_succ_cons,List.take_zero]
  rw[List.getElem?_eq_getElem aV] at hu
  injection hu with hu
  rw[hu]
theorem IZ (hS:SR V lo dS) {b g e j:Nat} {es:List VV} {w:Bool} {x:VV} (hb:V.H[b]? = some (.row g es e w)) (hx:es[j]? = some x) :
  ∃r p,V.P[V.m b]? = some (.row r e p)∧(aB x).length=e∧j*e+(aB x).length≤r.length∧VL V (aB x) ((r.drop (j*e)).take (aB x).length):=by
 obtain⟨r,p,h1,h2,h3⟩:=hS.row b g es e w hb
 have hxe:=h2 x (List.mem_of_getElem? hx)
 have hj:=(List.getElem?_eq_some_iff.1 hx).1
 have hlen:=h3.length
 rw[jD h2] at hlen
 have hm:(j+1)*e≤es.length*e:=Nat.mul_le_mul_right _ hj
 rw[Nat.succ_mul] at hm
 refine⟨r,p,h1,hxe,by omega,?_⟩
 have:=(h3.drop (j*e)).take e
 rw[HQ h2 hx] at this
 rw[hxe]
 exact this
theorem IB (hS:SR V lo dS) {p v:VV} {u:Value} {agg:Bool} {size:Nat} (hp:VR V p u) (h:cO agg size p V.H=some v):∃w,lU agg size u V.P=some w∧VR V v w:=by
 unfold cO at h
 split at h
 ·cases hp with
  | cY x off b o r e p hF hb ho hl=>exact Ns hb ho hl h
 ·split at h
  ·rename_i es e w hr
   rw[cC] at hr
   split at h
   ·rename_i x hx
    cases hp with
    |
     ptr b g j off a aV hg ha hq =>
     have:=ha _ _ _ hr
     subst this
     obtain⟨r,p,h1,h2,h3,h4⟩:=IZ hS hr hx
     exact Ns h1 h3 h4 h
   ·cases h
  ·cases h
 ·cases h
theorem OI (hS:SR V lo dS) {x i v:VV} {u k:Value} {size:Nat} (hx:VR V x u) (hi:VR V i k) (h:bI size x i V.H=some v):∃w,Mn size u k=some w∧VR V v w:=by
 unfold bI at h
 split at h
 ·rename_i es tk ik i
  obtain⟨rfl,_⟩:=oT hi rfl
  split at h
  ·rename_i h0
   split at h
   ·rename_i y hy
    split at h
    ·rename_i A0
     cases h
     have aV:=(List.getElem?_eq_some_iff.1 hy).1
     cases hx with
     | mU=>simp at aV
     |
      tree es k b o c r e p hF hb ho hc he hk hl =>
      have hye:=he y (List.mem_of_getElem? hy)
      have JS:e=size:=by omega
      subst JS
      have hm:(i.toNat+1)*e≤es.length*e:=Nat.mul_le_mul_right _ aV
      rw[Nat.succ_mul] at hm
      refine⟨_,OA h0 (by omega),?_⟩
      have h1:=(hl.drop (i.toNat*e)).take e
      rw[HQ he hy,Qw _ (by omega)] at h1
      exact .cY y 0 b (o+i.toNat*e) r e p hF hb (by omega) (by rw[hye];exact h1)
    ·cases h
   ·cases h
  ·cases h
 ·rename_i b g o n c ik i
  obtain⟨rfl,_⟩:=oT hi rfl
  split at h
  ·rename_i es e w hr
   rw[cC] at hr
   split at h
   ·rename_i hc
    obtain⟨rfl,h0,h1⟩:=hc
    cases h
    cases hx with
    |
     ref b g o n c a n' c' aV hg ha hq =>
     obtain⟨rfl,rfl,rfl⟩:=ha _ _ _ hr
     refine⟨_,OA h0 h1,.ptr b g (o+i.toNat) 0 _ aV hg (fun kU e' w' DN => ?_) fun a0 h=>by cases h;exact hq ⟨V.m b,o*e,none⟩ rfl⟩
     rw[hr] at DN
     cases DN
     rw[Nat.add_mul,Nat.add_zero]
   ·cases h
  ·cases h
 ·cases h
theorem yK {l:Option Operand} {lv:Option Value} (hE:ER V ρ jB) (h:DH (l.map (dU ρ))=some lv):l.map (ev jB)=lv:=by
 cases l with
 | none=>cases h;rfl
 |
  some x =>
  simp only[Option.map_some,DH] at h
  split at h
  ·rename_i hv;cases hv
  ·rename_i v hv
   cases h
   injection hv with hv
   obtain⟨h1,_⟩:=oT (hE.ev x) hv
   rw[Option.map_some,h1]
  ·cases h
theorem FN {v:Option Value} {d:Option Nat} {t x:Nat} (hd:∀y,d=some y→y≤t) (h:eA v d t=some x):x≤t:=by
 unfold eA at h
 split at h
 ·exact hd _ h
 ·split at h
  ·cases h;omega
  ·cases h
 ·cases h
theorem Kz {v:Option Value} {d d':Option Nat} {t t' x:Nat} (ht:t≤t') (hd:v=none→d=d') (h:eA v d t=some x):eA v d' t'=some x:=by
 unfold eA at h ⊢
 cases v with
 | none=>rw[←hd rfl];exact h
 |
  some v =>
  cases v with
  |
   int k i =>
   simp only at h ⊢
   split at h
   ·rename_i h1;rw[if_pos (by omega)];exact h
   ·cases h
  | _=>simp only at h ⊢;exact h
theorem Ll (hS:SR V lo dS) (size:Nat):fT lo dS V (some (.slice (some ⟨V.P.length,0,none⟩) 0 0,V.P++[.row [] size false])) (.tree [] (.cl size)) V.H:=by
 exact(fT.of (Ag hS (.row [] size false)) (.tree [] (.cl size) V.P.length 0 0 [] size false (.inr rfl) (by simp) (by simp) (by simp) (fun x hx=>by cases hx) ⟨rfl,rfl,rfl⟩ (by simp;exact .nil)) :)
theorem Ug (hS:SR V lo dS) (hE:ER V ρ jB) {x v:VV} {u:Value} {size:Nat} {l h m:Option Operand} (hx:VR V x u) (hv:Dg size x (l.map (dU ρ)) (h.map (dU ρ)) (m.map (dU ρ)) V.H=some v) :
  fT lo dS V (AU size u (l.map (ev jB)) (h.map (ev jB)) (m.map (ev jB)) V.P) v V.H:=by
 unfold Dg at hv
 split at hv
 case h_2=>cases hv
 rename_i lv hhv mv hl hh hm
 rw[yK hE hl,yK hE hh,yK hE hm]
 split at hv
 ·rename_i y ys tk
  split at hv
  case isFalse=>cases hv
  rename_i A0
  split at hv
  ·cases hv
  rename_i m0 Z8
  split at hv
  ·cases hv
  rename_i h0 hh0
  split at hv
  ·cases hv
  rename_i l0 wX
  cases hx with
  |
   tree es k b o c r e p hF hb ho hc he hk hl =>
   have JS:e=size:=by rw[←he y List.mem_cons_self];exact A0
   subst JS
   have hlen:(y::ys).length=ys.length+1:=rfl
   rw[hlen] at ho hc
   have b1:m0≤ys.length+1:=FN (fun z hz=>by injection hz with hz;omega) Z8
   have b2:h0≤m0:=by
    refine FN (fun z hz => ?_) hh0
    split at hz
    ·cases hz
    ·rename_i hmn
     injection hz with hz
     have:mv=none:=by cases mv<;>simp_all
     subst this
     simp[eA] at Z8
     omega
   have b3:l0≤h0:=FN (fun z hz=>by injection hz with hz;omega) wX
   have e1:eA mv (some c) c=some (if mv.isSome then m0 else c):=by
    cases mv with
    | none=>rfl
    | some q=>exact Kz hc (fun hq=>by cases hq) Z8
   have e2:eA hhv (if mv.isSome then none else some (ys.length+1)) (if mv.isSome then m0 else c)=some h0:=by
    cases mv with
    |
     none =>
     simp only[Option.isSome_none,Bool.false_eq_true,if_false] at hh0 ⊢
     exact Kz (by omega) (fun _=>rfl) hh0
    | some q=>exact hh0
   unfold AU
   simp only[hb,if_true]
   rw[e1]
   simp only
   rw[hlen,e2]
   simp only
   rw[wX]
   simp only
   by_cases mN:mv.isSome=true∧m0=l0
   ·rw[if_pos mN] at hv
    cases hv
    rw[if_pos ⟨mN.1,by rw[if_pos mN.1];exact mN.2⟩]
    exact Ll hS e
   ·rw[if_neg mN] at hv
    cases hv
    rw[if_neg (fun hh=>mN ⟨hh.1,by have:=hh.2;rw[if_pos hh.1] at this;exact this⟩)]
    have aV:(((y::ys).drop l0).take (h0-l0)).length=h0-l0:=by simp;omega
    have Na:l0*e+(h0-l0)*e=h0*e:=by rw[←Nat.add_mul];congr 1;omega
    have Yx:h0*e≤(ys.length+1)*e:=Nat.mul_le_mul_right _ (by omega)
    have Rb:h0-l0≤(if mv.isSome then m0 else c)-l0:=by split<;>omega
    have:=VR.tree (V:=V) (((y::ys).drop l0).take (h0-l0)) .op b (o+l0*e) ((if mv.isSome then m0 else c)-l0) r e p hF hb (by rw[aV];omega) (by rw[aV];exact Rb) (fun z hz=>he z (List.mem_of_mem_drop (List.mem_of_mem_take hz))) trivial (by
     rw[aV]
     have h1:=(hl.drop (l0*e)).take ((h0-l0)*e)
     rw[Qw _ (by rw[hlen];omega),qO he,rD (fun z hz=>he z (List.mem_of_mem_drop hz))] at h1
     exact h1)
    rw[aV] at this
    exact fT.same hS this
 ·rename_i b g o n c
  split at hv
  case h_2=>cases hv
  rename_i es e w hr
  rw[cC] at hr
  split at hv
  case isFalse=>cases hv
  rename_i A0
  subst A0
  split at hv
  ·cases hv
  rename_i m0 Z8
  split at hv
  ·cases hv
  rename_i h0 hh0
  split at hv
  ·cases hv
  rename_i l0 wX
  cases hx with
  |
   ref b g o n c a n' c' aV hg ha hq =>
   obtain⟨rfl,rfl,rfl⟩:=ha _ _ _ hr
   obtain⟨r,p,h1,_⟩:=hS.row b g es e w hr
   unfold AU
   simp only[h1,if_true]
   rw[Z8]
   simp only
   rw[hh0]
   simp only
   rw[wX]
   simp only
   by_cases mN:mv.isSome=true∧m0=l0
   ·rw[if_pos mN] at hv
    cases hv
    rw[if_pos mN]
    exact Ll hS e
   ·rw[if_neg mN] at hv
    cases hv
    rw[if_neg mN]
    refine fT.same hS (.ref b g (o+l0) _ _ _ _ _ aV hg (fun kU e' w' DN => ?_) fun a0 h=>by cases h;exact hq ⟨V.m b,o*e,none⟩ rfl)
    rw[hr] at DN
    cases DN
    exact⟨by rw[Nat.add_mul],rfl,rfl⟩
 ·cases hv
theorem xS {es:List VV} (h:(es.all fun x=>(aB x).all bA)=true):(es.flatMap aB).all bA=true:=by
 rw[List.all_eq_true] at h ⊢
 intro x hx
 obtain⟨y,hy,yM⟩:=List.mem_flatMap.1 hx
 exact List.all_eq_true.1 (h y hy) x yM
theorem sX (hS:SR V lo dS) {y:VV} {u:Value} {size:Nat} {new:List VV} (hy:VR V y u) (h:cM size y V.H=some new) :
  qD u=some new.length∧(∀x∈new,(aB x).length=size)∧(new.flatMap aB).all bA=true∧∀n,n≤new.length→∃pn,iA V.P size n u=some pn∧VL V ((new.take n).flatMap aB) pn:=by
 unfold cM at h
 split at h
 ·rename_i es tk
  split at h
  case isFalse=>cases h
  rename_i mT
  cases h
  have WN:∀x∈new,(aB x).length=size∧(aB x).all bA=true:=fun x hx=>by
   have:=List.all_eq_true.1 mT x hx
   simpa using this
  refine⟨?_,fun x hx=>(WN x hx).1,xS (List.all_eq_true.2 fun x hx=>(WN x hx).2),fun n hn => ?_⟩
  ·cases hy<;>rfl
  ·cases hy with
   |
    mU k hk =>
    have:n=0:=by simpa using hn
    subst this
    exact⟨[],rfl,by simp;exact .nil⟩
   |
    tree es k b o c r e p hF hb ho hc he hk hl =>
    cases JS:new with
    |
     nil =>
     rw[JS] at hn
     have:n=0:=by simpa using hn
     subst this
     refine⟨[],?_,by simp;exact .nil⟩
     simp only[iA,Nat.zero_mul]
     rw[yI hb (by omega)]
     simp
    |
     cons x xs =>
     have P7:e=size:=by rw[←he x (by rw[JS];exact List.mem_cons_self)];exact(WN x (by rw[JS];exact List.mem_cons_self)).1
     subst P7
     have hm:n*e≤new.length*e:=Nat.mul_le_mul_right _ hn
     refine⟨_,by simp only[iA];exact yI hb (by omega),?_⟩
     rw[←JS,←rD he]
     have h1:=hl.take (n*e)
     rw[List.take_take,Nat.min_eq_left hm] at h1
     exact h1
 ·rename_i b g o n c
  split at h
  case h_2=>cases h
  rename_i es e w hr
  rw[cC] at hr
  split at h
  case isFalse=>cases h
  rename_i hc
  obtain⟨rfl,hlen,mT⟩:=hc
  cases h
  obtain⟨r,p,h1,h2,h3⟩:=hS.row b g es e w hr
  have hn2:((es.drop o).take n).length=n:=by simp;omega
  have yS:=h3.length
  rw[jD h2] at yS
  cases hy with
  |
   ref b g o n c a n' c' aV hg ha hq =>
   obtain⟨rfl,rfl,rfl⟩:=ha _ _ _ hr
   have X8:∀x∈(es.drop o).take n',(aB x).length=e:=fun x hx=>h2 x (List.mem_of_mem_drop (List.mem_of_mem_take hx))
   refine⟨by rw[hn2];rfl,X8,xS mT,fun k hk => ?_⟩
   rw[hn2] at hk
   have hm:(o+k)*e≤es.length*e:=Nat.mul_le_mul_right _ (by omega)
   rw[Nat.add_mul] at hm
   refine⟨_,by simp only[iA];exact yI h1 (by omega),?_⟩
   rw[List.take_take,Nat.min_eq_left hk]
   have h4:=(h3.drop (o*e)).take (k*e)
   rw[qO h2,rD (fun x hx=>h2 x (List.mem_of_mem_drop hx))] at h4
   exact h4
 ·rename_i s
  split at h
  case isFalse=>cases h
  rename_i hs
  subst hs
  cases h
  obtain⟨rfl,_⟩:=oT hy rfl
  have hlen:(s.data.toList.map fun b=>VV.sc (.int .u8 (b.toNat:Int))).length=s.size:=by simp
  refine⟨by rw[hlen];rfl,fun x hx => ?_,?_,fun n hn => ?_⟩
  ·obtain⟨b,_,rfl⟩:=List.mem_map.1 hx
   rfl
  ·refine xS (List.all_eq_true.2 fun x hx => ?_)
   obtain⟨b,_,rfl⟩:=List.mem_map.1 hx
   rfl
  ·refine⟨(s.data.toList.take n).map fun b=>Value.int .u8 (b.toNat:Int),by simp only[iA,if_true],?_⟩
   rw[←List.map_take,List.flatMap_map]
   have:((s.data.toList.take n).flatMap fun a=>aB (VV.sc (.int .u8 (a.toNat:Int))))=(s.data.toList.take n).map fun a=>VV.sc (.int .u8 (a.toNat:Int)):=by
    generalize s.data.toList.take n=l
    induction l with
    | nil=>rfl
    | cons a l ih=>rw[List.flatMap_cons,ih];rfl
   rw[this]
   exact VL.map fun b _ => .sc _ rfl
 ·cases h
end
end Go.PM
namespace Go.PM
section
variable {V:View} {lo dS:Nat} {ρ:dJ} {jB:Env}
theorem HE (hS:SR V lo dS) {es:List VV} {r:List Value} {e n c:Nat} {p:Bool}:VR { V with m:=Vi V.m V.H.length V.P.length,H:=V.H++[.row 0 es e true],P:=V.P++[.row r e p] } (.ref V.H.length 0 0 n c) (.slice (some ⟨V.P.length,0,none⟩) n c):=by
 refine .ref _ _ _ _ _ _ _ _ (by simp) (fun g' es e w _=>Nat.zero_le _) (fun kU e' w' h=>⟨?_,rfl,rfl⟩) fun a0 ha => ?_
 ·simp only[kA,Nat.zero_mul]
 ·cases ha
  refine⟨hS.HD,by simp,fun b' g' kU e' w' hb eT hm => ?_⟩
  have oQ:(V.H++[bU.row 0 es e true])[b']? = some (.row g' kU e' w'):=hb
  have aV:b'<V.H.length:=by
   have:=(List.getElem?_eq_some_iff.1 oQ).1
   simp at this
   omega
  rw[List.getElem?_append_left aV] at oQ
  have h2:=hS.mlt oQ
  simp only[kP (show b'≠V.H.length by omega)] at hm
  omega
theorem SD (hS:SR V lo dS) {es:List VV} {r:List Value} {e:Nat} {p:Bool}:VR { V with m:=Vi V.m V.H.length V.P.length,H:=V.H++[.row 0 es e true],P:=V.P++[.row r e p] } (.ptr V.H.length 0 0 0) (.pointer (some ⟨V.P.length,0,none⟩)):=by
 refine .ptr _ _ _ _ _ (by simp) (fun g' es e w _=>Nat.zero_le _) (fun kU e' w' h => ?_) fun a0 ha => ?_
 ·simp only[kA,Nat.zero_mul]
 ·cases ha
  refine⟨hS.HD,by simp,fun b' g' kU e' w' hb eT hm => ?_⟩
  have oQ:(V.H++[bU.row 0 es e true])[b']? = some (.row g' kU e' w'):=hb
  have aV:b'<V.H.length:=by
   have:=(List.getElem?_eq_some_iff.1 oQ).1
   simp at this
   omega
  rw[List.getElem?_append_left aV] at oQ
  have h2:=hS.mlt oQ
  simp only[kP (show b'≠V.H.length by omega)] at hm
  omega
theorem EB (hS:SR V lo dS) {x v:VV} {u:Value} {size bytes:Nat} {nw:List VV} {pn:List Value} {H':aA} (hx:VR V x u) (hn:∀x∈nw,(aB x).length=size) (sE:(nw.flatMap aB).all bA=true) (hl:VL V (nw.flatMap aB) pn) (h:eH lo size bytes x nw V.H=some (v,H')) :
  fT lo dS V (dV dS size bytes u nw.length pn V.P) v H':=by
 unfold eH at h
 split at h
 case isFalse=>cases h
 rename_i hbs
 have PS:pn.length=nw.length*size:=by rw[hl.length,jD hn]
 unfold dV
 rw[if_pos ⟨hbs.1,hbs.2,hl.fD sE,PS⟩]
 split at h
 ·cases hx with
  | tree es k b o c r e p hF hb ho hc he hk hl=>exact hk.elim
  |
   mU =>
   simp only[and_self,if_true]
   split at h
   ·rename_i h0
    cases h
    rw[if_pos h0]
    exact fT.same hS (.mU _ (.inr rfl))
   ·rename_i h0
    split at h
    case isFalse=>cases h
    rename_i h1
    cases h
    rw[if_neg h0,if_pos h1]
    exact(fT.of (oY hS (es:=nw) (r:=pn) (e:=size) true hn hl) (HE hS) :)
 ·rename_i es e
  split at h
  case isFalse=>cases h
  rename_i JS
  subst JS
  cases hx with
  | mU k hk=>rcases hk with hk | hk<;>cases hk
  |
   tree es k b o c r e' p hF hb ho hc he hk AQ =>
   obtain⟨h1,h2,h3⟩:=hk
   subst h1 h2 h3
   simp only[hb]
   rw[if_pos ⟨trivial,ho⟩]
   split at h
   ·rename_i h0
    cases h
    rw[if_pos (by omega),if_pos h0]
    exact fT.same hS (.tree es _ b o _ r e false hF hb ho hc he ⟨rfl,rfl,rfl⟩ AQ)
   ·rename_i h0
    split at h
    case isFalse=>cases h
    rename_i A0
    cases h
    rw[if_neg (by omega),if_pos A0]
    simp only[Bool.false_eq_true,if_false]
    have mT:∀x∈es++nw,(aB x).length=e:=fun x hx=>by
     rcases List.mem_append.1 hx with h | h
     ·exact he x h
     ·exact hn x h
    exact(fT.of (oY hS (es:=es++nw) (r:=(r.drop o).take (es.length*e)++pn) (e:=e) true mT (by rw[List.flatMap_append];exact AQ.append hl)) (HE hS) :)
 ·rename_i b g o n c
  split at h
  case h_2=>cases h
  rename_i es e hr
  rw[cC] at hr
  split at h
  case isFalse=>cases h
  rename_i hc
  obtain⟨rfl,eJ,hon⟩:=hc
  obtain⟨r,p,h1,h2,h3⟩:=hS.row b g es e true hr
  have yS:=h3.length
  rw[jD h2] at yS
  have CN:=(hS.wr b g es e hr).2 eJ
  cases hx with
  |
   ref b g o n c a n' c' aV hg ha hq =>
   obtain⟨rfl,rfl,rfl⟩:=ha _ _ _ hr
   have hm:(o+n')*e≤es.length*e:=Nat.mul_le_mul_right _ hon
   rw[Nat.add_mul] at hm
   simp only[h1]
   rw[if_pos ⟨trivial,by omega⟩]
   split at h
   ·rename_i hnc
    rw[if_pos hnc]
    split at h
    ·rename_i h0
     cases h
     rw[if_pos h0]
     exact fT.same hS (.ref _ _ _ _ _ _ _ _ aV hg ha hq)
    ·rename_i h0
     split at h
     case isFalse=>cases h
     rename_i qK
     cases h
     rw[if_neg h0]
     have Yx:(o+n'+nw.length)*e≤es.length*e:=Nat.mul_le_mul_right _ qK
     rw[Nat.add_mul,Nat.add_mul] at Yx
     have mT:∀x∈cN es (o+n') nw,(aB x).length=e:=fun x hx=>by
      rcases GH hx with h | h
      ·exact h2 x h
      ·exact hn x h
     have DP:VL V ((cN es (o+n') nw).flatMap aB) (gS r (o*e+n'*e) pn):=by
      rw[←tD h2 hn,Nat.add_mul]
      exact h3.gS hl _
     obtain⟨g1,g2⟩:=Bg hS hr eJ mT DP h1
     refine⟨.slice (some ⟨V.m b,o*e,none⟩) (n'+nw.length) c',{ V with H:=V.H.set b (.row g (cN es (o+n') nw) e true),P:=V.P.set (V.m b) (.row (gS r (o*e+n'*e) pn) e p) },?_,rfl,g1,g2,?_⟩
     ·unfold aD.write
      simp only[h1]
      rw[if_pos ⟨CN,by omega,hl.fD sE⟩]
      rfl
     ·refine .ref _ _ _ _ _ _ _ _ (by simpa using aV) (fun g' kU e' w' DN => ?_) (fun kU e' w' DN => ?_) fun a0 h=>by cases h;exact g2.toUp.hq (hq _ rfl)
      ·rcases fP aV DN with⟨_,h⟩ | ⟨h,_⟩
       ·cases h;exact Nat.le_refl _
       ·exact absurd rfl h
      ·rcases fP aV DN with⟨_,h⟩ | ⟨h,_⟩
       ·cases h;exact⟨rfl,rfl,rfl⟩
       ·exact absurd rfl h
   ·rename_i hnc
    split at h
    case isFalse=>cases h
    rename_i A0
    cases h
    rw[if_neg hnc,if_pos A0]
    have mT:∀x∈(es.drop o).take n'++nw,(aB x).length=e:=fun x hx=>by
     rcases List.mem_append.1 hx with h | h
     ·exact h2 x (List.mem_of_mem_drop (List.mem_of_mem_take h))
     ·exact hn x h
    have DP:VL V (((es.drop o).take n'++nw).flatMap aB) ((r.drop (o*e)).take (n'*e)++pn):=by
     rw[List.flatMap_append]
     refine VL.append ?_ hl
     have h4:=(h3.drop (o*e)).take (n'*e)
     rw[qO h2,rD (fun x hx=>h2 x (List.mem_of_mem_drop hx))] at h4
     exact h4
    have fin:∀P1:aD,P1.length=V.P.length→(∀q,q≠V.m b→P1[q]? = V.P[q]?) →
      fT lo dS V (some (.slice (some ⟨V.P.length,0,none⟩) (n'+nw.length) (n'+nw.length),P1++[.row ((r.drop (o*e)).take (n'*e)++pn) e true])) (.ref b (g+1) 0 (n'+nw.length) (n'+nw.length)) (V.H.set b (.row (g+1) ((es.drop o).take n'++nw) e true)):=by
     intro P1 hP hk
     refine(fT.of (QC hS hr eJ mT DP hP hk true) ?_ :)
     refine .ref _ _ _ _ _ _ _ _ (by simpa using aV) (fun g' kU e' w' DN => ?_) (fun kU e' w' DN => ?_) fun a0 h => ?_
     ·rcases fP aV DN with⟨_,h⟩ | ⟨h,_⟩
      ·cases h;exact Nat.le_refl _
      ·exact absurd rfl h
     ·rcases fP aV DN with⟨_,h⟩ | ⟨h,_⟩
      ·cases h;exact⟨by simp only[kA,Nat.zero_mul],rfl,rfl⟩
      ·exact absurd rfl h
     ·cases h
      refine⟨hS.HD,by simp[hP],fun b' g' kU e' w' hb eT hm => ?_⟩
      rcases fP aV hb with⟨h,_⟩ | ⟨_,h⟩
      ·exact eT h
      ·simp only[kP eT] at hm
       have:=hS.mlt h
       omega
    cases p with
    |
     true =>
     simp only[if_true,CN]
     exact fin (V.P.set (V.m b) .dead) (by simp) fun q hq=>List.getElem?_set_ne (Ne.symm hq)
    |
     false =>
     simp only[Bool.false_eq_true,if_false]
     exact fin V.P rfl fun _ _=>rfl
 ·cases h
theorem NF (hS:SR V lo dS) {p v:VV} {u w:Value} {size:Nat} {H':aA} (hp:VR V p u) (hv:VR V v w) (h:bY lo size p v V.H=some H'):fT lo dS V (Dz dS size u w V.P) nN H':=by
 unfold bY at h
 split at h
 case h_2=>cases h
 rename_i b g j o
 split at h
 case h_2=>cases h
 rename_i es e hr
 rw[cC] at hr
 split at h
 case h_2=>cases h
 rename_i x hx
 split at h
 case isFalse=>cases h
 rename_i hc
 obtain⟨A0,eJ,sE⟩:=hc
 obtain⟨r,q,h1,h2,h3⟩:=hS.row b g es e true hr
 have yS:=h3.length
 rw[jD h2] at yS
 have CN:=(hS.wr b g es e hr).2 eJ
 have hj:=(List.getElem?_eq_some_iff.1 hx).1
 have hxe:=h2 x (List.mem_of_getElem? hx)
 have hm:(j+1)*e≤es.length*e:=Nat.mul_le_mul_right _ hj
 rw[Nat.succ_mul] at hm
 have mN:=hv.cells (QP sE)
 have hwl:(aJ w).length=size:=by rw[mN.length,A0]
 cases hp with
 |
  ptr b g j off a aV hg ha hq =>
  have:=ha _ _ _ hr
  subst this
  have fin:∀y:VV,(aB y).length=e→o+size≤e→aB y=cN (aB x) o (aB v)→H'=V.H.set b (.row g (es.set j y) e true)→fT lo dS V (Dz dS size (.pointer (some ⟨V.m b,j*e+o,none⟩)) w V.P) nN H':=by
   intro y hy ho hye hH
   subst hH
   have mT:∀z∈es.set j y,(aB z).length=e:=fun z hz=>by
    rcases List.mem_or_eq_of_mem_set hz with h | h
    ·exact h2 z h
    ·subst h;exact hy
   have DP:VL V ((es.set j y).flatMap aB) (gS r (j*e+o) (aJ w)):=by
    have e1:(es.set j y).flatMap aB=cN (es.flatMap aB) (j*e+o) (aB v):=by
     rw[←Gj hj,←tD h2 (new:=[y]) (fun z hz=>by rw[List.mem_singleton] at hz;subst hz;exact hy)]
     simp only[List.flatMap_cons,List.flatMap_nil,List.append_nil]
     rw[hye]
     have hx2:=HQ h2 hx
     unfold cN
     have t1:(es.flatMap aB).take (j*e+o)=(es.flatMap aB).take (j*e)++(aB x).take o:=by
      rw[List.take_add,←hx2,List.take_take,Nat.min_eq_left (by omega)]
     have t2:(es.flatMap aB).drop (j*e+o+(aB v).length)=(aB x).drop (o+(aB v).length)++(es.flatMap aB).drop (j*e+e):=by
      have t0:(es.flatMap aB).drop (j*e+e)=((es.flatMap aB).drop (j*e+(o+(aB v).length))).drop (e-(o+(aB v).length)):=by
       rw[List.drop_drop]
       congr 1
       omega
      rw[←hx2,List.drop_take,List.drop_drop,t0,List.take_append_drop,Nat.add_assoc]
     rw[t1,t2]
     have t3:(List.take o (aB x)++aB v++List.drop (o+(aB v).length) (aB x)).length=e:=by
      simp;omega
     rw[t3]
     simp only[List.append_assoc]
    rw[e1]
    exact h3.gS mN _
   obtain⟨g1,g2⟩:=Bg hS hr eJ mT DP h1
   refine⟨undef,{ V with H:=V.H.set b (.row g (es.set j y) e true),P:=V.P.set (V.m b) (.row (gS r (j*e+o) (aJ w)) e q) },?_,rfl,g1,g2,.dQ [] [] .nil⟩
   unfold Dz
   simp only[hwl,if_true]
   unfold aD.write
   simp only[h1]
   rw[if_pos ⟨CN,by omega,mN.fD sE⟩]
   rfl
  split at h
  ·rename_i ho
   obtain⟨rfl,rfl⟩:=ho
   cases h
   refine fin v A0 (by omega) ?_ rfl
   unfold cN
   rw[Nat.zero_add,List.take_zero,List.nil_append,List.drop_of_length_le (by omega),List.append_nil]
  ·split at h
   case isFalse=>cases h
   rename_i ho
   cases h
   have Qg:(cN (aB x) o (aB v)).length=e:=by rw[Px (by omega)];exact hxe
   exact fin (.agg (cN (aB x) o (aB v))) Qg (by omega) rfl rfl
theorem BO {z:List Value} (hz:(z.map iJ).all bA=true):(aB (elemOf (z.map iJ))).length=z.length:=by
 rw[lH hz,List.length_map]
theorem zZ {z:List Value} (hz:(z.map iJ).all bA=true):∀n,VL V ((List.replicate n (elemOf (z.map iJ))).flatMap aB) (cQ n z):=by
 intro n
 have sE:z.all fD=true:=(VL.zero (V:=V) z).fD hz
 have Yv:cQ n z=(List.replicate n ()).flatMap fun _=>z:=by
  rcases Nat.eq_zero_or_pos z.length with h0 | iU
  ·have:z=[]:=List.length_eq_zero_iff.1 h0
   subst this
   simp[cQ]
  ·exact N2 (enc:=fun(_:Unit)=>z) (jA:=z.length) (x:=()) ⟨fun _=>rfl,fun _=>sE,iU⟩
 rw[Yv]
 clear Yv
 induction n with
 | zero=>exact .nil
 |
  succ n ih =>
  rw[List.replicate_succ,List.replicate_succ,List.flatMap_cons,List.flatMap_cons,lH hz]
  exact(VL.zero z).append ih
theorem Q4 (hS:SR V lo dS) {z:List Value} {bytes:Nat} {l c v:VV} {u w:Value} {H':aA} (hz:(z.map iJ).all bA=true) (hl:VR V l u) (hc:VR V c w) (h:yG z bytes l c V.H=some (v,H')):fT lo dS V (Sa z bytes u w V.P) v H':=by
 unfold yG at h
 split at h
 case h_2=>cases h
 obtain⟨rfl,_⟩:=oT hl rfl
 obtain⟨rfl,_⟩:=oT hc rfl
 split at h
 case isFalse=>cases h
 rename_i Nf
 cases h
 unfold Sa
 simp only[if_pos Nf]
 exact(fT.of (oY hS (e:=z.length) false (fun x hx=>by rw[List.eq_of_mem_replicate hx];exact BO hz) (zZ hz _)) (HE hS) :)
theorem UD (hS:SR V lo dS) {z:List Value} (hz:(z.map iJ).all bA=true):fT lo dS V (some (.pointer (some ⟨V.P.length,0,none⟩),V.P++[.row z z.length false])) (.ptr V.H.length 0 0 0) (V.H++[.row 0 [elemOf (z.map iJ)] z.length true]):=by
 exact(fT.of (oY hS (es:=[elemOf (z.map iJ)]) (r:=z) (e:=z.length) false (fun x hx=>by rw[List.mem_singleton] at hx;subst hx;exact BO hz) (by simp only[List.flatMap_cons,List.flatMap_nil,List.append_nil,lH hz];exact VL.zero z)) (SD hS) :)
theorem U1 (hS:SR V lo dS) {x v:VV} {u:Value} {H':aA} {bf:Bool} (hx:VR V x u) (hs:(aB x).all bA=true) (h:(if bf=true then some (VV.cY x 0,V.H) else some (VV.ptr V.H.length 0 0 0,V.H++[bU.row 0 [x] (aB x).length true]))=some (v,H')) :
  fT lo dS V (if (aJ u).all fD then some (.pointer (some ⟨V.P.length,0,none⟩),V.P++[.row (aJ u) (aJ u).length false]) else none) v H':=by
 have hc:=hx.cells (QP hs)
 rw[if_pos (hc.fD hs)]
 split at h
 ·cases h
  have g:=Ag hS (.row (aJ u) (aJ u).length false)
  refine(fT.of g ?_ :)
  have hm:=hc.mono g.2.toUp
  refine .cY x 0 V.P.length 0 (aJ u) (aJ u).length false (.inr rfl) (by simp) (by rw[hc.length];omega) ?_
  rw[List.drop_zero,List.take_of_length_le (by rw[hc.length];exact Nat.le_refl _)]
  exact hm
 ·cases h
  rw[hc.length]
  exact(fT.of (oY hS (es:=[x]) (r:=aJ u) (e:=(aB x).length) false (fun y hy=>by rw[List.mem_singleton] at hy;subst hy;rfl) (by simpa using hc)) (SD hS) :)
theorem take_set {α:Type} {l:List α} {i:Nat} {x:α} (h:i<l.length):l.set i x=l.take i++x::l.drop (i+1):=by
 rw[List.set_eq_take_append_cons_drop,if_pos h]
inductive QJ (V:View):List (Nat×VV)→List (Nat×Value)→Prop
 | nil:QJ V [] []
 | cons {i:Nat} {x:VV} {v:Value} {xs:List (Nat×VV)} {vs:List (Nat×Value)} (h:VR V x v) (hs:QJ V xs vs):QJ V ((i,x)::xs) ((i,v)::vs)
theorem CD {e n:Nat}:∀ {parts:List (Nat×VV)} {xN:List (Nat×Value)} {es kU:List VV} {r:List Value},es.length=n→(∀x∈es,(aB x).length=e)→VL V (es.flatMap aB) r →
  QJ V parts xN→sZ e es parts=some kU→kU.length=n∧(∀x∈kU,(aB x).length=e)∧∃r',sU ((List.range n).map fun i=>(i*e,e)) r xN=some r'∧VL V (kU.flatMap aB) r'
 |
  [],_,es,kU,r,hn,he,hl,.nil,h=>by
  cases h
  exact⟨hn,he,r,rfl,hl⟩
 |
  (i,v)::parts,(_,w)::xN,es,kU,r,hn,he,hl,.cons hv hps,h=>by
  unfold sZ at h
  split at h
  case isFalse=>cases h
  rename_i hc
  obtain⟨hi,hve,sE⟩:=hc
  have mN:=hv.cells (QP sE)
  have hwl:(aJ w).length=e:=by rw[mN.length,hve]
  have yS:=hl.length
  rw[jD he] at yS
  have hm:(i+1)*e≤es.length*e:=Nat.mul_le_mul_right _ hi
  rw[Nat.succ_mul] at hm
  have mT:∀x∈es.set i v,(aB x).length=e:=fun x hx=>by
   rcases List.mem_or_eq_of_mem_set hx with h | h
   ·exact he x h
   ·subst h;exact hve
  have DP:VL V ((es.set i v).flatMap aB) (r.take (i*e)++aJ w++r.drop (i*e+e)):=by
   have h1:=hl.gS mN (i*e)
   have h2:=tD he (new:=[v]) (fun z hz=>by rw[List.mem_singleton] at hz;subst hz;exact hve) i
   simp only[List.flatMap_cons,List.flatMap_nil,List.append_nil] at h2
   rw[h2,Gj hi] at h1
   unfold gS at h1
   rw[hwl] at h1
   exact h1
  obtain⟨g1,g2,r',g3,g4⟩:=CD (n:=n) (by rw[List.length_set];exact hn) mT DP hps h
  refine⟨g1,g2,r',?_,g4⟩
  unfold sU
  have hr:((List.range n).map fun i=>(i*e,e))[i]? = some (i*e,e):=by simp[List.getElem?_range (show i<n by omega)]
  simp only[hr]
  rw[if_pos ⟨hwl,by omega⟩]
  exact g3
theorem FG (hE:ER V ρ jB):∀parts:List (Nat×Operand),QJ V (parts.map fun(i,x)=>(i,dU ρ x)) (parts.map fun(i,x)=>(i,ev jB x))
 | [] => .nil
 | (i,x)::parts => .cons (hE.ev x) (FG hE parts)
theorem Eb {e:Nat}:∀ {parts:List (Nat×VV)} {es kU:List VV},(es.all fun x=>(aB x).all bA)=true→sZ e es parts=some kU→(kU.all fun x=>(aB x).all bA)=true
 | [],es,kU,h,hf=>by cases hf;exact h
 |
  (i,v)::parts,es,kU,h,hf=>by
  unfold sZ at hf
  split at hf
  case isFalse=>cases hf
  rename_i hc
  refine Eb ?_ hf
  rw[List.all_eq_true] at h ⊢
  intro x hx
  rcases List.mem_or_eq_of_mem_set hx with h1 | h1
  ·exact h x h1
  ·subst h1;exact hc.2.2
theorem Ts (hS:SR V lo dS) {lr:Bool} {z:List Value} {n:Nat} {parts:List (Nat×VV)} {xN:List (Nat×Value)} {v:VV} {H':aA} (hp:QJ V parts xN) (h:jM lr z n parts V.H=some (v,H')):fT lo dS V (Z0 z n xN V.P) v H':=by
 unfold jM at h
 split at h
 case h_2=>cases h
 rename_i es JS
 split at h
 case isFalse=>cases h
 rename_i hz
 obtain⟨g1,g2,r',g3,g4⟩:=CD (V:=V) (n:=n) (by simp) (fun x hx=>by rw[List.eq_of_mem_replicate hx];exact BO hz) (zZ hz n) hp JS
 have sE:=Eb (by
  rw[List.all_eq_true]
  intro x hx
  rw[List.eq_of_mem_replicate hx,lH hz]
  exact hz) JS
 unfold Z0
 simp only[g3]
 rw[if_pos (g4.fD (xS sE))]
 split at h
 ·cases h
  exact(fT.of (oY hS (e:=z.length) false g2 g4) (HE hS) :)
 ·cases h
  have k:=Ag hS (.row r' z.length false)
  refine(fT.of k ?_ :)
  have hm:=g4.mono k.2.toUp
  have yS:=g4.length
  rw[jD g2] at yS
  subst g1
  refine .tree es _ V.P.length 0 es.length r' z.length false (.inr rfl) (by simp) (by omega) (Nat.le_refl _) g2 ⟨rfl,rfl,rfl⟩ ?_
  rw[List.drop_zero,List.take_of_length_le (by omega)]
  exact hm
theorem Kn (hS:SR V lo dS) {b g e o:Nat} {es nw:List VV} {pn:List Value} (hr:V.H[b]? = some (.row g es e true)) (eJ:lo≤b) (qK:o+nw.length≤es.length) (hn:∀x∈nw,(aB x).length=e) (sE:(nw.flatMap aB).all bA=true) (hl:VL V (nw.flatMap aB) pn) :
  ∃V',V.P.write dS (V.m b) (o*e) pn=some V'.P∧V'.H=V.H.set b (.row g (cN es o nw) e true)∧SR V' lo dS∧CJ lo V V':=by
 obtain⟨r,q,h1,h2,h3⟩:=hS.row b g es e true hr
 have yS:=h3.length
 rw[jD h2] at yS
 have CN:=(hS.wr b g es e hr).2 eJ
 have PS:=hl.length
 rw[jD hn] at PS
 have hm:(o+nw.length)*e≤es.length*e:=Nat.mul_le_mul_right _ qK
 rw[Nat.add_mul] at hm
 have mT:∀x∈cN es o nw,(aB x).length=e:=fun x hx=>by
  rcases GH hx with h | h
  ·exact h2 x h
  ·exact hn x h
 have DP:VL V ((cN es o nw).flatMap aB) (gS r (o*e) pn):=by
  rw[←tD h2 hn]
  exact h3.gS hl _
 obtain⟨g1,g2⟩:=Bg hS hr eJ mT DP h1
 refine⟨{ V with H:=V.H.set b (.row g (cN es o nw) e true),P:=V.P.set (V.m b) (.row (gS r (o*e) pn) e q) },?_,rfl,g1,g2⟩
 unfold aD.write
 simp only[h1]
 rw[if_pos ⟨CN,by omega,hl.fD sE⟩]
theorem Qo (hS:SR V lo dS) {x y v:VV} {u w:Value} {size:Nat} {H':aA} (hx:VR V x u) (hy:VR V y w) (h:Ge lo size x y V.H=some (v,H')):fT lo dS V (copyV dS size u w V.P) v H':=by
 unfold Ge at h
 split at h
 ·rename_i new hs
  obtain⟨h1,_⟩:=sX hS hy hs
  cases h
  cases hx with
  | tree es k b o c r e p hF hb ho hc he hk hl=>exact hk.elim
  |
   mU =>
   unfold copyV
   simp only[h1]
   exact fT.same hS (.sc _ rfl)
 ·rename_i b g o d c new hs
  obtain⟨h1,h2,h3,h4⟩:=sX hS hy hs
  split at h
  case h_2=>cases h
  rename_i es e hr
  rw[cC] at hr
  split at h
  case isFalse=>cases h
  rename_i hc
  obtain⟨rfl,eJ,qK⟩:=hc
  cases h
  cases hx with
  |
   ref b g o n c a n' c' aV hg ha hq =>
   obtain⟨rfl,rfl,rfl⟩:=ha _ _ _ hr
   have ZH:(new.take n').length=Nat.min new.length n':=by rw[List.length_take];exact Nat.min_comm _ _
   obtain⟨pn,h5,h6⟩:=h4 (Nat.min new.length n') (Nat.min_le_left _ _)
   have ht:new.take (Nat.min new.length n')=new.take n':=by
    rw[←ZH,List.length_take,←List.take_take,List.take_length]
   rw[ht] at h6
   have Il:∀x∈new.take n',(aB x).length=e:=fun x hx=>h2 x (List.mem_of_mem_take hx)
   have sE:((new.take n').flatMap aB).all bA=true:=by
    rw[List.all_eq_true] at h3 ⊢
    intro x hx
    obtain⟨y,hy,yM⟩:=List.mem_flatMap.1 hx
    exact h3 x (List.mem_flatMap.2 ⟨y,List.mem_of_mem_take hy,yM⟩)
   obtain⟨V',k1,k2,k3,k4⟩:=Kn hS hr eJ qK Il sE h6
   refine⟨.int .i64 (Nat.min new.length n'),V',?_,k2,k3,k4,?_⟩
   ·unfold copyV
    simp only[h1,h5,k1]
    rfl
   ·rw[ZH]
    exact .sc _ rfl
 ·cases h
theorem NM (hS:SR V lo dS) {x:VV} {u:Value} {z:List Value} {H':aA} (hx:VR V x u) (h:My lo z x V.H=some H'):fT lo dS V (Mf dS z u V.P) nN H':=by
 unfold My at h
 split at h
 case h_2=>cases h
 rename_i b g o n c
 split at h
 case h_2=>cases h
 rename_i es e hr
 rw[cC] at hr
 cases hx with
 |
  ref b g o n c a n' c' aV hg ha hq =>
  obtain⟨rfl,rfl,rfl⟩:=ha _ _ _ hr
  unfold Mf
  simp only
  split at h
  ·rename_i h0
   cases h
   rw[if_pos h0]
   exact fT.same hS (.dQ [] [] .nil)
  ·rename_i h0
   rw[if_neg h0]
   split at h
   case isFalse=>cases h
   rename_i hc
   obtain⟨rfl,eJ,qK,hz⟩:=hc
   cases h
   have Il:∀x∈List.replicate n' (elemOf (z.map iJ)),(aB x).length=z.length:=fun x hx=>by rw[List.eq_of_mem_replicate hx];exact BO hz
   obtain⟨V',k1,k2,k3,k4⟩:=Kn hS hr eJ (nw:=List.replicate n' (elemOf (z.map iJ))) (by simpa using qK) Il (xS (by
    rw[List.all_eq_true]
    intro x hx
    rw[List.eq_of_mem_replicate hx,lH hz]
    exact hz)) (zZ hz n')
   refine⟨undef,V',?_,k2,k3,k4,.dQ [] [] .nil⟩
   rw[k1]
   rfl
end
end Go.PM
namespace Go.PM
section
variable {V:View} {lo dS:Nat} {ρ:dJ} {jB:Env}
theorem Pa {x v:VV} {u:Value} {neg:Bool} (hx:VR V x u) (h:Dj neg x V.H=some v):∃w,Yf neg u=some w∧VR V v w:=by
 unfold Dj at h
 split at h
 ·cases h
  cases hx with
  | tree es k b o c r e p hF hb ho hc he hk hl=>exact hk.elim
  | mU=>exact⟨_,rfl,.sc _ rfl⟩
 ·cases h
  cases hx with
  | mU k hk=>rcases hk with hk | hk<;>cases hk
  | tree=>exact⟨_,rfl,.sc _ rfl⟩
 ·cases h
  cases hx with
  | tree=>exact⟨_,rfl,.sc _ rfl⟩
 ·obtain⟨⟨es,e,w⟩,hr,rfl⟩:=cD h
  rw[cC] at hr
  cases hx with
  |
   ref b g o n c a n' c' aV hg ha hq =>
   obtain⟨rfl,rfl,rfl⟩:=ha _ _ _ hr
   exact⟨_,rfl,.sc _ rfl⟩
 ·cases h
theorem Uu {x v:VV} {u:Value} (hx:VR V x u) (h:nP x V.H=some v):∃w,acC u=some w∧VR V v w:=by
 unfold nP at h
 split at h
 ·cases h
  cases hx<;>exact⟨_,rfl,.sc _ rfl⟩
 ·obtain⟨⟨es,e,w⟩,hr,rfl⟩:=cD h
  rw[cC] at hr
  cases hx with
  |
   ref b g o n c a n' c' aV hg ha hq =>
   obtain⟨rfl,rfl,rfl⟩:=ha _ _ _ hr
   exact⟨_,rfl,.sc _ rfl⟩
 ·cases h
theorem Nw {x v:VV} {u:Value} {off:Nat} (hx:VR V x u) (h:Fq off x V.H=some v):∃w,Ye off u=some w∧VR V v w:=by
 unfold Fq at h
 split at h
 ·cases h
  cases hx with
  | cY x off b o r e p hF hb ho hl=>exact⟨_,rfl,by rw[Nat.add_assoc];exact .cY _ _ b o r e p hF hb ho hl⟩
 ·obtain⟨⟨es,e,w⟩,hr,rfl⟩:=cD h
  rw[cC] at hr
  cases hx with
  |
   ptr b g j off a aV hg ha hq =>
   have:=ha _ _ _ hr
   subst this
   refine⟨_,rfl,.ptr _ _ _ _ _ aV hg (fun kU e' w' DN => ?_) fun a0 h=>by cases h;have:=hq _ rfl;exact this⟩
   rw[hr] at DN
   cases DN
   rw[Nat.add_assoc]
 ·cases h
theorem To {x v:VV} {u:Value} (hx:VR V x u) (h:T6 x V.H=some v):∃w,akO u=some w∧VR V v w:=by
 unfold T6 at h
 split at h
 ·cases h
  cases hx with
  | cY x off b o r e p hF hb ho hl=>exact⟨_,rfl,.cY _ _ b o r e p hF hb ho hl⟩
 ·obtain⟨⟨es,e,w⟩,hr,rfl⟩:=cD h
  rw[cC] at hr
  cases hx with
  |
   ptr b g j off a aV hg ha hq =>
   have:=ha _ _ _ hr
   subst this
   exact⟨_,rfl,.ptr _ _ _ _ _ aV hg ha hq⟩
 ·cases h
theorem Rv {c a b v:VV} {u x y:Value} (hc:VR V c u) (ha:VR V a x) (hb:VR V b y) (h:Oz c a b=some v):∃t,u = .bool t∧VR V v (if t then x else y):=by
 unfold Oz at h
 split at h
 ·rename_i t
  cases h
  obtain⟨rfl,_⟩:=oT hc rfl
  refine⟨t,rfl,?_⟩
  cases t
  ·exact hb
  ·exact ha
 ·cases h
theorem Tv {x v:VV} {u:Value} {i:Nat} (hx:VR V x u) (h:Xo i x=some v):∃w,aeO i u=some w∧VR V v w:=by
 unfold Xo at h
 split at h
 ·cases hx with
  |
   dQ cs ps hl =>
   obtain⟨w,hw,hv⟩:=hl.get h
   exact⟨w,by simpa[aeO] using hw,hv⟩
 ·cases h
theorem Ur {x v:VV} {u:Value} {agg:Bool} {off size:Nat} (hx:VR V x u) (h:Za agg off size x=some v):∃w,YP agg off size u=some w∧VR V v w:=by
 unfold Za at h
 split at h
 ·rename_i cs
  cases hx with
  |
   agg cs ps hl =>
   split at h
   ·rename_i ha
    split at h
    ·rename_i hs
     cases h
     refine⟨.agg ((ps.drop off).take size).toArray,?_,.agg _ _ ((hl.drop off).take size)⟩
     unfold YP
     simp only[ha,if_true]
     rw[if_pos (by simpa[hl.length] using hs)]
     congr 2
     apply Array.ext'
     simp[List.extract_eq_take_drop]
    ·cases h
   ·rename_i ha
    obtain⟨w,hw,hv⟩:=hl.get h
    refine⟨w,?_,hv⟩
    unfold YP
    simp only[ha]
    simpa using hw
 ·cases h
theorem JV {ks:List CK}:∀ {xs ys:List VV} {us ws:List Value} {t:Bool},VL V xs us→VL V ys ws→nU ks xs ys=some t→nA ks us ws=some t:=by
 induction ks with
 |
  nil =>
  intro xs ys us ws t h1 h2 h
  cases h1 with
  |
   nil=>cases h2 with
   | nil=>exact h
   | cons=>simp[nU] at h
  | cons=>simp[nU] at h
 |
  cons k ks ih =>
  intro xs ys us ws t h1 h2 h
  cases h1 with
  | nil=>simp[nU] at h
  |
   cons x u xs us hx P7=>cases h2 with
   | nil=>cases x<;>simp[nU] at h
   |
    cons y w ys ws hy hys =>
    cases hx with
    |
     sc _ _=>cases hy with
     |
      sc _ _ =>
      simp only[nU] at h
      simp only[nA]
      split at h
      ·rename_i h1
       rw[h1]
       exact ih P7 hys h
      ·rename_i h1
       rw[h1]
       exact h
      ·cases h
     | _=>simp[nU] at h
    | _=>simp[nU] at h
theorem JF {places:List (Nat×Nat)}:∀ {parts:List (Nat×VV)} {xN:List (Nat×Value)} {cs zI:List VV} {r:List Value},VL V cs r→QJ V parts xN→tZ places cs parts=some zI →
  ∃r',sU places r xN=some r'∧VL V zI r'
 | [],_,cs,zI,r,hl,.nil,h=>by cases h;exact⟨r,rfl,hl⟩
 |
  (i,v)::parts,(_,w)::xN,cs,zI,r,hl,.cons hv hps,h=>by
  unfold tZ at h
  unfold sU
  split at h
  ·cases h
  ·rename_i off size PS
   simp only[PS]
   split at h
   case isFalse=>cases h
   rename_i hc
   have mN:=hv.cells (fun e=>by subst e;cases hc.2.2)
   rw[if_pos ⟨by rw[mN.length];exact hc.1,by rw[hl.length];exact hc.2.1⟩]
   exact JF (((hl.take off).append mN).append (hl.drop _)) hps h
theorem GL:∀ {es:List VV} {r:List Value} {bs:List UInt8},VL V (es.flatMap aB) r→F6 es=some bs→rE r=some bs
 | [],_,bs,.nil,h=>h
 |
  x::es,r,bs,hl,h=>by
  unfold F6 at h
  split at h
  ·rename_i e;cases e
  ·rename_i n r' e
   cases e
   obtain⟨t,ht,rfl⟩:=cD h
   rw[List.flatMap_cons] at hl
   cases hl with
   |
    cons _ u _ us hu hus =>
    obtain⟨rfl,_⟩:=oT hu rfl
    unfold rE
    rw[GL hus ht]
    rfl
  ·cases h
theorem lift {r:Option VV} {v:VV} {H':aA} {s:Option (Value×aD)} (h:r.map (·,V.H)=some (v,H')) (k:r=some v→fT lo dS V s v V.H):fT lo dS V s v H':=by
 obtain⟨a,ha,he⟩:=cD h
 cases he
 exact k ha
theorem Uz (hS:SR V lo dS) (hE:ER V ρ jB) {fl:Fl} {o:lL} {v:VV} {H':aA} {q:Bool} (h:vop fl lo o ρ V.H=some (v,H')):fT lo dS V (iT dS q o jB V.P) v H':=by
 cases o<;>simp only[vop] at h
 case mv x=>cases h;rw[ZR];exact fT.same hS (hE.ev x)
 case pick c a b =>
  refine lift h fun h => ?_
  obtain⟨t,ht,hv⟩:=Rv (hE.ev c) (hE.ev a) (hE.ev b) h
  rw[TV,ht]
  exact fT.same hS hv
 case bin op x y=>rw[XI];exact lift h fun h=>xR (f:=dB op) hS (fun _ _ _=>Yu) (hE.ev x) (hE.ev y) h
 case eqb neg x y=>rw[XO];exact lift h fun h=>xR (f:=PB neg) hS (fun _ _ _=>W1) (hE.ev x) (hE.ev y) h
 case isnil neg x =>
  rw[PZ]
  refine lift h fun h => ?_
  obtain⟨w,h1,h2⟩:=Pa (hE.ev x) h
  exact fT.pure hS h1 h2
 case eqagg neg ks x y =>
  rw[Rw]
  refine lift h fun h => ?_
  unfold QL at h
  split at h
  case h_2=>cases h
  rename_i a b hx hy
  obtain⟨t,ht,rfl⟩:=cD h
  have h1:=hE.ev x
  have h2:=hE.ev y
  rw[hx] at h1
  rw[hy] at h2
  generalize ev jB x=u at h1 ⊢
  generalize ev jB y=w at h2 ⊢
  cases h1 with
  |
   agg cs ps h1=>cases h2 with
   |
    agg zI ps' h2 =>
    refine fT.pure hS (pv := .bool (t != neg)) ?_ (.sc _ rfl)
    unfold Vz
    simp only
    rw[JV h1 h2 ht]
    rfl
 case un op x=>rw[Zi];exact lift h fun h=>BU (f:=VD op) hS (fun _ _=>YV) (hE.ev x) h
 case cvt k x=>rw[W0];exact lift h fun h=>BU (f:=Qi k) hS (fun _ _=>Xu) (hE.ev x) h
 case cvs x =>
  have e:iT dS q (.cvs x) jB V.P=(TN (ev jB x)).map (·,V.P):=dG rfl
  rw[e];exact lift h fun h=>BU (f:=TN) hS (fun _ _=>WR) (hE.ev x) h
 case ext x i =>
  rw[W7]
  refine lift h fun h => ?_
  obtain⟨w,h1,h2⟩:=Tv (hE.ev x) h
  exact fT.pure hS h1 h2
 case fld agg off size x =>
  rw[WD]
  refine lift h fun h => ?_
  obtain⟨w,h1,h2⟩:=Ur (hE.ev x) h
  exact fT.pure hS h1 h2
 case build zero places parts =>
  obtain⟨cs,TB,he⟩:=cD h
  cases he
  obtain⟨r,h1,h2⟩:=JF (VL.zero zero) (FG hE parts) TB
  rw[Rn,h1]
  exact fT.same hS (.agg _ _ h2)
 case chk x =>
  rw[XB]
  refine lift h fun h => ?_
  obtain⟨w,h1,h2⟩:=To (hE.ev x) h
  exact fT.pure hS h1 h2
 case faddr off x =>
  rw[Qf]
  refine lift h fun h => ?_
  obtain⟨w,h1,h2⟩:=Nw (hE.ev x) h
  exact fT.pure hS h1 h2
 case iaddr size x i =>
  rw[Rt]
  refine lift h fun h => ?_
  obtain⟨w,h1,h2⟩:=OI hS (hE.ev x) (hE.ev i) h
  exact fT.pure hS h1 h2
 case sidx x i =>
  have e:iT dS q (.sidx x i) jB V.P=(E6 (ev jB x) (ev jB i)).map (·,V.P):=dG rfl
  rw[e];exact lift h fun h=>xR (f:=E6) hS (fun _ _ _=>TO) (hE.ev x) (hE.ev i) h
 case ssub x l h' =>
  refine lift h fun h => ?_
  unfold rO at h
  split at h
  case h_2=>cases h
  rename_i s lv hv hx h1 h2
  split at h
  case h_2=>cases h
  rename_i a b HN
  cases h
  obtain⟨e1,_⟩:=oT (hE.ev x) hx
  have e:iT dS q (.ssub x l h') jB V.P=some (.string (s.extract a b),V.P):=by
   rw[dG rfl]
   simp only[gR,e1]
   rw[yK hE h1,yK hE h2,HN]
   rfl
  rw[e]
  exact fT.same hS (.sc _ rfl)
 case mkfn f fC =>
  cases h
  rw[Uf]
  exact fT.same hS (.sC _ _ _ (hE.evs fC))
 case len x =>
  rw[XQ]
  refine lift h fun h => ?_
  obtain⟨w,h1,h2⟩:=Uu (hE.ev x) h
  exact fT.pure hS h1 h2
 case slen x =>
  have e:iT dS q (.slen x) jB V.P=(wK (ev jB x)).map (·,V.P):=dG rfl
  rw[e];exact lift h fun h=>BU (f:=wK) hS (fun _ _=>Tp) (hE.ev x) h
 case min x y=>rw[VM];exact lift h fun h=>xR (f:=O7) hS (fun _ _ _=>Xc) (hE.ev x) (hE.ev y) h
 case max x y=>rw[VO];exact lift h fun h=>xR (f:=Nh) hS (fun _ _ _=>X7) (hE.ev x) (hE.ev y) h
 case load agg size p =>
  rw[UN]
  refine lift h fun h => ?_
  obtain⟨w,h1,h2⟩:=IB hS (hE.ev p) h
  exact fT.pure hS h1 h2
 case sub size x l hh m =>
  rw[WG]
  exact lift h fun h=>Ug hS hE (hE.ev x) h
 case b2s x =>
  split at h
  ·cases h
  rename_i y eT
  split at h
  case h_2=>cases h
  rename_i es JS
  obtain⟨bs,hbs,he⟩:=cD h
  cases he
  obtain⟨h1,h2,h3,h4⟩:=sX hS (hE.ev x) JS
  obtain⟨pn,h5,h6⟩:=h4 es.length (Nat.le_refl _)
  rw[List.take_length] at h6
  have hb:=GL h6 hbs
  have hx:=hE.ev x
  have e:iT dS q (.b2s x) jB V.P=some (.string ⟨bs.toArray⟩,V.P):=by
   apply mY
   simp only[pop]
   generalize ev jB x=u at *
   cases u<;>first | (exfalso;simp[qD] at h1;done) | skip
   case string s =>
    generalize dU ρ x=y at *
    cases hx with
    | any=>simp[cM] at JS
    | sc _ _=>exact absurd rfl (eT _)
   case slice a n c =>
    injection h1 with h1
    subst h1
    cases a with
    |
     none =>
     simp only[iA] at h5
     split at h5
     ·cases h5
      cases hb
      rfl
     ·cases h5
    |
     some a =>
     obtain⟨b,o,sp⟩:=a
     cases sp with
     | some s=>simp[iA] at h5
     |
      none =>
      simp only[iA,Nat.mul_one] at h5
      simp only[h5,hb]
      rfl
  rw[e]
  exact fT.same hS (.sc _ rfl)
 case new zero =>
  split at h
  case isFalse=>cases h
  rename_i hz
  cases h
  rw[WZ]
  exact UD hS hz
 case box x =>
  split at h
  case isFalse=>cases h
  rename_i hs
  rw[Vw]
  exact U1 hS (hE.ev x) hs h
 case make zero bytes l c =>
  split at h
  case isFalse=>cases h
  rename_i hz
  rw[Tq]
  exact Q4 hS hz (hE.ev l) (hE.ev c) h
 case lit zero n parts =>
  rw[WJ]
  exact Ts hS (FG hE parts) h
 case store size p x =>
  obtain⟨a,ha,he⟩:=cD h
  cases he
  rw[QN]
  exact NF hS (hE.ev p) (hE.ev x) ha
 case app size bytes x y =>
  split at h
  case h_2=>cases h
  rename_i new hn
  obtain⟨h1,h2,h3,h4⟩:=sX hS (hE.ev y) hn
  obtain⟨pn,h5,h6⟩:=h4 new.length (Nat.le_refl _)
  rw[List.take_length] at h6
  rw[XU]
  unfold aeY
  simp only[h1,h5]
  exact EB hS (hE.ev x) h2 h3 h6 h
 case appz zero bytes x n =>
  split at h
  case h_2=>cases h
  rename_i k hk
  split at h
  case isFalse=>cases h
  rename_i hc
  obtain⟨e1,_⟩:=oT (hE.ev n) hk
  have Il:∀x∈List.replicate k.toNat (elemOf (zero.map iJ)),(aB x).length=zero.length:=fun x hx=>by rw[List.eq_of_mem_replicate hx];exact BO hc.2.2
  have:=EB hS (hE.ev x) Il (xS (by
    rw[List.all_eq_true]
    intro x hx
    rw[List.eq_of_mem_replicate hx,lH hc.2.2]
    exact hc.2.2)) (zZ hc.2.2 _) h
  rw[List.length_replicate] at this
  rw[U4]
  unfold XZ
  rw[e1]
  simp only[if_pos (show 0≤k∧k*(bytes:Int)≤140737488355328 from⟨hc.1,hc.2.1⟩)]
  exact this
 case copy size x y =>
  rw[UL]
  exact Qo hS (hE.ev x) (hE.ev y) h
 case clear zero x =>
  obtain⟨a,ha,he⟩:=cD h
  cases he
  rw[QF]
  exact NM hS (hE.ev x) ha
 all_goals cases h
end
end Go.PM
namespace Go.PM
def bare (F:Nat→Prop) (P:aD):View:=⟨fun _=>0,F,[],P,0⟩
theorem yF {es:List VV}:aP es=true↔∀x∈es,aN x=true:=by
 induction es with
 | nil=>simp[aP]
 | cons x xs ih=>simp[aP,ih]
theorem BK {x:VV} (h:aN x=true):aP (aB x)=true:=by
 unfold aB
 split
 ·simpa[aN] using h
 ·simp[aP,h]
theorem IG {es:List VV} (h:aP es=true):aP (es.flatMap aB)=true:=by
 rw[yF] at h ⊢
 intro x hx
 obtain⟨y,hy,yM⟩:=List.mem_flatMap.1 hx
 exact yF.1 (BK (h y hy)) x yM
theorem Fs {es:List VV} {k:TK} (h:aN (.tree es k)=true):k = .op∧aP es=true∧uni es=true:=by
 simp only[aN,Bool.and_eq_true,decide_eq_true_eq] at h
 exact⟨h.1.1,h.1.2,h.2⟩
theorem Gf {x:VV} (h:aN x=true):x ≠ .any:=by
 rintro rfl
 cases h
theorem ZM {es:List VV} (h:uni es=true):∃e,∀x∈es,(aB x).length=e:=by
 cases es with
 | nil=>exact⟨0,fun x hx=>by cases hx⟩
 |
  cons x xs =>
  refine⟨(aB x).length,fun y hy => ?_⟩
  rcases List.mem_cons.1 hy with rfl | hy
  ·rfl
  ·have:=List.all_eq_true.1 h y hy
   simpa using this
section
variable {V V':View}
theorem VR.pure {x:VV} {v:Value} (hF:∀b,V.F b→V'.F b∧V'.P[b]? = V.P[b]?) (h:VR V x v):aN x=true→VR V' x v:=by
 induction h using VR.rec (motive_2:=fun xs vs _=>aP xs=true→VL V' xs vs) with
 | any=>intro hp;cases hp
 | sc _ h=>intro _;exact .sc _ h
 | agg cs ps _ ih=>intro hp;exact .agg _ _ (ih hp)
 | dQ cs ps _ ih=>intro hp;exact .dQ _ _ (ih hp)
 | mU k hk=>intro _;exact .mU k hk
 | tree es k b o c r e p QU hb ho hc he hk _ ih=>intro hp;exact .tree es k b o c r e p (hF _ QU).1 (by rw[(hF _ QU).2];exact hb) ho hc he hk (ih (IG (Fs hp).2.1))
 | cY x off b o r e p QU hb ho _ ih=>intro hp;exact .cY x off b o r e p (hF _ QU).1 (by rw[(hF _ QU).2];exact hb) ho (ih (BK hp))
 | ref=>intro hp;cases hp
 | ptr=>intro hp;cases hp
 | sC f fC ps _ ih=>intro hp;exact .sC _ _ _ (ih hp)
 | nil=>exact .nil
 |
  cons x v xs vs _ _ ih Qj =>
  rename_i hp
  simp only[aP,Bool.and_eq_true] at hp
  exact .cons _ _ _ _ (ih hp.1) (Qj hp.2)
theorem VL.pure {xs:List VV} {vs:List Value} (hF:∀b,V.F b→V'.F b∧V'.P[b]? = V.P[b]?) (h:VL V xs vs) (hp:aP xs=true):VL V' xs vs:=by
 induction xs generalizing vs with
 | nil=>cases h;exact .nil
 |
  cons x xs ih=>cases h with
  |
   cons _ v _ vs h hs =>
   simp only[aP,Bool.and_eq_true] at hp
   exact .cons _ _ _ _ (h.pure hF hp.1) (ih hs hp.2)
theorem VL.flatten {es:List VV} {ps:List Value} (h:VL V es ps) (hp:aP es=true):VL V (es.flatMap aB) (ps.flatMap aJ):=by
 induction es generalizing ps with
 | nil=>cases h;exact .nil
 |
  cons x xs ih =>
  cases h with
  |
   cons _ v _ vs h hs =>
   simp only[aP,Bool.and_eq_true] at hp
   rw[List.flatMap_cons,List.flatMap_cons]
   exact(h.cells (Gf hp.1)).append (ih hs hp.2)
theorem Mz {P P':aD} (h:P <+: P'):∀b,(bare (· < P.length) P).F b→(bare (· < P'.length) P').F b∧(bare (· < P'.length) P').P[b]? = (bare (· < P.length) P).P[b]? := by
 intro b hb
 obtain⟨L,rfl⟩:=h
 have oQ:b<P.length:=hb
 exact⟨by show b<(P++L).length;simp;omega,List.getElem?_append_left oQ⟩
mutual
theorem real (x:VV) (hp:aN x=true) (P:aD):∃P' pv,P <+: P'∧VR (bare (· < P'.length) P') x pv:=by
 cases x with
 | any=>cases hp
 | sc v=>exact⟨P,v,List.prefix_refl _,.sc v hp⟩
 |
  agg cs =>
  obtain⟨P',ps,h1,h2⟩:=Kk cs hp P
  exact⟨P',_,h1,.agg _ _ h2⟩
 |
  dQ cs =>
  obtain⟨P',ps,h1,h2⟩:=Kk cs hp P
  exact⟨P',_,h1,.dQ _ _ h2⟩
 |
  tree es k =>
  obtain⟨rfl,h1,h2⟩:=Fs hp
  obtain⟨P',ps,h3,h4⟩:=Kk es h1 P
  obtain⟨e,he⟩:=ZM h2
  have h5:=h4.flatten h1
  have hl:=h5.length
  rw[jD he] at hl
  have wD:P' <+: P'++[Oy.row (ps.flatMap aJ) e false]:=List.prefix_append _ _
  refine⟨_,.slice (some ⟨P'.length,0,none⟩) es.length es.length,h3.trans wD,?_⟩
  refine .tree es .op P'.length 0 es.length (ps.flatMap aJ) e false (show P'.length<(P'++[Oy.row (ps.flatMap aJ) e false]).length by simp) (by show (P'++[Oy.row (ps.flatMap aJ) e false])[P'.length]? = _;simp) (by omega) (Nat.le_refl _) he trivial ?_
  rw[List.drop_zero,List.take_of_length_le (by omega)]
  exact VL.pure (Mz wD) h5 (IG h1)
 |
  cY x off =>
  obtain⟨P',pv,h3,h4⟩:=real x hp P
  have h5:=h4.cells (Gf hp)
  have wD:P' <+: P'++[Oy.row (aJ pv) (aJ pv).length false]:=List.prefix_append _ _
  refine⟨_,.pointer (some ⟨P'.length,0+off,none⟩),h3.trans wD,?_⟩
  refine .cY x off P'.length 0 (aJ pv) (aJ pv).length false (show P'.length<(P'++[Oy.row (aJ pv) (aJ pv).length false]).length by simp) (by show (P'++[Oy.row (aJ pv) (aJ pv).length false])[P'.length]? = _;simp) (by rw[h5.length];omega) ?_
  rw[List.drop_zero,List.take_of_length_le (by rw[h5.length];exact Nat.le_refl _)]
  exact VL.pure (Mz wD) h5 (BK hp)
 | ref=>cases hp
 | ptr=>cases hp
 |
  sC f fC =>
  obtain⟨P',ps,h1,h2⟩:=Kk fC hp P
  exact⟨P',_,h1,.sC _ _ _ h2⟩
theorem Kk (xs:List VV) (hp:aP xs=true) (P:aD):∃P' ps,P <+: P'∧VL (bare (· < P'.length) P') xs ps:=by
 cases xs with
 | nil=>exact⟨P,[],List.prefix_refl _,.nil⟩
 |
  cons x xs =>
  simp only[aP,Bool.and_eq_true] at hp
  obtain⟨P1,pv,h1,h2⟩:=real x hp.1 P
  obtain⟨P2,ps,h3,h4⟩:=Kk xs hp.2 P1
  exact⟨P2,pv::ps,h1.trans h3,.cons _ _ _ _ (h2.pure (Mz h3) hp.1) h4⟩
end
theorem Jz {es:List VV}:oJ es=true↔∀x∈es,fY x=true:=by
 induction es with
 | nil=>simp[oJ]
 | cons x xs ih=>simp[oJ,ih]
theorem A6 {es:List VV} {k:TK} (h:fY (.tree es k)=true):k = .op∧oJ es=true∧uni es=true∧es.all xG=true:=by
 simp only[fY,Bool.and_eq_true,decide_eq_true_eq] at h
 exact⟨h.1.1.1,h.1.1.2,h.1.2,h.2⟩
theorem QY {x:VV} (h:fY x=true):oJ (aB x)=true:=by
 unfold aB
 split
 ·simpa[fY] using h
 ·simp[oJ,h]
theorem Ks {es:List VV} (h:oJ es=true):oJ (es.flatMap aB)=true:=by
 rw[Jz] at h ⊢
 intro x hx
 obtain⟨y,hy,yM⟩:=List.mem_flatMap.1 hx
 exact Jz.1 (QY (h y hy)) x yM
mutual
theorem Ph (x:VV) (h:fY x=true):aN x=true:=by
 cases x with
 | sc v=>exact h
 | agg cs=>exact Cg cs h
 | dQ cs=>exact Cg cs h
 |
  tree es k =>
  obtain⟨h1,h2,h3,_⟩:=A6 h
  simp[aN,h1,Cg es h2,h3]
 | any=>cases h
 | cY=>cases h
 | ref=>cases h
 | ptr=>cases h
 | sC=>cases h
theorem Cg (xs:List VV) (h:oJ xs=true):aP xs=true:=by
 cases xs with
 | nil=>rfl
 |
  cons x xs =>
  simp only[oJ,Bool.and_eq_true] at h
  simp[aP,Ph x h.1,Cg xs h.2]
end
theorem Ng {e:Nat}:∀ {es kU:List VV},(∀x∈es,(aB x).length=e)→(∀x∈kU,(aB x).length=e)→es.all xG=true→kU.all xG=true→es.length=kU.length→es.flatMap aB=kU.flatMap aB→es=kU
 | [],[],_,_,_,_,_,_=>rfl
 |
  x::es,y::kU,h1,h2,h3,h4,hl,h=>by
  rw[List.flatMap_cons,List.flatMap_cons] at h
  have hx:=h1 x List.mem_cons_self
  have hy:=h2 y List.mem_cons_self
  obtain⟨e1,e2⟩:=List.append_inj h (by omega)
  simp only[List.all_cons,Bool.and_eq_true] at h3 h4
  have yM:x=y:=by
   have g1:=h3.1
   have g2:=h4.1
   unfold aB at e1
   split at e1<;>split at e1
   ·rw[e1]
   ·rename_i cs _ _
    subst e1
    cases g1
   ·rename_i cs
    subst e1
    cases g2
   ·injection e1
  rw[yM,Ng (fun z hz=>h1 z (List.mem_cons_of_mem _ hz)) (fun z hz=>h2 z (List.mem_cons_of_mem _ hz)) h3.2 h4.2 (by simpa using hl) e2]
theorem VR.uniq {x y:VV} {v:Value} (h:VR V x v) (h':VR V y v) (hx:fY x=true) (hy:fY y=true):x=y:=by
 induction h using VR.rec (motive_2:=fun xs vs _=>∀ys,VL V ys vs→oJ xs=true→oJ ys=true→xs=ys) generalizing y with
 | any=>cases hx
 |
  sc _ h=>cases h' with
  | sc _ _=>rfl
  | any=>cases hy
  | agg=>cases h
  | dQ=>cases h
  | mU=>cases h
  | tree=>cases h
  | cY=>cases hy
  | ref=>cases hy
  | ptr=>cases hy
  | sC=>cases hy
 |
  agg cs ps h ih=>generalize hw:Value.agg ps.toArray=w at h';cases h' with
  | sc _ h'=>subst hw;cases h'
  | any=>cases hy
  |
   agg zI ps' h' =>
   injection hw with hw
   have:ps=ps':=by simpa using hw
   subst this
   rw[ih _ h' hx hy]
  | dQ=>cases hw
  | mU=>cases hw
  | tree=>cases hw
  | cY=>cases hy
  | ref=>cases hy
  | ptr=>cases hy
  | sC=>cases hy
 |
  dQ cs ps h ih=>generalize hw:Value.tuple ps.toArray=w at h';cases h' with
  | sc _ h'=>subst hw;cases h'
  | any=>cases hy
  |
   dQ zI ps' h' =>
   injection hw with hw
   have:ps=ps':=by simpa using hw
   subst this
   rw[ih _ h' hx hy]
  | agg=>cases hw
  | mU=>cases hw
  | tree=>cases hw
  | cY=>cases hy
  | ref=>cases hy
  | ptr=>cases hy
  | sC=>cases hy
 |
  mU k hk =>
  obtain⟨rfl,_⟩:=A6 hx
  generalize hw:Value.slice none 0 0=w at h'
  cases h' with
  | sc _ h'=>subst hw;cases h'
  | any=>cases hy
  | mU k' Ve=>obtain⟨rfl,_⟩:=A6 hy;rfl
  | agg=>cases hw
  | dQ=>cases hw
  | tree=>cases hw
  | cY=>cases hy
  | ref=>cases hy
  | ptr=>cases hy
  | sC=>cases hy
 |
  tree es k b o c r e p hF hb ho hc he hk hl ih =>
  obtain⟨rfl,hx1,hx2,hx3⟩:=A6 hx
  generalize hw:Value.slice (some ⟨b,o,none⟩) es.length c=w at h'
  cases h' with
  | sc _ h'=>subst hw;cases h'
  | any=>cases hy
  | mU=>cases hw
  | agg=>cases hw
  | dQ=>cases hw
  |
   tree kU k' b' o' c' r' e' p' hF' oQ Zu hc' Xq Ve AQ =>
   obtain⟨rfl,hy1,hy2,hy3⟩:=A6 hy
   injection hw with h1 h2 h3
   injection h1 with h1
   injection h1 with h1 h4
   subst h1 h3 h4
   rw[hb] at oQ
   injection oQ with oQ
   injection oQ with g1 g2 g3
   subst g1 g2 g3
   rw[←h2] at AQ
   rw[Ng he Xq hx3 hy3 h2 (ih _ AQ (Ks hx1) (Ks hy1))]
  | cY=>cases hy
  | ref=>cases hy
  | ptr=>cases hy
  | sC=>cases hy
 | cY=>cases hx
 | ref=>cases hx
 | ptr=>cases hx
 | sC=>cases hx
 | nil=>rename_i h' _ _;cases h';rfl
 |
  cons x v xs vs _ _ ih Qj =>
  rename_i ys h' hx hy
  cases h' with
  |
   cons y _ ys _ h' hs' =>
   simp only[oJ,Bool.and_eq_true] at hx hy
   rw[ih h' hx.1 hy.1,Qj _ hs' hx.2 hy.2]
end
end Go.PM
namespace Go.PM
section
variable {V:View} {lo dS:Nat}
theorem iO {α β:Type} {f:α→Option β} {x:α} {xs:List α} {r:List β} (h:(x::xs).mapM f=some r):∃y ys,f x=some y∧xs.mapM f=some ys∧r=y::ys:=by
 rw[List.mapM_cons] at h
 cases hx:f x with
 | none=>rw[hx] at h;cases h
 |
  some y =>
  rw[hx] at h
  cases hs:xs.mapM f with
  | none=>rw[hs] at h;cases h
  | some ys=>rw[hs] at h;cases h;exact⟨y,ys,rfl,rfl,rfl⟩
theorem mB {α β:Type} {f:α→Option β}:∀ {xs:List α} {r:List β},xs.mapM f=some r→r.length=xs.length
 | [],r,h=>by cases h;rfl
 |
  x::xs,r,h=>by
  obtain⟨y,ys,_,h2,rfl⟩:=iO h
  simp[mB h2]
theorem SG {d:Nat} {H:aA} {x x':VV} (h:fz d H x=some x'):(∃cs zI,x = .agg cs∧x' = .agg zI∧zI.length=cs.length)∨(aB x=[x]∧aB x'=[x']):=by
 cases d with
 | zero=>cases h
 |
  succ d =>
  unfold fz at h
  split at h
  ·cases h
   cases x with
   | agg cs=>exact .inl ⟨cs,cs,rfl,rfl,rfl⟩
   | _=>exact .inr ⟨rfl,rfl⟩
  ·split at h
   ·obtain⟨zI,h1,rfl⟩:=cD h
    exact .inl ⟨_,_,rfl,rfl,mB h1⟩
   ·obtain⟨zI,h1,rfl⟩:=cD h;exact .inr ⟨rfl,rfl⟩
   ·obtain⟨zI,h1,rfl⟩:=cD h;exact .inr ⟨rfl,rfl⟩
   ·obtain⟨zI,h1,rfl⟩:=cD h;exact .inr ⟨rfl,rfl⟩
   ·split at h
    ·split at h
     ·obtain⟨zI,h1,rfl⟩:=cD h;exact .inr ⟨rfl,rfl⟩
     ·cases h
    ·cases h
   ·split at h
    ·split at h
     ·obtain⟨zI,h1,rfl⟩:=cD h;exact .inr ⟨rfl,rfl⟩
     ·cases h
    ·cases h
   ·obtain⟨zI,h1,rfl⟩:=cD h;exact .inr ⟨rfl,rfl⟩
   ·cases h
theorem MW {d:Nat} {H:aA} {x x':VV} (h:fz d H x=some x'):(aB x').length=(aB x).length:=by
 rcases SG h with⟨cs,zI,rfl,rfl,h'⟩ | ⟨h1,h2⟩
 ·exact h'
 ·rw[h1,h2];rfl
def Lt (V:View) (G:Nat→Prop) (ids:List Nat):Prop:=∀i∈ids,∀g es e w,V.H[i]? = some (.row g es e w)→G (V.m i)
theorem Is (hS:SR V lo dS) {G:Nat→Prop} (hG:∀q,V.F q→G q):∀(d:Nat) (v v':VV) (pv:Value),VR V v pv→fz d V.H v=some v'→Lt V G (gV d V.H v)→VR (bare G V.P) v' pv:=by
 have hFG:∀b,V.F b→(bare G V.P).F b∧(bare G V.P).P[b]? = V.P[b]? := fun b hb=>⟨hG b hb,rfl⟩
 intro d
 induction d with
 | zero=>intro v v' pv _ h;cases h
 |
  succ d ih =>
  have ihL:∀(xs FJ:List VV) (ps:List Value),VL V xs ps→xs.mapM (fz d V.H)=some FJ→Lt V G (xs.flatMap (gV d V.H))→VL (bare G V.P) FJ ps:=by
   intro xs
   induction xs with
   | nil=>intro FJ ps hl h _;cases h;cases hl;exact .nil
   |
    cons x xs ihx =>
    intro FJ ps hl h hi
    obtain⟨y,ys,h1,h2,rfl⟩:=iO h
    cases hl with
    |
     cons _ v _ vs hx P7 =>
     exact .cons _ _ _ _ (ih x y v hx h1 fun i nF=>hi i (by rw[List.flatMap_cons];exact List.mem_append_left _ nF)) (ihx ys vs P7 h2 fun i nF=>hi i (by rw[List.flatMap_cons];exact List.mem_append_right _ nF))
  have ihC:∀(x x':VV) (ps:List Value),VL V (aB x) ps→fz d V.H x=some x'→Lt V G (gV d V.H x)→VL (bare G V.P) (aB x') ps:=by
   intro x x' ps hl h hi
   rcases SG h with⟨cs,zI,rfl,rfl,mN⟩ | ⟨h1,h2⟩
   ·have:=ih _ _ (.agg ps.toArray) (.agg _ _ hl) h hi
    generalize hw:Value.agg ps.toArray=w at this
    cases this with
    |
     agg _ ps' AQ =>
     injection hw with hw
     have:ps=ps':=by simpa using hw
     subst this
     exact AQ
   ·rw[h1] at hl
    rw[h2]
    cases hl with
    |
     cons _ v _ vs hx P7 =>
     cases P7
     exact .cons _ _ _ _ (ih _ _ _ hx h hi) .nil
  have ihF:∀(xs FJ:List VV) (ps:List Value),VL V (xs.flatMap aB) ps→xs.mapM (fz d V.H)=some FJ→Lt V G (xs.flatMap (gV d V.H))→VL (bare G V.P) (FJ.flatMap aB) ps:=by
   intro xs
   induction xs with
   | nil=>intro FJ ps hl h _;cases h;cases hl;exact .nil
   |
    cons x xs ihx =>
    intro FJ ps hl h hi
    obtain⟨y,ys,h1,h2,rfl⟩:=iO h
    rw[List.flatMap_cons] at hl ⊢
    have hlen:=hl.length
    have a1:=hl.take (aB x).length
    have a2:=hl.drop (aB x).length
    rw[List.take_left] at a1
    rw[List.drop_left] at a2
    rw[←List.take_append_drop (aB x).length ps]
    exact(ihC x y _ a1 h1 fun i nF=>hi i (by rw[List.flatMap_cons];exact List.mem_append_left _ nF)).append (ihx ys _ a2 h2 fun i nF=>hi i (by rw[List.flatMap_cons];exact List.mem_append_right _ nF))
  have aiQ:∀(xs FJ:List VV) (e:Nat),xs.mapM (fz d V.H)=some FJ→(∀x∈xs,(aB x).length=e)→∀x∈FJ,(aB x).length=e:=by
   intro xs
   induction xs with
   | nil=>intro FJ e h _ x hx;cases h;cases hx
   |
    cons x xs ihx =>
    intro FJ e h he z hz
    obtain⟨y,ys,h1,h2,rfl⟩:=iO h
    rcases List.mem_cons.1 hz with rfl | hz
    ·rw[MW h1];exact he x List.mem_cons_self
    ·exact ihx ys e h2 (fun w hw=>he w (List.mem_cons_of_mem _ hw)) z hz
  intro v v' pv hv h hi
  unfold fz at h
  unfold gV at hi
  split at h
  ·rename_i hp
   cases h
   exact hv.pure hFG hp
  ·rename_i hp
   rw[if_neg hp] at hi
   split at h
   ·obtain⟨zI,h1,rfl⟩:=cD h
    cases hv with
    | agg cs ps hl=>exact .agg _ _ (ihL _ _ _ hl h1 hi)
   ·obtain⟨zI,h1,rfl⟩:=cD h
    cases hv with
    | dQ cs ps hl=>exact .dQ _ _ (ihL _ _ _ hl h1 hi)
   ·obtain⟨zI,h1,rfl⟩:=cD h
    cases hv with
    | mU k hk=>cases h1;exact .mU _ (.inl rfl)
    |
     tree es k b o c r e p hF hb ho hc he hk hl =>
     have hlen:=mB h1
     have:=VR.tree (V:=bare G V.P) zI .op b o c r e p (hG b hF) hb (by rw[hlen];exact ho) (by rw[hlen];exact hc) (aiQ _ _ _ h1 he) trivial (by rw[hlen];exact ihF _ _ _ hl h1 hi)
     rw[hlen] at this
     exact this
   ·obtain⟨x',h1,rfl⟩:=cD h
    cases hv with
    |
     cY x off b o r e p hF hb ho hl =>
     have hlen:=MW h1
     exact .cY x' _ b o r e p (hG b hF) hb (by rw[hlen];exact ho) (by rw[hlen];exact ihC _ _ _ hl h1 hi)
   ·rename_i b g o n c
    split at h
    case h_2=>cases h
    rename_i es e w hr
    simp only[hr] at hi
    rw[cC] at hr
    split at h
    case isFalse=>cases h
    rename_i amZ
    obtain⟨hon,BH⟩:=amZ
    obtain⟨kU,h1,rfl⟩:=cD h
    obtain⟨r,p,k1,k2,k3⟩:=hS.row b g es e w hr
    have yS:=k3.length
    rw[jD k2] at yS
    cases hv with
    |
     ref b g o n c a n' c' aV hg ha hq =>
     obtain⟨rfl,rfl,rfl⟩:=ha _ _ _ hr
     have X8:∀x∈(es.drop o).take n',(aB x).length=e:=fun x hx=>k2 x (List.mem_of_mem_drop (List.mem_of_mem_take hx))
     have hn2:((es.drop o).take n').length=n':=by simp;omega
     have hlen:=mB h1
     rw[hn2] at hlen
     have hm:(o+n')*e≤es.length*e:=Nat.mul_le_mul_right _ hon
     rw[Nat.add_mul] at hm
     have hl:VL V (((es.drop o).take n').flatMap aB) ((r.drop (o*e)).take (n'*e)):=by
      have h4:=(k3.drop (o*e)).take (n'*e)
      rw[qO k2,rD (fun x hx=>k2 x (List.mem_of_mem_drop hx))] at h4
      exact h4
     have hGb:G (V.m b):=hi b List.mem_cons_self _ _ _ _ hr
     have:=VR.tree (V:=bare G V.P) kU .op (V.m b) (o*e) c' r e p hGb k1 (by rw[hlen];omega) (by rw[hlen];exact BH) (aiQ _ _ _ h1 X8) trivial (by rw[hlen];exact ihF _ _ _ hl h1 fun i nF=>hi i (List.mem_cons_of_mem _ nF))
     rw[hlen] at this
     exact this
   ·rename_i b g j o
    split at h
    case h_2=>cases h
    rename_i es e w hr
    simp only[hr] at hi
    rw[cC] at hr
    split at h
    case h_2=>cases h
    rename_i x hx
    simp only[hx] at hi
    obtain⟨x',h1,rfl⟩:=cD h
    obtain⟨r,p,k1,k2,k3,k4⟩:=IZ hS hr hx
    cases hv with
    |
     ptr b g j off a aV hg ha hq =>
     have:=ha _ _ _ hr
     subst this
     have hlen:=MW h1
     exact .cY x' o (V.m b) (j*e) r e p (hi b List.mem_cons_self _ _ _ _ hr) k1 (by rw[hlen];exact k3) (by rw[hlen];exact ihC _ _ _ k4 h1 fun i nF=>hi i (List.mem_cons_of_mem _ nF))
   ·obtain⟨zI,h1,rfl⟩:=cD h
    cases hv with
    | sC f fC ps hl=>exact .sC _ _ _ (ihL _ _ _ hl h1 hi)
   ·cases h
theorem BS (hS:SR V lo dS) {G:Nat→Prop} (hG:∀q,V.F q→G q) {d:Nat}:∀ {xs FJ:List VV} {ps:List Value},VL V xs ps→xs.mapM (fz d V.H)=some FJ→Lt V G (xs.flatMap (gV d V.H))→VL (bare G V.P) FJ ps
 | [],FJ,ps,hl,h,_=>by cases h;cases hl;exact .nil
 |
  x::xs,FJ,ps,hl,h,hi=>by
  obtain⟨y,ys,h1,h2,rfl⟩:=iO h
  cases hl with
  |
   cons _ v _ vs hx P7 =>
   exact .cons _ _ _ _ (Is hS hG d x y v hx h1 fun i nF=>hi i (by rw[List.flatMap_cons];exact List.mem_append_left _ nF)) (BS hS hG P7 h2 fun i nF=>hi i (by rw[List.flatMap_cons];exact List.mem_append_right _ nF))
def View.cR (V:View) (ids:List Nat):View:=ids.foldl View.freeze V
theorem sI:∀(ids:List Nat) {V:View},SR V lo dS→SR (V.cR ids) lo dS∧CJ lo V (V.cR ids)∧(V.cR ids).H=PM.cR V.H ids∧(V.cR ids).P=V.P∧(V.cR ids).m=V.m∧Lt V (V.cR ids).F ids
 | [],V,hS=>⟨hS,CJ.refl _ _,rfl,rfl,rfl,fun i hi=>by cases hi⟩
 |
  i::ids,V,hS=>by
  obtain⟨h1,h2,h3⟩:=Mj hS i
  obtain⟨g1,g2,g3,g4,g5,g6⟩:=sI ids h1
  refine⟨g1,h2.trans g2,?_,g4.trans (Wo V i),g5.trans (OV V i),?_⟩
  ·show ((V.freeze i).cR ids).H=_
   rw[g3,OJ]
   rfl
  ·intro k hk g es e w hr
   show ((V.freeze i).cR ids).F (V.m k)
   rcases List.mem_cons.1 hk with rfl | hk
   ·exact g2.F _ (h3 _ _ _ _ hr)
   ·have DN:∃g es e w,(V.freeze i).H[k]? = some (.row g es e w):=by
     rw[OJ]
     unfold Ac
     split
     ·rename_i g' kU e' w' hi
      by_cases hki:k=i
      ·subst hki
       exact⟨g',kU,e',false,List.getElem?_set_self (List.getElem?_eq_some_iff.1 hi).1⟩
      ·exact⟨g,es,e,w,by rw[List.getElem?_set_ne (Ne.symm hki)];exact hr⟩
     ·exact⟨g,es,e,w,hr⟩
    obtain⟨g',kU,e',w',DN⟩:=DN
    have:=g6 k hk _ _ _ _ DN
    rw[OV] at this
    exact this
end
end Go.PM