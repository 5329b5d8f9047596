/- Texts of a claim, in one: part 4. -/
import Derived.Test.YtjmflicajplclaaGreatDoorKTc
set_option linter.unusedSimpArgs false
set_option linter.unusedVariables false
namespace Go.PM
structure View where
 m:Nat→Nat
 F:Nat→Prop
 H:aA
 P:aE
 base:Nat
def kindOk (k:TK) (n c e:Nat) (p:Bool):Prop :=
 match k with
 | .op=>True
 | .cl e'=>e'=e∧c=n∧p=false
 | .nil=>False
mutual
inductive VR (V:View):VV→Value→Prop
 | any (v:Value):VR V .any v
 | sc (v:Value) (h:kB v=true):VR V (.sc v) v
 | agg (cs:List VV) (ps:List Value) (h:VL V cs ps):VR V (.agg cs) (.agg ps.toArray)
 | dT (cs:List VV) (ps:List Value) (h:VL V cs ps):VR V (.dT cs) (.tuple ps.toArray)
 | pA (k:TK) (hk:k = .op∨k = .nil):VR V (.tree [] k) (.slice none 0 0)
 | tree (es:List VV) (k:TK) (b o c:Nat) (r:List Value) (e:Nat) (p:Bool) (hF:V.F b) (hb:V.P[b]? = some (.row r e p)) (ho:o+es.length*e≤r.length)
  (hc:es.length≤c) (he:∀x∈es,(aB x).length=e) (hk:kindOk k es.length c e p) (hl:VL V (es.flatMap aB) ((r.drop o).take (es.length*e))) :
  VR V (.tree es k) (.slice (some ⟨b,o,none⟩) es.length c)
 | cN (x:VV) (off b o:Nat) (r:List Value) (e:Nat) (p:Bool) (hF:V.F b) (hb:V.P[b]? = some (.row r e p)) (ho:o+(aB x).length≤r.length)
  (hl:VL V (aB x) ((r.drop o).take (aB x).length)):VR V (.cN x off) (.pointer (some ⟨b,o+off,none⟩))
 | ref (b g o n c:Nat) (a:Option Addr) (n' c':Nat) (bF:b<V.H.length) (hg:∀g' es e w,V.H[b]? = some (.row g' es e w)→g≤g')
  (h:∀es e w,V.H[b]? = some (.row g es e w)→a=some ⟨V.m b,o*e,none⟩∧n'=n∧c'=c)
  (hq:∀a0,a=some a0→V.base≤a0.block∧a0.block<V.P.length∧∀b' g' es e w,V.H[b']? = some (.row g' es e w)→b'≠b→V.m b'≠a0.block):VR V (.ref b g o n c) (.slice a n' c')
 | ptr (b g j off:Nat) (a:Option Addr) (bF:b<V.H.length) (hg:∀g' es e w,V.H[b]? = some (.row g' es e w)→g≤g')
  (h:∀es e w,V.H[b]? = some (.row g es e w)→a=some ⟨V.m b,j*e+off,none⟩)
  (hq:∀a0,a=some a0→V.base≤a0.block∧a0.block<V.P.length∧∀b' g' es e w,V.H[b']? = some (.row g' es e w)→b'≠b→V.m b'≠a0.block):VR V (.ptr b g j off) (.pointer a)
 | uP (f:Nat) (fT:List VV) (ps:List Value) (h:VL V fT ps):VR V (.uP f fT) (.func (.func f) #[] ps.toArray)
inductive VL (V:View):List VV→List Value→Prop
 | nil:VL V [] []
 | cons (x:VV) (v:Value) (xs:List VV) (vs:List Value) (h:VR V x v) (hs:VL V xs vs):VL V (x::xs) (v::vs)
end
structure Up (V V':View):Prop where
 F:∀b,V.F b→V'.F b
 P:∀b,V.F b→V'.P[b]? = V.P[b]?
 len:V.H.length≤V'.H.length
 row:∀b g' mT e w',b<V.H.length→V'.H[b]? = some (.row g' mT e w')→∃g es w,V.H[b]? = some (.row g es e w)∧g≤g'∧(g'=g→V'.m b=V.m b)
 Kd:V'.base=V.base
 Ek:V.P.length≤V'.P.length
 Bj:∀b g es e w,V'.H[b]? = some (.row g es e w)→V'.m b<V.P.length→∃g0 es0 w0,V.H[b]? = some (.row g0 es0 e w0)∧V'.m b=V.m b∧(w=true→w0=true)
section
variable {V V' SY:View}
theorem Up.refl (V:View):Up V V:=⟨fun _ h=>h,fun _ _=>rfl,Nat.le_refl _,fun b g es e w _ h=>⟨g,es,w,h,Nat.le_refl _,fun _=>rfl⟩,rfl,Nat.le_refl _,fun b g es e w h _=>⟨g,es,w,h,rfl,id⟩⟩
theorem Up.trans (h:Up V V') (h':Up V' SY):Up V SY :=
 ⟨fun b hb=>h'.F b (h.F b hb),fun b hb=>(h'.P b (h.F b hb)).trans (h.P b hb),Nat.le_trans h.len h'.len,fun b g es e w hb hr=>by
  obtain⟨g1,Ck,w1,h1,h2,h3⟩:=h'.row b g es e w (Nat.lt_of_lt_of_le hb h.len) hr
  obtain⟨g2,es2,w2,h4,h5,h6⟩:=h.row b g1 Ck e w1 hb h1
  exact⟨g2,es2,w2,h4,Nat.le_trans h5 h2,fun hg=>(h3 (by omega)).trans (h6 (by omega))⟩,h'.Kd.trans h.Kd,Nat.le_trans h.Ek h'.Ek,fun b g es e w hb hm=>by
   obtain⟨g1,Ck,w1,h1,h2,h3⟩:=h'.Bj b g es e w hb (Nat.lt_of_lt_of_le hm h.Ek)
   obtain⟨g2,es2,w2,h4,h5,h6⟩:=h.Bj b g1 Ck e w1 h1 (by rw[←h2];exact hm)
   exact⟨g2,es2,w2,h4,h2.trans h5,fun hw=>h6 (h3 hw)⟩⟩
theorem Up.hq (u:Up V V') {b q:Nat} (h:V.base≤q∧q<V.P.length∧∀b' g' es e w,V.H[b']? = some (.row g' es e w)→b'≠b→V.m b'≠q):V'.base≤q∧q<V'.P.length∧∀b' g' es e w,V'.H[b']? = some (.row g' es e w)→b'≠b→V'.m b'≠q:=by
 refine⟨by rw[u.Kd];exact h.1,Nat.lt_of_lt_of_le h.2.1 u.Ek,fun b' g' es e w hb fC hm => ?_⟩
 obtain⟨g0,es0,w0,h1,h2,_⟩:=u.Bj b' g' es e w hb (by rw[hm];exact h.2.1)
 exact h.2.2 b' _ _ _ _ h1 fC (h2.symm.trans hm)
theorem VR.mono (u:Up V V') {x:VV} {v:Value} (h:VR V x v):VR V' x v:=by
 induction h using VR.rec (motive_2:=fun xs vs _=>VL V' xs vs) with
 | any=>exact .any _
 | sc _ h=>exact .sc _ h
 | agg cs ps _ ih=>exact .agg _ _ ih
 | dT cs ps _ ih=>exact .dT _ _ ih
 | pA k hk=>exact .pA k hk
 | tree es k b o c r e p hF hb ho hc he hk _ ih=>exact .tree es k b o c r e p (u.F _ hF) (by rw[u.P _ hF];exact hb) ho hc he hk ih
 | cN x off b o r e p hF hb ho _ ih=>exact .cN x off b o r e p (u.F _ hF) (by rw[u.P _ hF];exact hb) ho ih
 |
  ref b g o n c a n' c' bF hg h hq =>
  refine .ref b g o n c a n' c' (Nat.lt_of_lt_of_le bF u.len) (fun g' es e w hr => ?_) (fun es e w hr => ?_) fun a0 ha=>u.hq (hq a0 ha)
  ·obtain⟨g1,Ck,w1,h1,h2,_⟩:=u.row b g' es e w bF hr
   exact Nat.le_trans (hg _ _ _ _ h1) h2
  ·obtain⟨g1,Ck,w1,h1,h2,h3⟩:=u.row b g es e w bF hr
   have h4:=hg _ _ _ _ h1
   have h5:g=g1:=by omega
   subst h5
   rw[h3 rfl]
   exact h _ _ _ h1
 |
  ptr b g j off a bF hg h hq =>
  refine .ptr b g j off a (Nat.lt_of_lt_of_le bF u.len) (fun g' es e w hr => ?_) (fun es e w hr => ?_) fun a0 ha=>u.hq (hq a0 ha)
  ·obtain⟨g1,Ck,w1,h1,h2,_⟩:=u.row b g' es e w bF hr
   exact Nat.le_trans (hg _ _ _ _ h1) h2
  ·obtain⟨g1,Ck,w1,h1,h2,h3⟩:=u.row b g es e w bF hr
   have h4:=hg _ _ _ _ h1
   have h5:g=g1:=by omega
   subst h5
   rw[h3 rfl]
   exact h _ _ _ h1
 | uP f fT ps _ ih=>exact .uP _ _ _ ih
 | nil=>exact .nil
 | cons x v xs vs _ _ ih Vf=>exact .cons _ _ _ _ ih Vf
theorem VL.mono (u:Up V V') {xs:List VV} {vs:List Value} (h:VL V xs vs):VL V' xs vs:=by
 induction xs generalizing vs with
 | nil=>cases h;exact .nil
 |
  cons x xs ih=>cases h with
  | cons _ v _ vs h hs=>exact .cons _ _ _ _ (h.mono u) (ih hs)
end
section
variable {V:View} {xs ys:List VV} {vs ws:List Value}
theorem VL.length:∀ {xs:List VV} {vs:List Value},VL V xs vs→vs.length=xs.length
 | _,_,.nil=>rfl
 | _,_,.cons _ _ _ _ _ hs=>by simp[hs.length]
theorem VL.append:∀ {xs:List VV} {vs:List Value},VL V xs vs→VL V ys ws→VL V (xs++ys) (vs++ws)
 | _,_,.nil,h'=>h'
 | _,_,.cons _ _ _ _ h hs,h' => .cons _ _ _ _ h (hs.append h')
theorem VL.take (n:Nat):∀ {xs:List VV} {vs:List Value} ,VL V xs vs→VL V (xs.take n) (vs.take n):=by
 induction n with
 | zero=>intro xs vs _;simp;exact .nil
 |
  succ n ih=>intro xs vs h;cases h with
  | nil=>simp;exact .nil
  | cons x v xs vs h hs=>exact .cons _ _ _ _ h (ih hs)
theorem VL.drop (n:Nat):∀ {xs:List VV} {vs:List Value} ,VL V xs vs→VL V (xs.drop n) (vs.drop n):=by
 induction n with
 | zero=>intro xs vs h;simpa using h
 |
  succ n ih=>intro xs vs h;cases h with
  | nil=>simp;exact .nil
  | cons x v xs vs h hs=>exact ih hs
theorem VL.get (h:VL V xs vs) {i:Nat} {x:VV} (hx:xs[i]? = some x):∃v,vs[i]? = some v∧VR V x v:=by
 induction i generalizing xs vs with
 |
  zero=>cases h with
  | nil=>cases hx
  | cons y v xs vs h hs=>simp at hx;subst hx;exact⟨v,rfl,h⟩
 |
  succ i ih=>cases h with
  | nil=>cases hx
  | cons y v xs vs h hs=>exact ih hs (by simpa using hx)
theorem VL.map {α:Type} {f:α→VV} {g:α→Value}:∀ {l:List α},(∀x∈l,VR V (f x) (g x))→VL V (l.map f) (l.map g)
 | [],_ => .nil
 | x::l,h => .cons _ _ _ _ (h x (by simp)) (VL.map fun y hy=>h y (by simp[hy]))
theorem VL.replicate {x:VV} {v:Value} (h:VR V x v):∀n,VL V (List.replicate n x) (List.replicate n v)
 | 0 => .nil
 | n+1 => .cons _ _ _ _ h (VL.replicate h n)
theorem VL.iT {cs new:List VV} {ps pn:List Value} (h:VL V cs ps) (hn:VL V new pn) (o:Nat):VL V (cY cs o new) (iT ps o pn):=by
 unfold cY PM.iT
 rw[←hn.length]
 exact((h.take o).append hn).append (h.drop _)
theorem VR.jB (v:Value):VR V (jB v) v:=by
 unfold PM.jB
 split
 ·exact .pA _ (.inr rfl)
 ·split
  ·rename_i h;exact .sc _ h
  ·exact .any _
theorem VR.inj (v:Value):VR V (inj v) v:=by
 unfold PM.inj
 split
 ·rename_i cs
  have:(Value.agg cs) = .agg cs.toList.toArray:=by simp
  rw[this]
  refine .agg _ _ ?_
  have:=VL.map (V:=V) (f:=PM.jB) (g:=id) (l:=cs.toList) fun x _=>VR.jB x
  simpa using this
 ·rename_i vs
  split
  ·rename_i h
   have:vs=[].toArray:=by simpa using h
   rw[this]
   exact .dT _ _ .nil
  ·exact .any _
 ·exact VR.jB _
theorem VL.zero (z:List Value):VL V (z.map PM.jB) z:=by
 have:=VL.map (V:=V) (f:=PM.jB) (g:=id) (l:=z) fun x _=>VR.jB x
 simpa using this
theorem VR.cells {x:VV} {v:Value} (h:VR V x v) (hx:x ≠ .any):VL V (aB x) (aO v):=by
 cases h with
 | any=>exact absurd rfl hx
 |
  sc v h =>
  have:aO v=[v]:=by cases v<;>first | rfl | cases h
  rw[this]
  exact .cons _ _ _ _ (.sc v h) .nil
 | agg cs ps h=>simpa[aB,aO] using h
 | dT cs ps h=>exact .cons _ _ _ _ (.dT _ _ h) .nil
 | pA k hk=>exact .cons _ _ _ _ (.pA k hk) .nil
 | tree es k b o c r e p hF hb ho hc he hk hl=>exact .cons _ _ _ _ (.tree es k b o c r e p hF hb ho hc he hk hl) .nil
 | cN x off b o r e p hF hb ho hl=>exact .cons _ _ _ _ (.cN x off b o r e p hF hb ho hl) .nil
 | ref b g o n c a n' c' bF hg h hq=>exact .cons _ _ _ _ (.ref b g o n c a n' c' bF hg h hq) .nil
 | ptr b g j off a bF hg h hq=>exact .cons _ _ _ _ (.ptr b g j off a bF hg h hq) .nil
 | uP f fT ps h=>exact .cons _ _ _ _ (.uP _ _ _ h) .nil
theorem VR.fS {x:VV} {v:Value} (h:VR V x v) (hx:bP x=true):fS v=true:=by
 cases h with
 | sc v h=>cases v<;>first | rfl | cases h
 | any=>cases hx
 | agg=>cases hx
 | dT=>cases hx
 | _=>rfl
theorem VL.fS:∀ {xs:List VV} {vs:List Value},VL V xs vs→xs.all bP=true→vs.all PM.fS=true
 | _,_,.nil,_=>rfl
 |
  _,_,.cons _ _ _ _ h hs,hx=>by
  rw[List.all_cons,Bool.and_eq_true] at hx ⊢
  exact⟨h.fS hx.1,hs.fS hx.2⟩
theorem Vh {x:VV} (h:(aB x).all bP=true):x ≠ .any:=by
 rintro rfl
 cases h
theorem kH {es:List VV} {e:Nat} (he:∀x∈es,(aB x).length=e):(es.flatMap aB).length=es.length*e:=by
 induction es with
 | nil=>simp
 |
  cons x xs ih =>
  rw[List.flatMap_cons,List.length_append,ih fun y hy=>he y (List.mem_cons_of_mem _ hy),he x List.mem_cons_self,List.length_cons,Nat.succ_mul]
  omega
theorem tT {es:List VV} {e:Nat} (he:∀x∈es,(aB x).length=e) (i:Nat):(es.flatMap aB).drop (i*e)=(es.drop i).flatMap aB:=by
 induction i generalizing es with
 | zero=>simp
 |
  succ i ih =>
  cases es with
  | nil=>simp
  |
   cons x xs =>
   have hx:=he x List.mem_cons_self
   rw[List.flatMap_cons,List.drop_succ_cons,←ih fun y hy=>he y (List.mem_cons_of_mem _ hy),show (i+1)*e=(aB x).length+i*e by rw[hx,Nat.succ_mul];omega,List.drop_append]
   simp
theorem tE {es:List VV} {e:Nat} (he:∀x∈es,(aB x).length=e) (i:Nat):(es.flatMap aB).take (i*e)=(es.take i).flatMap aB:=by
 induction i generalizing es with
 | zero=>simp
 |
  succ i ih =>
  cases es with
  | nil=>simp
  |
   cons x xs =>
   have hx:=he x List.mem_cons_self
   rw[List.flatMap_cons,List.take_succ_cons,List.flatMap_cons,←ih fun y hy=>he y (List.mem_cons_of_mem _ hy),show (i+1)*e=(aB x).length+i*e by rw[hx,Nat.succ_mul];omega,List.take_append]
   simp
   exact List.take_of_length_le (by omega)
theorem Mt {es:List VV} {e:Nat} (he:∀x∈es,(aB x).length=e) {j:Nat} {x:VV} (hx:es[j]? = some x):((es.flatMap aB).drop (j*e)).take e=aB x:=by
 obtain⟨bF,U8⟩:=List.getElem?_eq_some_iff.1 hx
 rw[tT he,List.drop_eq_getElem_cons bF,U8,List.flatMap_cons,List.take_append,←he x (List.mem_of_getElem? hx)]
 simp
theorem vZ {es new:List VV} {e:Nat} (he:∀x∈es,(aB x).length=e) (hn:∀x∈new,(aB x).length=e) (o:Nat):cY (es.flatMap aB) (o*e) (new.flatMap aB)=(cY es o new).flatMap aB:=by
 unfold cY
 rw[tE he,kH hn,show o*e+new.length*e=(o+new.length)*e by rw[Nat.add_mul],tT he]
 simp
theorem Ji {es:List VV} {j:Nat} {x:VV} (hj:j<es.length):cY es j [x]=es.set j x:=by
 unfold cY
 rw[List.set_eq_take_append_cons_drop,if_pos hj]
 simp
theorem Rz {cs new:List VV} {o:Nat} (h:o+new.length≤cs.length):(cY cs o new).length=cs.length:=by
 unfold cY
 simp
 omega
theorem JG {cs new:List VV} {o:Nat} {x:VV} (h:x∈cY cs o new):x∈cs∨x∈new:=by
 unfold cY at h
 rw[List.mem_append,List.mem_append] at h
 rcases h with(h | h) | h
 ·exact .inl (List.mem_of_mem_take h)
 ·exact .inr h
 ·exact .inl (List.mem_of_mem_drop h)
theorem nI {cs:List VV} (h:cs.all bP=true):aB (elemOf cs)=cs:=by
 unfold elemOf
 split
 ·rename_i x
  simp only[List.all_cons,List.all_nil,Bool.and_true] at h
  cases x<;>first | rfl | cases h
 ·rfl
theorem cG {H:aA} {b g:Nat} {es:List VV} {e:Nat} {w:Bool}:aI H b g=some (es,e,w)↔H[b]? = some (.row g es e w):=by
 unfold aI
 constructor
 ·intro h
  split at h
  ·rename_i hb
   split at h
   ·rename_i hg;subst hg;cases h;exact hb
   ·cases h
  ·cases h
 ·intro h
  rw[h]
  simp
end
structure SR (V:View) (lo eI:Nat):Prop where
 row:∀b g es e w,V.H[b]? = some (.row g es e w)→∃r p,V.P[V.m b]? = some (.row r e p)∧(∀x∈es,(aB x).length=e)∧VL V (es.flatMap aB) r
 wr:∀b g es e,V.H[b]? = some (.row g es e true)→¬V.F (V.m b)∧(lo≤b→eI≤V.m b)
 inj:∀a b g es e w g' mT e' w',V.H[a]? = some (.row g es e w)→V.H[b]? = some (.row g' mT e' w')→V.m a=V.m b→a=b
 fr:∀b,V.F b→b<V.P.length
 To:eI≤V.P.length
 Kd:V.base≤V.P.length
structure EE (lo:Nat) (V V':View):Prop extends Up V V' where
 cJ:∀q,q<V.P.length→(∀b g es e,V.H[b]? = some (.row g es e true)→lo≤b→V.m b≠q)→V'.P[q]? = V.P[q]?
 Cw:∀q,V'.F q→V.F q∨V.P.length≤q∨∃b g es e w,V.H[b]? = some (.row g es e w)∧V.m b=q
section
variable {V V' SY:View} {lo:Nat}
theorem EE.refl (lo:Nat) (V:View):EE lo V V :=
 { Up.refl V with cJ:=fun _ _ _=>rfl,Cw:=fun _ h => .inl h }
theorem EE.trans (h:EE lo V V') (h':EE lo V' SY):EE lo V SY :=
 { Up.trans h.toUp h'.toUp with
  cJ:=fun q hq hn=>by
   rw[h'.cJ q (Nat.lt_of_lt_of_le hq h.Ek) ?_,h.cJ q hq hn]
   intro b g es e hb hl hm
   obtain⟨g1,Ck,w1,h1,h2,h3⟩:=h.Bj b g es e true hb (by rw[hm];exact hq)
   have:=h3 rfl
   subst this
   exact hn b g1 Ck e h1 hl (h2.symm.trans hm)
  Cw:=fun q hq=>by
   rcases h'.Cw q hq with h1 | h1 | ⟨b,g,es,e,w,h1,h2⟩
   ·exact h.Cw q h1
   ·exact .inr (.inl (Nat.le_trans h.Ek h1))
   ·rcases Nat.lt_or_ge q V.P.length with hl | hl
    ·obtain⟨g1,Ck,w1,h3,h4,_⟩:=h.Bj b g es e w h1 (by rw[h2];exact hl)
     exact .inr (.inr ⟨b,g1,Ck,e,w1,h3,h4.symm.trans h2⟩)
    ·exact .inr (.inl hl) }
end
end Go.PM
namespace Go.PM
def Y0 (m:Nat→Nat) (b v:Nat):Nat→Nat:=fun k=>if k=b then v else m k
theorem lR {m:Nat→Nat} {b v:Nat}:Y0 m b v b=v:=by simp[Y0]
theorem mI {m:Nat→Nat} {b v k:Nat} (h:k≠b):Y0 m b v k=m k:=by simp[Y0,h]
section
variable {V:View} {lo eI:Nat}
theorem SR.mlt (hS:SR V lo eI) {b g e:Nat} {es:List VV} {w:Bool} (hb:V.H[b]? = some (.row g es e w)):V.m b<V.P.length:=by
 obtain⟨r,p,h,_⟩:=hS.row b g es e w hb
 exact(List.getElem?_eq_some_iff.1 h).1
theorem Bu (hS:SR V lo eI) (x:QU):SR { V with P:=V.P++[x],F:=fun q=>V.F q∨q=V.P.length } lo eI∧EE lo V { V with P:=V.P++[x],F:=fun q=>V.F q∨q=V.P.length }:=by
 have hU:Up V { V with P:=V.P++[x],F:=fun q=>V.F q∨q=V.P.length }:=⟨fun _ h => .inl h,fun b hb=>List.getElem?_append_left (hS.fr b hb),Nat.le_refl _,fun b g es e w _ h=>⟨g,es,w,h,Nat.le_refl _,fun _=>rfl⟩,rfl,by simp,fun b g es e w hb _=>⟨g,es,w,hb,rfl,id⟩⟩
 refine⟨⟨fun b g es e w hb => ?_,fun b g es e hb=>⟨fun hF => ?_,(hS.wr b g es e hb).2⟩,hS.inj,fun b hb => ?_,by have:=hS.To;simp;omega,by have:=hS.Kd;simp;omega⟩,{ hU with cJ:=fun q hq _=>List.getElem?_append_left hq,Cw:=fun q hq => ?_ }⟩
 ·obtain⟨r,p,h1,h2,h3⟩:=hS.row b g es e w hb
  exact⟨r,p,by rw[←h1];exact List.getElem?_append_left (hS.mlt hb),h2,h3.mono hU⟩
 ·rcases hF with hF | hF
  ·exact(hS.wr b g es e hb).1 hF
  ·have h1:V.m b=V.P.length:=hF
   have:=hS.mlt hb
   omega
 ·rcases hb with hb | hb
  ·have:=hS.fr b hb
   simp;omega
  ·subst hb;simp
 ·rcases hq with hq | hq
  ·exact .inl hq
  ·exact .inr (.inl (by omega))
theorem qZ (hS:SR V lo eI) {es:List VV} {r:List Value} {e:Nat} (p:Bool) (he:∀x∈es,(aB x).length=e) (hl:VL V (es.flatMap aB) r) :
  SR { V with m:=Y0 V.m V.H.length V.P.length,H:=V.H++[.row 0 es e true],P:=V.P++[.row r e p] } lo eI∧EE lo V { V with m:=Y0 V.m V.H.length V.P.length,H:=V.H++[.row 0 es e true],P:=V.P++[.row r e p] }:=by
 have Bj:∀b g mT e' w,(V.H++[cO.row 0 es e true])[b]? = some (.row g mT e' w)→(b=V.H.length∧g=0∧mT=es∧e'=e∧w=true)∨(b≠V.H.length∧V.H[b]? = some (.row g mT e' w)):=by
  intro b g mT e' w hb
  rcases Nat.lt_trichotomy b V.H.length with h | h | h
  ·rw[List.getElem?_append_left h] at hb
   exact .inr ⟨by omega,hb⟩
  ·subst h
   rw[List.getElem?_append_right (Nat.le_refl _)] at hb
   simp at hb
   obtain⟨h1,h2,h3,h4⟩:=hb
   exact .inl ⟨rfl,h1.symm,h2.symm,h3.symm,h4⟩
  ·rw[List.getElem?_eq_none (by simp;omega)] at hb
   cases hb
 have hU:Up V { V with m:=Y0 V.m V.H.length V.P.length,H:=V.H++[.row 0 es e true],P:=V.P++[.row r e p] } :=
  ⟨fun _ h=>h,fun b hb=>List.getElem?_append_left (hS.fr b hb),by simp,fun b g' mT e' w' bF hb=>by
   rcases Bj b g' mT e' w' hb with⟨h,_⟩ | ⟨h,hb⟩
   ·omega
   ·exact⟨g',mT,w',hb,Nat.le_refl _,fun _=>mI h⟩,rfl,by simp,fun b g mT e' w hb hm=>by
   rcases Bj b g mT e' w hb with⟨rfl,_⟩ | ⟨h,hb⟩
   ·simp only[lR] at hm
    omega
   ·exact⟨g,mT,w,hb,mI h,id⟩⟩
 refine⟨⟨fun b g mT e' w hb => ?_,fun b g mT e' hb => ?_,fun a b g Ck e1 w1 g' es2 e2 w2 ha hb hm => ?_,fun b hb=>by have:=hS.fr b hb;simp;omega,by have:=hS.To;simp;omega,by have:=hS.Kd;simp;omega⟩,
  { hU with cJ:=fun q hq _=>List.getElem?_append_left hq,Cw:=fun q hq => .inl hq }⟩
 ·rcases Bj b g mT e' w hb with⟨rfl,rfl,rfl,rfl,rfl⟩ | ⟨h,hb⟩
  ·exact⟨r,p,by simp only[lR];simp,he,hl.mono hU⟩
  ·obtain⟨r1,p1,h1,h2,h3⟩:=hS.row b g mT e' w hb
   refine⟨r1,p1,?_,h2,h3.mono hU⟩
   simp only[mI h]
   rw[List.getElem?_append_left (hS.mlt hb)]
   exact h1
 ·rcases Bj b g mT e' true hb with⟨rfl,_⟩ | ⟨h,hb⟩
  ·simp only[lR]
   exact⟨fun hF=>by have:=hS.fr _ hF;omega,fun _=>hS.To⟩
  ·simp only[mI h]
   exact hS.wr b g mT e' hb
 ·rcases Bj a g Ck e1 w1 ha with⟨rfl,_⟩ | ⟨h,ha⟩
  ·rcases Bj b g' es2 e2 w2 hb with⟨rfl,_⟩ | ⟨h',hb⟩
   ·rfl
   ·simp only[lR,mI h'] at hm
    have:=hS.mlt hb
    omega
  ·rcases Bj b g' es2 e2 w2 hb with⟨rfl,_⟩ | ⟨h',hb⟩
   ·simp only[lR,mI h] at hm
    have:=hS.mlt ha
    omega
   ·simp only[mI h,mI h'] at hm
    exact hS.inj a b _ _ _ _ _ _ _ _ ha hb hm
theorem fY {H:aA} {b:Nat} {x:cO} (hb:b<H.length) {a:Nat} {y:cO} (h:(H.set b x)[a]? = some y):(a=b∧y=x)∨(a≠b∧H[a]? = some y):=by
 by_cases he:a=b
 ·subst he
  rw[List.getElem?_set_self hb] at h
  cases h
  exact .inl ⟨rfl,rfl⟩
 ·rw[List.getElem?_set_ne (Ne.symm he)] at h
  exact .inr ⟨he,h⟩
theorem CH (hS:SR V lo eI) {b g e:Nat} {es mT:List VV} {r':List Value} (hb:V.H[b]? = some (.row g es e true)) (dK:lo≤b) (he:∀x∈mT,(aB x).length=e) (hl:VL V (mT.flatMap aB) r') {r:List Value} {p:Bool} (hp:V.P[V.m b]? = some (.row r e p)) :
  SR { V with H:=V.H.set b (.row g mT e true),P:=V.P.set (V.m b) (.row r' e p) } lo eI∧EE lo V { V with H:=V.H.set b (.row g mT e true),P:=V.P.set (V.m b) (.row r' e p) }:=by
 have uB:=(List.getElem?_eq_some_iff.1 hb).1
 have Tm:=hS.mlt hb
 have hU:Up V { V with H:=V.H.set b (.row g mT e true),P:=V.P.set (V.m b) (.row r' e p) } :=
  ⟨fun _ h=>h,fun q hq=>List.getElem?_set_ne (fun h=>(hS.wr b g es e hb).1 (by rw[h];exact hq)),by simp,fun a g' Ck e1 w1 bF ha=>by
   rcases fY uB ha with⟨rfl,h⟩ | ⟨_,h⟩
   ·cases h
    exact⟨g,es,true,hb,Nat.le_refl _,fun _=>rfl⟩
   ·exact⟨g',Ck,w1,h,Nat.le_refl _,fun _=>rfl⟩,rfl,by simp,fun a g1 Ck e1 w1 ha _=>by
   rcases fY uB ha with⟨rfl,h⟩ | ⟨fC,h⟩
   ·cases h
    exact⟨g,es,true,hb,rfl,fun _=>rfl⟩
   ·exact⟨g1,Ck,w1,h,rfl,id⟩⟩
 refine⟨⟨fun a g1 Ck e1 w1 ha => ?_,fun a g1 Ck e1 ha => ?_,fun a c g1 Ck e1 w1 g2 es2 e2 w2 ha hc hm => ?_,fun q hq=>by have:=hS.fr q hq;simp;omega,by have:=hS.To;simp;omega,by have:=hS.Kd;simp;omega⟩,
  { hU with cJ:=fun q hq hn=>List.getElem?_set_ne (hn b g es e hb dK),Cw:=fun q hq => .inl hq }⟩
 ·rcases fY uB ha with⟨rfl,h⟩ | ⟨fC,h⟩
  ·cases h
   exact⟨r',p,List.getElem?_set_self Tm,he,hl.mono hU⟩
  ·obtain⟨r1,p1,h1,h2,h3⟩:=hS.row a g1 Ck e1 w1 h
   exact⟨r1,p1,by rw[←h1];exact List.getElem?_set_ne (fun hm=>fC (hS.inj _ _ _ _ _ _ _ _ _ _ h hb hm.symm)),h2,h3.mono hU⟩
 ·rcases fY uB ha with⟨rfl,h⟩ | ⟨fC,h⟩
  ·cases h
   exact hS.wr _ _ _ _ hb
  ·exact hS.wr _ _ _ _ h
 ·rcases fY uB ha with⟨rfl,h⟩ | ⟨fC,h⟩<;>rcases fY uB hc with⟨rfl,h'⟩ | ⟨Xx,h'⟩
  ·rfl
  ·exact hS.inj _ _ _ _ _ _ _ _ _ _ hb h' hm
  ·exact hS.inj _ _ _ _ _ _ _ _ _ _ h hb hm
  ·exact hS.inj _ _ _ _ _ _ _ _ _ _ h h' hm
theorem Ui (hS:SR V lo eI) {b g e:Nat} {es mT:List VV} {r':List Value} (hb:V.H[b]? = some (.row g es e true)) (dK:lo≤b) (he:∀x∈mT,(aB x).length=e) (hl:VL V (mT.flatMap aB) r') {P1:aE} (hP:P1.length=V.P.length) (hk:∀q,q≠V.m b→P1[q]? = V.P[q]?) (p:Bool) :
  SR { V with m:=Y0 V.m b V.P.length,H:=V.H.set b (.row (g+1) mT e true),P:=P1++[.row r' e p] } lo eI∧EE lo V { V with m:=Y0 V.m b V.P.length,H:=V.H.set b (.row (g+1) mT e true),P:=P1++[.row r' e p] }:=by
 have uB:=(List.getElem?_eq_some_iff.1 hb).1
 have Tm:=hS.mlt hb
 have rG:∀q,q<V.P.length→q≠V.m b→(P1++[QU.row r' e p])[q]? = V.P[q]? := fun q hq hn=>by rw[List.getElem?_append_left (by omega)];exact hk q hn
 have hU:Up V { V with m:=Y0 V.m b V.P.length,H:=V.H.set b (.row (g+1) mT e true),P:=P1++[.row r' e p] } :=
  ⟨fun _ h=>h,fun q hq=>rG q (hS.fr q hq) (fun h=>(hS.wr b g es e hb).1 (by rw[←h];exact hq)),by simp,fun a g' Ck e1 w1 bF ha=>by
   rcases fY uB ha with⟨rfl,h⟩ | ⟨fC,h⟩
   ·cases h
    exact⟨g,es,true,hb,by omega,fun h=>by omega⟩
   ·exact⟨g',Ck,w1,h,Nat.le_refl _,fun _=>mI fC⟩,rfl,by simp;omega,fun a g1 Ck e1 w1 ha hm=>by
   rcases fY uB ha with⟨rfl,h⟩ | ⟨fC,h⟩
   ·simp only[lR] at hm
    omega
   ·exact⟨g1,Ck,w1,h,mI fC,id⟩⟩
 refine⟨⟨fun a g1 Ck e1 w1 ha => ?_,fun a g1 Ck e1 ha => ?_,fun a c g1 Ck e1 w1 g2 es2 e2 w2 ha hc hm => ?_,fun q hq=>by have:=hS.fr q hq;simp;omega,by have:=hS.To;simp;omega,by have:=hS.Kd;simp;omega⟩,
  { hU with cJ:=fun q hq hn=>rG q hq (Ne.symm (hn b g es e hb dK)),Cw:=fun q hq => .inl hq }⟩
 ·rcases fY uB ha with⟨rfl,h⟩ | ⟨fC,h⟩
  ·cases h
   refine⟨r',p,?_,he,hl.mono hU⟩
   simp only[lR]
   rw[←hP]
   simp
  ·obtain⟨r1,p1,h1,h2,h3⟩:=hS.row a g1 Ck e1 w1 h
   refine⟨r1,p1,?_,h2,h3.mono hU⟩
   simp only[mI fC]
   rw[rG _ (hS.mlt h) (fun hm=>fC (hS.inj _ _ _ _ _ _ _ _ _ _ h hb hm))]
   exact h1
 ·rcases fY uB ha with⟨rfl,h⟩ | ⟨fC,h⟩
  ·cases h
   simp only[lR]
   exact⟨fun hF=>by have:=hS.fr _ hF;omega,fun _=>hS.To⟩
  ·simp only[mI fC]
   exact hS.wr _ _ _ _ h
 ·rcases fY uB ha with⟨rfl,h⟩ | ⟨fC,h⟩<;>rcases fY uB hc with⟨rfl,h'⟩ | ⟨Xx,h'⟩
  ·rfl
  ·simp only[lR,mI Xx] at hm
   have:=hS.mlt h'
   omega
  ·simp only[lR,mI fC] at hm
   have:=hS.mlt h
   omega
  ·simp only[mI fC,mI Xx] at hm
   exact hS.inj _ _ _ _ _ _ _ _ _ _ h h' hm
def View.freeze (V:View) (b:Nat):View :=
 match V.H[b]? with
 | some (.row _ _ _ _)=>{ V with H:=BG V.H b,F:=fun q=>V.F q∨q=V.m b }
 | _=>V
theorem Ss (V:View) (b:Nat):(V.freeze b).H=BG V.H b:=by
 unfold View.freeze BG
 cases h:V.H[b]? with
 | none=>rfl
 | some x=>cases x<;>rfl
theorem aeQ (V:View) (b:Nat):(V.freeze b).P=V.P:=by
 unfold View.freeze
 split<;>rfl
theorem RP (V:View) (b:Nat):(V.freeze b).m=V.m:=by
 unfold View.freeze
 split<;>rfl
theorem Qh (hS:SR V lo eI) (b:Nat):SR (V.freeze b) lo eI∧EE lo V (V.freeze b)∧(∀g es e w,V.H[b]? = some (.row g es e w)→(V.freeze b).F (V.m b)):=by
 unfold View.freeze
 split
 case h_2 fC=>exact⟨hS,EE.refl _ _,fun g es e w h=>absurd h (fC _ _ _ _)⟩
 rename_i g es e w hb
 have uB:=(List.getElem?_eq_some_iff.1 hb).1
 have hf:BG V.H b=V.H.set b (.row g es e false):=by unfold BG;rw[hb]
 rw[hf]
 have hU:Up V { V with H:=V.H.set b (.row g es e false),F:=fun q=>V.F q∨q=V.m b } :=
  ⟨fun _ h => .inl h,fun _ _=>rfl,by simp,fun a g' Ck e1 w1 bF ha=>by
   rcases fY uB ha with⟨rfl,h⟩ | ⟨_,h⟩
   ·cases h
    exact⟨g,es,w,hb,Nat.le_refl _,fun _=>rfl⟩
   ·exact⟨g',Ck,w1,h,Nat.le_refl _,fun _=>rfl⟩,rfl,Nat.le_refl _,fun a g1 Ck e1 w1 ha hm=>by
   rcases fY uB ha with⟨rfl,h⟩ | ⟨fC,h⟩
   ·cases h
    exact⟨g,es,w,hb,rfl,fun h=>by cases h⟩
   ·exact⟨g1,Ck,w1,h,rfl,id⟩⟩
 refine⟨⟨fun a g1 Ck e1 w1 ha => ?_,fun a g1 Ck e1 ha => ?_,fun a c g1 Ck e1 w1 g2 es2 e2 w2 ha hc hm => ?_,fun q hq => ?_,hS.To,hS.Kd⟩,
  { hU with cJ:=fun q hq hn=>rfl,Cw:=fun q hq => ?_ },fun _ _ _ _ _ => .inr rfl⟩
 ·rcases fY uB ha with⟨rfl,h⟩ | ⟨fC,h⟩
  ·cases h
   obtain⟨r1,p1,h1,h2,h3⟩:=hS.row _ _ _ _ _ hb
   exact⟨r1,p1,h1,h2,h3.mono hU⟩
  ·obtain⟨r1,p1,h1,h2,h3⟩:=hS.row _ _ _ _ _ h
   exact⟨r1,p1,h1,h2,h3.mono hU⟩
 ·rcases fY uB ha with⟨rfl,h⟩ | ⟨fC,h⟩
  ·cases h
  ·refine⟨fun hF => ?_,(hS.wr _ _ _ _ h).2⟩
   rcases hF with hF | hF
   ·exact(hS.wr _ _ _ _ h).1 hF
   ·exact fC (hS.inj _ _ _ _ _ _ _ _ _ _ h hb hF)
 ·rcases fY uB ha with⟨rfl,h⟩ | ⟨fC,h⟩<;>rcases fY uB hc with⟨rfl,h'⟩ | ⟨Xx,h'⟩
  ·rfl
  ·exact hS.inj _ _ _ _ _ _ _ _ _ _ hb h' hm
  ·exact hS.inj _ _ _ _ _ _ _ _ _ _ h hb hm
  ·exact hS.inj _ _ _ _ _ _ _ _ _ _ h h' hm
 ·rcases hq with hq | hq
  ·exact hS.fr q hq
  ·subst hq;exact hS.mlt hb
 ·rcases hq with hq | hq
  ·exact .inl hq
  ·exact .inr (.inr ⟨b,g,es,e,w,hb,hq.symm⟩)
end
end Go.PM
namespace Go.PM
section
variable {V:View} {lo eI:Nat} {ρ:dM} {kG:Env}
def ER (V:View) (ρ:dM) (kG:Env):Prop:=∀t,VR V (ρ t) (kG t)
theorem ER.mono {V':View} (u:Up V V') (h:ER V ρ kG):ER V' ρ kG:=fun t=>(h t).mono u
theorem ER.ev (h:ER V ρ kG) (x:Operand):VR V (eH ρ x) (ev kG x):=by
 cases x with
 | tmp t=>exact h t
 | const v=>exact VR.inj v
 | global g=>exact .any _
 | func f=>exact .uP f [] [] .nil
theorem ER.put {d:Option Nat} {x:VV} {v:Value} (h:ER V ρ kG) (hx:VR V x v):ER V (J7 ρ d x) (put kG d v):=by
 cases d with
 | none=>exact h
 |
  some d =>
  intro t
  simp only[J7,PM.put]
  split
  ·exact hx
  ·exact h t
theorem ER.evs (h:ER V ρ kG) (xs:List Operand):VL V (xs.map (eH ρ)) (xs.map (PM.ev kG)):=VL.map fun x _=>h.ev x
def gM (lo eI:Nat) (V:View) (r:Option (Value×aE)) (v:VV) (H':aA):Prop :=
 ∃pv V',r=some (pv,V'.P)∧V'.H=H'∧SR V' lo eI∧EE lo V V'∧VR V' v pv
theorem gM.pure (hS:SR V lo eI) {r:Option Value} {v:VV} {pv:Value} (h:r=some pv) (hv:VR V v pv):gM lo eI V (r.map (·,V.P)) v V.H :=
 ⟨pv,V,by rw[h];rfl,rfl,hS,EE.refl _ _,hv⟩
theorem gM.of {V':View} {pv:Value} {v:VV} (h:SR V' lo eI∧EE lo V V') (hv:VR V' v pv):gM lo eI V (some (pv,V'.P)) v V'.H:=⟨pv,V',rfl,rfl,h.1,h.2,hv⟩
theorem gM.same (hS:SR V lo eI) {v:VV} {pv:Value} (hv:VR V v pv):gM lo eI V (some (pv,V.P)) v V.H :=
 ⟨pv,V,rfl,rfl,hS,EE.refl _ _,hv⟩
theorem cQ {α β:Type} {o:Option α} {f:α→β} {b:β} (h:o.map f=some b):∃a,o=some a∧f a=b:=by
 cases o with
 | none=>cases h
 | some a=>cases h;exact⟨a,rfl,rfl⟩
theorem qV {x:VV} {v u:Value} (h:VR V x u) (hx:x = .sc v):u=v∧kB v=true:=by
 subst hx
 cases h with
 | sc v h=>exact⟨rfl,h⟩
theorem Ze {op:BinOp} {a b c:Value} (h:dI op a b=some c):kB c=true:=by
 unfold dI at h
 split at h
 ·split at h<;>cases h;rfl
 ·split at h<;>cases h;rfl
 ·split at h
  ·split at h<;>first | (cases h;rfl) | (split at h<;>cases h<;>rfl) | cases h
  ·cases h
 ·split at h<;>first | (cases h;rfl) | (split at h<;>cases h<;>rfl) | cases h
 ·cases h
theorem agG {op:UnOp} {a c:Value} (h:pun op a=some c):kB c=true:=by
 unfold pun at h
 split at h<;>cases h<;>rfl
theorem ZG {n:Bool} {a b c:Value} (h:Nx n a b=some c):kB c=true:=by
 unfold Nx at h
 split at h<;>cases h;rfl
theorem aeO {k:IntKind} {a c:Value} (h:UA k a=some c):kB c=true:=by
 unfold UA at h
 split at h<;>cases h;rfl
theorem abN {a c:Value} (h:XS a=some c):kB c=true:=by
 unfold XS at h
 split at h<;>cases h;rfl
theorem Xk {a c:Value} (h:yU a=some c):kB c=true:=by
 unfold yU at h
 split at h<;>cases h;rfl
theorem Xh {a b c:Value} (h:FX a b=some c):kB c=true:=by
 unfold FX at h
 split at h
 ·split at h<;>cases h;rfl
 ·cases h
theorem aaG {a b c:Value} (h:Sh a b=some c):kB c=true:=by
 unfold Sh at h
 split at h<;>cases h;rfl
theorem ZD {a b c:Value} (h:SA a b=some c):kB c=true:=by
 unfold SA at h
 split at h<;>cases h;rfl
theorem DL (hS:SR V lo eI) {f:Value→Option Value} (hf:∀a c,f a=some c→kB c=true) {x v:VV} {u:Value} (hx:VR V x u) (h:MN f x=some v):gM lo eI V ((f u).map (·,V.P)) v V.H:=by
 unfold MN at h
 split at h
 ·obtain⟨h1,_⟩:=qV hx rfl
  subst h1
  obtain⟨c,hc,rfl⟩:=cQ h
  exact gM.pure hS hc (.sc _ (hf _ _ hc))
 ·cases h
theorem AU (hS:SR V lo eI) {f:Value→Value→Option Value} (hf:∀a b c,f a b=some c→kB c=true) {x y v:VV} {u w:Value} (hx:VR V x u) (hy:VR V y w) (h:IJ f x y=some v):gM lo eI V ((f u w).map (·,V.P)) v V.H:=by
 unfold IJ at h
 split at h
 ·obtain⟨h1,_⟩:=qV hx rfl
  obtain⟨h2,_⟩:=qV hy rfl
  subst h1 h2
  obtain⟨c,hc,rfl⟩:=cQ h
  exact gM.pure hS hc (.sc _ (hf _ _ _ hc))
 ·cases h
theorem UF {α:Type} (l:List α) {o n a k:Nat} (h:a+k≤n):(((l.drop o).take n).drop a).take k=(l.drop (o+a)).take k:=by
 rw[List.drop_take,List.take_take,List.drop_drop,Nat.min_eq_left (by omega)]
theorem SL {x v:VV} {agg:Bool} {size off b o e:Nat} {r:List Value} {p:Bool} (hb:V.P[b]? = some (.row r e p)) (ho:o+(aB x).length≤r.length) (hl:VL V (aB x) ((r.drop o).take (aB x).length)) (h:dD agg size x off=some v) :
  ∃u,nS agg size (.pointer (some ⟨b,o+off,none⟩)) V.P=some u∧VR V v u:=by
 unfold dD at h
 cases agg with
 |
  true =>
  simp only[if_true] at h
  split at h
  ·rename_i hs
   cases h
   refine⟨.agg ((r.drop (o+off)).take size).toArray,?_,.agg _ _ ?_⟩
   ·simp only[nS,if_true,AB hb (show o+off+size≤r.length by omega)]
    rfl
   ·have:=(hl.drop off).take size
    rw[UF _ hs] at this
    exact this
  ·cases h
 |
  false =>
  simp only[Bool.false_eq_true,if_false] at h
  obtain⟨u,hu,hv⟩:=hl.get h
  have alQ:=(List.getElem?_eq_some_iff.1 h).1
  rw[List.getElem?_take,if_pos alQ,List.getElem?_drop] at hu
  refine⟨u,?_,hv⟩
  have bF:=(List.getElem?_eq_some_iff.1 hu).1
  simp only[nS,Bool.false_eq_true,if_false,AB hb (show o+off+1≤r.length by omega)]
  rw[List.drop_eq_getElem_cons bF]
  simp only[List.take_succ_cons,List.take_zero]
  rw[List.getElem?_eq_getElem bF] at hu
  injection hu with hu
  rw[hu]
theorem K6 (hS:SR V lo eI) {b g e j:Nat} {es:List VV} {w:Bool} {x:VV} (hb:V.H[b]? = some (.row g es e w)) (hx:es[j]? = some x) :
  ∃r p,V.P[V.m b]? = some (.row r e p)∧(aB x).length=e∧j*e+(aB x).length≤r.length∧VL V (aB x) ((r.drop (j*e)).take (aB x).length):=by
 obtain⟨r,p,h1,h2,h3⟩:=hS.row b g es e w hb
 have hxe:=h2 x (List.mem_of_getElem? hx)
 have hj:=(List.getElem?_eq_some_iff.1 hx).1
 have hlen:=h3.length
 rw[kH h2] at hlen
 have hm:(j+1)*e≤es.length*e:=Nat.mul_le_mul_right _ hj
 rw[Nat.succ_mul] at hm
 refine⟨r,p,h1,hxe,by omega,?_⟩
 have:=(h3.drop (j*e)).take e
 rw[Mt h2 hx] at this
 rw[hxe]
 exact this
theorem Ly (hS:SR V lo eI) {p v:VV} {u:Value} {agg:Bool} {size:Nat} (hp:VR V p u) (h:bT agg size p V.H=some v):∃w,nS agg size u V.P=some w∧VR V v w:=by
 unfold bT at h
 split at h
 ·cases hp with
  | cN x off b o r e p hF hb ho hl=>exact SL hb ho hl h
 ·split at h
  ·rename_i es e w hr
   rw[cG] at hr
   split at h
   ·rename_i x hx
    cases hp with
    |
     ptr b g j off a bF hg ha hq =>
     have:=ha _ _ _ hr
     subst this
     obtain⟨r,p,h1,h2,h3,h4⟩:=K6 hS hr hx
     exact SL h1 h3 h4 h
   ·cases h
  ·cases h
 ·cases h
theorem Rp (hS:SR V lo eI) {x i v:VV} {u k:Value} {size:Nat} (hx:VR V x u) (hi:VR V i k) (h:bK size x i V.H=some v):∃w,P5 size u k=some w∧VR V v w:=by
 unfold bK at h
 split at h
 ·rename_i es tk ik i
  obtain⟨rfl,_⟩:=qV hi rfl
  split at h
  ·rename_i h0
   split at h
   ·rename_i y hy
    split at h
    ·rename_i BH
     cases h
     have bF:=(List.getElem?_eq_some_iff.1 hy).1
     cases hx with
     | pA=>simp at bF
     |
      tree es k b o c r e p hF hb ho hc he hk hl =>
      have hye:=he y (List.mem_of_getElem? hy)
      have M4:e=size:=by omega
      subst M4
      have hm:(i.toNat+1)*e≤es.length*e:=Nat.mul_le_mul_right _ bF
      rw[Nat.succ_mul] at hm
      refine⟨_,RA h0 (by omega),?_⟩
      have h1:=(hl.drop (i.toNat*e)).take e
      rw[Mt he hy,UF _ (by omega)] at h1
      exact .cN y 0 b (o+i.toNat*e) r e p hF hb (by omega) (by rw[hye];exact h1)
    ·cases h
   ·cases h
  ·cases h
 ·rename_i b g o n c ik i
  obtain⟨rfl,_⟩:=qV hi rfl
  split at h
  ·rename_i es e w hr
   rw[cG] at hr
   split at h
   ·rename_i hc
    obtain⟨rfl,h0,h1⟩:=hc
    cases h
    cases hx with
    |
     ref b g o n c a n' c' bF hg ha hq =>
     obtain⟨rfl,rfl,rfl⟩:=ha _ _ _ hr
     refine⟨_,RA h0 h1,.ptr b g (o+i.toNat) 0 _ bF hg (fun mT e' w' Eu => ?_) fun a0 h=>by cases h;exact hq ⟨V.m b,o*e,none⟩ rfl⟩
     rw[hr] at Eu
     cases Eu
     rw[Nat.add_mul,Nat.add_zero]
   ·cases h
  ·cases h
 ·cases h
theorem Bb {l:Option Operand} {lv:Option Value} (hE:ER V ρ kG) (h:Fu (l.map (eH ρ))=some lv):l.map (ev kG)=lv:=by
 cases l with
 | none=>cases h;rfl
 |
  some x =>
  simp only[Option.map_some,Fu] at h
  split at h
  ·rename_i hv;cases hv
  ·rename_i v hv
   cases h
   injection hv with hv
   obtain⟨h1,_⟩:=qV (hE.ev x) hv
   rw[Option.map_some,h1]
  ·cases h
theorem IS {v:Option Value} {d:Option Nat} {t x:Nat} (hd:∀y,d=some y→y≤t) (h:eU v d t=some x):x≤t:=by
 unfold eU at h
 split at h
 ·exact hd _ h
 ·split at h
  ·cases h;omega
  ·cases h
 ·cases h
theorem NK {v:Option Value} {d d':Option Nat} {t t' x:Nat} (ht:t≤t') (hd:v=none→d=d') (h:eU v d t=some x):eU v d' t'=some x:=by
 unfold eU at h ⊢
 cases v with
 | none=>rw[←hd rfl];exact h
 |
  some v =>
  cases v with
  |
   int k i =>
   simp only at h ⊢
   split at h
   ·rename_i h1;rw[if_pos (by omega)];exact h
   ·cases h
  | _=>simp only at h ⊢;exact h
theorem N9 (hS:SR V lo eI) (size:Nat):gM lo eI V (some (.slice (some ⟨V.P.length,0,none⟩) 0 0,V.P++[.row [] size false])) (.tree [] (.cl size)) V.H:=by
 exact(gM.of (Bu hS (.row [] size false)) (.tree [] (.cl size) V.P.length 0 0 [] size false (.inr rfl) (by simp) (by simp) (by simp) (fun x hx=>by cases hx) ⟨rfl,rfl,rfl⟩ (by simp;exact .nil)) :)
theorem XV (hS:SR V lo eI) (hE:ER V ρ kG) {x v:VV} {u:Value} {size:Nat} {l h m:Option Operand} (hx:VR V x u) (hv:FP size x (l.map (eH ρ)) (h.map (eH ρ)) (m.map (eH ρ)) V.H=some v) :
  gM lo eI V (CA size u (l.map (ev kG)) (h.map (ev kG)) (m.map (ev kG)) V.P) v V.H:=by
 unfold FP at hv
 split at hv
 case h_2=>cases hv
 rename_i lv hhv mv hl hh hm
 rw[Bb hE hl,Bb hE hh,Bb hE hm]
 split at hv
 ·rename_i y ys tk
  split at hv
  case isFalse=>cases hv
  rename_i BH
  split at hv
  ·cases hv
  rename_i m0 hm0
  split at hv
  ·cases hv
  rename_i h0 hh0
  split at hv
  ·cases hv
  rename_i l0 Bi
  cases hx with
  |
   tree es k b o c r e p hF hb ho hc he hk hl =>
   have M4:e=size:=by rw[←he y List.mem_cons_self];exact BH
   subst M4
   have hlen:(y::ys).length=ys.length+1:=rfl
   rw[hlen] at ho hc
   have b1:m0≤ys.length+1:=IS (fun z hz=>by injection hz with hz;omega) hm0
   have b2:h0≤m0:=by
    refine IS (fun z hz => ?_) hh0
    split at hz
    ·cases hz
    ·rename_i hmn
     injection hz with hz
     have:mv=none:=by cases mv<;>simp_all
     subst this
     simp[eU] at hm0
     omega
   have b3:l0≤h0:=IS (fun z hz=>by injection hz with hz;omega) Bi
   have e1:eU mv (some c) c=some (if mv.isSome then m0 else c):=by
    cases mv with
    | none=>rfl
    | some q=>exact NK hc (fun hq=>by cases hq) hm0
   have e2:eU hhv (if mv.isSome then none else some (ys.length+1)) (if mv.isSome then m0 else c)=some h0:=by
    cases mv with
    |
     none =>
     simp only[Option.isSome_none,Bool.false_eq_true,if_false] at hh0 ⊢
     exact NK (by omega) (fun _=>rfl) hh0
    | some q=>exact hh0
   unfold CA
   simp only[hb,if_true]
   rw[e1]
   simp only
   rw[hlen,e2]
   simp only
   rw[Bi]
   simp only
   by_cases oO:mv.isSome=true∧m0=l0
   ·rw[if_pos oO] at hv
    cases hv
    rw[if_pos ⟨oO.1,by rw[if_pos oO.1];exact oO.2⟩]
    exact N9 hS e
   ·rw[if_neg oO] at hv
    cases hv
    rw[if_neg (fun hh=>oO ⟨hh.1,by have:=hh.2;rw[if_pos hh.1] at this;exact this⟩)]
    have bF:(((y::ys).drop l0).take (h0-l0)).length=h0-l0:=by simp;omega
    have Qx:l0*e+(h0-l0)*e=h0*e:=by rw[←Nat.add_mul];congr 1;omega
    have hm2:h0*e≤(ys.length+1)*e:=Nat.mul_le_mul_right _ (by omega)
    have TS:h0-l0≤(if mv.isSome then m0 else c)-l0:=by split<;>omega
    have:=VR.tree (V:=V) (((y::ys).drop l0).take (h0-l0)) .op b (o+l0*e) ((if mv.isSome then m0 else c)-l0) r e p hF hb (by rw[bF];omega) (by rw[bF];exact TS) (fun z hz=>he z (List.mem_of_mem_drop (List.mem_of_mem_take hz))) trivial (by
     rw[bF]
     have h1:=(hl.drop (l0*e)).take ((h0-l0)*e)
     rw[UF _ (by rw[hlen];omega),tT he,tE (fun z hz=>he z (List.mem_of_mem_drop hz))] at h1
     exact h1)
    rw[bF] at this
    exact gM.same hS this
 ·rename_i b g o n c
  split at hv
  case h_2=>cases hv
  rename_i es e w hr
  rw[cG] at hr
  split at hv
  case isFalse=>cases hv
  rename_i BH
  subst BH
  split at hv
  ·cases hv
  rename_i m0 hm0
  split at hv
  ·cases hv
  rename_i h0 hh0
  split at hv
  ·cases hv
  rename_i l0 Bi
  cases hx with
  |
   ref b g o n c a n' c' bF hg ha hq =>
   obtain⟨rfl,rfl,rfl⟩:=ha _ _ _ hr
   obtain⟨r,p,h1,_⟩:=hS.row b g es e w hr
   unfold CA
   simp only[h1,if_true]
   rw[hm0]
   simp only
   rw[hh0]
   simp only
   rw[Bi]
   simp only
   by_cases oO:mv.isSome=true∧m0=l0
   ·rw[if_pos oO] at hv
    cases hv
    rw[if_pos oO]
    exact N9 hS e
   ·rw[if_neg oO] at hv
    cases hv
    rw[if_neg oO]
    refine gM.same hS (.ref b g (o+l0) _ _ _ _ _ bF hg (fun mT e' w' Eu => ?_) fun a0 h=>by cases h;exact hq ⟨V.m b,o*e,none⟩ rfl)
    rw[hr] at Eu
    cases Eu
    exact⟨by rw[Nat.add_mul],rfl,rfl⟩
 ·cases hv
theorem AH {es:List VV} (h:(es.all fun x=>(aB x).all bP)=true):(es.flatMap aB).all bP=true:=by
 rw[List.all_eq_true] at h ⊢
 intro x hx
 obtain⟨y,hy,An⟩:=List.mem_flatMap.1 hx
 exact List.all_eq_true.1 (h y hy) x An
theorem wG (hS:SR V lo eI) {y:VV} {u:Value} {size:Nat} {new:List VV} (hy:VR V y u) (h:cU size y V.H=some new) :
  rY u=some new.length∧(∀x∈new,(aB x).length=size)∧(new.flatMap aB).all bP=true∧∀n,n≤new.length→∃pn,jD V.P size n u=some pn∧VL V ((new.take n).flatMap aB) pn:=by
 unfold cU at h
 split at h
 ·rename_i es tk
  split at h
  case isFalse=>cases h
  rename_i lF
  cases h
  have Zb:∀x∈new,(aB x).length=size∧(aB x).all bP=true:=fun x hx=>by
   have:=List.all_eq_true.1 lF x hx
   simpa using this
  refine⟨?_,fun x hx=>(Zb x hx).1,AH (List.all_eq_true.2 fun x hx=>(Zb x hx).2),fun n hn => ?_⟩
  ·cases hy<;>rfl
  ·cases hy with
   |
    pA k hk =>
    have:n=0:=by simpa using hn
    subst this
    exact⟨[],rfl,by simp;exact .nil⟩
   |
    tree es k b o c r e p hF hb ho hc he hk hl =>
    cases M4:new with
    |
     nil =>
     rw[M4] at hn
     have:n=0:=by simpa using hn
     subst this
     refine⟨[],?_,by simp;exact .nil⟩
     simp only[jD,Nat.zero_mul]
     rw[AB hb (by omega)]
     simp
    |
     cons x xs =>
     have PV:e=size:=by rw[←he x (by rw[M4];exact List.mem_cons_self)];exact(Zb x (by rw[M4];exact List.mem_cons_self)).1
     subst PV
     have hm:n*e≤new.length*e:=Nat.mul_le_mul_right _ hn
     refine⟨_,by simp only[jD];exact AB hb (by omega),?_⟩
     rw[←M4,←tE he]
     have h1:=hl.take (n*e)
     rw[List.take_take,Nat.min_eq_left hm] at h1
     exact h1
 ·rename_i b g o n c
  split at h
  case h_2=>cases h
  rename_i es e w hr
  rw[cG] at hr
  split at h
  case isFalse=>cases h
  rename_i hc
  obtain⟨rfl,hlen,lF⟩:=hc
  cases h
  obtain⟨r,p,h1,h2,h3⟩:=hS.row b g es e w hr
  have hn2:((es.drop o).take n).length=n:=by simp;omega
  have yS:=h3.length
  rw[kH h2] at yS
  cases hy with
  |
   ref b g o n c a n' c' bF hg ha hq =>
   obtain⟨rfl,rfl,rfl⟩:=ha _ _ _ hr
   have acN:∀x∈(es.drop o).take n',(aB x).length=e:=fun x hx=>h2 x (List.mem_of_mem_drop (List.mem_of_mem_take hx))
   refine⟨by rw[hn2];rfl,acN,AH lF,fun k hk => ?_⟩
   rw[hn2] at hk
   have hm:(o+k)*e≤es.length*e:=Nat.mul_le_mul_right _ (by omega)
   rw[Nat.add_mul] at hm
   refine⟨_,by simp only[jD];exact AB h1 (by omega),?_⟩
   rw[List.take_take,Nat.min_eq_left hk]
   have h4:=(h3.drop (o*e)).take (k*e)
   rw[tT h2,tE (fun x hx=>h2 x (List.mem_of_mem_drop hx))] at h4
   exact h4
 ·rename_i s
  split at h
  case isFalse=>cases h
  rename_i hs
  subst hs
  cases h
  obtain⟨rfl,_⟩:=qV hy rfl
  have hlen:(s.data.toList.map fun b=>VV.sc (.int .u8 (b.toNat:Int))).length=s.size:=by simp
  refine⟨by rw[hlen];rfl,fun x hx => ?_,?_,fun n hn => ?_⟩
  ·obtain⟨b,_,rfl⟩:=List.mem_map.1 hx
   rfl
  ·refine AH (List.all_eq_true.2 fun x hx => ?_)
   obtain⟨b,_,rfl⟩:=List.mem_map.1 hx
   rfl
  ·refine⟨(s.data.toList.take n).map fun b=>Value.int .u8 (b.toNat:Int),by simp only[jD,if_true],?_⟩
   rw[←List.map_take,List.flatMap_map]
   have:((s.data.toList.take n).flatMap fun a=>aB (VV.sc (.int .u8 (a.toNat:Int))))=(s.data.toList.take n).map fun a=>VV.sc (.int .u8 (a.toNat:Int)):=by
    generalize s.data.toList.take n=l
    induction l with
    | nil=>rfl
    | cons a l ih=>rw[List.flatMap_cons,ih];rfl
   rw[this]
   exact VL.map fun b _ => .sc _ rfl
 ·cases h
end
end Go.PM
namespace Go.PM
section
variable {V:View} {lo eI:Nat} {ρ:dM} {kG:Env}
theorem Kl (hS:SR V lo eI) {es:List VV} {r:List Value} {e n c:Nat} {p:Bool}:VR { V with m:=Y0 V.m V.H.length V.P.length,H:=V.H++[.row 0 es e true],P:=V.P++[.row r e p] } (.ref V.H.length 0 0 n c) (.slice (some ⟨V.P.length,0,none⟩) n c):=by
 refine .ref _ _ _ _ _ _ _ _ (by simp) (fun g' es e w _=>Nat.zero_le _) (fun mT e' w' h=>⟨?_,rfl,rfl⟩) fun a0 ha => ?_
 ·simp only[lR,Nat.zero_mul]
 ·cases ha
  refine⟨hS.Kd,by simp,fun b' g' mT e' w' hb fC hm => ?_⟩
  have uC:(V.H++[cO.row 0 es e true])[b']? = some (.row g' mT e' w'):=hb
  have bF:b'<V.H.length:=by
   have:=(List.getElem?_eq_some_iff.1 uC).1
   simp at this
   omega
  rw[List.getElem?_append_left bF] at uC
  have h2:=hS.mlt uC
  simp only[mI (show b'≠V.H.length by omega)] at hm
  omega
theorem Wk (hS:SR V lo eI) {es:List VV} {r:List Value} {e:Nat} {p:Bool}:VR { V with m:=Y0 V.m V.H.length V.P.length,H:=V.H++[.row 0 es e true],P:=V.P++[.row r e p] } (.ptr V.H.length 0 0 0) (.pointer (some ⟨V.P.length,0,none⟩)):=by
 refine .ptr _ _ _ _ _ (by simp) (fun g' es e w _=>Nat.zero_le _) (fun mT e' w' h => ?_) fun a0 ha => ?_
 ·simp only[lR,Nat.zero_mul]
 ·cases ha
  refine⟨hS.Kd,by simp,fun b' g' mT e' w' hb fC hm => ?_⟩
  have uC:(V.H++[cO.row 0 es e true])[b']? = some (.row g' mT e' w'):=hb
  have bF:b'<V.H.length:=by
   have:=(List.getElem?_eq_some_iff.1 uC).1
   simp at this
   omega
  rw[List.getElem?_append_left bF] at uC
  have h2:=hS.mlt uC
  simp only[mI (show b'≠V.H.length by omega)] at hm
  omega
theorem Hk (hS:SR V lo eI) {x v:VV} {u:Value} {size bytes:Nat} {nw:List VV} {pn:List Value} {H':aA} (hx:VR V x u) (hn:∀x∈nw,(aB x).length=size) (uW:(nw.flatMap aB).all bP=true) (hl:VL V (nw.flatMap aB) pn) (h:eW lo size bytes x nw V.H=some (v,H')) :
  gM lo eI V (eO eI size bytes u nw.length pn V.P) v H':=by
 unfold eW at h
 split at h
 case isFalse=>cases h
 rename_i hbs
 have Tm:pn.length=nw.length*size:=by rw[hl.length,kH hn]
 unfold eO
 rw[if_pos ⟨hbs.1,hbs.2,hl.fS uW,Tm⟩]
 split at h
 ·cases hx with
  | tree es k b o c r e p hF hb ho hc he hk hl=>exact hk.elim
  |
   pA =>
   simp only[and_self,if_true]
   split at h
   ·rename_i h0
    cases h
    rw[if_pos h0]
    exact gM.same hS (.pA _ (.inr rfl))
   ·rename_i h0
    split at h
    case isFalse=>cases h
    rename_i h1
    cases h
    rw[if_neg h0,if_pos h1]
    exact(gM.of (qZ hS (es:=nw) (r:=pn) (e:=size) true hn hl) (Kl hS) :)
 ·rename_i es e
  split at h
  case isFalse=>cases h
  rename_i M4
  subst M4
  cases hx with
  | pA k hk=>rcases hk with hk | hk<;>cases hk
  |
   tree es k b o c r e' p hF hb ho hc he hk BV =>
   obtain⟨h1,h2,h3⟩:=hk
   subst h1 h2 h3
   simp only[hb]
   rw[if_pos ⟨trivial,ho⟩]
   split at h
   ·rename_i h0
    cases h
    rw[if_pos (by omega),if_pos h0]
    exact gM.same hS (.tree es _ b o _ r e false hF hb ho hc he ⟨rfl,rfl,rfl⟩ BV)
   ·rename_i h0
    split at h
    case isFalse=>cases h
    rename_i BH
    cases h
    rw[if_neg (by omega),if_pos BH]
    simp only[Bool.false_eq_true,if_false]
    have lF:∀x∈es++nw,(aB x).length=e:=fun x hx=>by
     rcases List.mem_append.1 hx with h | h
     ·exact he x h
     ·exact hn x h
    exact(gM.of (qZ hS (es:=es++nw) (r:=(r.drop o).take (es.length*e)++pn) (e:=e) true lF (by rw[List.flatMap_append];exact BV.append hl)) (Kl hS) :)
 ·rename_i b g o n c
  split at h
  case h_2=>cases h
  rename_i es e hr
  rw[cG] at hr
  split at h
  case isFalse=>cases h
  rename_i hc
  obtain⟨rfl,dK,hon⟩:=hc
  obtain⟨r,p,h1,h2,h3⟩:=hS.row b g es e true hr
  have yS:=h3.length
  rw[kH h2] at yS
  have Ep:=(hS.wr b g es e hr).2 dK
  cases hx with
  |
   ref b g o n c a n' c' bF hg ha hq =>
   obtain⟨rfl,rfl,rfl⟩:=ha _ _ _ hr
   have hm:(o+n')*e≤es.length*e:=Nat.mul_le_mul_right _ hon
   rw[Nat.add_mul] at hm
   simp only[h1]
   rw[if_pos ⟨trivial,by omega⟩]
   split at h
   ·rename_i hnc
    rw[if_pos hnc]
    split at h
    ·rename_i h0
     cases h
     rw[if_pos h0]
     exact gM.same hS (.ref _ _ _ _ _ _ _ _ bF hg ha hq)
    ·rename_i h0
     split at h
     case isFalse=>cases h
     rename_i sZ
     cases h
     rw[if_neg h0]
     have hm2:(o+n'+nw.length)*e≤es.length*e:=Nat.mul_le_mul_right _ sZ
     rw[Nat.add_mul,Nat.add_mul] at hm2
     have lF:∀x∈cY es (o+n') nw,(aB x).length=e:=fun x hx=>by
      rcases JG hx with h | h
      ·exact h2 x h
      ·exact hn x h
     have FT:VL V ((cY es (o+n') nw).flatMap aB) (iT r (o*e+n'*e) pn):=by
      rw[←vZ h2 hn,Nat.add_mul]
      exact h3.iT hl _
     obtain⟨g1,g2⟩:=CH hS hr dK lF FT h1
     refine⟨.slice (some ⟨V.m b,o*e,none⟩) (n'+nw.length) c',{ V with H:=V.H.set b (.row g (cY es (o+n') nw) e true),P:=V.P.set (V.m b) (.row (iT r (o*e+n'*e) pn) e p) },?_,rfl,g1,g2,?_⟩
     ·unfold aE.write
      simp only[h1]
      rw[if_pos ⟨Ep,by omega,hl.fS uW⟩]
      rfl
     ·refine .ref _ _ _ _ _ _ _ _ (by simpa using bF) (fun g' mT e' w' Eu => ?_) (fun mT e' w' Eu => ?_) fun a0 h=>by cases h;exact g2.toUp.hq (hq _ rfl)
      ·rcases fY bF Eu with⟨_,h⟩ | ⟨h,_⟩
       ·cases h;exact Nat.le_refl _
       ·exact absurd rfl h
      ·rcases fY bF Eu with⟨_,h⟩ | ⟨h,_⟩
       ·cases h;exact⟨rfl,rfl,rfl⟩
       ·exact absurd rfl h
   ·rename_i hnc
    split at h
    case isFalse=>cases h
    rename_i BH
    cases h
    rw[if_neg hnc,if_pos BH]
    have lF:∀x∈(es.drop o).take n'++nw,(aB x).length=e:=fun x hx=>by
     rcases List.mem_append.1 hx with h | h
     ·exact h2 x (List.mem_of_mem_drop (List.mem_of_mem_take h))
     ·exact hn x h
    have FT:VL V (((es.drop o).take n'++nw).flatMap aB) ((r.drop (o*e)).take (n'*e)++pn):=by
     rw[List.flatMap_append]
     refine VL.append ?_ hl
     have h4:=(h3.drop (o*e)).take (n'*e)
     rw[tT h2,tE (fun x hx=>h2 x (List.mem_of_mem_drop hx))] at h4
     exact h4
    have fin:∀P1:aE,P1.length=V.P.length→(∀q,q≠V.m b→P1[q]? = V.P[q]?) →
      gM lo eI V (some (.slice (some ⟨V.P.length,0,none⟩) (n'+nw.length) (n'+nw.length),P1++[.row ((r.drop (o*e)).take (n'*e)++pn) e true])) (.ref b (g+1) 0 (n'+nw.length) (n'+nw.length)) (V.H.set b (.row (g+1) ((es.drop o).take n'++nw) e true)):=by
     intro P1 hP hk
     refine(gM.of (Ui hS hr dK lF FT hP hk true) ?_ :)
     refine .ref _ _ _ _ _ _ _ _ (by simpa using bF) (fun g' mT e' w' Eu => ?_) (fun mT e' w' Eu => ?_) fun a0 h => ?_
     ·rcases fY bF Eu with⟨_,h⟩ | ⟨h,_⟩
      ·cases h;exact Nat.le_refl _
      ·exact absurd rfl h
     ·rcases fY bF Eu with⟨_,h⟩ | ⟨h,_⟩
      ·cases h;exact⟨by simp only[lR,Nat.zero_mul],rfl,rfl⟩
      ·exact absurd rfl h
     ·cases h
      refine⟨hS.Kd,by simp[hP],fun b' g' mT e' w' hb fC hm => ?_⟩
      rcases fY bF hb with⟨h,_⟩ | ⟨_,h⟩
      ·exact fC h
      ·simp only[mI fC] at hm
       have:=hS.mlt h
       omega
    cases p with
    |
     true =>
     simp only[if_true,Ep]
     exact fin (V.P.set (V.m b) .dead) (by simp) fun q hq=>List.getElem?_set_ne (Ne.symm hq)
    |
     false =>
     simp only[Bool.false_eq_true,if_false]
     exact fin V.P rfl fun _ _=>rfl
 ·cases h
theorem Td (hS:SR V lo eI) {p v:VV} {u w:Value} {size:Nat} {H':aA} (hp:VR V p u) (hv:VR V v w) (h:bR lo size p v V.H=some H'):gM lo eI V (Fi eI size u w V.P) pL H':=by
 unfold bR at h
 split at h
 case h_2=>cases h
 rename_i b g j o
 split at h
 case h_2=>cases h
 rename_i es e hr
 rw[cG] at hr
 split at h
 case h_2=>cases h
 rename_i x hx
 split at h
 case isFalse=>cases h
 rename_i hc
 obtain⟨BH,dK,uW⟩:=hc
 obtain⟨r,q,h1,h2,h3⟩:=hS.row b g es e true hr
 have yS:=h3.length
 rw[kH h2] at yS
 have Ep:=(hS.wr b g es e hr).2 dK
 have hj:=(List.getElem?_eq_some_iff.1 hx).1
 have hxe:=h2 x (List.mem_of_getElem? hx)
 have hm:(j+1)*e≤es.length*e:=Nat.mul_le_mul_right _ hj
 rw[Nat.succ_mul] at hm
 have oO:=hv.cells (Vh uW)
 have hwl:(aO w).length=size:=by rw[oO.length,BH]
 cases hp with
 |
  ptr b g j off a bF hg ha hq =>
  have:=ha _ _ _ hr
  subst this
  have fin:∀y:VV,(aB y).length=e→o+size≤e→aB y=cY (aB x) o (aB v)→H'=V.H.set b (.row g (es.set j y) e true)→gM lo eI V (Fi eI size (.pointer (some ⟨V.m b,j*e+o,none⟩)) w V.P) pL H':=by
   intro y hy ho hye hH
   subst hH
   have lF:∀z∈es.set j y,(aB z).length=e:=fun z hz=>by
    rcases List.mem_or_eq_of_mem_set hz with h | h
    ·exact h2 z h
    ·subst h;exact hy
   have FT:VL V ((es.set j y).flatMap aB) (iT r (j*e+o) (aO w)):=by
    have e1:(es.set j y).flatMap aB=cY (es.flatMap aB) (j*e+o) (aB v):=by
     rw[←Ji hj,←vZ h2 (new:=[y]) (fun z hz=>by rw[List.mem_singleton] at hz;subst hz;exact hy)]
     simp only[List.flatMap_cons,List.flatMap_nil,List.append_nil]
     rw[hye]
     have hx2:=Mt h2 hx
     unfold cY
     have t1:(es.flatMap aB).take (j*e+o)=(es.flatMap aB).take (j*e)++(aB x).take o:=by
      rw[List.take_add,←hx2,List.take_take,Nat.min_eq_left (by omega)]
     have t2:(es.flatMap aB).drop (j*e+o+(aB v).length)=(aB x).drop (o+(aB v).length)++(es.flatMap aB).drop (j*e+e):=by
      have t0:(es.flatMap aB).drop (j*e+e)=((es.flatMap aB).drop (j*e+(o+(aB v).length))).drop (e-(o+(aB v).length)):=by
       rw[List.drop_drop]
       congr 1
       omega
      rw[←hx2,List.drop_take,List.drop_drop,t0,List.take_append_drop,Nat.add_assoc]
     rw[t1,t2]
     have t3:(List.take o (aB x)++aB v++List.drop (o+(aB v).length) (aB x)).length=e:=by
      simp;omega
     rw[t3]
     simp only[List.append_assoc]
    rw[e1]
    exact h3.iT oO _
   obtain⟨g1,g2⟩:=CH hS hr dK lF FT h1
   refine⟨undef,{ V with H:=V.H.set b (.row g (es.set j y) e true),P:=V.P.set (V.m b) (.row (iT r (j*e+o) (aO w)) e q) },?_,rfl,g1,g2,.dT [] [] .nil⟩
   unfold Fi
   simp only[hwl,if_true]
   unfold aE.write
   simp only[h1]
   rw[if_pos ⟨Ep,by omega,oO.fS uW⟩]
   rfl
  split at h
  ·rename_i ho
   obtain⟨rfl,rfl⟩:=ho
   cases h
   refine fin v BH (by omega) ?_ rfl
   unfold cY
   rw[Nat.zero_add,List.take_zero,List.nil_append,List.drop_of_length_le (by omega),List.append_nil]
  ·split at h
   case isFalse=>cases h
   rename_i ho
   cases h
   have Uu:(cY (aB x) o (aB v)).length=e:=by rw[Rz (by omega)];exact hxe
   exact fin (.agg (cY (aB x) o (aB v))) Uu (by omega) rfl rfl
theorem C1 {z:List Value} (hz:(z.map jB).all bP=true):(aB (elemOf (z.map jB))).length=z.length:=by
 rw[nI hz,List.length_map]
theorem Bq {z:List Value} (hz:(z.map jB).all bP=true):∀n,VL V ((List.replicate n (elemOf (z.map jB))).flatMap aB) (cZ n z):=by
 intro n
 have uW:z.all fS=true:=(VL.zero (V:=V) z).fS hz
 have adU:cZ n z=(List.replicate n ()).flatMap fun _=>z:=by
  rcases Nat.eq_zero_or_pos z.length with h0 | kY
  ·have:z=[]:=List.length_eq_zero_iff.1 h0
   subst this
   simp[cZ]
  ·exact SH (enc:=fun(_:Unit)=>z) (kJ:=z.length) (x:=()) ⟨fun _=>rfl,fun _=>uW,kY⟩
 rw[adU]
 clear adU
 induction n with
 | zero=>exact .nil
 |
  succ n ih =>
  rw[List.replicate_succ,List.replicate_succ,List.flatMap_cons,List.flatMap_cons,nI hz]
  exact(VL.zero z).append ih
theorem T3 (hS:SR V lo eI) {z:List Value} {bytes:Nat} {l c v:VV} {u w:Value} {H':aA} (hz:(z.map jB).all bP=true) (hl:VR V l u) (hc:VR V c w) (h:Ay z bytes l c V.H=some (v,H')):gM lo eI V (Wm z bytes u w V.P) v H':=by
 unfold Ay at h
 split at h
 case h_2=>cases h
 obtain⟨rfl,_⟩:=qV hl rfl
 obtain⟨rfl,_⟩:=qV hc rfl
 split at h
 case isFalse=>cases h
 rename_i R1
 cases h
 unfold Wm
 simp only[if_pos R1]
 exact(gM.of (qZ hS (e:=z.length) false (fun x hx=>by rw[List.eq_of_mem_replicate hx];exact C1 hz) (Bq hz _)) (Kl hS) :)
theorem XB (hS:SR V lo eI) {z:List Value} (hz:(z.map jB).all bP=true):gM lo eI V (some (.pointer (some ⟨V.P.length,0,none⟩),V.P++[.row z z.length false])) (.ptr V.H.length 0 0 0) (V.H++[.row 0 [elemOf (z.map jB)] z.length true]):=by
 exact(gM.of (qZ hS (es:=[elemOf (z.map jB)]) (r:=z) (e:=z.length) false (fun x hx=>by rw[List.mem_singleton] at hx;subst hx;exact C1 hz) (by simp only[List.flatMap_cons,List.flatMap_nil,List.append_nil,nI hz];exact VL.zero z)) (Wk hS) :)
theorem W5 (hS:SR V lo eI) {x v:VV} {u:Value} {H':aA} {bf:Bool} (hx:VR V x u) (hs:(aB x).all bP=true) (h:(if bf=true then some (VV.cN x 0,V.H) else some (VV.ptr V.H.length 0 0 0,V.H++[cO.row 0 [x] (aB x).length true]))=some (v,H')) :
  gM lo eI V (if (aO u).all fS then some (.pointer (some ⟨V.P.length,0,none⟩),V.P++[.row (aO u) (aO u).length false]) else none) v H':=by
 have hc:=hx.cells (Vh hs)
 rw[if_pos (hc.fS hs)]
 split at h
 ·cases h
  have g:=Bu hS (.row (aO u) (aO u).length false)
  refine(gM.of g ?_ :)
  have hm:=hc.mono g.2.toUp
  refine .cN x 0 V.P.length 0 (aO u) (aO u).length false (.inr rfl) (by simp) (by rw[hc.length];omega) ?_
  rw[List.drop_zero,List.take_of_length_le (by rw[hc.length];exact Nat.le_refl _)]
  exact hm
 ·cases h
  rw[hc.length]
  exact(gM.of (qZ hS (es:=[x]) (r:=aO u) (e:=(aB x).length) false (fun y hy=>by rw[List.mem_singleton] at hy;subst hy;rfl) (by simpa using hc)) (Wk hS) :)
theorem take_set {α:Type} {l:List α} {i:Nat} {x:α} (h:i<l.length):l.set i x=l.take i++x::l.drop (i+1):=by
 rw[List.set_eq_take_append_cons_drop,if_pos h]
inductive TR (V:View):List (Nat×VV)→List (Nat×Value)→Prop
 | nil:TR V [] []
 | cons {i:Nat} {x:VV} {v:Value} {xs:List (Nat×VV)} {vs:List (Nat×Value)} (h:VR V x v) (hs:TR V xs vs):TR V ((i,x)::xs) ((i,v)::vs)
theorem Ez {e n:Nat}:∀ {parts:List (Nat×VV)} {Aa:List (Nat×Value)} {es mT:List VV} {r:List Value},es.length=n→(∀x∈es,(aB x).length=e)→VL V (es.flatMap aB) r →
  TR V parts Aa→uD e es parts=some mT→mT.length=n∧(∀x∈mT,(aB x).length=e)∧∃r',vO ((List.range n).map fun i=>(i*e,e)) r Aa=some r'∧VL V (mT.flatMap aB) r'
 |
  [],_,es,mT,r,hn,he,hl,.nil,h=>by
  cases h
  exact⟨hn,he,r,rfl,hl⟩
 |
  (i,v)::parts,(_,w)::Aa,es,mT,r,hn,he,hl,.cons hv hps,h=>by
  unfold uD at h
  split at h
  case isFalse=>cases h
  rename_i hc
  obtain⟨hi,hve,uW⟩:=hc
  have oO:=hv.cells (Vh uW)
  have hwl:(aO w).length=e:=by rw[oO.length,hve]
  have yS:=hl.length
  rw[kH he] at yS
  have hm:(i+1)*e≤es.length*e:=Nat.mul_le_mul_right _ hi
  rw[Nat.succ_mul] at hm
  have lF:∀x∈es.set i v,(aB x).length=e:=fun x hx=>by
   rcases List.mem_or_eq_of_mem_set hx with h | h
   ·exact he x h
   ·subst h;exact hve
  have FT:VL V ((es.set i v).flatMap aB) (r.take (i*e)++aO w++r.drop (i*e+e)):=by
   have h1:=hl.iT oO (i*e)
   have h2:=vZ he (new:=[v]) (fun z hz=>by rw[List.mem_singleton] at hz;subst hz;exact hve) i
   simp only[List.flatMap_cons,List.flatMap_nil,List.append_nil] at h2
   rw[h2,Ji hi] at h1
   unfold iT at h1
   rw[hwl] at h1
   exact h1
  obtain⟨g1,g2,r',g3,g4⟩:=Ez (n:=n) (by rw[List.length_set];exact hn) lF FT hps h
  refine⟨g1,g2,r',?_,g4⟩
  unfold vO
  have hr:((List.range n).map fun i=>(i*e,e))[i]? = some (i*e,e):=by simp[List.getElem?_range (show i<n by omega)]
  simp only[hr]
  rw[if_pos ⟨hwl,by omega⟩]
  exact g3
theorem Hy (hE:ER V ρ kG):∀parts:List (Nat×Operand),TR V (parts.map fun(i,x)=>(i,eH ρ x)) (parts.map fun(i,x)=>(i,ev kG x))
 | [] => .nil
 | (i,x)::parts => .cons (hE.ev x) (Hy hE parts)
theorem G8 {e:Nat}:∀ {parts:List (Nat×VV)} {es mT:List VV},(es.all fun x=>(aB x).all bP)=true→uD e es parts=some mT→(mT.all fun x=>(aB x).all bP)=true
 | [],es,mT,h,hf=>by cases hf;exact h
 |
  (i,v)::parts,es,mT,h,hf=>by
  unfold uD at hf
  split at hf
  case isFalse=>cases hf
  rename_i hc
  refine G8 ?_ hf
  rw[List.all_eq_true] at h ⊢
  intro x hx
  rcases List.mem_or_eq_of_mem_set hx with h1 | h1
  ·exact h x h1
  ·subst h1;exact hc.2.2
theorem YO (hS:SR V lo eI) {lr:Bool} {z:List Value} {n:Nat} {parts:List (Nat×VV)} {Aa:List (Nat×Value)} {v:VV} {H':aA} (hp:TR V parts Aa) (h:jC lr z n parts V.H=some (v,H')):gM lo eI V (agJ z n Aa V.P) v H':=by
 unfold jC at h
 split at h
 case h_2=>cases h
 rename_i es M4
 split at h
 case isFalse=>cases h
 rename_i hz
 obtain⟨g1,g2,r',g3,g4⟩:=Ez (V:=V) (n:=n) (by simp) (fun x hx=>by rw[List.eq_of_mem_replicate hx];exact C1 hz) (Bq hz n) hp M4
 have uW:=G8 (by
  rw[List.all_eq_true]
  intro x hx
  rw[List.eq_of_mem_replicate hx,nI hz]
  exact hz) M4
 unfold agJ
 simp only[g3]
 rw[if_pos (g4.fS (AH uW))]
 split at h
 ·cases h
  exact(gM.of (qZ hS (e:=z.length) false g2 g4) (Kl hS) :)
 ·cases h
  have k:=Bu hS (.row r' z.length false)
  refine(gM.of k ?_ :)
  have hm:=g4.mono k.2.toUp
  have yS:=g4.length
  rw[kH g2] at yS
  subst g1
  refine .tree es _ V.P.length 0 es.length r' z.length false (.inr rfl) (by simp) (by omega) (Nat.le_refl _) g2 ⟨rfl,rfl,rfl⟩ ?_
  rw[List.drop_zero,List.take_of_length_le (by omega)]
  exact hm
theorem O6 (hS:SR V lo eI) {b g e o:Nat} {es nw:List VV} {pn:List Value} (hr:V.H[b]? = some (.row g es e true)) (dK:lo≤b) (sZ:o+nw.length≤es.length) (hn:∀x∈nw,(aB x).length=e) (uW:(nw.flatMap aB).all bP=true) (hl:VL V (nw.flatMap aB) pn) :
  ∃V',V.P.write eI (V.m b) (o*e) pn=some V'.P∧V'.H=V.H.set b (.row g (cY es o nw) e true)∧SR V' lo eI∧EE lo V V':=by
 obtain⟨r,q,h1,h2,h3⟩:=hS.row b g es e true hr
 have yS:=h3.length
 rw[kH h2] at yS
 have Ep:=(hS.wr b g es e hr).2 dK
 have Tm:=hl.length
 rw[kH hn] at Tm
 have hm:(o+nw.length)*e≤es.length*e:=Nat.mul_le_mul_right _ sZ
 rw[Nat.add_mul] at hm
 have lF:∀x∈cY es o nw,(aB x).length=e:=fun x hx=>by
  rcases JG hx with h | h
  ·exact h2 x h
  ·exact hn x h
 have FT:VL V ((cY es o nw).flatMap aB) (iT r (o*e) pn):=by
  rw[←vZ h2 hn]
  exact h3.iT hl _
 obtain⟨g1,g2⟩:=CH hS hr dK lF FT h1
 refine⟨{ V with H:=V.H.set b (.row g (cY es o nw) e true),P:=V.P.set (V.m b) (.row (iT r (o*e) pn) e q) },?_,rfl,g1,g2⟩
 unfold aE.write
 simp only[h1]
 rw[if_pos ⟨Ep,by omega,hl.fS uW⟩]
theorem TL (hS:SR V lo eI) {x y v:VV} {u w:Value} {size:Nat} {H':aA} (hx:VR V x u) (hy:VR V y w) (h:IZ lo size x y V.H=some (v,H')):gM lo eI V (copyV eI size u w V.P) v H':=by
 unfold IZ at h
 split at h
 ·rename_i new hs
  obtain⟨h1,_⟩:=wG hS hy hs
  cases h
  cases hx with
  | tree es k b o c r e p hF hb ho hc he hk hl=>exact hk.elim
  |
   pA =>
   unfold copyV
   simp only[h1]
   exact gM.same hS (.sc _ rfl)
 ·rename_i b g o d c new hs
  obtain⟨h1,h2,h3,h4⟩:=wG hS hy hs
  split at h
  case h_2=>cases h
  rename_i es e hr
  rw[cG] at hr
  split at h
  case isFalse=>cases h
  rename_i hc
  obtain⟨rfl,dK,sZ⟩:=hc
  cases h
  cases hx with
  |
   ref b g o n c a n' c' bF hg ha hq =>
   obtain⟨rfl,rfl,rfl⟩:=ha _ _ _ hr
   have JZ:(new.take n').length=Nat.min new.length n':=by rw[List.length_take];exact Nat.min_comm _ _
   obtain⟨pn,h5,h6⟩:=h4 (Nat.min new.length n') (Nat.min_le_left _ _)
   have ht:new.take (Nat.min new.length n')=new.take n':=by
    rw[←JZ,List.length_take,←List.take_take,List.take_length]
   rw[ht] at h6
   have Lc:∀x∈new.take n',(aB x).length=e:=fun x hx=>h2 x (List.mem_of_mem_take hx)
   have uW:((new.take n').flatMap aB).all bP=true:=by
    rw[List.all_eq_true] at h3 ⊢
    intro x hx
    obtain⟨y,hy,An⟩:=List.mem_flatMap.1 hx
    exact h3 x (List.mem_flatMap.2 ⟨y,List.mem_of_mem_take hy,An⟩)
   obtain⟨V',k1,k2,k3,k4⟩:=O6 hS hr dK sZ Lc uW h6
   refine⟨.int .i64 (Nat.min new.length n'),V',?_,k2,k3,k4,?_⟩
   ·unfold copyV
    simp only[h1,h5,k1]
    rfl
   ·rw[JZ]
    exact .sc _ rfl
 ·cases h
theorem Ta (hS:SR V lo eI) {x:VV} {u:Value} {z:List Value} {H':aA} (hx:VR V x u) (h:PH lo z x V.H=some H'):gM lo eI V (Qk eI z u V.P) pL H':=by
 unfold PH at h
 split at h
 case h_2=>cases h
 rename_i b g o n c
 split at h
 case h_2=>cases h
 rename_i es e hr
 rw[cG] at hr
 cases hx with
 |
  ref b g o n c a n' c' bF hg ha hq =>
  obtain⟨rfl,rfl,rfl⟩:=ha _ _ _ hr
  unfold Qk
  simp only
  split at h
  ·rename_i h0
   cases h
   rw[if_pos h0]
   exact gM.same hS (.dT [] [] .nil)
  ·rename_i h0
   rw[if_neg h0]
   split at h
   case isFalse=>cases h
   rename_i hc
   obtain⟨rfl,dK,sZ,hz⟩:=hc
   cases h
   have Lc:∀x∈List.replicate n' (elemOf (z.map jB)),(aB x).length=z.length:=fun x hx=>by rw[List.eq_of_mem_replicate hx];exact C1 hz
   obtain⟨V',k1,k2,k3,k4⟩:=O6 hS hr dK (nw:=List.replicate n' (elemOf (z.map jB))) (by simpa using sZ) Lc (AH (by
    rw[List.all_eq_true]
    intro x hx
    rw[List.eq_of_mem_replicate hx,nI hz]
    exact hz)) (Bq hz n')
   refine⟨undef,V',?_,k2,k3,k4,.dT [] [] .nil⟩
   rw[k1]
   rfl
end
end Go.PM
namespace Go.PM
section
variable {V:View} {lo eI:Nat} {ρ:dM} {kG:Env}
theorem RJ {x v:VV} {u:Value} {neg:Bool} (hx:VR V x u) (h:Fk neg x V.H=some v):∃w,Y7 neg u=some w∧VR V v w:=by
 unfold Fk at h
 split at h
 ·cases h
  cases hx with
  | tree es k b o c r e p hF hb ho hc he hk hl=>exact hk.elim
  | pA=>exact⟨_,rfl,.sc _ rfl⟩
 ·cases h
  cases hx with
  | pA k hk=>rcases hk with hk | hk<;>cases hk
  | tree=>exact⟨_,rfl,.sc _ rfl⟩
 ·cases h
  cases hx with
  | tree=>exact⟨_,rfl,.sc _ rfl⟩
 ·obtain⟨⟨es,e,w⟩,hr,rfl⟩:=cQ h
  rw[cG] at hr
  cases hx with
  |
   ref b g o n c a n' c' bF hg ha hq =>
   obtain⟨rfl,rfl,rfl⟩:=ha _ _ _ hr
   exact⟨_,rfl,.sc _ rfl⟩
 ·cases h
theorem X6 {x v:VV} {u:Value} (hx:VR V x u) (h:oI x V.H=some v):∃w,anC u=some w∧VR V v w:=by
 unfold oI at h
 split at h
 ·cases h
  cases hx<;>exact⟨_,rfl,.sc _ rfl⟩
 ·obtain⟨⟨es,e,w⟩,hr,rfl⟩:=cQ h
  rw[cG] at hr
  cases hx with
  |
   ref b g o n c a n' c' bF hg ha hq =>
   obtain⟨rfl,rfl,rfl⟩:=ha _ _ _ hr
   exact⟨_,rfl,.sc _ rfl⟩
 ·cases h
theorem SQ {x v:VV} {u:Value} {off:Nat} (hx:VR V x u) (h:Ik off x V.H=some v):∃w,abH off u=some w∧VR V v w:=by
 unfold Ik at h
 split at h
 ·cases h
  cases hx with
  | cN x off b o r e p hF hb ho hl=>exact⟨_,rfl,by rw[Nat.add_assoc];exact .cN _ _ b o r e p hF hb ho hl⟩
 ·obtain⟨⟨es,e,w⟩,hr,rfl⟩:=cQ h
  rw[cG] at hr
  cases hx with
  |
   ptr b g j off a bF hg ha hq =>
   have:=ha _ _ _ hr
   subst this
   refine⟨_,rfl,.ptr _ _ _ _ _ bF hg (fun mT e' w' Eu => ?_) fun a0 h=>by cases h;have:=hq _ rfl;exact this⟩
   rw[hr] at Eu
   cases Eu
   rw[Nat.add_assoc]
 ·cases h
theorem W6 {x v:VV} {u:Value} (hx:VR V x u) (h:W2 x V.H=some v):∃w,asX u=some w∧VR V v w:=by
 unfold W2 at h
 split at h
 ·cases h
  cases hx with
  | cN x off b o r e p hF hb ho hl=>exact⟨_,rfl,.cN _ _ b o r e p hF hb ho hl⟩
 ·obtain⟨⟨es,e,w⟩,hr,rfl⟩:=cQ h
  rw[cG] at hr
  cases hx with
  |
   ptr b g j off a bF hg ha hq =>
   have:=ha _ _ _ hr
   subst this
   exact⟨_,rfl,.ptr _ _ _ _ _ bF hg ha hq⟩
 ·cases h
theorem Vc {c a b v:VV} {u x y:Value} (hc:VR V c u) (ha:VR V a x) (hb:VR V b y) (h:Rm c a b=some v):∃t,u = .bool t∧VR V v (if t then x else y):=by
 unfold Rm at h
 split at h
 ·rename_i t
  cases h
  obtain⟨rfl,_⟩:=qV hc rfl
  refine⟨t,rfl,?_⟩
  cases t
  ·exact hb
  ·exact ha
 ·cases h
theorem YE {x v:VV} {u:Value} {i:Nat} (hx:VR V x u) (h:aeM i x=some v):∃w,amY i u=some w∧VR V v w:=by
 unfold aeM at h
 split at h
 ·cases hx with
  |
   dT cs ps hl =>
   obtain⟨w,hw,hv⟩:=hl.get h
   exact⟨w,by simpa[amY] using hw,hv⟩
 ·cases h
theorem Xq {x v:VV} {u:Value} {agg:Bool} {off size:Nat} (hx:VR V x u) (h:ahY agg off size x=some v):∃w,ahK agg off size u=some w∧VR V v w:=by
 unfold ahY at h
 split at h
 ·rename_i cs
  cases hx with
  |
   agg cs ps hl =>
   split at h
   ·rename_i ha
    split at h
    ·rename_i hs
     cases h
     refine⟨.agg ((ps.drop off).take size).toArray,?_,.agg _ _ ((hl.drop off).take size)⟩
     unfold ahK
     simp only[ha,if_true]
     rw[if_pos (by simpa[hl.length] using hs)]
     congr 2
     apply Array.ext'
     simp[List.extract_eq_take_drop]
    ·cases h
   ·rename_i ha
    obtain⟨w,hw,hv⟩:=hl.get h
    refine⟨w,?_,hv⟩
    unfold ahK
    simp only[ha]
    simpa using hw
 ·cases h
theorem NA {ks:List CK}:∀ {xs ys:List VV} {us ws:List Value} {t:Bool},VL V xs us→VL V ys ws→qA ks xs ys=some t→pE ks us ws=some t:=by
 induction ks with
 |
  nil =>
  intro xs ys us ws t h1 h2 h
  cases h1 with
  |
   nil=>cases h2 with
   | nil=>exact h
   | cons=>simp[qA] at h
  | cons=>simp[qA] at h
 |
  cons k ks ih =>
  intro xs ys us ws t h1 h2 h
  cases h1 with
  | nil=>simp[qA] at h
  |
   cons x u xs us hx PV=>cases h2 with
   | nil=>cases x<;>simp[qA] at h
   |
    cons y w ys ws hy hys =>
    cases hx with
    |
     sc _ _=>cases hy with
     |
      sc _ _ =>
      simp only[qA] at h
      simp only[pE]
      split at h
      ·rename_i h1
       rw[h1]
       exact ih PV hys h
      ·rename_i h1
       rw[h1]
       exact h
      ·cases h
     | _=>simp[qA] at h
    | _=>simp[qA] at h
theorem Ln {places:List (Nat×Nat)}:∀ {parts:List (Nat×VV)} {Aa:List (Nat×Value)} {cs Aw:List VV} {r:List Value},VL V cs r→TR V parts Aa→xQ places cs parts=some Aw →
  ∃r',vO places r Aa=some r'∧VL V Aw r'
 | [],_,cs,Aw,r,hl,.nil,h=>by cases h;exact⟨r,rfl,hl⟩
 |
  (i,v)::parts,(_,w)::Aa,cs,Aw,r,hl,.cons hv hps,h=>by
  unfold xQ at h
  unfold vO
  split at h
  ·cases h
  ·rename_i off size Tm
   simp only[Tm]
   split at h
   case isFalse=>cases h
   rename_i hc
   have oO:=hv.cells (fun e=>by subst e;cases hc.2.2)
   rw[if_pos ⟨by rw[oO.length];exact hc.1,by rw[hl.length];exact hc.2.1⟩]
   exact Ln (((hl.take off).append oO).append (hl.drop _)) hps h
theorem JB:∀ {es:List VV} {r:List Value} {bs:List UInt8},VL V (es.flatMap aB) r→IP es=some bs→tF r=some bs
 | [],_,bs,.nil,h=>h
 |
  x::es,r,bs,hl,h=>by
  unfold IP at h
  split at h
  ·rename_i e;cases e
  ·rename_i n r' e
   cases e
   obtain⟨t,ht,rfl⟩:=cQ h
   rw[List.flatMap_cons] at hl
   cases hl with
   |
    cons _ u _ us hu hus =>
    obtain⟨rfl,_⟩:=qV hu rfl
    unfold tF
    rw[JB hus ht]
    rfl
  ·cases h
theorem lift {r:Option VV} {v:VV} {H':aA} {s:Option (Value×aE)} (h:r.map (·,V.H)=some (v,H')) (k:r=some v→gM lo eI V s v V.H):gM lo eI V s v H':=by
 obtain⟨a,ha,he⟩:=cQ h
 cases he
 exact k ha
theorem XC (hS:SR V lo eI) (hE:ER V ρ kG) {fl:Fl} {o:nK} {v:VV} {H':aA} {q:Bool} (h:vop fl lo o ρ V.H=some (v,H')):gM lo eI V (jV eI q o kG V.P) v H':=by
 cases o<;>simp only[vop] at h
 case mv x=>cases h;rw[aiH];exact gM.same hS (hE.ev x)
 case pick c a b =>
  refine lift h fun h => ?_
  obtain⟨t,ht,hv⟩:=Vc (hE.ev c) (hE.ev a) (hE.ev b) h
  rw[YM,ht]
  exact gM.same hS hv
 case bin op x y=>rw[adJ];exact lift h fun h=>AU (f:=dI op) hS (fun _ _ _=>Ze) (hE.ev x) (hE.ev y) h
 case eqb neg x y=>rw[ZW];exact lift h fun h=>AU (f:=Nx neg) hS (fun _ _ _=>ZG) (hE.ev x) (hE.ev y) h
 case isnil neg x =>
  rw[UI]
  refine lift h fun h => ?_
  obtain⟨w,h1,h2⟩:=RJ (hE.ev x) h
  exact gM.pure hS h1 h2
 case eqagg neg ks x y =>
  rw[UL]
  refine lift h fun h => ?_
  unfold T4 at h
  split at h
  case h_2=>cases h
  rename_i a b hx hy
  obtain⟨t,ht,rfl⟩:=cQ h
  have h1:=hE.ev x
  have h2:=hE.ev y
  rw[hx] at h1
  rw[hy] at h2
  generalize ev kG x=u at h1 ⊢
  generalize ev kG y=w at h2 ⊢
  cases h1 with
  |
   agg cs ps h1=>cases h2 with
   |
    agg Aw ps' h2 =>
    refine gM.pure hS (pv := .bool (t != neg)) ?_ (.sc _ rfl)
    unfold ZN
    simp only
    rw[NA h1 h2 ht]
    rfl
 case un op x=>rw[agM];exact lift h fun h=>DL (f:=pun op) hS (fun _ _=>agG) (hE.ev x) h
 case cvt k x=>rw[aaN];exact lift h fun h=>DL (f:=UA k) hS (fun _ _=>aeO) (hE.ev x) h
 case cvs x =>
  have e:jV eI q (.cvs x) kG V.P=(XS (ev kG x)).map (·,V.P):=dN rfl
  rw[e];exact lift h fun h=>DL (f:=XS) hS (fun _ _=>abN) (hE.ev x) h
 case ext x i =>
  rw[abQ]
  refine lift h fun h => ?_
  obtain⟨w,h1,h2⟩:=YE (hE.ev x) h
  exact gM.pure hS h1 h2
 case fld agg off size x =>
  rw[Zs]
  refine lift h fun h => ?_
  obtain⟨w,h1,h2⟩:=Xq (hE.ev x) h
  exact gM.pure hS h1 h2
 case build zero places parts =>
  obtain⟨cs,X3,he⟩:=cQ h
  cases he
  obtain⟨r,h1,h2⟩:=Ln (VL.zero zero) (Hy hE parts) X3
  rw[Uk,h1]
  exact gM.same hS (.agg _ _ h2)
 case chk x =>
  rw[ZU]
  refine lift h fun h => ?_
  obtain⟨w,h1,h2⟩:=W6 (hE.ev x) h
  exact gM.pure hS h1 h2
 case faddr off x =>
  rw[Tz]
  refine lift h fun h => ?_
  obtain⟨w,h1,h2⟩:=SQ (hE.ev x) h
  exact gM.pure hS h1 h2
 case iaddr size x i =>
  rw[Uv]
  refine lift h fun h => ?_
  obtain⟨w,h1,h2⟩:=Rp hS (hE.ev x) (hE.ev i) h
  exact gM.pure hS h1 h2
 case sidx x i =>
  have e:jV eI q (.sidx x i) kG V.P=(FX (ev kG x) (ev kG i)).map (·,V.P):=dN rfl
  rw[e];exact lift h fun h=>AU (f:=FX) hS (fun _ _ _=>Xh) (hE.ev x) (hE.ev i) h
 case ssub x l h' =>
  refine lift h fun h => ?_
  unfold uU at h
  split at h
  case h_2=>cases h
  rename_i s lv hv hx h1 h2
  split at h
  case h_2=>cases h
  rename_i a b Ef
  cases h
  obtain⟨e1,_⟩:=qV (hE.ev x) hx
  have e:jV eI q (.ssub x l h') kG V.P=some (.string (s.extract a b),V.P):=by
   rw[dN rfl]
   simp only[iM,e1]
   rw[Bb hE h1,Bb hE h2,Ef]
   rfl
  rw[e]
  exact gM.same hS (.sc _ rfl)
 case mkfn f fT =>
  cases h
  rw[YA]
  exact gM.same hS (.uP _ _ _ (hE.evs fT))
 case len x =>
  rw[Zk]
  refine lift h fun h => ?_
  obtain⟨w,h1,h2⟩:=X6 (hE.ev x) h
  exact gM.pure hS h1 h2
 case slen x =>
  have e:jV eI q (.slen x) kG V.P=(yU (ev kG x)).map (·,V.P):=dN rfl
  rw[e];exact lift h fun h=>DL (f:=yU) hS (fun _ _=>Xk) (hE.ev x) h
 case min x y=>rw[acD];exact lift h fun h=>AU (f:=Sh) hS (fun _ _ _=>aaG) (hE.ev x) (hE.ev y) h
 case max x y=>rw[aaD];exact lift h fun h=>AU (f:=SA) hS (fun _ _ _=>ZD) (hE.ev x) (hE.ev y) h
 case load agg size p =>
  rw[Ye]
  refine lift h fun h => ?_
  obtain⟨w,h1,h2⟩:=Ly hS (hE.ev p) h
  exact gM.pure hS h1 h2
 case sub size x l hh m =>
  rw[acJ]
  exact lift h fun h=>XV hS hE (hE.ev x) h
 case b2s x =>
  split at h
  ·cases h
  rename_i y fC
  split at h
  case h_2=>cases h
  rename_i es M4
  obtain⟨bs,hbs,he⟩:=cQ h
  cases he
  obtain⟨h1,h2,h3,h4⟩:=wG hS (hE.ev x) M4
  obtain⟨pn,h5,h6⟩:=h4 es.length (Nat.le_refl _)
  rw[List.take_length] at h6
  have hb:=JB h6 hbs
  have hx:=hE.ev x
  have e:jV eI q (.b2s x) kG V.P=some (.string ⟨bs.toArray⟩,V.P):=by
   apply oY
   simp only[pop]
   generalize ev kG x=u at *
   cases u<;>first | (exfalso;simp[rY] at h1;done) | skip
   case string s =>
    generalize eH ρ x=y at *
    cases hx with
    | any=>simp[cU] at M4
    | sc _ _=>exact absurd rfl (fC _)
   case slice a n c =>
    injection h1 with h1
    subst h1
    cases a with
    |
     none =>
     simp only[jD] at h5
     split at h5
     ·cases h5
      cases hb
      rfl
     ·cases h5
    |
     some a =>
     obtain⟨b,o,sp⟩:=a
     cases sp with
     | some s=>simp[jD] at h5
     |
      none =>
      simp only[jD,Nat.mul_one] at h5
      simp only[h5,hb]
      rfl
  rw[e]
  exact gM.same hS (.sc _ rfl)
 case new zero =>
  split at h
  case isFalse=>cases h
  rename_i hz
  cases h
  rw[acI]
  exact XB hS hz
 case box x =>
  split at h
  case isFalse=>cases h
  rename_i hs
  rw[aeI]
  exact W5 hS (hE.ev x) hs h
 case make zero bytes l c =>
  split at h
  case isFalse=>cases h
  rename_i hz
  rw[XJ]
  exact T3 hS hz (hE.ev l) (hE.ev c) h
 case lit zero n parts =>
  rw[aaM]
  exact YO hS (Hy hE parts) h
 case store size p x =>
  obtain⟨a,ha,he⟩:=cQ h
  cases he
  rw[Uq]
  exact Td hS (hE.ev p) (hE.ev x) ha
 case app size bytes x y =>
  split at h
  case h_2=>cases h
  rename_i new hn
  obtain⟨h1,h2,h3,h4⟩:=wG hS (hE.ev y) hn
  obtain⟨pn,h5,h6⟩:=h4 new.length (Nat.le_refl _)
  rw[List.take_length] at h6
  rw[abI]
  unfold aoM
  simp only[h1,h5]
  exact Hk hS (hE.ev x) h2 h3 h6 h
 case appz zero bytes x n =>
  split at h
  case h_2=>cases h
  rename_i k hk
  split at h
  case isFalse=>cases h
  rename_i hc
  obtain⟨e1,_⟩:=qV (hE.ev n) hk
  have Lc:∀x∈List.replicate k.toNat (elemOf (zero.map jB)),(aB x).length=zero.length:=fun x hx=>by rw[List.eq_of_mem_replicate hx];exact C1 hc.2.2
  have:=Hk hS (hE.ev x) Lc (AH (by
    rw[List.all_eq_true]
    intro x hx
    rw[List.eq_of_mem_replicate hx,nI hc.2.2]
    exact hc.2.2)) (Bq hc.2.2 _) h
  rw[List.length_replicate] at this
  rw[Xb]
  unfold adA
  rw[e1]
  simp only[if_pos (show 0≤k∧k*(bytes:Int)≤140737488355328 from⟨hc.1,hc.2.1⟩)]
  exact this
 case copy size x y =>
  rw[YJ]
  exact TL hS (hE.ev x) (hE.ev y) h
 case clear zero x =>
  obtain⟨a,ha,he⟩:=cQ h
  cases he
  rw[UG]
  exact Ta hS (hE.ev x) ha
 all_goals cases h
end
end Go.PM
namespace Go.PM
def bare (F:Nat→Prop) (P:aE):View:=⟨fun _=>0,F,[],P,0⟩
theorem A6 {es:List VV}:aM es=true↔∀x∈es,aN x=true:=by
 induction es with
 | nil=>simp[aM]
 | cons x xs ih=>simp[aM,ih]
theorem CY {x:VV} (h:aN x=true):aM (aB x)=true:=by
 unfold aB
 split
 ·simpa[aN] using h
 ·simp[aM,h]
theorem MM {es:List VV} (h:aM es=true):aM (es.flatMap aB)=true:=by
 rw[A6] at h ⊢
 intro x hx
 obtain⟨y,hy,An⟩:=List.mem_flatMap.1 hx
 exact A6.1 (CY (h y hy)) x An
theorem IH {es:List VV} {k:TK} (h:aN (.tree es k)=true):k = .op∧aM es=true∧uni es=true:=by
 simp only[aN,Bool.and_eq_true,decide_eq_true_eq] at h
 exact⟨h.1.1,h.1.2,h.2⟩
theorem IX {x:VV} (h:aN x=true):x ≠ .any:=by
 rintro rfl
 cases h
theorem agB {es:List VV} (h:uni es=true):∃e,∀x∈es,(aB x).length=e:=by
 cases es with
 | nil=>exact⟨0,fun x hx=>by cases hx⟩
 |
  cons x xs =>
  refine⟨(aB x).length,fun y hy => ?_⟩
  rcases List.mem_cons.1 hy with rfl | hy
  ·rfl
  ·have:=List.all_eq_true.1 h y hy
   simpa using this
section
variable {V V':View}
theorem VR.pure {x:VV} {v:Value} (hF:∀b,V.F b→V'.F b∧V'.P[b]? = V.P[b]?) (h:VR V x v):aN x=true→VR V' x v:=by
 induction h using VR.rec (motive_2:=fun xs vs _=>aM xs=true→VL V' xs vs) with
 | any=>intro hp;cases hp
 | sc _ h=>intro _;exact .sc _ h
 | agg cs ps _ ih=>intro hp;exact .agg _ _ (ih hp)
 | dT cs ps _ ih=>intro hp;exact .dT _ _ (ih hp)
 | pA k hk=>intro _;exact .pA k hk
 | tree es k b o c r e p Tx hb ho hc he hk _ ih=>intro hp;exact .tree es k b o c r e p (hF _ Tx).1 (by rw[(hF _ Tx).2];exact hb) ho hc he hk (ih (MM (IH hp).2.1))
 | cN x off b o r e p Tx hb ho _ ih=>intro hp;exact .cN x off b o r e p (hF _ Tx).1 (by rw[(hF _ Tx).2];exact hb) ho (ih (CY hp))
 | ref=>intro hp;cases hp
 | ptr=>intro hp;cases hp
 | uP f fT ps _ ih=>intro hp;exact .uP _ _ _ (ih hp)
 | nil=>exact .nil
 |
  cons x v xs vs _ _ ih Vf =>
  rename_i hp
  simp only[aM,Bool.and_eq_true] at hp
  exact .cons _ _ _ _ (ih hp.1) (Vf hp.2)
theorem VL.pure {xs:List VV} {vs:List Value} (hF:∀b,V.F b→V'.F b∧V'.P[b]? = V.P[b]?) (h:VL V xs vs) (hp:aM xs=true):VL V' xs vs:=by
 induction xs generalizing vs with
 | nil=>cases h;exact .nil
 |
  cons x xs ih=>cases h with
  |
   cons _ v _ vs h hs =>
   simp only[aM,Bool.and_eq_true] at hp
   exact .cons _ _ _ _ (h.pure hF hp.1) (ih hs hp.2)
theorem VL.flatten {es:List VV} {ps:List Value} (h:VL V es ps) (hp:aM es=true):VL V (es.flatMap aB) (ps.flatMap aO):=by
 induction es generalizing ps with
 | nil=>cases h;exact .nil
 |
  cons x xs ih =>
  cases h with
  |
   cons _ v _ vs h hs =>
   simp only[aM,Bool.and_eq_true] at hp
   rw[List.flatMap_cons,List.flatMap_cons]
   exact(h.cells (IX hp.1)).append (ih hs hp.2)
theorem Qn {P P':aE} (h:P <+: P'):∀b,(bare (· < P.length) P).F b→(bare (· < P'.length) P').F b∧(bare (· < P'.length) P').P[b]? = (bare (· < P.length) P).P[b]? := by
 intro b hb
 obtain⟨L,rfl⟩:=h
 have uC:b<P.length:=hb
 exact⟨by show b<(P++L).length;simp;omega,List.getElem?_append_left uC⟩
mutual
theorem real (x:VV) (hp:aN x=true) (P:aE):∃P' pv,P <+: P'∧VR (bare (· < P'.length) P') x pv:=by
 cases x with
 | any=>cases hp
 | sc v=>exact⟨P,v,List.prefix_refl _,.sc v hp⟩
 |
  agg cs =>
  obtain⟨P',ps,h1,h2⟩:=OK cs hp P
  exact⟨P',_,h1,.agg _ _ h2⟩
 |
  dT cs =>
  obtain⟨P',ps,h1,h2⟩:=OK cs hp P
  exact⟨P',_,h1,.dT _ _ h2⟩
 |
  tree es k =>
  obtain⟨rfl,h1,h2⟩:=IH hp
  obtain⟨P',ps,h3,h4⟩:=OK es h1 P
  obtain⟨e,he⟩:=agB h2
  have h5:=h4.flatten h1
  have hl:=h5.length
  rw[kH he] at hl
  have yQ:P' <+: P'++[QU.row (ps.flatMap aO) e false]:=List.prefix_append _ _
  refine⟨_,.slice (some ⟨P'.length,0,none⟩) es.length es.length,h3.trans yQ,?_⟩
  refine .tree es .op P'.length 0 es.length (ps.flatMap aO) e false (show P'.length<(P'++[QU.row (ps.flatMap aO) e false]).length by simp) (by show (P'++[QU.row (ps.flatMap aO) e false])[P'.length]? = _;simp) (by omega) (Nat.le_refl _) he trivial ?_
  rw[List.drop_zero,List.take_of_length_le (by omega)]
  exact VL.pure (Qn yQ) h5 (MM h1)
 |
  cN x off =>
  obtain⟨P',pv,h3,h4⟩:=real x hp P
  have h5:=h4.cells (IX hp)
  have yQ:P' <+: P'++[QU.row (aO pv) (aO pv).length false]:=List.prefix_append _ _
  refine⟨_,.pointer (some ⟨P'.length,0+off,none⟩),h3.trans yQ,?_⟩
  refine .cN x off P'.length 0 (aO pv) (aO pv).length false (show P'.length<(P'++[QU.row (aO pv) (aO pv).length false]).length by simp) (by show (P'++[QU.row (aO pv) (aO pv).length false])[P'.length]? = _;simp) (by rw[h5.length];omega) ?_
  rw[List.drop_zero,List.take_of_length_le (by rw[h5.length];exact Nat.le_refl _)]
  exact VL.pure (Qn yQ) h5 (CY hp)
 | ref=>cases hp
 | ptr=>cases hp
 |
  uP f fT =>
  obtain⟨P',ps,h1,h2⟩:=OK fT hp P
  exact⟨P',_,h1,.uP _ _ _ h2⟩
theorem OK (xs:List VV) (hp:aM xs=true) (P:aE):∃P' ps,P <+: P'∧VL (bare (· < P'.length) P') xs ps:=by
 cases xs with
 | nil=>exact⟨P,[],List.prefix_refl _,.nil⟩
 |
  cons x xs =>
  simp only[aM,Bool.and_eq_true] at hp
  obtain⟨P1,pv,h1,h2⟩:=real x hp.1 P
  obtain⟨P2,ps,h3,h4⟩:=OK xs hp.2 P1
  exact⟨P2,pv::ps,h1.trans h3,.cons _ _ _ _ (h2.pure (Qn h3) hp.1) h4⟩
end
theorem KI {es:List VV}:qB es=true↔∀x∈es,gJ x=true:=by
 induction es with
 | nil=>simp[qB]
 | cons x xs ih=>simp[qB,ih]
theorem Dj {es:List VV} {k:TK} (h:gJ (.tree es k)=true):k = .op∧qB es=true∧uni es=true∧es.all Ad=true:=by
 simp only[gJ,Bool.and_eq_true,decide_eq_true_eq] at h
 exact⟨h.1.1.1,h.1.1.2,h.1.2,h.2⟩
theorem Vi {x:VV} (h:gJ x=true):qB (aB x)=true:=by
 unfold aB
 split
 ·simpa[gJ] using h
 ·simp[qB,h]
theorem OW {es:List VV} (h:qB es=true):qB (es.flatMap aB)=true:=by
 rw[KI] at h ⊢
 intro x hx
 obtain⟨y,hy,An⟩:=List.mem_flatMap.1 hx
 exact KI.1 (Vi (h y hy)) x An
mutual
theorem SW (x:VV) (h:gJ x=true):aN x=true:=by
 cases x with
 | sc v=>exact h
 | agg cs=>exact DR cs h
 | dT cs=>exact DR cs h
 |
  tree es k =>
  obtain⟨h1,h2,h3,_⟩:=Dj h
  simp[aN,h1,DR es h2,h3]
 | any=>cases h
 | cN=>cases h
 | ref=>cases h
 | ptr=>cases h
 | uP=>cases h
theorem DR (xs:List VV) (h:qB xs=true):aM xs=true:=by
 cases xs with
 | nil=>rfl
 |
  cons x xs =>
  simp only[qB,Bool.and_eq_true] at h
  simp[aM,SW x h.1,DR xs h.2]
end
theorem QY {e:Nat}:∀ {es mT:List VV},(∀x∈es,(aB x).length=e)→(∀x∈mT,(aB x).length=e)→es.all Ad=true→mT.all Ad=true→es.length=mT.length→es.flatMap aB=mT.flatMap aB→es=mT
 | [],[],_,_,_,_,_,_=>rfl
 |
  x::es,y::mT,h1,h2,h3,h4,hl,h=>by
  rw[List.flatMap_cons,List.flatMap_cons] at h
  have hx:=h1 x List.mem_cons_self
  have hy:=h2 y List.mem_cons_self
  obtain⟨e1,e2⟩:=List.append_inj h (by omega)
  simp only[List.all_cons,Bool.and_eq_true] at h3 h4
  have An:x=y:=by
   have g1:=h3.1
   have g2:=h4.1
   unfold aB at e1
   split at e1<;>split at e1
   ·rw[e1]
   ·rename_i cs _ _
    subst e1
    cases g1
   ·rename_i cs
    subst e1
    cases g2
   ·injection e1
  rw[An,QY (fun z hz=>h1 z (List.mem_cons_of_mem _ hz)) (fun z hz=>h2 z (List.mem_cons_of_mem _ hz)) h3.2 h4.2 (by simpa using hl) e2]
theorem VR.uniq {x y:VV} {v:Value} (h:VR V x v) (h':VR V y v) (hx:gJ x=true) (hy:gJ y=true):x=y:=by
 induction h using VR.rec (motive_2:=fun xs vs _=>∀ys,VL V ys vs→qB xs=true→qB ys=true→xs=ys) generalizing y with
 | any=>cases hx
 |
  sc _ h=>cases h' with
  | sc _ _=>rfl
  | any=>cases hy
  | agg=>cases h
  | dT=>cases h
  | pA=>cases h
  | tree=>cases h
  | cN=>cases hy
  | ref=>cases hy
  | ptr=>cases hy
  | uP=>cases hy
 |
  agg cs ps h ih=>generalize hw:Value.agg ps.toArray=w at h';cases h' with
  | sc _ h'=>subst hw;cases h'
  | any=>cases hy
  |
   agg Aw ps' h' =>
   injection hw with hw
   have:ps=ps':=by simpa using hw
   subst this
   rw[ih _ h' hx hy]
  | dT=>cases hw
  | pA=>cases hw
  | tree=>cases hw
  | cN=>cases hy
  | ref=>cases hy
  | ptr=>cases hy
  | uP=>cases hy
 |
  dT cs ps h ih=>generalize hw:Value.tuple ps.toArray=w at h';cases h' with
  | sc _ h'=>subst hw;cases h'
  | any=>cases hy
  |
   dT Aw ps' h' =>
   injection hw with hw
   have:ps=ps':=by simpa using hw
   subst this
   rw[ih _ h' hx hy]
  | agg=>cases hw
  | pA=>cases hw
  | tree=>cases hw
  | cN=>cases hy
  | ref=>cases hy
  | ptr=>cases hy
  | uP=>cases hy
 |
  pA k hk =>
  obtain⟨rfl,_⟩:=Dj hx
  generalize hw:Value.slice none 0 0=w at h'
  cases h' with
  | sc _ h'=>subst hw;cases h'
  | any=>cases hy
  | pA k' hk'=>obtain⟨rfl,_⟩:=Dj hy;rfl
  | agg=>cases hw
  | dT=>cases hw
  | tree=>cases hw
  | cN=>cases hy
  | ref=>cases hy
  | ptr=>cases hy
  | uP=>cases hy
 |
  tree es k b o c r e p hF hb ho hc he hk hl ih =>
  obtain⟨rfl,hx1,hx2,hx3⟩:=Dj hx
  generalize hw:Value.slice (some ⟨b,o,none⟩) es.length c=w at h'
  cases h' with
  | sc _ h'=>subst hw;cases h'
  | any=>cases hy
  | pA=>cases hw
  | agg=>cases hw
  | dT=>cases hw
  |
   tree mT k' b' o' c' r' e' p' hF' uC ho' T1 he' hk' BV =>
   obtain⟨rfl,hy1,hy2,hy3⟩:=Dj hy
   injection hw with h1 h2 h3
   injection h1 with h1
   injection h1 with h1 h4
   subst h1 h3 h4
   rw[hb] at uC
   injection uC with uC
   injection uC with g1 g2 g3
   subst g1 g2 g3
   rw[←h2] at BV
   rw[QY he he' hx3 hy3 h2 (ih _ BV (OW hx1) (OW hy1))]
  | cN=>cases hy
  | ref=>cases hy
  | ptr=>cases hy
  | uP=>cases hy
 | cN=>cases hx
 | ref=>cases hx
 | ptr=>cases hx
 | uP=>cases hx
 | nil=>rename_i h' _ _;cases h';rfl
 |
  cons x v xs vs _ _ ih Vf =>
  rename_i ys h' hx hy
  cases h' with
  |
   cons y _ ys _ h' hs' =>
   simp only[qB,Bool.and_eq_true] at hx hy
   rw[ih h' hx.1 hy.1,Vf _ hs' hx.2 hy.2]
end
end Go.PM
namespace Go.PM
section
variable {V:View} {lo eI:Nat}
theorem lO {α β:Type} {f:α→Option β} {x:α} {xs:List α} {r:List β} (h:(x::xs).mapM f=some r):∃y ys,f x=some y∧xs.mapM f=some ys∧r=y::ys:=by
 rw[List.mapM_cons] at h
 cases hx:f x with
 | none=>rw[hx] at h;cases h
 |
  some y =>
  rw[hx] at h
  cases hs:xs.mapM f with
  | none=>rw[hs] at h;cases h
  | some ys=>rw[hs] at h;cases h;exact⟨y,ys,rfl,rfl,rfl⟩
theorem sX {α β:Type} {f:α→Option β}:∀ {xs:List α} {r:List β},xs.mapM f=some r→r.length=xs.length
 | [],r,h=>by cases h;rfl
 |
  x::xs,r,h=>by
  obtain⟨y,ys,_,h2,rfl⟩:=lO h
  simp[sX h2]
theorem Wa {d:Nat} {H:aA} {x x':VV} (h:fz d H x=some x'):(∃cs Aw,x = .agg cs∧x' = .agg Aw∧Aw.length=cs.length)∨(aB x=[x]∧aB x'=[x']):=by
 cases d with
 | zero=>cases h
 |
  succ d =>
  unfold fz at h
  split at h
  ·cases h
   cases x with
   | agg cs=>exact .inl ⟨cs,cs,rfl,rfl,rfl⟩
   | _=>exact .inr ⟨rfl,rfl⟩
  ·split at h
   ·obtain⟨Aw,h1,rfl⟩:=cQ h
    exact .inl ⟨_,_,rfl,rfl,sX h1⟩
   ·obtain⟨Aw,h1,rfl⟩:=cQ h;exact .inr ⟨rfl,rfl⟩
   ·obtain⟨Aw,h1,rfl⟩:=cQ h;exact .inr ⟨rfl,rfl⟩
   ·obtain⟨Aw,h1,rfl⟩:=cQ h;exact .inr ⟨rfl,rfl⟩
   ·split at h
    ·split at h
     ·obtain⟨Aw,h1,rfl⟩:=cQ h;exact .inr ⟨rfl,rfl⟩
     ·cases h
    ·cases h
   ·split at h
    ·split at h
     ·obtain⟨Aw,h1,rfl⟩:=cQ h;exact .inr ⟨rfl,rfl⟩
     ·cases h
    ·cases h
   ·obtain⟨Aw,h1,rfl⟩:=cQ h;exact .inr ⟨rfl,rfl⟩
   ·cases h
theorem P3 {d:Nat} {H:aA} {x x':VV} (h:fz d H x=some x'):(aB x').length=(aB x).length:=by
 rcases Wa h with⟨cs,Aw,rfl,rfl,h'⟩ | ⟨h1,h2⟩
 ·exact h'
 ·rw[h1,h2];rfl
def O0 (V:View) (G:Nat→Prop) (ids:List Nat):Prop:=∀i∈ids,∀g es e w,V.H[i]? = some (.row g es e w)→G (V.m i)
theorem Mu (hS:SR V lo eI) {G:Nat→Prop} (hG:∀q,V.F q→G q):∀(d:Nat) (v v':VV) (pv:Value),VR V v pv→fz d V.H v=some v'→O0 V G (hJ d V.H v)→VR (bare G V.P) v' pv:=by
 have hFG:∀b,V.F b→(bare G V.P).F b∧(bare G V.P).P[b]? = V.P[b]? := fun b hb=>⟨hG b hb,rfl⟩
 intro d
 induction d with
 | zero=>intro v v' pv _ h;cases h
 |
  succ d ih =>
  have ihL:∀(xs Im:List VV) (ps:List Value),VL V xs ps→xs.mapM (fz d V.H)=some Im→O0 V G (xs.flatMap (hJ d V.H))→VL (bare G V.P) Im ps:=by
   intro xs
   induction xs with
   | nil=>intro Im ps hl h _;cases h;cases hl;exact .nil
   |
    cons x xs ihx =>
    intro Im ps hl h hi
    obtain⟨y,ys,h1,h2,rfl⟩:=lO h
    cases hl with
    |
     cons _ v _ vs hx PV =>
     exact .cons _ _ _ _ (ih x y v hx h1 fun i kX=>hi i (by rw[List.flatMap_cons];exact List.mem_append_left _ kX)) (ihx ys vs PV h2 fun i kX=>hi i (by rw[List.flatMap_cons];exact List.mem_append_right _ kX))
  have ihC:∀(x x':VV) (ps:List Value),VL V (aB x) ps→fz d V.H x=some x'→O0 V G (hJ d V.H x)→VL (bare G V.P) (aB x') ps:=by
   intro x x' ps hl h hi
   rcases Wa h with⟨cs,Aw,rfl,rfl,oO⟩ | ⟨h1,h2⟩
   ·have:=ih _ _ (.agg ps.toArray) (.agg _ _ hl) h hi
    generalize hw:Value.agg ps.toArray=w at this
    cases this with
    |
     agg _ ps' BV =>
     injection hw with hw
     have:ps=ps':=by simpa using hw
     subst this
     exact BV
   ·rw[h1] at hl
    rw[h2]
    cases hl with
    |
     cons _ v _ vs hx PV =>
     cases PV
     exact .cons _ _ _ _ (ih _ _ _ hx h hi) .nil
  have ihF:∀(xs Im:List VV) (ps:List Value),VL V (xs.flatMap aB) ps→xs.mapM (fz d V.H)=some Im→O0 V G (xs.flatMap (hJ d V.H))→VL (bare G V.P) (Im.flatMap aB) ps:=by
   intro xs
   induction xs with
   | nil=>intro Im ps hl h _;cases h;cases hl;exact .nil
   |
    cons x xs ihx =>
    intro Im ps hl h hi
    obtain⟨y,ys,h1,h2,rfl⟩:=lO h
    rw[List.flatMap_cons] at hl ⊢
    have hlen:=hl.length
    have a1:=hl.take (aB x).length
    have a2:=hl.drop (aB x).length
    rw[List.take_left] at a1
    rw[List.drop_left] at a2
    rw[←List.take_append_drop (aB x).length ps]
    exact(ihC x y _ a1 h1 fun i kX=>hi i (by rw[List.flatMap_cons];exact List.mem_append_left _ kX)).append (ihx ys _ a2 h2 fun i kX=>hi i (by rw[List.flatMap_cons];exact List.mem_append_right _ kX))
  have aqN:∀(xs Im:List VV) (e:Nat),xs.mapM (fz d V.H)=some Im→(∀x∈xs,(aB x).length=e)→∀x∈Im,(aB x).length=e:=by
   intro xs
   induction xs with
   | nil=>intro Im e h _ x hx;cases h;cases hx
   |
    cons x xs ihx =>
    intro Im e h he z hz
    obtain⟨y,ys,h1,h2,rfl⟩:=lO h
    rcases List.mem_cons.1 hz with rfl | hz
    ·rw[P3 h1];exact he x List.mem_cons_self
    ·exact ihx ys e h2 (fun w hw=>he w (List.mem_cons_of_mem _ hw)) z hz
  intro v v' pv hv h hi
  unfold fz at h
  unfold hJ at hi
  split at h
  ·rename_i hp
   cases h
   exact hv.pure hFG hp
  ·rename_i hp
   rw[if_neg hp] at hi
   split at h
   ·obtain⟨Aw,h1,rfl⟩:=cQ h
    cases hv with
    | agg cs ps hl=>exact .agg _ _ (ihL _ _ _ hl h1 hi)
   ·obtain⟨Aw,h1,rfl⟩:=cQ h
    cases hv with
    | dT cs ps hl=>exact .dT _ _ (ihL _ _ _ hl h1 hi)
   ·obtain⟨Aw,h1,rfl⟩:=cQ h
    cases hv with
    | pA k hk=>cases h1;exact .pA _ (.inl rfl)
    |
     tree es k b o c r e p hF hb ho hc he hk hl =>
     have hlen:=sX h1
     have:=VR.tree (V:=bare G V.P) Aw .op b o c r e p (hG b hF) hb (by rw[hlen];exact ho) (by rw[hlen];exact hc) (aqN _ _ _ h1 he) trivial (by rw[hlen];exact ihF _ _ _ hl h1 hi)
     rw[hlen] at this
     exact this
   ·obtain⟨x',h1,rfl⟩:=cQ h
    cases hv with
    |
     cN x off b o r e p hF hb ho hl =>
     have hlen:=P3 h1
     exact .cN x' _ b o r e p (hG b hF) hb (by rw[hlen];exact ho) (by rw[hlen];exact ihC _ _ _ hl h1 hi)
   ·rename_i b g o n c
    split at h
    case h_2=>cases h
    rename_i es e w hr
    simp only[hr] at hi
    rw[cG] at hr
    split at h
    case isFalse=>cases h
    rename_i avN
    obtain⟨hon,CS⟩:=avN
    obtain⟨mT,h1,rfl⟩:=cQ h
    obtain⟨r,p,k1,k2,k3⟩:=hS.row b g es e w hr
    have yS:=k3.length
    rw[kH k2] at yS
    cases hv with
    |
     ref b g o n c a n' c' bF hg ha hq =>
     obtain⟨rfl,rfl,rfl⟩:=ha _ _ _ hr
     have acN:∀x∈(es.drop o).take n',(aB x).length=e:=fun x hx=>k2 x (List.mem_of_mem_drop (List.mem_of_mem_take hx))
     have hn2:((es.drop o).take n').length=n':=by simp;omega
     have hlen:=sX h1
     rw[hn2] at hlen
     have hm:(o+n')*e≤es.length*e:=Nat.mul_le_mul_right _ hon
     rw[Nat.add_mul] at hm
     have hl:VL V (((es.drop o).take n').flatMap aB) ((r.drop (o*e)).take (n'*e)):=by
      have h4:=(k3.drop (o*e)).take (n'*e)
      rw[tT k2,tE (fun x hx=>k2 x (List.mem_of_mem_drop hx))] at h4
      exact h4
     have hGb:G (V.m b):=hi b List.mem_cons_self _ _ _ _ hr
     have:=VR.tree (V:=bare G V.P) mT .op (V.m b) (o*e) c' r e p hGb k1 (by rw[hlen];omega) (by rw[hlen];exact CS) (aqN _ _ _ h1 acN) trivial (by rw[hlen];exact ihF _ _ _ hl h1 fun i kX=>hi i (List.mem_cons_of_mem _ kX))
     rw[hlen] at this
     exact this
   ·rename_i b g j o
    split at h
    case h_2=>cases h
    rename_i es e w hr
    simp only[hr] at hi
    rw[cG] at hr
    split at h
    case h_2=>cases h
    rename_i x hx
    simp only[hx] at hi
    obtain⟨x',h1,rfl⟩:=cQ h
    obtain⟨r,p,k1,k2,k3,k4⟩:=K6 hS hr hx
    cases hv with
    |
     ptr b g j off a bF hg ha hq =>
     have:=ha _ _ _ hr
     subst this
     have hlen:=P3 h1
     exact .cN x' o (V.m b) (j*e) r e p (hi b List.mem_cons_self _ _ _ _ hr) k1 (by rw[hlen];exact k3) (by rw[hlen];exact ihC _ _ _ k4 h1 fun i kX=>hi i (List.mem_cons_of_mem _ kX))
   ·obtain⟨Aw,h1,rfl⟩:=cQ h
    cases hv with
    | uP f fT ps hl=>exact .uP _ _ _ (ihL _ _ _ hl h1 hi)
   ·cases h
theorem D4 (hS:SR V lo eI) {G:Nat→Prop} (hG:∀q,V.F q→G q) {d:Nat}:∀ {xs Im:List VV} {ps:List Value},VL V xs ps→xs.mapM (fz d V.H)=some Im→O0 V G (xs.flatMap (hJ d V.H))→VL (bare G V.P) Im ps
 | [],Im,ps,hl,h,_=>by cases h;cases hl;exact .nil
 |
  x::xs,Im,ps,hl,h,hi=>by
  obtain⟨y,ys,h1,h2,rfl⟩:=lO h
  cases hl with
  |
   cons _ v _ vs hx PV =>
   exact .cons _ _ _ _ (Mu hS hG d x y v hx h1 fun i kX=>hi i (by rw[List.flatMap_cons];exact List.mem_append_left _ kX)) (D4 hS hG PV h2 fun i kX=>hi i (by rw[List.flatMap_cons];exact List.mem_append_right _ kX))
def View.dA (V:View) (ids:List Nat):View:=ids.foldl View.freeze V
theorem vI:∀(ids:List Nat) {V:View},SR V lo eI→SR (V.dA ids) lo eI∧EE lo V (V.dA ids)∧(V.dA ids).H=PM.dA V.H ids∧(V.dA ids).P=V.P∧(V.dA ids).m=V.m∧O0 V (V.dA ids).F ids
 | [],V,hS=>⟨hS,EE.refl _ _,rfl,rfl,rfl,fun i hi=>by cases hi⟩
 |
  i::ids,V,hS=>by
  obtain⟨h1,h2,h3⟩:=Qh hS i
  obtain⟨g1,g2,g3,g4,g5,g6⟩:=vI ids h1
  refine⟨g1,h2.trans g2,?_,g4.trans (aeQ V i),g5.trans (RP V i),?_⟩
  ·show ((V.freeze i).dA ids).H=_
   rw[g3,Ss]
   rfl
  ·intro k hk g es e w hr
   show ((V.freeze i).dA ids).F (V.m k)
   rcases List.mem_cons.1 hk with rfl | hk
   ·exact g2.F _ (h3 _ _ _ _ hr)
   ·have Eu:∃g es e w,(V.freeze i).H[k]? = some (.row g es e w):=by
     rw[Ss]
     unfold BG
     split
     ·rename_i g' mT e' w' hi
      by_cases hki:k=i
      ·subst hki
       exact⟨g',mT,e',false,List.getElem?_set_self (List.getElem?_eq_some_iff.1 hi).1⟩
      ·exact⟨g,es,e,w,by rw[List.getElem?_set_ne (Ne.symm hki)];exact hr⟩
     ·exact⟨g,es,e,w,hr⟩
    obtain⟨g',mT,e',w',Eu⟩:=Eu
    have:=g6 k hk _ _ _ _ Eu
    rw[RP] at this
    exact this
end
end Go.PM