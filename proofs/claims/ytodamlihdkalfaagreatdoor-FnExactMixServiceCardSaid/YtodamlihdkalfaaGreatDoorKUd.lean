/- Texts of a claim, in one: part 4. -/
import Derived.Test.YtodamlihdkalfaaGreatDoorKUc
set_option linter.unusedSimpArgs false
set_option linter.unusedVariables false
namespace Go.PM
structure View where
 m:Nat→Nat
 F:Nat→Prop
 H:aA
 P:aE
 base:Nat
def kindOk (k:TK) (n c e:Nat) (p:Bool):Prop :=
 match k with
 | .op=>True
 | .cl e'=>e'=e∧c=n∧p=false
 | .nil=>False
mutual
inductive VR (V:View):VV→Value→Prop
 | any (v:Value):VR V .any v
 | sc (v:Value) (h:kE v=true):VR V (.sc v) v
 | agg (cs:List VV) (ps:List Value) (h:VL V cs ps):VR V (.agg cs) (.agg ps.toArray)
 | dS (cs:List VV) (ps:List Value) (h:VL V cs ps):VR V (.dS cs) (.tuple ps.toArray)
 | oI (k:TK) (hk:k = .op∨k = .nil):VR V (.tree [] k) (.slice none 0 0)
 | tree (es:List VV) (k:TK) (b o c:Nat) (r:List Value) (e:Nat) (p:Bool) (hF:V.F b) (hb:V.P[b]? = some (.row r e p)) (ho:o+es.length*e≤r.length)
  (hc:es.length≤c) (he:∀x∈es,(aB x).length=e) (hk:kindOk k es.length c e p) (hl:VL V (es.flatMap aB) ((r.drop o).take (es.length*e))) :
  VR V (.tree es k) (.slice (some ⟨b,o,none⟩) es.length c)
 | cZ (x:VV) (off b o:Nat) (r:List Value) (e:Nat) (p:Bool) (hF:V.F b) (hb:V.P[b]? = some (.row r e p)) (ho:o+(aB x).length≤r.length)
  (hl:VL V (aB x) ((r.drop o).take (aB x).length)):VR V (.cZ x off) (.pointer (some ⟨b,o+off,none⟩))
 | ref (b g o n c:Nat) (a:Option Addr) (n' c':Nat) (bB:b<V.H.length) (hg:∀g' es e w,V.H[b]? = some (.row g' es e w)→g≤g')
  (h:∀es e w,V.H[b]? = some (.row g es e w)→a=some ⟨V.m b,o*e,none⟩∧n'=n∧c'=c)
  (hq:∀a0,a=some a0→V.base≤a0.block∧a0.block<V.P.length∧∀b' g' es e w,V.H[b']? = some (.row g' es e w)→b'≠b→V.m b'≠a0.block):VR V (.ref b g o n c) (.slice a n' c')
 | ptr (b g j off:Nat) (a:Option Addr) (bB:b<V.H.length) (hg:∀g' es e w,V.H[b]? = some (.row g' es e w)→g≤g')
  (h:∀es e w,V.H[b]? = some (.row g es e w)→a=some ⟨V.m b,j*e+off,none⟩)
  (hq:∀a0,a=some a0→V.base≤a0.block∧a0.block<V.P.length∧∀b' g' es e w,V.H[b']? = some (.row g' es e w)→b'≠b→V.m b'≠a0.block):VR V (.ptr b g j off) (.pointer a)
 | uO (f:Nat) (fR:List VV) (ps:List Value) (h:VL V fR ps):VR V (.uO f fR) (.func (.func f) #[] ps.toArray)
inductive VL (V:View):List VV→List Value→Prop
 | nil:VL V [] []
 | cons (x:VV) (v:Value) (xs:List VV) (vs:List Value) (h:VR V x v) (hs:VL V xs vs):VL V (x::xs) (v::vs)
end
structure Up (V V':View):Prop where
 F:∀b,V.F b→V'.F b
 P:∀b,V.F b→V'.P[b]? = V.P[b]?
 len:V.H.length≤V'.H.length
 row:∀b g' mU e w',b<V.H.length→V'.H[b]? = some (.row g' mU e w')→∃g es w,V.H[b]? = some (.row g es e w)∧g≤g'∧(g'=g→V'.m b=V.m b)
 J8:V'.base=V.base
 Eo:V.P.length≤V'.P.length
 B1:∀b g es e w,V'.H[b]? = some (.row g es e w)→V'.m b<V.P.length→∃g0 es0 w0,V.H[b]? = some (.row g0 es0 e w0)∧V'.m b=V.m b∧(w=true→w0=true)
section
variable {V V' Rf:View}
theorem Up.refl (V:View):Up V V:=⟨fun _ h=>h,fun _ _=>rfl,Nat.le_refl _,fun b g es e w _ h=>⟨g,es,w,h,Nat.le_refl _,fun _=>rfl⟩,rfl,Nat.le_refl _,fun b g es e w h _=>⟨g,es,w,h,rfl,id⟩⟩
theorem Up.trans (h:Up V V') (h':Up V' Rf):Up V Rf :=
 ⟨fun b hb=>h'.F b (h.F b hb),fun b hb=>(h'.P b (h.F b hb)).trans (h.P b hb),Nat.le_trans h.len h'.len,fun b g es e w hb hr=>by
  obtain⟨g1,Co,w1,h1,h2,h3⟩:=h'.row b g es e w (Nat.lt_of_lt_of_le hb h.len) hr
  obtain⟨g2,es2,w2,h4,h5,h6⟩:=h.row b g1 Co e w1 hb h1
  exact⟨g2,es2,w2,h4,Nat.le_trans h5 h2,fun hg=>(h3 (by omega)).trans (h6 (by omega))⟩,h'.J8.trans h.J8,Nat.le_trans h.Eo h'.Eo,fun b g es e w hb hm=>by
   obtain⟨g1,Co,w1,h1,h2,h3⟩:=h'.B1 b g es e w hb (Nat.lt_of_lt_of_le hm h.Eo)
   obtain⟨g2,es2,w2,h4,h5,h6⟩:=h.B1 b g1 Co e w1 h1 (by rw[←h2];exact hm)
   exact⟨g2,es2,w2,h4,h2.trans h5,fun hw=>h6 (h3 hw)⟩⟩
theorem Up.hq (u:Up V V') {b q:Nat} (h:V.base≤q∧q<V.P.length∧∀b' g' es e w,V.H[b']? = some (.row g' es e w)→b'≠b→V.m b'≠q):V'.base≤q∧q<V'.P.length∧∀b' g' es e w,V'.H[b']? = some (.row g' es e w)→b'≠b→V'.m b'≠q:=by
 refine⟨by rw[u.J8];exact h.1,Nat.lt_of_lt_of_le h.2.1 u.Eo,fun b' g' es e w hb fH hm => ?_⟩
 obtain⟨g0,es0,w0,h1,h2,_⟩:=u.B1 b' g' es e w hb (by rw[hm];exact h.2.1)
 exact h.2.2 b' _ _ _ _ h1 fH (h2.symm.trans hm)
theorem VR.mono (u:Up V V') {x:VV} {v:Value} (h:VR V x v):VR V' x v:=by
 induction h using VR.rec (motive_2:=fun xs vs _=>VL V' xs vs) with
 | any=>exact .any _
 | sc _ h=>exact .sc _ h
 | agg cs ps _ ih=>exact .agg _ _ ih
 | dS cs ps _ ih=>exact .dS _ _ ih
 | oI k hk=>exact .oI k hk
 | tree es k b o c r e p hF hb ho hc he hk _ ih=>exact .tree es k b o c r e p (u.F _ hF) (by rw[u.P _ hF];exact hb) ho hc he hk ih
 | cZ x off b o r e p hF hb ho _ ih=>exact .cZ x off b o r e p (u.F _ hF) (by rw[u.P _ hF];exact hb) ho ih
 |
  ref b g o n c a n' c' bB hg h hq =>
  refine .ref b g o n c a n' c' (Nat.lt_of_lt_of_le bB u.len) (fun g' es e w hr => ?_) (fun es e w hr => ?_) fun a0 ha=>u.hq (hq a0 ha)
  ·obtain⟨g1,Co,w1,h1,h2,_⟩:=u.row b g' es e w bB hr
   exact Nat.le_trans (hg _ _ _ _ h1) h2
  ·obtain⟨g1,Co,w1,h1,h2,h3⟩:=u.row b g es e w bB hr
   have h4:=hg _ _ _ _ h1
   have h5:g=g1:=by omega
   subst h5
   rw[h3 rfl]
   exact h _ _ _ h1
 |
  ptr b g j off a bB hg h hq =>
  refine .ptr b g j off a (Nat.lt_of_lt_of_le bB u.len) (fun g' es e w hr => ?_) (fun es e w hr => ?_) fun a0 ha=>u.hq (hq a0 ha)
  ·obtain⟨g1,Co,w1,h1,h2,_⟩:=u.row b g' es e w bB hr
   exact Nat.le_trans (hg _ _ _ _ h1) h2
  ·obtain⟨g1,Co,w1,h1,h2,h3⟩:=u.row b g es e w bB hr
   have h4:=hg _ _ _ _ h1
   have h5:g=g1:=by omega
   subst h5
   rw[h3 rfl]
   exact h _ _ _ h1
 | uO f fR ps _ ih=>exact .uO _ _ _ ih
 | nil=>exact .nil
 | cons x v xs vs _ _ ih SO=>exact .cons _ _ _ _ ih SO
theorem VL.mono (u:Up V V') {xs:List VV} {vs:List Value} (h:VL V xs vs):VL V' xs vs:=by
 induction xs generalizing vs with
 | nil=>cases h;exact .nil
 |
  cons x xs ih=>cases h with
  | cons _ v _ vs h hs=>exact .cons _ _ _ _ (h.mono u) (ih hs)
end
section
variable {V:View} {xs ys:List VV} {vs ws:List Value}
theorem VL.length:∀ {xs:List VV} {vs:List Value},VL V xs vs→vs.length=xs.length
 | _,_,.nil=>rfl
 | _,_,.cons _ _ _ _ _ hs=>by simp[hs.length]
theorem VL.append:∀ {xs:List VV} {vs:List Value},VL V xs vs→VL V ys ws→VL V (xs++ys) (vs++ws)
 | _,_,.nil,h'=>h'
 | _,_,.cons _ _ _ _ h hs,h' => .cons _ _ _ _ h (hs.append h')
theorem VL.take (n:Nat):∀ {xs:List VV} {vs:List Value} ,VL V xs vs→VL V (xs.take n) (vs.take n):=by
 induction n with
 | zero=>intro xs vs _;simp;exact .nil
 |
  succ n ih=>intro xs vs h;cases h with
  | nil=>simp;exact .nil
  | cons x v xs vs h hs=>exact .cons _ _ _ _ h (ih hs)
theorem VL.drop (n:Nat):∀ {xs:List VV} {vs:List Value} ,VL V xs vs→VL V (xs.drop n) (vs.drop n):=by
 induction n with
 | zero=>intro xs vs h;simpa using h
 |
  succ n ih=>intro xs vs h;cases h with
  | nil=>simp;exact .nil
  | cons x v xs vs h hs=>exact ih hs
theorem VL.get (h:VL V xs vs) {i:Nat} {x:VV} (hx:xs[i]? = some x):∃v,vs[i]? = some v∧VR V x v:=by
 induction i generalizing xs vs with
 |
  zero=>cases h with
  | nil=>cases hx
  | cons y v xs vs h hs=>simp at hx;subst hx;exact⟨v,rfl,h⟩
 |
  succ i ih=>cases h with
  | nil=>cases hx
  | cons y v xs vs h hs=>exact ih hs (by simpa using hx)
theorem VL.map {α:Type} {f:α→VV} {g:α→Value}:∀ {l:List α},(∀x∈l,VR V (f x) (g x))→VL V (l.map f) (l.map g)
 | [],_ => .nil
 | x::l,h => .cons _ _ _ _ (h x (by simp)) (VL.map fun y hy=>h y (by simp[hy]))
theorem VL.replicate {x:VV} {v:Value} (h:VR V x v):∀n,VL V (List.replicate n x) (List.replicate n v)
 | 0 => .nil
 | n+1 => .cons _ _ _ _ h (VL.replicate h n)
theorem VL.iU {cs new:List VV} {ps pn:List Value} (h:VL V cs ps) (hn:VL V new pn) (o:Nat):VL V (cT cs o new) (iU ps o pn):=by
 unfold cT PM.iU
 rw[←hn.length]
 exact((h.take o).append hn).append (h.drop _)
theorem VR.jI (v:Value):VR V (jI v) v:=by
 unfold PM.jI
 split
 ·exact .oI _ (.inr rfl)
 ·split
  ·rename_i h;exact .sc _ h
  ·exact .any _
theorem VR.inj (v:Value):VR V (inj v) v:=by
 unfold PM.inj
 split
 ·rename_i cs
  have:(Value.agg cs) = .agg cs.toList.toArray:=by simp
  rw[this]
  refine .agg _ _ ?_
  have:=VL.map (V:=V) (f:=PM.jI) (g:=id) (l:=cs.toList) fun x _=>VR.jI x
  simpa using this
 ·rename_i vs
  split
  ·rename_i h
   have:vs=[].toArray:=by simpa using h
   rw[this]
   exact .dS _ _ .nil
  ·exact .any _
 ·exact VR.jI _
theorem VL.zero (z:List Value):VL V (z.map PM.jI) z:=by
 have:=VL.map (V:=V) (f:=PM.jI) (g:=id) (l:=z) fun x _=>VR.jI x
 simpa using this
theorem VR.cells {x:VV} {v:Value} (h:VR V x v) (hx:x ≠ .any):VL V (aB x) (aL v):=by
 cases h with
 | any=>exact absurd rfl hx
 |
  sc v h =>
  have:aL v=[v]:=by cases v<;>first | rfl | cases h
  rw[this]
  exact .cons _ _ _ _ (.sc v h) .nil
 | agg cs ps h=>simpa[aB,aL] using h
 | dS cs ps h=>exact .cons _ _ _ _ (.dS _ _ h) .nil
 | oI k hk=>exact .cons _ _ _ _ (.oI k hk) .nil
 | tree es k b o c r e p hF hb ho hc he hk hl=>exact .cons _ _ _ _ (.tree es k b o c r e p hF hb ho hc he hk hl) .nil
 | cZ x off b o r e p hF hb ho hl=>exact .cons _ _ _ _ (.cZ x off b o r e p hF hb ho hl) .nil
 | ref b g o n c a n' c' bB hg h hq=>exact .cons _ _ _ _ (.ref b g o n c a n' c' bB hg h hq) .nil
 | ptr b g j off a bB hg h hq=>exact .cons _ _ _ _ (.ptr b g j off a bB hg h hq) .nil
 | uO f fR ps h=>exact .cons _ _ _ _ (.uO _ _ _ h) .nil
theorem VR.fQ {x:VV} {v:Value} (h:VR V x v) (hx:bI x=true):fQ v=true:=by
 cases h with
 | sc v h=>cases v<;>first | rfl | cases h
 | any=>cases hx
 | agg=>cases hx
 | dS=>cases hx
 | _=>rfl
theorem VL.fQ:∀ {xs:List VV} {vs:List Value},VL V xs vs→xs.all bI=true→vs.all PM.fQ=true
 | _,_,.nil,_=>rfl
 |
  _,_,.cons _ _ _ _ h hs,hx=>by
  rw[List.all_cons,Bool.and_eq_true] at hx ⊢
  exact⟨h.fQ hx.1,hs.fQ hx.2⟩
theorem Ts {x:VV} (h:(aB x).all bI=true):x ≠ .any:=by
 rintro rfl
 cases h
theorem kK {es:List VV} {e:Nat} (he:∀x∈es,(aB x).length=e):(es.flatMap aB).length=es.length*e:=by
 induction es with
 | nil=>simp
 |
  cons x xs ih =>
  rw[List.flatMap_cons,List.length_append,ih fun y hy=>he y (List.mem_cons_of_mem _ hy),he x List.mem_cons_self,List.length_cons,Nat.succ_mul]
  omega
theorem tU {es:List VV} {e:Nat} (he:∀x∈es,(aB x).length=e) (i:Nat):(es.flatMap aB).drop (i*e)=(es.drop i).flatMap aB:=by
 induction i generalizing es with
 | zero=>simp
 |
  succ i ih =>
  cases es with
  | nil=>simp
  |
   cons x xs =>
   have hx:=he x List.mem_cons_self
   rw[List.flatMap_cons,List.drop_succ_cons,←ih fun y hy=>he y (List.mem_cons_of_mem _ hy),show (i+1)*e=(aB x).length+i*e by rw[hx,Nat.succ_mul];omega,List.drop_append]
   simp
theorem tK {es:List VV} {e:Nat} (he:∀x∈es,(aB x).length=e) (i:Nat):(es.flatMap aB).take (i*e)=(es.take i).flatMap aB:=by
 induction i generalizing es with
 | zero=>simp
 |
  succ i ih =>
  cases es with
  | nil=>simp
  |
   cons x xs =>
   have hx:=he x List.mem_cons_self
   rw[List.flatMap_cons,List.take_succ_cons,List.flatMap_cons,←ih fun y hy=>he y (List.mem_cons_of_mem _ hy),show (i+1)*e=(aB x).length+i*e by rw[hx,Nat.succ_mul];omega,List.take_append]
   simp
   exact List.take_of_length_le (by omega)
theorem Kh {es:List VV} {e:Nat} (he:∀x∈es,(aB x).length=e) {j:Nat} {x:VV} (hx:es[j]? = some x):((es.flatMap aB).drop (j*e)).take e=aB x:=by
 obtain⟨bB,Rr⟩:=List.getElem?_eq_some_iff.1 hx
 rw[tU he,List.drop_eq_getElem_cons bB,Rr,List.flatMap_cons,List.take_append,←he x (List.mem_of_getElem? hx)]
 simp
theorem wP {es new:List VV} {e:Nat} (he:∀x∈es,(aB x).length=e) (hn:∀x∈new,(aB x).length=e) (o:Nat):cT (es.flatMap aB) (o*e) (new.flatMap aB)=(cT es o new).flatMap aB:=by
 unfold cT
 rw[tK he,kK hn,show o*e+new.length*e=(o+new.length)*e by rw[Nat.add_mul],tU he]
 simp
theorem IG {es:List VV} {j:Nat} {x:VV} (hj:j<es.length):cT es j [x]=es.set j x:=by
 unfold cT
 rw[List.set_eq_take_append_cons_drop,if_pos hj]
 simp
theorem P0 {cs new:List VV} {o:Nat} (h:o+new.length≤cs.length):(cT cs o new).length=cs.length:=by
 unfold cT
 simp
 omega
theorem Jj {cs new:List VV} {o:Nat} {x:VV} (h:x∈cT cs o new):x∈cs∨x∈new:=by
 unfold cT at h
 rw[List.mem_append,List.mem_append] at h
 rcases h with(h | h) | h
 ·exact .inl (List.mem_of_mem_take h)
 ·exact .inr h
 ·exact .inl (List.mem_of_mem_drop h)
theorem nL {cs:List VV} (h:cs.all bI=true):aB (elemOf cs)=cs:=by
 unfold elemOf
 split
 ·rename_i x
  simp only[List.all_cons,List.all_nil,Bool.and_true] at h
  cases x<;>first | rfl | cases h
 ·rfl
theorem cG {H:aA} {b g:Nat} {es:List VV} {e:Nat} {w:Bool}:aI H b g=some (es,e,w)↔H[b]? = some (.row g es e w):=by
 unfold aI
 constructor
 ·intro h
  split at h
  ·rename_i hb
   split at h
   ·rename_i hg;subst hg;cases h;exact hb
   ·cases h
  ·cases h
 ·intro h
  rw[h]
  simp
end
structure SR (V:View) (lo eH:Nat):Prop where
 row:∀b g es e w,V.H[b]? = some (.row g es e w)→∃r p,V.P[V.m b]? = some (.row r e p)∧(∀x∈es,(aB x).length=e)∧VL V (es.flatMap aB) r
 wr:∀b g es e,V.H[b]? = some (.row g es e true)→¬V.F (V.m b)∧(lo≤b→eH≤V.m b)
 inj:∀a b g es e w g' mU e' w',V.H[a]? = some (.row g es e w)→V.H[b]? = some (.row g' mU e' w')→V.m a=V.m b→a=b
 fr:∀b,V.F b→b<V.P.length
 Sx:eH≤V.P.length
 J8:V.base≤V.P.length
structure E1 (lo:Nat) (V V':View):Prop extends Up V V' where
 bU:∀q,q<V.P.length→(∀b g es e,V.H[b]? = some (.row g es e true)→lo≤b→V.m b≠q)→V'.P[q]? = V.P[q]?
 CM:∀q,V'.F q→V.F q∨V.P.length≤q∨∃b g es e w,V.H[b]? = some (.row g es e w)∧V.m b=q
section
variable {V V' Rf:View} {lo:Nat}
theorem E1.refl (lo:Nat) (V:View):E1 lo V V :=
 { Up.refl V with bU:=fun _ _ _=>rfl,CM:=fun _ h => .inl h }
theorem E1.trans (h:E1 lo V V') (h':E1 lo V' Rf):E1 lo V Rf :=
 { Up.trans h.toUp h'.toUp with
  bU:=fun q hq hn=>by
   rw[h'.bU q (Nat.lt_of_lt_of_le hq h.Eo) ?_,h.bU q hq hn]
   intro b g es e hb hl hm
   obtain⟨g1,Co,w1,h1,h2,h3⟩:=h.B1 b g es e true hb (by rw[hm];exact hq)
   have:=h3 rfl
   subst this
   exact hn b g1 Co e h1 hl (h2.symm.trans hm)
  CM:=fun q hq=>by
   rcases h'.CM q hq with h1 | h1 | ⟨b,g,es,e,w,h1,h2⟩
   ·exact h.CM q h1
   ·exact .inr (.inl (Nat.le_trans h.Eo h1))
   ·rcases Nat.lt_or_ge q V.P.length with hl | hl
    ·obtain⟨g1,Co,w1,h3,h4,_⟩:=h.B1 b g es e w h1 (by rw[h2];exact hl)
     exact .inr (.inr ⟨b,g1,Co,e,w1,h3,h4.symm.trans h2⟩)
    ·exact .inr (.inl hl) }
end
end Go.PM
namespace Go.PM
def XX (m:Nat→Nat) (b v:Nat):Nat→Nat:=fun k=>if k=b then v else m k
theorem lT {m:Nat→Nat} {b v:Nat}:XX m b v b=v:=by simp[XX]
theorem mQ {m:Nat→Nat} {b v k:Nat} (h:k≠b):XX m b v k=m k:=by simp[XX,h]
section
variable {V:View} {lo eH:Nat}
theorem SR.mlt (hS:SR V lo eH) {b g e:Nat} {es:List VV} {w:Bool} (hb:V.H[b]? = some (.row g es e w)):V.m b<V.P.length:=by
 obtain⟨r,p,h,_⟩:=hS.row b g es e w hb
 exact(List.getElem?_eq_some_iff.1 h).1
theorem Cc (hS:SR V lo eH) (x:MM):SR { V with P:=V.P++[x],F:=fun q=>V.F q∨q=V.P.length } lo eH∧E1 lo V { V with P:=V.P++[x],F:=fun q=>V.F q∨q=V.P.length }:=by
 have hU:Up V { V with P:=V.P++[x],F:=fun q=>V.F q∨q=V.P.length }:=⟨fun _ h => .inl h,fun b hb=>List.getElem?_append_left (hS.fr b hb),Nat.le_refl _,fun b g es e w _ h=>⟨g,es,w,h,Nat.le_refl _,fun _=>rfl⟩,rfl,by simp,fun b g es e w hb _=>⟨g,es,w,hb,rfl,id⟩⟩
 refine⟨⟨fun b g es e w hb => ?_,fun b g es e hb=>⟨fun hF => ?_,(hS.wr b g es e hb).2⟩,hS.inj,fun b hb => ?_,by have:=hS.Sx;simp;omega,by have:=hS.J8;simp;omega⟩,{ hU with bU:=fun q hq _=>List.getElem?_append_left hq,CM:=fun q hq => ?_ }⟩
 ·obtain⟨r,p,h1,h2,h3⟩:=hS.row b g es e w hb
  exact⟨r,p,by rw[←h1];exact List.getElem?_append_left (hS.mlt hb),h2,h3.mono hU⟩
 ·rcases hF with hF | hF
  ·exact(hS.wr b g es e hb).1 hF
  ·have h1:V.m b=V.P.length:=hF
   have:=hS.mlt hb
   omega
 ·rcases hb with hb | hb
  ·have:=hS.fr b hb
   simp;omega
  ·subst hb;simp
 ·rcases hq with hq | hq
  ·exact .inl hq
  ·exact .inr (.inl (by omega))
theorem rK (hS:SR V lo eH) {es:List VV} {r:List Value} {e:Nat} (p:Bool) (he:∀x∈es,(aB x).length=e) (hl:VL V (es.flatMap aB) r) :
  SR { V with m:=XX V.m V.H.length V.P.length,H:=V.H++[.row 0 es e true],P:=V.P++[.row r e p] } lo eH∧E1 lo V { V with m:=XX V.m V.H.length V.P.length,H:=V.H++[.row 0 es e true],P:=V.P++[.row r e p] }:=by
 have B1:∀b g mU e' w,(V.H++[cA.row 0 es e true])[b]? = some (.row g mU e' w)→(b=V.H.length∧g=0∧mU=es∧e'=e∧w=true)∨(b≠V.H.length∧V.H[b]? = some (.row g mU e' w)):=by
  intro b g mU e' w hb
  rcases Nat.lt_trichotomy b V.H.length with h | h | h
  ·rw[List.getElem?_append_left h] at hb
   exact .inr ⟨by omega,hb⟩
  ·subst h
   rw[List.getElem?_append_right (Nat.le_refl _)] at hb
   simp at hb
   obtain⟨h1,h2,h3,h4⟩:=hb
   exact .inl ⟨rfl,h1.symm,h2.symm,h3.symm,h4⟩
  ·rw[List.getElem?_eq_none (by simp;omega)] at hb
   cases hb
 have hU:Up V { V with m:=XX V.m V.H.length V.P.length,H:=V.H++[.row 0 es e true],P:=V.P++[.row r e p] } :=
  ⟨fun _ h=>h,fun b hb=>List.getElem?_append_left (hS.fr b hb),by simp,fun b g' mU e' w' bB hb=>by
   rcases B1 b g' mU e' w' hb with⟨h,_⟩ | ⟨h,hb⟩
   ·omega
   ·exact⟨g',mU,w',hb,Nat.le_refl _,fun _=>mQ h⟩,rfl,by simp,fun b g mU e' w hb hm=>by
   rcases B1 b g mU e' w hb with⟨rfl,_⟩ | ⟨h,hb⟩
   ·simp only[lT] at hm
    omega
   ·exact⟨g,mU,w,hb,mQ h,id⟩⟩
 refine⟨⟨fun b g mU e' w hb => ?_,fun b g mU e' hb => ?_,fun a b g Co e1 w1 g' es2 e2 w2 ha hb hm => ?_,fun b hb=>by have:=hS.fr b hb;simp;omega,by have:=hS.Sx;simp;omega,by have:=hS.J8;simp;omega⟩,
  { hU with bU:=fun q hq _=>List.getElem?_append_left hq,CM:=fun q hq => .inl hq }⟩
 ·rcases B1 b g mU e' w hb with⟨rfl,rfl,rfl,rfl,rfl⟩ | ⟨h,hb⟩
  ·exact⟨r,p,by simp only[lT];simp,he,hl.mono hU⟩
  ·obtain⟨r1,p1,h1,h2,h3⟩:=hS.row b g mU e' w hb
   refine⟨r1,p1,?_,h2,h3.mono hU⟩
   simp only[mQ h]
   rw[List.getElem?_append_left (hS.mlt hb)]
   exact h1
 ·rcases B1 b g mU e' true hb with⟨rfl,_⟩ | ⟨h,hb⟩
  ·simp only[lT]
   exact⟨fun hF=>by have:=hS.fr _ hF;omega,fun _=>hS.Sx⟩
  ·simp only[mQ h]
   exact hS.wr b g mU e' hb
 ·rcases B1 a g Co e1 w1 ha with⟨rfl,_⟩ | ⟨h,ha⟩
  ·rcases B1 b g' es2 e2 w2 hb with⟨rfl,_⟩ | ⟨h',hb⟩
   ·rfl
   ·simp only[lT,mQ h'] at hm
    have:=hS.mlt hb
    omega
  ·rcases B1 b g' es2 e2 w2 hb with⟨rfl,_⟩ | ⟨h',hb⟩
   ·simp only[lT,mQ h] at hm
    have:=hS.mlt ha
    omega
   ·simp only[mQ h,mQ h'] at hm
    exact hS.inj a b _ _ _ _ _ _ _ _ ha hb hm
theorem fX {H:aA} {b:Nat} {x:cA} (hb:b<H.length) {a:Nat} {y:cA} (h:(H.set b x)[a]? = some y):(a=b∧y=x)∨(a≠b∧H[a]? = some y):=by
 by_cases he:a=b
 ·subst he
  rw[List.getElem?_set_self hb] at h
  cases h
  exact .inl ⟨rfl,rfl⟩
 ·rw[List.getElem?_set_ne (Ne.symm he)] at h
  exact .inr ⟨he,h⟩
theorem Dp (hS:SR V lo eH) {b g e:Nat} {es mU:List VV} {r':List Value} (hb:V.H[b]? = some (.row g es e true)) (eW:lo≤b) (he:∀x∈mU,(aB x).length=e) (hl:VL V (mU.flatMap aB) r') {r:List Value} {p:Bool} (hp:V.P[V.m b]? = some (.row r e p)) :
  SR { V with H:=V.H.set b (.row g mU e true),P:=V.P.set (V.m b) (.row r' e p) } lo eH∧E1 lo V { V with H:=V.H.set b (.row g mU e true),P:=V.P.set (V.m b) (.row r' e p) }:=by
 have uJ:=(List.getElem?_eq_some_iff.1 hb).1
 have Mv:=hS.mlt hb
 have hU:Up V { V with H:=V.H.set b (.row g mU e true),P:=V.P.set (V.m b) (.row r' e p) } :=
  ⟨fun _ h=>h,fun q hq=>List.getElem?_set_ne (fun h=>(hS.wr b g es e hb).1 (by rw[h];exact hq)),by simp,fun a g' Co e1 w1 bB ha=>by
   rcases fX uJ ha with⟨rfl,h⟩ | ⟨_,h⟩
   ·cases h
    exact⟨g,es,true,hb,Nat.le_refl _,fun _=>rfl⟩
   ·exact⟨g',Co,w1,h,Nat.le_refl _,fun _=>rfl⟩,rfl,by simp,fun a g1 Co e1 w1 ha _=>by
   rcases fX uJ ha with⟨rfl,h⟩ | ⟨fH,h⟩
   ·cases h
    exact⟨g,es,true,hb,rfl,fun _=>rfl⟩
   ·exact⟨g1,Co,w1,h,rfl,id⟩⟩
 refine⟨⟨fun a g1 Co e1 w1 ha => ?_,fun a g1 Co e1 ha => ?_,fun a c g1 Co e1 w1 g2 es2 e2 w2 ha hc hm => ?_,fun q hq=>by have:=hS.fr q hq;simp;omega,by have:=hS.Sx;simp;omega,by have:=hS.J8;simp;omega⟩,
  { hU with bU:=fun q hq hn=>List.getElem?_set_ne (hn b g es e hb eW),CM:=fun q hq => .inl hq }⟩
 ·rcases fX uJ ha with⟨rfl,h⟩ | ⟨fH,h⟩
  ·cases h
   exact⟨r',p,List.getElem?_set_self Mv,he,hl.mono hU⟩
  ·obtain⟨r1,p1,h1,h2,h3⟩:=hS.row a g1 Co e1 w1 h
   exact⟨r1,p1,by rw[←h1];exact List.getElem?_set_ne (fun hm=>fH (hS.inj _ _ _ _ _ _ _ _ _ _ h hb hm.symm)),h2,h3.mono hU⟩
 ·rcases fX uJ ha with⟨rfl,h⟩ | ⟨fH,h⟩
  ·cases h
   exact hS.wr _ _ _ _ hb
  ·exact hS.wr _ _ _ _ h
 ·rcases fX uJ ha with⟨rfl,h⟩ | ⟨fH,h⟩<;>rcases fX uJ hc with⟨rfl,h'⟩ | ⟨WE,h'⟩
  ·rfl
  ·exact hS.inj _ _ _ _ _ _ _ _ _ _ hb h' hm
  ·exact hS.inj _ _ _ _ _ _ _ _ _ _ h hb hm
  ·exact hS.inj _ _ _ _ _ _ _ _ _ _ h h' hm
theorem Ty (hS:SR V lo eH) {b g e:Nat} {es mU:List VV} {r':List Value} (hb:V.H[b]? = some (.row g es e true)) (eW:lo≤b) (he:∀x∈mU,(aB x).length=e) (hl:VL V (mU.flatMap aB) r') {P1:aE} (hP:P1.length=V.P.length) (hk:∀q,q≠V.m b→P1[q]? = V.P[q]?) (p:Bool) :
  SR { V with m:=XX V.m b V.P.length,H:=V.H.set b (.row (g+1) mU e true),P:=P1++[.row r' e p] } lo eH∧E1 lo V { V with m:=XX V.m b V.P.length,H:=V.H.set b (.row (g+1) mU e true),P:=P1++[.row r' e p] }:=by
 have uJ:=(List.getElem?_eq_some_iff.1 hb).1
 have Mv:=hS.mlt hb
 have vA:∀q,q<V.P.length→q≠V.m b→(P1++[MM.row r' e p])[q]? = V.P[q]? := fun q hq hn=>by rw[List.getElem?_append_left (by omega)];exact hk q hn
 have hU:Up V { V with m:=XX V.m b V.P.length,H:=V.H.set b (.row (g+1) mU e true),P:=P1++[.row r' e p] } :=
  ⟨fun _ h=>h,fun q hq=>vA q (hS.fr q hq) (fun h=>(hS.wr b g es e hb).1 (by rw[←h];exact hq)),by simp,fun a g' Co e1 w1 bB ha=>by
   rcases fX uJ ha with⟨rfl,h⟩ | ⟨fH,h⟩
   ·cases h
    exact⟨g,es,true,hb,by omega,fun h=>by omega⟩
   ·exact⟨g',Co,w1,h,Nat.le_refl _,fun _=>mQ fH⟩,rfl,by simp;omega,fun a g1 Co e1 w1 ha hm=>by
   rcases fX uJ ha with⟨rfl,h⟩ | ⟨fH,h⟩
   ·simp only[lT] at hm
    omega
   ·exact⟨g1,Co,w1,h,mQ fH,id⟩⟩
 refine⟨⟨fun a g1 Co e1 w1 ha => ?_,fun a g1 Co e1 ha => ?_,fun a c g1 Co e1 w1 g2 es2 e2 w2 ha hc hm => ?_,fun q hq=>by have:=hS.fr q hq;simp;omega,by have:=hS.Sx;simp;omega,by have:=hS.J8;simp;omega⟩,
  { hU with bU:=fun q hq hn=>vA q hq (Ne.symm (hn b g es e hb eW)),CM:=fun q hq => .inl hq }⟩
 ·rcases fX uJ ha with⟨rfl,h⟩ | ⟨fH,h⟩
  ·cases h
   refine⟨r',p,?_,he,hl.mono hU⟩
   simp only[lT]
   rw[←hP]
   simp
  ·obtain⟨r1,p1,h1,h2,h3⟩:=hS.row a g1 Co e1 w1 h
   refine⟨r1,p1,?_,h2,h3.mono hU⟩
   simp only[mQ fH]
   rw[vA _ (hS.mlt h) (fun hm=>fH (hS.inj _ _ _ _ _ _ _ _ _ _ h hb hm))]
   exact h1
 ·rcases fX uJ ha with⟨rfl,h⟩ | ⟨fH,h⟩
  ·cases h
   simp only[lT]
   exact⟨fun hF=>by have:=hS.fr _ hF;omega,fun _=>hS.Sx⟩
  ·simp only[mQ fH]
   exact hS.wr _ _ _ _ h
 ·rcases fX uJ ha with⟨rfl,h⟩ | ⟨fH,h⟩<;>rcases fX uJ hc with⟨rfl,h'⟩ | ⟨WE,h'⟩
  ·rfl
  ·simp only[lT,mQ WE] at hm
   have:=hS.mlt h'
   omega
  ·simp only[lT,mQ fH] at hm
   have:=hS.mlt h
   omega
  ·simp only[mQ fH,mQ WE] at hm
   exact hS.inj _ _ _ _ _ _ _ _ _ _ h h' hm
def View.freeze (V:View) (b:Nat):View :=
 match V.H[b]? with
 | some (.row _ _ _ _)=>{ V with H:=BN V.H b,F:=fun q=>V.F q∨q=V.m b }
 | _=>V
theorem Q5 (V:View) (b:Nat):(V.freeze b).H=BN V.H b:=by
 unfold View.freeze BN
 cases h:V.H[b]? with
 | none=>rfl
 | some x=>cases x<;>rfl
theorem ZF (V:View) (b:Nat):(V.freeze b).P=V.P:=by
 unfold View.freeze
 split<;>rfl
theorem Sm (V:View) (b:Nat):(V.freeze b).m=V.m:=by
 unfold View.freeze
 split<;>rfl
theorem Pp (hS:SR V lo eH) (b:Nat):SR (V.freeze b) lo eH∧E1 lo V (V.freeze b)∧(∀g es e w,V.H[b]? = some (.row g es e w)→(V.freeze b).F (V.m b)):=by
 unfold View.freeze
 split
 case h_2 fH=>exact⟨hS,E1.refl _ _,fun g es e w h=>absurd h (fH _ _ _ _)⟩
 rename_i g es e w hb
 have uJ:=(List.getElem?_eq_some_iff.1 hb).1
 have hf:BN V.H b=V.H.set b (.row g es e false):=by unfold BN;rw[hb]
 rw[hf]
 have hU:Up V { V with H:=V.H.set b (.row g es e false),F:=fun q=>V.F q∨q=V.m b } :=
  ⟨fun _ h => .inl h,fun _ _=>rfl,by simp,fun a g' Co e1 w1 bB ha=>by
   rcases fX uJ ha with⟨rfl,h⟩ | ⟨_,h⟩
   ·cases h
    exact⟨g,es,w,hb,Nat.le_refl _,fun _=>rfl⟩
   ·exact⟨g',Co,w1,h,Nat.le_refl _,fun _=>rfl⟩,rfl,Nat.le_refl _,fun a g1 Co e1 w1 ha hm=>by
   rcases fX uJ ha with⟨rfl,h⟩ | ⟨fH,h⟩
   ·cases h
    exact⟨g,es,w,hb,rfl,fun h=>by cases h⟩
   ·exact⟨g1,Co,w1,h,rfl,id⟩⟩
 refine⟨⟨fun a g1 Co e1 w1 ha => ?_,fun a g1 Co e1 ha => ?_,fun a c g1 Co e1 w1 g2 es2 e2 w2 ha hc hm => ?_,fun q hq => ?_,hS.Sx,hS.J8⟩,
  { hU with bU:=fun q hq hn=>rfl,CM:=fun q hq => ?_ },fun _ _ _ _ _ => .inr rfl⟩
 ·rcases fX uJ ha with⟨rfl,h⟩ | ⟨fH,h⟩
  ·cases h
   obtain⟨r1,p1,h1,h2,h3⟩:=hS.row _ _ _ _ _ hb
   exact⟨r1,p1,h1,h2,h3.mono hU⟩
  ·obtain⟨r1,p1,h1,h2,h3⟩:=hS.row _ _ _ _ _ h
   exact⟨r1,p1,h1,h2,h3.mono hU⟩
 ·rcases fX uJ ha with⟨rfl,h⟩ | ⟨fH,h⟩
  ·cases h
  ·refine⟨fun hF => ?_,(hS.wr _ _ _ _ h).2⟩
   rcases hF with hF | hF
   ·exact(hS.wr _ _ _ _ h).1 hF
   ·exact fH (hS.inj _ _ _ _ _ _ _ _ _ _ h hb hF)
 ·rcases fX uJ ha with⟨rfl,h⟩ | ⟨fH,h⟩<;>rcases fX uJ hc with⟨rfl,h'⟩ | ⟨WE,h'⟩
  ·rfl
  ·exact hS.inj _ _ _ _ _ _ _ _ _ _ hb h' hm
  ·exact hS.inj _ _ _ _ _ _ _ _ _ _ h hb hm
  ·exact hS.inj _ _ _ _ _ _ _ _ _ _ h h' hm
 ·rcases hq with hq | hq
  ·exact hS.fr q hq
  ·subst hq;exact hS.mlt hb
 ·rcases hq with hq | hq
  ·exact .inl hq
  ·exact .inr (.inr ⟨b,g,es,e,w,hb,hq.symm⟩)
end
end Go.PM
namespace Go.PM
section
variable {V:View} {lo eH:Nat} {ρ:dG} {kH:Env}
def ER (V:View) (ρ:dG) (kH:Env):Prop:=∀t,VR V (ρ t) (kH t)
theorem ER.mono {V':View} (u:Up V V') (h:ER V ρ kH):ER V' ρ kH:=fun t=>(h t).mono u
theorem ER.ev (h:ER V ρ kH) (x:Operand):VR V (eE ρ x) (ev kH x):=by
 cases x with
 | tmp t=>exact h t
 | const v=>exact VR.inj v
 | global g=>exact .any _
 | func f=>exact .uO f [] [] .nil
theorem ER.put {d:Option Nat} {x:VV} {v:Value} (h:ER V ρ kH) (hx:VR V x v):ER V (JS ρ d x) (put kH d v):=by
 cases d with
 | none=>exact h
 |
  some d =>
  intro t
  simp only[JS,PM.put]
  split
  ·exact hx
  ·exact h t
theorem ER.evs (h:ER V ρ kH) (xs:List Operand):VL V (xs.map (eE ρ)) (xs.map (PM.ev kH)):=VL.map fun x _=>h.ev x
def gL (lo eH:Nat) (V:View) (r:Option (Value×aE)) (v:VV) (H':aA):Prop :=
 ∃pv V',r=some (pv,V'.P)∧V'.H=H'∧SR V' lo eH∧E1 lo V V'∧VR V' v pv
theorem gL.pure (hS:SR V lo eH) {r:Option Value} {v:VV} {pv:Value} (h:r=some pv) (hv:VR V v pv):gL lo eH V (r.map (·,V.P)) v V.H :=
 ⟨pv,V,by rw[h];rfl,rfl,hS,E1.refl _ _,hv⟩
theorem gL.of {V':View} {pv:Value} {v:VV} (h:SR V' lo eH∧E1 lo V V') (hv:VR V' v pv):gL lo eH V (some (pv,V'.P)) v V'.H:=⟨pv,V',rfl,rfl,h.1,h.2,hv⟩
theorem gL.same (hS:SR V lo eH) {v:VV} {pv:Value} (hv:VR V v pv):gL lo eH V (some (pv,V.P)) v V.H :=
 ⟨pv,V,rfl,rfl,hS,E1.refl _ _,hv⟩
theorem cH {α β:Type} {o:Option α} {f:α→β} {b:β} (h:o.map f=some b):∃a,o=some a∧f a=b:=by
 cases o with
 | none=>cases h
 | some a=>cases h;exact⟨a,rfl,rfl⟩
theorem qS {x:VV} {v u:Value} (h:VR V x u) (hx:x = .sc v):u=v∧kE v=true:=by
 subst hx
 cases h with
 | sc v h=>exact⟨rfl,h⟩
theorem Yx {op:BinOp} {a b c:Value} (h:dB op a b=some c):kE c=true:=by
 unfold dB at h
 split at h
 ·split at h<;>cases h;rfl
 ·split at h<;>cases h;rfl
 ·split at h
  ·split at h<;>first | (cases h;rfl) | (split at h<;>cases h<;>rfl) | cases h
  ·cases h
 ·split at h<;>first | (cases h;rfl) | (split at h<;>cases h<;>rfl) | cases h
 ·cases h
theorem adG {op:UnOp} {a c:Value} (h:ZV op a=some c):kE c=true:=by
 unfold ZV at h
 split at h<;>cases h<;>rfl
theorem aaL {n:Bool} {a b c:Value} (h:MF n a b=some c):kE c=true:=by
 unfold MF at h
 split at h<;>cases h;rfl
theorem aaD {k:IntKind} {a c:Value} (h:Tp k a=some c):kE c=true:=by
 unfold Tp at h
 split at h<;>cases h;rfl
theorem ZC {a c:Value} (h:XC a=some c):kE c=true:=by
 unfold XC at h
 split at h<;>cases h;rfl
theorem Xf {a c:Value} (h:A2 a=some c):kE c=true:=by
 unfold A2 at h
 split at h<;>cases h;rfl
theorem W1 {a b c:Value} (h:GZ a b=some c):kE c=true:=by
 unfold GZ at h
 split at h
 ·split at h<;>cases h;rfl
 ·cases h
theorem Z1 {a b c:Value} (h:P6 a b=some c):kE c=true:=by
 unfold P6 at h
 split at h<;>cases h;rfl
theorem YK {a b c:Value} (h:QL a b=some c):kE c=true:=by
 unfold QL at h
 split at h<;>cases h;rfl
theorem DY (hS:SR V lo eH) {f:Value→Option Value} (hf:∀a c,f a=some c→kE c=true) {x v:VV} {u:Value} (hx:VR V x u) (h:Kr f x=some v):gL lo eH V ((f u).map (·,V.P)) v V.H:=by
 unfold Kr at h
 split at h
 ·obtain⟨h1,_⟩:=qS hx rfl
  subst h1
  obtain⟨c,hc,rfl⟩:=cH h
  exact gL.pure hS hc (.sc _ (hf _ _ hc))
 ·cases h
theorem Bc (hS:SR V lo eH) {f:Value→Value→Option Value} (hf:∀a b c,f a b=some c→kE c=true) {x y v:VV} {u w:Value} (hx:VR V x u) (hy:VR V y w) (h:HN f x y=some v):gL lo eH V ((f u w).map (·,V.P)) v V.H:=by
 unfold HN at h
 split at h
 ·obtain⟨h1,_⟩:=qS hx rfl
  obtain⟨h2,_⟩:=qS hy rfl
  subst h1 h2
  obtain⟨c,hc,rfl⟩:=cH h
  exact gL.pure hS hc (.sc _ (hf _ _ _ hc))
 ·cases h
theorem T1 {α:Type} (l:List α) {o n a k:Nat} (h:a+k≤n):(((l.drop o).take n).drop a).take k=(l.drop (o+a)).take k:=by
 rw[List.drop_take,List.take_take,List.drop_drop,Nat.min_eq_left (by omega)]
theorem Sc {x v:VV} {agg:Bool} {size off b o e:Nat} {r:List Value} {p:Bool} (hb:V.P[b]? = some (.row r e p)) (ho:o+(aB x).length≤r.length) (hl:VL V (aB x) ((r.drop o).take (aB x).length)) (h:dQ agg size x off=some v) :
  ∃u,nT agg size (.pointer (some ⟨b,o+off,none⟩)) V.P=some u∧VR V v u:=by
 unfold dQ at h
 cases agg with
 |
  true =>
  simp only[if_true] at h
  split at h
  ·rename_i hs
   cases h
   refine⟨.agg ((r.drop (o+off)).take size).toArray,?_,.agg _ _ ?_⟩
   ·simp only[nT,if_true,A4 hb (show o+off+size≤r.length by omega)]
    rfl
   ·have:=(hl.drop off).take size
    rw[T1 _ hs] at this
    exact this
  ·cases h
 |
  false =>
  simp only[Bool.false_eq_true,if_false] at h
  obtain⟨u,hu,hv⟩:=hl.get h
  have ahR:=(List.getElem?_eq_some_iff.1 h).1
  rw[List.getElem?_take,if_pos ahR,List.getElem?_drop] at hu
  refine⟨u,?_,hv⟩
  have bB:=(List.getElem?_eq_some_iff.1 hu).1
  simp only[nT,Bool.false_eq_true,if_false,A4 hb (show o+off+1≤r.length by omega)]
  rw[List.drop_eq_getElem_cons bB]
  simp only[List.take_succ_cons,List.take_zero]
  rw[List.getElem?_eq_getElem bB] at hu
  injection hu with hu
  rw[hu]
theorem Me (hS:SR V lo eH) {b g e j:Nat} {es:List VV} {w:Bool} {x:VV} (hb:V.H[b]? = some (.row g es e w)) (hx:es[j]? = some x) :
  ∃r p,V.P[V.m b]? = some (.row r e p)∧(aB x).length=e∧j*e+(aB x).length≤r.length∧VL V (aB x) ((r.drop (j*e)).take (aB x).length):=by
 obtain⟨r,p,h1,h2,h3⟩:=hS.row b g es e w hb
 have hxe:=h2 x (List.mem_of_getElem? hx)
 have hj:=(List.getElem?_eq_some_iff.1 hx).1
 have hlen:=h3.length
 rw[kK h2] at hlen
 have hm:(j+1)*e≤es.length*e:=Nat.mul_le_mul_right _ hj
 rw[Nat.succ_mul] at hm
 refine⟨r,p,h1,hxe,by omega,?_⟩
 have:=(h3.drop (j*e)).take e
 rw[Kh h2 hx] at this
 rw[hxe]
 exact this
theorem Kp (hS:SR V lo eH) {p v:VV} {u:Value} {agg:Bool} {size:Nat} (hp:VR V p u) (h:cR agg size p V.H=some v):∃w,nT agg size u V.P=some w∧VR V v w:=by
 unfold cR at h
 split at h
 ·cases hp with
  | cZ x off b o r e p hF hb ho hl=>exact Sc hb ho hl h
 ·split at h
  ·rename_i es e w hr
   rw[cG] at hr
   split at h
   ·rename_i x hx
    cases hp with
    |
     ptr b g j off a bB hg ha hq =>
     have:=ha _ _ _ hr
     subst this
     obtain⟨r,p,h1,h2,h3,h4⟩:=Me hS hr hx
     exact Sc h1 h3 h4 h
   ·cases h
  ·cases h
 ·cases h
theorem RA (hS:SR V lo eH) {x i v:VV} {u k:Value} {size:Nat} (hx:VR V x u) (hi:VR V i k) (h:bM size x i V.H=some v):∃w,OM size u k=some w∧VR V v w:=by
 unfold bM at h
 split at h
 ·rename_i es tk ik i
  obtain⟨rfl,_⟩:=qS hi rfl
  split at h
  ·rename_i h0
   split at h
   ·rename_i y hy
    split at h
    ·rename_i CP
     cases h
     have bB:=(List.getElem?_eq_some_iff.1 hy).1
     cases hx with
     | oI=>simp at bB
     |
      tree es k b o c r e p hF hb ho hc he hk hl =>
      have hye:=he y (List.mem_of_getElem? hy)
      have MC:e=size:=by omega
      subst MC
      have hm:(i.toNat+1)*e≤es.length*e:=Nat.mul_le_mul_right _ bB
      rw[Nat.succ_mul] at hm
      refine⟨_,Q9 h0 (by omega),?_⟩
      have h1:=(hl.drop (i.toNat*e)).take e
      rw[Kh he hy,T1 _ (by omega)] at h1
      exact .cZ y 0 b (o+i.toNat*e) r e p hF hb (by omega) (by rw[hye];exact h1)
    ·cases h
   ·cases h
  ·cases h
 ·rename_i b g o n c ik i
  obtain⟨rfl,_⟩:=qS hi rfl
  split at h
  ·rename_i es e w hr
   rw[cG] at hr
   split at h
   ·rename_i hc
    obtain⟨rfl,h0,h1⟩:=hc
    cases h
    cases hx with
    |
     ref b g o n c a n' c' bB hg ha hq =>
     obtain⟨rfl,rfl,rfl⟩:=ha _ _ _ hr
     refine⟨_,Q9 h0 h1,.ptr b g (o+i.toNat) 0 _ bB hg (fun mU e' w' FR => ?_) fun a0 h=>by cases h;exact hq ⟨V.m b,o*e,none⟩ rfl⟩
     rw[hr] at FR
     cases FR
     rw[Nat.add_mul,Nat.add_zero]
   ·cases h
  ·cases h
 ·cases h
theorem Bv {l:Option Operand} {lv:Option Value} (hE:ER V ρ kH) (h:FH (l.map (eE ρ))=some lv):l.map (ev kH)=lv:=by
 cases l with
 | none=>cases h;rfl
 |
  some x =>
  simp only[Option.map_some,FH] at h
  split at h
  ·rename_i hv;cases hv
  ·rename_i v hv
   cases h
   injection hv with hv
   obtain⟨h1,_⟩:=qS (hE.ev x) hv
   rw[Option.map_some,h1]
  ·cases h
theorem HL {v:Option Value} {d:Option Nat} {t x:Nat} (hd:∀y,d=some y→y≤t) (h:eO v d t=some x):x≤t:=by
 unfold eO at h
 split at h
 ·exact hd _ h
 ·split at h
  ·cases h;omega
  ·cases h
 ·cases h
theorem M7 {v:Option Value} {d d':Option Nat} {t t' x:Nat} (ht:t≤t') (hd:v=none→d=d') (h:eO v d t=some x):eO v d' t'=some x:=by
 unfold eO at h ⊢
 cases v with
 | none=>rw[←hd rfl];exact h
 |
  some v =>
  cases v with
  |
   int k i =>
   simp only at h ⊢
   split at h
   ·rename_i h1;rw[if_pos (by omega)];exact h
   ·cases h
  | _=>simp only at h ⊢;exact h
theorem Np (hS:SR V lo eH) (size:Nat):gL lo eH V (some (.slice (some ⟨V.P.length,0,none⟩) 0 0,V.P++[.row [] size false])) (.tree [] (.cl size)) V.H:=by
 exact(gL.of (Cc hS (.row [] size false)) (.tree [] (.cl size) V.P.length 0 0 [] size false (.inr rfl) (by simp) (by simp) (by simp) (fun x hx=>by cases hx) ⟨rfl,rfl,rfl⟩ (by simp;exact .nil)) :)
theorem WG (hS:SR V lo eH) (hE:ER V ρ kH) {x v:VV} {u:Value} {size:Nat} {l h m:Option Operand} (hx:VR V x u) (hv:Ew size x (l.map (eE ρ)) (h.map (eE ρ)) (m.map (eE ρ)) V.H=some v) :
  gL lo eH V (CJ size u (l.map (ev kH)) (h.map (ev kH)) (m.map (ev kH)) V.P) v V.H:=by
 unfold Ew at hv
 split at hv
 case h_2=>cases hv
 rename_i lv hhv mv hl hh hm
 rw[Bv hE hl,Bv hE hh,Bv hE hm]
 split at hv
 ·rename_i y ys tk
  split at hv
  case isFalse=>cases hv
  rename_i CP
  split at hv
  ·cases hv
  rename_i m0 hm0
  split at hv
  ·cases hv
  rename_i h0 hh0
  split at hv
  ·cases hv
  rename_i l0 Ac
  cases hx with
  |
   tree es k b o c r e p hF hb ho hc he hk hl =>
   have MC:e=size:=by rw[←he y List.mem_cons_self];exact CP
   subst MC
   have hlen:(y::ys).length=ys.length+1:=rfl
   rw[hlen] at ho hc
   have b1:m0≤ys.length+1:=HL (fun z hz=>by injection hz with hz;omega) hm0
   have b2:h0≤m0:=by
    refine HL (fun z hz => ?_) hh0
    split at hz
    ·cases hz
    ·rename_i hmn
     injection hz with hz
     have:mv=none:=by cases mv<;>simp_all
     subst this
     simp[eO] at hm0
     omega
   have b3:l0≤h0:=HL (fun z hz=>by injection hz with hz;omega) Ac
   have e1:eO mv (some c) c=some (if mv.isSome then m0 else c):=by
    cases mv with
    | none=>rfl
    | some q=>exact M7 hc (fun hq=>by cases hq) hm0
   have e2:eO hhv (if mv.isSome then none else some (ys.length+1)) (if mv.isSome then m0 else c)=some h0:=by
    cases mv with
    |
     none =>
     simp only[Option.isSome_none,Bool.false_eq_true,if_false] at hh0 ⊢
     exact M7 (by omega) (fun _=>rfl) hh0
    | some q=>exact hh0
   unfold CJ
   simp only[hb,if_true]
   rw[e1]
   simp only
   rw[hlen,e2]
   simp only
   rw[Ac]
   simp only
   by_cases nO:mv.isSome=true∧m0=l0
   ·rw[if_pos nO] at hv
    cases hv
    rw[if_pos ⟨nO.1,by rw[if_pos nO.1];exact nO.2⟩]
    exact Np hS e
   ·rw[if_neg nO] at hv
    cases hv
    rw[if_neg (fun hh=>nO ⟨hh.1,by have:=hh.2;rw[if_pos hh.1] at this;exact this⟩)]
    have bB:(((y::ys).drop l0).take (h0-l0)).length=h0-l0:=by simp;omega
    have MW:l0*e+(h0-l0)*e=h0*e:=by rw[←Nat.add_mul];congr 1;omega
    have hm2:h0*e≤(ys.length+1)*e:=Nat.mul_le_mul_right _ (by omega)
    have Mw:h0-l0≤(if mv.isSome then m0 else c)-l0:=by split<;>omega
    have:=VR.tree (V:=V) (((y::ys).drop l0).take (h0-l0)) .op b (o+l0*e) ((if mv.isSome then m0 else c)-l0) r e p hF hb (by rw[bB];omega) (by rw[bB];exact Mw) (fun z hz=>he z (List.mem_of_mem_drop (List.mem_of_mem_take hz))) trivial (by
     rw[bB]
     have h1:=(hl.drop (l0*e)).take ((h0-l0)*e)
     rw[T1 _ (by rw[hlen];omega),tU he,tK (fun z hz=>he z (List.mem_of_mem_drop hz))] at h1
     exact h1)
    rw[bB] at this
    exact gL.same hS this
 ·rename_i b g o n c
  split at hv
  case h_2=>cases hv
  rename_i es e w hr
  rw[cG] at hr
  split at hv
  case isFalse=>cases hv
  rename_i CP
  subst CP
  split at hv
  ·cases hv
  rename_i m0 hm0
  split at hv
  ·cases hv
  rename_i h0 hh0
  split at hv
  ·cases hv
  rename_i l0 Ac
  cases hx with
  |
   ref b g o n c a n' c' bB hg ha hq =>
   obtain⟨rfl,rfl,rfl⟩:=ha _ _ _ hr
   obtain⟨r,p,h1,_⟩:=hS.row b g es e w hr
   unfold CJ
   simp only[h1,if_true]
   rw[hm0]
   simp only
   rw[hh0]
   simp only
   rw[Ac]
   simp only
   by_cases nO:mv.isSome=true∧m0=l0
   ·rw[if_pos nO] at hv
    cases hv
    rw[if_pos nO]
    exact Np hS e
   ·rw[if_neg nO] at hv
    cases hv
    rw[if_neg nO]
    refine gL.same hS (.ref b g (o+l0) _ _ _ _ _ bB hg (fun mU e' w' FR => ?_) fun a0 h=>by cases h;exact hq ⟨V.m b,o*e,none⟩ rfl)
    rw[hr] at FR
    cases FR
    exact⟨by rw[Nat.add_mul],rfl,rfl⟩
 ·cases hv
theorem AT {es:List VV} (h:(es.all fun x=>(aB x).all bI)=true):(es.flatMap aB).all bI=true:=by
 rw[List.all_eq_true] at h ⊢
 intro x hx
 obtain⟨y,hy,AL⟩:=List.mem_flatMap.1 hx
 exact List.all_eq_true.1 (h y hy) x AL
theorem wT (hS:SR V lo eH) {y:VV} {u:Value} {size:Nat} {new:List VV} (hy:VR V y u) (h:cU size y V.H=some new) :
  sE u=some new.length∧(∀x∈new,(aB x).length=size)∧(new.flatMap aB).all bI=true∧∀n,n≤new.length→∃pn,jD V.P size n u=some pn∧VL V ((new.take n).flatMap aB) pn:=by
 unfold cU at h
 split at h
 ·rename_i es tk
  split at h
  case isFalse=>cases h
  rename_i lM
  cases h
  have YG:∀x∈new,(aB x).length=size∧(aB x).all bI=true:=fun x hx=>by
   have:=List.all_eq_true.1 lM x hx
   simpa using this
  refine⟨?_,fun x hx=>(YG x hx).1,AT (List.all_eq_true.2 fun x hx=>(YG x hx).2),fun n hn => ?_⟩
  ·cases hy<;>rfl
  ·cases hy with
   |
    oI k hk =>
    have:n=0:=by simpa using hn
    subst this
    exact⟨[],rfl,by simp;exact .nil⟩
   |
    tree es k b o c r e p hF hb ho hc he hk hl =>
    cases MC:new with
    |
     nil =>
     rw[MC] at hn
     have:n=0:=by simpa using hn
     subst this
     refine⟨[],?_,by simp;exact .nil⟩
     simp only[jD,Nat.zero_mul]
     rw[A4 hb (by omega)]
     simp
    |
     cons x xs =>
     have PQ:e=size:=by rw[←he x (by rw[MC];exact List.mem_cons_self)];exact(YG x (by rw[MC];exact List.mem_cons_self)).1
     subst PQ
     have hm:n*e≤new.length*e:=Nat.mul_le_mul_right _ hn
     refine⟨_,by simp only[jD];exact A4 hb (by omega),?_⟩
     rw[←MC,←tK he]
     have h1:=hl.take (n*e)
     rw[List.take_take,Nat.min_eq_left hm] at h1
     exact h1
 ·rename_i b g o n c
  split at h
  case h_2=>cases h
  rename_i es e w hr
  rw[cG] at hr
  split at h
  case isFalse=>cases h
  rename_i hc
  obtain⟨rfl,hlen,lM⟩:=hc
  cases h
  obtain⟨r,p,h1,h2,h3⟩:=hS.row b g es e w hr
  have hn2:((es.drop o).take n).length=n:=by simp;omega
  have D1:=h3.length
  rw[kK h2] at D1
  cases hy with
  |
   ref b g o n c a n' c' bB hg ha hq =>
   obtain⟨rfl,rfl,rfl⟩:=ha _ _ _ hr
   have ZI:∀x∈(es.drop o).take n',(aB x).length=e:=fun x hx=>h2 x (List.mem_of_mem_drop (List.mem_of_mem_take hx))
   refine⟨by rw[hn2];rfl,ZI,AT lM,fun k hk => ?_⟩
   rw[hn2] at hk
   have hm:(o+k)*e≤es.length*e:=Nat.mul_le_mul_right _ (by omega)
   rw[Nat.add_mul] at hm
   refine⟨_,by simp only[jD];exact A4 h1 (by omega),?_⟩
   rw[List.take_take,Nat.min_eq_left hk]
   have h4:=(h3.drop (o*e)).take (k*e)
   rw[tU h2,tK (fun x hx=>h2 x (List.mem_of_mem_drop hx))] at h4
   exact h4
 ·rename_i s
  split at h
  case isFalse=>cases h
  rename_i hs
  subst hs
  cases h
  obtain⟨rfl,_⟩:=qS hy rfl
  have hlen:(s.data.toList.map fun b=>VV.sc (.int .u8 (b.toNat:Int))).length=s.size:=by simp
  refine⟨by rw[hlen];rfl,fun x hx => ?_,?_,fun n hn => ?_⟩
  ·obtain⟨b,_,rfl⟩:=List.mem_map.1 hx
   rfl
  ·refine AT (List.all_eq_true.2 fun x hx => ?_)
   obtain⟨b,_,rfl⟩:=List.mem_map.1 hx
   rfl
  ·refine⟨(s.data.toList.take n).map fun b=>Value.int .u8 (b.toNat:Int),by simp only[jD,if_true],?_⟩
   rw[←List.map_take,List.flatMap_map]
   have:((s.data.toList.take n).flatMap fun a=>aB (VV.sc (.int .u8 (a.toNat:Int))))=(s.data.toList.take n).map fun a=>VV.sc (.int .u8 (a.toNat:Int)):=by
    generalize s.data.toList.take n=l
    induction l with
    | nil=>rfl
    | cons a l ih=>rw[List.flatMap_cons,ih];rfl
   rw[this]
   exact VL.map fun b _ => .sc _ rfl
 ·cases h
end
end Go.PM
namespace Go.PM
section
variable {V:View} {lo eH:Nat} {ρ:dG} {kH:Env}
theorem J2 (hS:SR V lo eH) {es:List VV} {r:List Value} {e n c:Nat} {p:Bool}:VR { V with m:=XX V.m V.H.length V.P.length,H:=V.H++[.row 0 es e true],P:=V.P++[.row r e p] } (.ref V.H.length 0 0 n c) (.slice (some ⟨V.P.length,0,none⟩) n c):=by
 refine .ref _ _ _ _ _ _ _ _ (by simp) (fun g' es e w _=>Nat.zero_le _) (fun mU e' w' h=>⟨?_,rfl,rfl⟩) fun a0 ha => ?_
 ·simp only[lT,Nat.zero_mul]
 ·cases ha
  refine⟨hS.J8,by simp,fun b' g' mU e' w' hb fH hm => ?_⟩
  have pZ:(V.H++[cA.row 0 es e true])[b']? = some (.row g' mU e' w'):=hb
  have bB:b'<V.H.length:=by
   have:=(List.getElem?_eq_some_iff.1 pZ).1
   simp at this
   omega
  rw[List.getElem?_append_left bB] at pZ
  have h2:=hS.mlt pZ
  simp only[mQ (show b'≠V.H.length by omega)] at hm
  omega
theorem UT (hS:SR V lo eH) {es:List VV} {r:List Value} {e:Nat} {p:Bool}:VR { V with m:=XX V.m V.H.length V.P.length,H:=V.H++[.row 0 es e true],P:=V.P++[.row r e p] } (.ptr V.H.length 0 0 0) (.pointer (some ⟨V.P.length,0,none⟩)):=by
 refine .ptr _ _ _ _ _ (by simp) (fun g' es e w _=>Nat.zero_le _) (fun mU e' w' h => ?_) fun a0 ha => ?_
 ·simp only[lT,Nat.zero_mul]
 ·cases ha
  refine⟨hS.J8,by simp,fun b' g' mU e' w' hb fH hm => ?_⟩
  have pZ:(V.H++[cA.row 0 es e true])[b']? = some (.row g' mU e' w'):=hb
  have bB:b'<V.H.length:=by
   have:=(List.getElem?_eq_some_iff.1 pZ).1
   simp at this
   omega
  rw[List.getElem?_append_left bB] at pZ
  have h2:=hS.mlt pZ
  simp only[mQ (show b'≠V.H.length by omega)] at hm
  omega
theorem Gz (hS:SR V lo eH) {x v:VV} {u:Value} {size bytes:Nat} {nw:List VV} {pn:List Value} {H':aA} (hx:VR V x u) (hn:∀x∈nw,(aB x).length=size) (vJ:(nw.flatMap aB).all bI=true) (hl:VL V (nw.flatMap aB) pn) (h:eR lo size bytes x nw V.H=some (v,H')) :
  gL lo eH V (eK eH size bytes u nw.length pn V.P) v H':=by
 unfold eR at h
 split at h
 case isFalse=>cases h
 rename_i hbs
 have Mv:pn.length=nw.length*size:=by rw[hl.length,kK hn]
 unfold eK
 rw[if_pos ⟨hbs.1,hbs.2,hl.fQ vJ,Mv⟩]
 split at h
 ·cases hx with
  | tree es k b o c r e p hF hb ho hc he hk hl=>exact hk.elim
  |
   oI =>
   simp only[and_self,if_true]
   split at h
   ·rename_i h0
    cases h
    rw[if_pos h0]
    exact gL.same hS (.oI _ (.inr rfl))
   ·rename_i h0
    split at h
    case isFalse=>cases h
    rename_i h1
    cases h
    rw[if_neg h0,if_pos h1]
    exact(gL.of (rK hS (es:=nw) (r:=pn) (e:=size) true hn hl) (J2 hS) :)
 ·rename_i es e
  split at h
  case isFalse=>cases h
  rename_i MC
  subst MC
  cases hx with
  | oI k hk=>rcases hk with hk | hk<;>cases hk
  |
   tree es k b o c r e' p hF hb ho hc he hk BJ =>
   obtain⟨h1,h2,h3⟩:=hk
   subst h1 h2 h3
   simp only[hb]
   rw[if_pos ⟨trivial,ho⟩]
   split at h
   ·rename_i h0
    cases h
    rw[if_pos (by omega),if_pos h0]
    exact gL.same hS (.tree es _ b o _ r e false hF hb ho hc he ⟨rfl,rfl,rfl⟩ BJ)
   ·rename_i h0
    split at h
    case isFalse=>cases h
    rename_i CP
    cases h
    rw[if_neg (by omega),if_pos CP]
    simp only[Bool.false_eq_true,if_false]
    have lM:∀x∈es++nw,(aB x).length=e:=fun x hx=>by
     rcases List.mem_append.1 hx with h | h
     ·exact he x h
     ·exact hn x h
    exact(gL.of (rK hS (es:=es++nw) (r:=(r.drop o).take (es.length*e)++pn) (e:=e) true lM (by rw[List.flatMap_append];exact BJ.append hl)) (J2 hS) :)
 ·rename_i b g o n c
  split at h
  case h_2=>cases h
  rename_i es e hr
  rw[cG] at hr
  split at h
  case isFalse=>cases h
  rename_i hc
  obtain⟨rfl,eW,hon⟩:=hc
  obtain⟨r,p,h1,h2,h3⟩:=hS.row b g es e true hr
  have D1:=h3.length
  rw[kK h2] at D1
  have EF:=(hS.wr b g es e hr).2 eW
  cases hx with
  |
   ref b g o n c a n' c' bB hg ha hq =>
   obtain⟨rfl,rfl,rfl⟩:=ha _ _ _ hr
   have hm:(o+n')*e≤es.length*e:=Nat.mul_le_mul_right _ hon
   rw[Nat.add_mul] at hm
   simp only[h1]
   rw[if_pos ⟨trivial,by omega⟩]
   split at h
   ·rename_i X4
    rw[if_pos X4]
    split at h
    ·rename_i h0
     cases h
     rw[if_pos h0]
     exact gL.same hS (.ref _ _ _ _ _ _ _ _ bB hg ha hq)
    ·rename_i h0
     split at h
     case isFalse=>cases h
     rename_i qR
     cases h
     rw[if_neg h0]
     have hm2:(o+n'+nw.length)*e≤es.length*e:=Nat.mul_le_mul_right _ qR
     rw[Nat.add_mul,Nat.add_mul] at hm2
     have lM:∀x∈cT es (o+n') nw,(aB x).length=e:=fun x hx=>by
      rcases Jj hx with h | h
      ·exact h2 x h
      ·exact hn x h
     have EX:VL V ((cT es (o+n') nw).flatMap aB) (iU r (o*e+n'*e) pn):=by
      rw[←wP h2 hn,Nat.add_mul]
      exact h3.iU hl _
     obtain⟨g1,g2⟩:=Dp hS hr eW lM EX h1
     refine⟨.slice (some ⟨V.m b,o*e,none⟩) (n'+nw.length) c',{ V with H:=V.H.set b (.row g (cT es (o+n') nw) e true),P:=V.P.set (V.m b) (.row (iU r (o*e+n'*e) pn) e p) },?_,rfl,g1,g2,?_⟩
     ·unfold aE.write
      simp only[h1]
      rw[if_pos ⟨EF,by omega,hl.fQ vJ⟩]
      rfl
     ·refine .ref _ _ _ _ _ _ _ _ (by simpa using bB) (fun g' mU e' w' FR => ?_) (fun mU e' w' FR => ?_) fun a0 h=>by cases h;exact g2.toUp.hq (hq _ rfl)
      ·rcases fX bB FR with⟨_,h⟩ | ⟨h,_⟩
       ·cases h;exact Nat.le_refl _
       ·exact absurd rfl h
      ·rcases fX bB FR with⟨_,h⟩ | ⟨h,_⟩
       ·cases h;exact⟨rfl,rfl,rfl⟩
       ·exact absurd rfl h
   ·rename_i X4
    split at h
    case isFalse=>cases h
    rename_i CP
    cases h
    rw[if_neg X4,if_pos CP]
    have lM:∀x∈(es.drop o).take n'++nw,(aB x).length=e:=fun x hx=>by
     rcases List.mem_append.1 hx with h | h
     ·exact h2 x (List.mem_of_mem_drop (List.mem_of_mem_take h))
     ·exact hn x h
    have EX:VL V (((es.drop o).take n'++nw).flatMap aB) ((r.drop (o*e)).take (n'*e)++pn):=by
     rw[List.flatMap_append]
     refine VL.append ?_ hl
     have h4:=(h3.drop (o*e)).take (n'*e)
     rw[tU h2,tK (fun x hx=>h2 x (List.mem_of_mem_drop hx))] at h4
     exact h4
    have fin:∀P1:aE,P1.length=V.P.length→(∀q,q≠V.m b→P1[q]? = V.P[q]?) →
      gL lo eH V (some (.slice (some ⟨V.P.length,0,none⟩) (n'+nw.length) (n'+nw.length),P1++[.row ((r.drop (o*e)).take (n'*e)++pn) e true])) (.ref b (g+1) 0 (n'+nw.length) (n'+nw.length)) (V.H.set b (.row (g+1) ((es.drop o).take n'++nw) e true)):=by
     intro P1 hP hk
     refine(gL.of (Ty hS hr eW lM EX hP hk true) ?_ :)
     refine .ref _ _ _ _ _ _ _ _ (by simpa using bB) (fun g' mU e' w' FR => ?_) (fun mU e' w' FR => ?_) fun a0 h => ?_
     ·rcases fX bB FR with⟨_,h⟩ | ⟨h,_⟩
      ·cases h;exact Nat.le_refl _
      ·exact absurd rfl h
     ·rcases fX bB FR with⟨_,h⟩ | ⟨h,_⟩
      ·cases h;exact⟨by simp only[lT,Nat.zero_mul],rfl,rfl⟩
      ·exact absurd rfl h
     ·cases h
      refine⟨hS.J8,by simp[hP],fun b' g' mU e' w' hb fH hm => ?_⟩
      rcases fX bB hb with⟨h,_⟩ | ⟨_,h⟩
      ·exact fH h
      ·simp only[mQ fH] at hm
       have:=hS.mlt h
       omega
    cases p with
    |
     true =>
     simp only[if_true,EF]
     exact fin (V.P.set (V.m b) .dead) (by simp) fun q hq=>List.getElem?_set_ne (Ne.symm hq)
    |
     false =>
     simp only[Bool.false_eq_true,if_false]
     exact fin V.P rfl fun _ _=>rfl
 ·cases h
theorem Rj (hS:SR V lo eH) {p v:VV} {u w:Value} {size:Nat} {H':aA} (hp:VR V p u) (hv:VR V v w) (h:bY lo size p v V.H=some H'):gL lo eH V (Fs eH size u w V.P) pR H':=by
 unfold bY at h
 split at h
 case h_2=>cases h
 rename_i b g j o
 split at h
 case h_2=>cases h
 rename_i es e hr
 rw[cG] at hr
 split at h
 case h_2=>cases h
 rename_i x hx
 split at h
 case isFalse=>cases h
 rename_i hc
 obtain⟨CP,eW,vJ⟩:=hc
 obtain⟨r,q,h1,h2,h3⟩:=hS.row b g es e true hr
 have D1:=h3.length
 rw[kK h2] at D1
 have EF:=(hS.wr b g es e hr).2 eW
 have hj:=(List.getElem?_eq_some_iff.1 hx).1
 have hxe:=h2 x (List.mem_of_getElem? hx)
 have hm:(j+1)*e≤es.length*e:=Nat.mul_le_mul_right _ hj
 rw[Nat.succ_mul] at hm
 have nO:=hv.cells (Ts vJ)
 have hwl:(aL w).length=size:=by rw[nO.length,CP]
 cases hp with
 |
  ptr b g j off a bB hg ha hq =>
  have:=ha _ _ _ hr
  subst this
  have fin:∀y:VV,(aB y).length=e→o+size≤e→aB y=cT (aB x) o (aB v)→H'=V.H.set b (.row g (es.set j y) e true)→gL lo eH V (Fs eH size (.pointer (some ⟨V.m b,j*e+o,none⟩)) w V.P) pR H':=by
   intro y hy ho hye hH
   subst hH
   have lM:∀z∈es.set j y,(aB z).length=e:=fun z hz=>by
    rcases List.mem_or_eq_of_mem_set hz with h | h
    ·exact h2 z h
    ·subst h;exact hy
   have EX:VL V ((es.set j y).flatMap aB) (iU r (j*e+o) (aL w)):=by
    have e1:(es.set j y).flatMap aB=cT (es.flatMap aB) (j*e+o) (aB v):=by
     rw[←IG hj,←wP h2 (new:=[y]) (fun z hz=>by rw[List.mem_singleton] at hz;subst hz;exact hy)]
     simp only[List.flatMap_cons,List.flatMap_nil,List.append_nil]
     rw[hye]
     have hx2:=Kh h2 hx
     unfold cT
     have t1:(es.flatMap aB).take (j*e+o)=(es.flatMap aB).take (j*e)++(aB x).take o:=by
      rw[List.take_add,←hx2,List.take_take,Nat.min_eq_left (by omega)]
     have t2:(es.flatMap aB).drop (j*e+o+(aB v).length)=(aB x).drop (o+(aB v).length)++(es.flatMap aB).drop (j*e+e):=by
      have t0:(es.flatMap aB).drop (j*e+e)=((es.flatMap aB).drop (j*e+(o+(aB v).length))).drop (e-(o+(aB v).length)):=by
       rw[List.drop_drop]
       congr 1
       omega
      rw[←hx2,List.drop_take,List.drop_drop,t0,List.take_append_drop,Nat.add_assoc]
     rw[t1,t2]
     have t3:(List.take o (aB x)++aB v++List.drop (o+(aB v).length) (aB x)).length=e:=by
      simp;omega
     rw[t3]
     simp only[List.append_assoc]
    rw[e1]
    exact h3.iU nO _
   obtain⟨g1,g2⟩:=Dp hS hr eW lM EX h1
   refine⟨undef,{ V with H:=V.H.set b (.row g (es.set j y) e true),P:=V.P.set (V.m b) (.row (iU r (j*e+o) (aL w)) e q) },?_,rfl,g1,g2,.dS [] [] .nil⟩
   unfold Fs
   simp only[hwl,if_true]
   unfold aE.write
   simp only[h1]
   rw[if_pos ⟨EF,by omega,nO.fQ vJ⟩]
   rfl
  split at h
  ·rename_i ho
   obtain⟨rfl,rfl⟩:=ho
   cases h
   refine fin v CP (by omega) ?_ rfl
   unfold cT
   rw[Nat.zero_add,List.take_zero,List.nil_append,List.drop_of_length_le (by omega),List.append_nil]
  ·split at h
   case isFalse=>cases h
   rename_i ho
   cases h
   have RX:(cT (aB x) o (aB v)).length=e:=by rw[P0 (by omega)];exact hxe
   exact fin (.agg (cT (aB x) o (aB v))) RX (by omega) rfl rfl
theorem DI {z:List Value} (hz:(z.map jI).all bI=true):(aB (elemOf (z.map jI))).length=z.length:=by
 rw[nL hz,List.length_map]
theorem B0 {z:List Value} (hz:(z.map jI).all bI=true):∀n,VL V ((List.replicate n (elemOf (z.map jI))).flatMap aB) (cV n z):=by
 intro n
 have vJ:z.all fQ=true:=(VL.zero (V:=V) z).fQ hz
 have abK:cV n z=(List.replicate n ()).flatMap fun _=>z:=by
  rcases Nat.eq_zero_or_pos z.length with h0 | jT
  ·have:z=[]:=List.length_eq_zero_iff.1 h0
   subst this
   simp[cV]
  ·exact Q4 (enc:=fun(_:Unit)=>z) (fO:=z.length) (x:=()) ⟨fun _=>rfl,fun _=>vJ,jT⟩
 rw[abK]
 clear abK
 induction n with
 | zero=>exact .nil
 |
  succ n ih =>
  rw[List.replicate_succ,List.replicate_succ,List.flatMap_cons,List.flatMap_cons,nL hz]
  exact(VL.zero z).append ih
theorem Ud (hS:SR V lo eH) {z:List Value} {bytes:Nat} {l c v:VV} {u w:Value} {H':aA} (hz:(z.map jI).all bI=true) (hl:VR V l u) (hc:VR V c w) (h:AY z bytes l c V.H=some (v,H')):gL lo eH V (Vu z bytes u w V.P) v H':=by
 unfold AY at h
 split at h
 case h_2=>cases h
 obtain⟨rfl,_⟩:=qS hl rfl
 obtain⟨rfl,_⟩:=qS hc rfl
 split at h
 case isFalse=>cases h
 rename_i Qu
 cases h
 unfold Vu
 simp only[if_pos Qu]
 exact(gL.of (rK hS (e:=z.length) false (fun x hx=>by rw[List.eq_of_mem_replicate hx];exact DI hz) (B0 hz _)) (J2 hS) :)
theorem Wz (hS:SR V lo eH) {z:List Value} (hz:(z.map jI).all bI=true):gL lo eH V (some (.pointer (some ⟨V.P.length,0,none⟩),V.P++[.row z z.length false])) (.ptr V.H.length 0 0 0) (V.H++[.row 0 [elemOf (z.map jI)] z.length true]):=by
 exact(gL.of (rK hS (es:=[elemOf (z.map jI)]) (r:=z) (e:=z.length) false (fun x hx=>by rw[List.mem_singleton] at hx;subst hx;exact DI hz) (by simp only[List.flatMap_cons,List.flatMap_nil,List.append_nil,nL hz];exact VL.zero z)) (UT hS) :)
theorem WR (hS:SR V lo eH) {x v:VV} {u:Value} {H':aA} {bf:Bool} (hx:VR V x u) (hs:(aB x).all bI=true) (h:(if bf=true then some (VV.cZ x 0,V.H) else some (VV.ptr V.H.length 0 0 0,V.H++[cA.row 0 [x] (aB x).length true]))=some (v,H')) :
  gL lo eH V (if (aL u).all fQ then some (.pointer (some ⟨V.P.length,0,none⟩),V.P++[.row (aL u) (aL u).length false]) else none) v H':=by
 have hc:=hx.cells (Ts hs)
 rw[if_pos (hc.fQ hs)]
 split at h
 ·cases h
  have g:=Cc hS (.row (aL u) (aL u).length false)
  refine(gL.of g ?_ :)
  have hm:=hc.mono g.2.toUp
  refine .cZ x 0 V.P.length 0 (aL u) (aL u).length false (.inr rfl) (by simp) (by rw[hc.length];omega) ?_
  rw[List.drop_zero,List.take_of_length_le (by rw[hc.length];exact Nat.le_refl _)]
  exact hm
 ·cases h
  rw[hc.length]
  exact(gL.of (rK hS (es:=[x]) (r:=aL u) (e:=(aB x).length) false (fun y hy=>by rw[List.mem_singleton] at hy;subst hy;rfl) (by simpa using hc)) (UT hS) :)
theorem take_set {α:Type} {l:List α} {i:Nat} {x:α} (h:i<l.length):l.set i x=l.take i++x::l.drop (i+1):=by
 rw[List.set_eq_take_append_cons_drop,if_pos h]
inductive Tk (V:View):List (Nat×VV)→List (Nat×Value)→Prop
 | nil:Tk V [] []
 | cons {i:Nat} {x:VV} {v:Value} {xs:List (Nat×VV)} {vs:List (Nat×Value)} (h:VR V x v) (hs:Tk V xs vs):Tk V ((i,x)::xs) ((i,v)::vs)
theorem E3 {e n:Nat}:∀ {parts:List (Nat×VV)} {AF:List (Nat×Value)} {es mU:List VV} {r:List Value},es.length=n→(∀x∈es,(aB x).length=e)→VL V (es.flatMap aB) r →
  Tk V parts AF→wR e es parts=some mU→mU.length=n∧(∀x∈mU,(aB x).length=e)∧∃r',wB ((List.range n).map fun i=>(i*e,e)) r AF=some r'∧VL V (mU.flatMap aB) r'
 |
  [],_,es,mU,r,hn,he,hl,.nil,h=>by
  cases h
  exact⟨hn,he,r,rfl,hl⟩
 |
  (i,v)::parts,(_,w)::AF,es,mU,r,hn,he,hl,.cons hv hps,h=>by
  unfold wR at h
  split at h
  case isFalse=>cases h
  rename_i hc
  obtain⟨hi,hve,vJ⟩:=hc
  have nO:=hv.cells (Ts vJ)
  have hwl:(aL w).length=e:=by rw[nO.length,hve]
  have D1:=hl.length
  rw[kK he] at D1
  have hm:(i+1)*e≤es.length*e:=Nat.mul_le_mul_right _ hi
  rw[Nat.succ_mul] at hm
  have lM:∀x∈es.set i v,(aB x).length=e:=fun x hx=>by
   rcases List.mem_or_eq_of_mem_set hx with h | h
   ·exact he x h
   ·subst h;exact hve
  have EX:VL V ((es.set i v).flatMap aB) (r.take (i*e)++aL w++r.drop (i*e+e)):=by
   have h1:=hl.iU nO (i*e)
   have h2:=wP he (new:=[v]) (fun z hz=>by rw[List.mem_singleton] at hz;subst hz;exact hve) i
   simp only[List.flatMap_cons,List.flatMap_nil,List.append_nil] at h2
   rw[h2,IG hi] at h1
   unfold iU at h1
   rw[hwl] at h1
   exact h1
  obtain⟨g1,g2,r',g3,g4⟩:=E3 (n:=n) (by rw[List.length_set];exact hn) lM EX hps h
  refine⟨g1,g2,r',?_,g4⟩
  unfold wB
  have hr:((List.range n).map fun i=>(i*e,e))[i]? = some (i*e,e):=by simp[List.getElem?_range (show i<n by omega)]
  simp only[hr]
  rw[if_pos ⟨hwl,by omega⟩]
  exact g3
theorem Hx (hE:ER V ρ kH):∀parts:List (Nat×Operand),Tk V (parts.map fun(i,x)=>(i,eE ρ x)) (parts.map fun(i,x)=>(i,ev kH x))
 | [] => .nil
 | (i,x)::parts => .cons (hE.ev x) (Hx hE parts)
theorem Gu {e:Nat}:∀ {parts:List (Nat×VV)} {es mU:List VV},(es.all fun x=>(aB x).all bI)=true→wR e es parts=some mU→(mU.all fun x=>(aB x).all bI)=true
 | [],es,mU,h,hf=>by cases hf;exact h
 |
  (i,v)::parts,es,mU,h,hf=>by
  unfold wR at hf
  split at hf
  case isFalse=>cases hf
  rename_i hc
  refine Gu ?_ hf
  rw[List.all_eq_true] at h ⊢
  intro x hx
  rcases List.mem_or_eq_of_mem_set hx with h1 | h1
  ·exact h x h1
  ·subst h1;exact hc.2.2
theorem Wk (hS:SR V lo eH) {lr:Bool} {z:List Value} {n:Nat} {parts:List (Nat×VV)} {AF:List (Nat×Value)} {v:VV} {H':aA} (hp:Tk V parts AF) (h:mB lr z n parts V.H=some (v,H')):gL lo eH V (adZ z n AF V.P) v H':=by
 unfold mB at h
 split at h
 case h_2=>cases h
 rename_i es MC
 split at h
 case isFalse=>cases h
 rename_i hz
 obtain⟨g1,g2,r',g3,g4⟩:=E3 (V:=V) (n:=n) (by simp) (fun x hx=>by rw[List.eq_of_mem_replicate hx];exact DI hz) (B0 hz n) hp MC
 have vJ:=Gu (by
  rw[List.all_eq_true]
  intro x hx
  rw[List.eq_of_mem_replicate hx,nL hz]
  exact hz) MC
 unfold adZ
 simp only[g3]
 rw[if_pos (g4.fQ (AT vJ))]
 split at h
 ·cases h
  exact(gL.of (rK hS (e:=z.length) false g2 g4) (J2 hS) :)
 ·cases h
  have k:=Cc hS (.row r' z.length false)
  refine(gL.of k ?_ :)
  have hm:=g4.mono k.2.toUp
  have D1:=g4.length
  rw[kK g2] at D1
  subst g1
  refine .tree es _ V.P.length 0 es.length r' z.length false (.inr rfl) (by simp) (by omega) (Nat.le_refl _) g2 ⟨rfl,rfl,rfl⟩ ?_
  rw[List.drop_zero,List.take_of_length_le (by omega)]
  exact hm
theorem NH (hS:SR V lo eH) {b g e o:Nat} {es nw:List VV} {pn:List Value} (hr:V.H[b]? = some (.row g es e true)) (eW:lo≤b) (qR:o+nw.length≤es.length) (hn:∀x∈nw,(aB x).length=e) (vJ:(nw.flatMap aB).all bI=true) (hl:VL V (nw.flatMap aB) pn) :
  ∃V',V.P.write eH (V.m b) (o*e) pn=some V'.P∧V'.H=V.H.set b (.row g (cT es o nw) e true)∧SR V' lo eH∧E1 lo V V':=by
 obtain⟨r,q,h1,h2,h3⟩:=hS.row b g es e true hr
 have D1:=h3.length
 rw[kK h2] at D1
 have EF:=(hS.wr b g es e hr).2 eW
 have Mv:=hl.length
 rw[kK hn] at Mv
 have hm:(o+nw.length)*e≤es.length*e:=Nat.mul_le_mul_right _ qR
 rw[Nat.add_mul] at hm
 have lM:∀x∈cT es o nw,(aB x).length=e:=fun x hx=>by
  rcases Jj hx with h | h
  ·exact h2 x h
  ·exact hn x h
 have EX:VL V ((cT es o nw).flatMap aB) (iU r (o*e) pn):=by
  rw[←wP h2 hn]
  exact h3.iU hl _
 obtain⟨g1,g2⟩:=Dp hS hr eW lM EX h1
 refine⟨{ V with H:=V.H.set b (.row g (cT es o nw) e true),P:=V.P.set (V.m b) (.row (iU r (o*e) pn) e q) },?_,rfl,g1,g2⟩
 unfold aE.write
 simp only[h1]
 rw[if_pos ⟨EF,by omega,hl.fQ vJ⟩]
theorem T9 (hS:SR V lo eH) {x y v:VV} {u w:Value} {size:Nat} {H':aA} (hx:VR V x u) (hy:VR V y w) (h:I0 lo size x y V.H=some (v,H')):gL lo eH V (copyV eH size u w V.P) v H':=by
 unfold I0 at h
 split at h
 ·rename_i new hs
  obtain⟨h1,_⟩:=wT hS hy hs
  cases h
  cases hx with
  | tree es k b o c r e p hF hb ho hc he hk hl=>exact hk.elim
  |
   oI =>
   unfold copyV
   simp only[h1]
   exact gL.same hS (.sc _ rfl)
 ·rename_i b g o d c new hs
  obtain⟨h1,h2,h3,h4⟩:=wT hS hy hs
  split at h
  case h_2=>cases h
  rename_i es e hr
  rw[cG] at hr
  split at h
  case isFalse=>cases h
  rename_i hc
  obtain⟨rfl,eW,qR⟩:=hc
  cases h
  cases hx with
  |
   ref b g o n c a n' c' bB hg ha hq =>
   obtain⟨rfl,rfl,rfl⟩:=ha _ _ _ hr
   have adR:(new.take n').length=Nat.min new.length n':=by rw[List.length_take];exact Nat.min_comm _ _
   obtain⟨pn,h5,h6⟩:=h4 (Nat.min new.length n') (Nat.min_le_left _ _)
   have ht:new.take (Nat.min new.length n')=new.take n':=by
    rw[←adR,List.length_take,←List.take_take,List.take_length]
   rw[ht] at h6
   have K8:∀x∈new.take n',(aB x).length=e:=fun x hx=>h2 x (List.mem_of_mem_take hx)
   have vJ:((new.take n').flatMap aB).all bI=true:=by
    rw[List.all_eq_true] at h3 ⊢
    intro x hx
    obtain⟨y,hy,AL⟩:=List.mem_flatMap.1 hx
    exact h3 x (List.mem_flatMap.2 ⟨y,List.mem_of_mem_take hy,AL⟩)
   obtain⟨V',k1,k2,k3,k4⟩:=NH hS hr eW qR K8 vJ h6
   refine⟨.int .i64 (Nat.min new.length n'),V',?_,k2,k3,k4,?_⟩
   ·unfold copyV
    simp only[h1,h5,k1]
    rfl
   ·rw[adR]
    exact .sc _ rfl
 ·cases h
theorem RU (hS:SR V lo eH) {x:VV} {u:Value} {z:List Value} {H':aA} (hx:VR V x u) (h:O0 lo z x V.H=some H'):gL lo eH V (PN eH z u V.P) pR H':=by
 unfold O0 at h
 split at h
 case h_2=>cases h
 rename_i b g o n c
 split at h
 case h_2=>cases h
 rename_i es e hr
 rw[cG] at hr
 cases hx with
 |
  ref b g o n c a n' c' bB hg ha hq =>
  obtain⟨rfl,rfl,rfl⟩:=ha _ _ _ hr
  unfold PN
  simp only
  split at h
  ·rename_i h0
   cases h
   rw[if_pos h0]
   exact gL.same hS (.dS [] [] .nil)
  ·rename_i h0
   rw[if_neg h0]
   split at h
   case isFalse=>cases h
   rename_i hc
   obtain⟨rfl,eW,qR,hz⟩:=hc
   cases h
   have K8:∀x∈List.replicate n' (elemOf (z.map jI)),(aB x).length=z.length:=fun x hx=>by rw[List.eq_of_mem_replicate hx];exact DI hz
   obtain⟨V',k1,k2,k3,k4⟩:=NH hS hr eW (nw:=List.replicate n' (elemOf (z.map jI))) (by simpa using qR) K8 (AT (by
    rw[List.all_eq_true]
    intro x hx
    rw[List.eq_of_mem_replicate hx,nL hz]
    exact hz)) (B0 hz n')
   refine⟨undef,V',?_,k2,k3,k4,.dS [] [] .nil⟩
   rw[k1]
   rfl
end
end Go.PM
namespace Go.PM
section
variable {V:View} {lo eH:Nat} {ρ:dG} {kH:Env}
theorem Sa {x v:VV} {u:Value} {neg:Bool} (hx:VR V x u) (h:FJ neg x V.H=some v):∃w,Yt neg u=some w∧VR V v w:=by
 unfold FJ at h
 split at h
 ·cases h
  cases hx with
  | tree es k b o c r e p hF hb ho hc he hk hl=>exact hk.elim
  | oI=>exact⟨_,rfl,.sc _ rfl⟩
 ·cases h
  cases hx with
  | oI k hk=>rcases hk with hk | hk<;>cases hk
  | tree=>exact⟨_,rfl,.sc _ rfl⟩
 ·cases h
  cases hx with
  | tree=>exact⟨_,rfl,.sc _ rfl⟩
 ·obtain⟨⟨es,e,w⟩,hr,rfl⟩:=cH h
  rw[cG] at hr
  cases hx with
  |
   ref b g o n c a n' c' bB hg ha hq =>
   obtain⟨rfl,rfl,rfl⟩:=ha _ _ _ hr
   exact⟨_,rfl,.sc _ rfl⟩
 ·cases h
theorem W9 {x v:VV} {u:Value} (hx:VR V x u) (h:pT x V.H=some v):∃w,aiL u=some w∧VR V v w:=by
 unfold pT at h
 split at h
 ·cases h
  cases hx<;>exact⟨_,rfl,.sc _ rfl⟩
 ·obtain⟨⟨es,e,w⟩,hr,rfl⟩:=cH h
  rw[cG] at hr
  cases hx with
  |
   ref b g o n c a n' c' bB hg ha hq =>
   obtain⟨rfl,rfl,rfl⟩:=ha _ _ _ hr
   exact⟨_,rfl,.sc _ rfl⟩
 ·cases h
theorem QV {x v:VV} {u:Value} {off:Nat} (hx:VR V x u) (h:Hn off x V.H=some v):∃w,abM off u=some w∧VR V v w:=by
 unfold Hn at h
 split at h
 ·cases h
  cases hx with
  | cZ x off b o r e p hF hb ho hl=>exact⟨_,rfl,by rw[Nat.add_assoc];exact .cZ _ _ b o r e p hF hb ho hl⟩
 ·obtain⟨⟨es,e,w⟩,hr,rfl⟩:=cH h
  rw[cG] at hr
  cases hx with
  |
   ptr b g j off a bB hg ha hq =>
   have:=ha _ _ _ hr
   subst this
   refine⟨_,rfl,.ptr _ _ _ _ _ bB hg (fun mU e' w' FR => ?_) fun a0 h=>by cases h;have:=hq _ rfl;exact this⟩
   rw[hr] at FR
   cases FR
   rw[Nat.add_assoc]
 ·cases h
theorem Xo {x v:VV} {u:Value} (hx:VR V x u) (h:Wx x V.H=some v):∃w,apD u=some w∧VR V v w:=by
 unfold Wx at h
 split at h
 ·cases h
  cases hx with
  | cZ x off b o r e p hF hb ho hl=>exact⟨_,rfl,.cZ _ _ b o r e p hF hb ho hl⟩
 ·obtain⟨⟨es,e,w⟩,hr,rfl⟩:=cH h
  rw[cG] at hr
  cases hx with
  |
   ptr b g j off a bB hg ha hq =>
   have:=ha _ _ _ hr
   subst this
   exact⟨_,rfl,.ptr _ _ _ _ _ bB hg ha hq⟩
 ·cases h
theorem To {c a b v:VV} {u x y:Value} (hc:VR V c u) (ha:VR V a x) (hb:VR V b y) (h:Qv c a b=some v):∃t,u = .bool t∧VR V v (if t then x else y):=by
 unfold Qv at h
 split at h
 ·rename_i t
  cases h
  obtain⟨rfl,_⟩:=qS hc rfl
  refine⟨t,rfl,?_⟩
  cases t
  ·exact hb
  ·exact ha
 ·cases h
theorem Xb {x v:VV} {u:Value} {i:Nat} (hx:VR V x u) (h:YR i x=some v):∃w,ajP i u=some w∧VR V v w:=by
 unfold YR at h
 split at h
 ·cases hx with
  |
   dS cs ps hl =>
   obtain⟨w,hw,hv⟩:=hl.get h
   exact⟨w,by simpa[ajP] using hw,hv⟩
 ·cases h
theorem XK {x v:VV} {u:Value} {agg:Bool} {off size:Nat} (hx:VR V x u) (h:adA agg off size x=some v):∃w,adM agg off size u=some w∧VR V v w:=by
 unfold adA at h
 split at h
 ·rename_i cs
  cases hx with
  |
   agg cs ps hl =>
   split at h
   ·rename_i ha
    split at h
    ·rename_i hs
     cases h
     refine⟨.agg ((ps.drop off).take size).toArray,?_,.agg _ _ ((hl.drop off).take size)⟩
     unfold adM
     simp only[ha,if_true]
     rw[if_pos (by simpa[hl.length] using hs)]
     congr 2
     apply Array.ext'
     simp[List.extract_eq_take_drop]
    ·cases h
   ·rename_i ha
    obtain⟨w,hw,hv⟩:=hl.get h
    refine⟨w,?_,hv⟩
    unfold adM
    simp only[ha]
    simpa using hw
 ·cases h
theorem MQ {ks:List CK}:∀ {xs ys:List VV} {us ws:List Value} {t:Bool},VL V xs us→VL V ys ws→qD ks xs ys=some t→pI ks us ws=some t:=by
 induction ks with
 |
  nil =>
  intro xs ys us ws t h1 h2 h
  cases h1 with
  |
   nil=>cases h2 with
   | nil=>exact h
   | cons=>simp[qD] at h
  | cons=>simp[qD] at h
 |
  cons k ks ih =>
  intro xs ys us ws t h1 h2 h
  cases h1 with
  | nil=>simp[qD] at h
  |
   cons x u xs us hx PQ=>cases h2 with
   | nil=>cases x<;>simp[qD] at h
   |
    cons y w ys ws hy hys =>
    cases hx with
    |
     sc _ _=>cases hy with
     |
      sc _ _ =>
      simp only[qD] at h
      simp only[pI]
      split at h
      ·rename_i h1
       rw[h1]
       exact ih PQ hys h
      ·rename_i h1
       rw[h1]
       exact h
      ·cases h
     | _=>simp[qD] at h
    | _=>simp[qD] at h
theorem Kn {places:List (Nat×Nat)}:∀ {parts:List (Nat×VV)} {AF:List (Nat×Value)} {cs AK:List VV} {r:List Value},VL V cs r→Tk V parts AF→zJ places cs parts=some AK →
  ∃r',wB places r AF=some r'∧VL V AK r'
 | [],_,cs,AK,r,hl,.nil,h=>by cases h;exact⟨r,rfl,hl⟩
 |
  (i,v)::parts,(_,w)::AF,cs,AK,r,hl,.cons hv hps,h=>by
  unfold zJ at h
  unfold wB
  split at h
  ·cases h
  ·rename_i off size Mv
   simp only[Mv]
   split at h
   case isFalse=>cases h
   rename_i hc
   have nO:=hv.cells (fun e=>by subst e;cases hc.2.2)
   rw[if_pos ⟨by rw[nO.length];exact hc.1,by rw[hl.length];exact hc.2.1⟩]
   exact Kn (((hl.take off).append nO).append (hl.drop _)) hps h
theorem IF:∀ {es:List VV} {r:List Value} {bs:List UInt8},VL V (es.flatMap aB) r→HO es=some bs→tZ r=some bs
 | [],_,bs,.nil,h=>h
 |
  x::es,r,bs,hl,h=>by
  unfold HO at h
  split at h
  ·rename_i e;cases e
  ·rename_i n r' e
   cases e
   obtain⟨t,ht,rfl⟩:=cH h
   rw[List.flatMap_cons] at hl
   cases hl with
   |
    cons _ u _ us hu hus =>
    obtain⟨rfl,_⟩:=qS hu rfl
    unfold tZ
    rw[IF hus ht]
    rfl
  ·cases h
theorem lift {r:Option VV} {v:VV} {H':aA} {s:Option (Value×aE)} (h:r.map (·,V.H)=some (v,H')) (k:r=some v→gL lo eH V s v V.H):gL lo eH V s v H':=by
 obtain⟨a,ha,he⟩:=cH h
 cases he
 exact k ha
theorem WN (hS:SR V lo eH) (hE:ER V ρ kH) {fl:Fl} {o:nN} {v:VV} {H':aA} {q:Bool} (h:vop fl lo o ρ V.H=some (v,H')):gL lo eH V (jN eH q o kH V.P) v H':=by
 cases o<;>simp only[vop] at h
 case mv x=>cases h;rw[acG];exact gL.same hS (hE.ev x)
 case pick c a b =>
  refine lift h fun h => ?_
  obtain⟨t,ht,hv⟩:=To (hE.ev c) (hE.ev a) (hE.ev b) h
  rw[WD,ht]
  exact gL.same hS hv
 case bin op x y=>rw[YJ];exact lift h fun h=>Bc (f:=dB op) hS (fun _ _ _=>Yx) (hE.ev x) (hE.ev y) h
 case eqb neg x y=>rw[abN];exact lift h fun h=>Bc (f:=MF neg) hS (fun _ _ _=>aaL) (hE.ev x) (hE.ev y) h
 case isnil neg x =>
  rw[T6]
  refine lift h fun h => ?_
  obtain⟨w,h1,h2⟩:=Sa (hE.ev x) h
  exact gL.pure hS h1 h2
 case eqagg neg ks x y =>
  rw[SP]
  refine lift h fun h => ?_
  unfold TH at h
  split at h
  case h_2=>cases h
  rename_i a b hx hy
  obtain⟨t,ht,rfl⟩:=cH h
  have h1:=hE.ev x
  have h2:=hE.ev y
  rw[hx] at h1
  rw[hy] at h2
  generalize ev kH x=u at h1 ⊢
  generalize ev kH y=w at h2 ⊢
  cases h1 with
  |
   agg cs ps h1=>cases h2 with
   |
    agg AK ps' h2 =>
    refine gL.pure hS (pv := .bool (t != neg)) ?_ (.sc _ rfl)
    unfold Za
    simp only
    rw[MQ h1 h2 ht]
    rfl
 case un op x=>rw[afF];exact lift h fun h=>DY (f:=ZV op) hS (fun _ _=>adG) (hE.ev x) h
 case cvt k x=>rw[Y6];exact lift h fun h=>DY (f:=Tp k) hS (fun _ _=>aaD) (hE.ev x) h
 case cvs x =>
  have e:jN eH q (.cvs x) kH V.P=(XC (ev kH x)).map (·,V.P):=dJ rfl
  rw[e];exact lift h fun h=>DY (f:=XC) hS (fun _ _=>ZC) (hE.ev x) h
 case ext x i =>
  rw[Zi]
  refine lift h fun h => ?_
  obtain⟨w,h1,h2⟩:=Xb (hE.ev x) h
  exact gL.pure hS h1 h2
 case fld agg off size x =>
  rw[Yg]
  refine lift h fun h => ?_
  obtain⟨w,h1,h2⟩:=XK (hE.ev x) h
  exact gL.pure hS h1 h2
 case build zero places parts =>
  obtain⟨cs,Nv,he⟩:=cH h
  cases he
  obtain⟨r,h1,h2⟩:=Kn (VL.zero zero) (Hx hE parts) Nv
  rw[Ur,h1]
  exact gL.same hS (.agg _ _ h2)
 case chk x =>
  rw[aaX]
  refine lift h fun h => ?_
  obtain⟨w,h1,h2⟩:=Xo (hE.ev x) h
  exact gL.pure hS h1 h2
 case faddr off x =>
  rw[Tv]
  refine lift h fun h => ?_
  obtain⟨w,h1,h2⟩:=QV (hE.ev x) h
  exact gL.pure hS h1 h2
 case iaddr size x i =>
  rw[TX]
  refine lift h fun h => ?_
  obtain⟨w,h1,h2⟩:=RA hS (hE.ev x) (hE.ev i) h
  exact gL.pure hS h1 h2
 case sidx x i =>
  have e:jN eH q (.sidx x i) kH V.P=(GZ (ev kH x) (ev kH i)).map (·,V.P):=dJ rfl
  rw[e];exact lift h fun h=>Bc (f:=GZ) hS (fun _ _ _=>W1) (hE.ev x) (hE.ev i) h
 case ssub x l h' =>
  refine lift h fun h => ?_
  unfold vF at h
  split at h
  case h_2=>cases h
  rename_i s lv hv hx h1 h2
  split at h
  case h_2=>cases h
  rename_i a b Ic
  cases h
  obtain⟨e1,_⟩:=qS (hE.ev x) hx
  have e:jN eH q (.ssub x l h') kH V.P=some (.string (s.extract a b),V.P):=by
   rw[dJ rfl]
   simp only[iN,e1]
   rw[Bv hE h1,Bv hE h2,Ic]
   rfl
  rw[e]
  exact gL.same hS (.sc _ rfl)
 case mkfn f fR =>
  cases h
  rw[WW]
  exact gL.same hS (.uO _ _ _ (hE.evs fR))
 case len x =>
  rw[aaK]
  refine lift h fun h => ?_
  obtain⟨w,h1,h2⟩:=W9 (hE.ev x) h
  exact gL.pure hS h1 h2
 case slen x =>
  have e:jN eH q (.slen x) kH V.P=(A2 (ev kH x)).map (·,V.P):=dJ rfl
  rw[e];exact lift h fun h=>DY (f:=A2) hS (fun _ _=>Xf) (hE.ev x) h
 case min x y=>rw[abJ];exact lift h fun h=>Bc (f:=P6) hS (fun _ _ _=>Z1) (hE.ev x) (hE.ev y) h
 case max x y=>rw[YL];exact lift h fun h=>Bc (f:=QL) hS (fun _ _ _=>YK) (hE.ev x) (hE.ev y) h
 case load agg size p =>
  rw[W5]
  refine lift h fun h => ?_
  obtain⟨w,h1,h2⟩:=Kp hS (hE.ev p) h
  exact gL.pure hS h1 h2
 case sub size x l hh m =>
  rw[Zr]
  exact lift h fun h=>WG hS hE (hE.ev x) h
 case b2s x =>
  split at h
  ·cases h
  rename_i y fH
  split at h
  case h_2=>cases h
  rename_i es MC
  obtain⟨bs,hbs,he⟩:=cH h
  cases he
  obtain⟨h1,h2,h3,h4⟩:=wT hS (hE.ev x) MC
  obtain⟨pn,h5,h6⟩:=h4 es.length (Nat.le_refl _)
  rw[List.take_length] at h6
  have hb:=IF h6 hbs
  have hx:=hE.ev x
  have e:jN eH q (.b2s x) kH V.P=some (.string ⟨bs.toArray⟩,V.P):=by
   apply pB
   simp only[pop]
   generalize ev kH x=u at *
   cases u<;>first | (exfalso;simp[sE] at h1;done) | skip
   case string s =>
    generalize eE ρ x=y at *
    cases hx with
    | any=>simp[cU] at MC
    | sc _ _=>exact absurd rfl (fH _)
   case slice a n c =>
    injection h1 with h1
    subst h1
    cases a with
    |
     none =>
     simp only[jD] at h5
     split at h5
     ·cases h5
      cases hb
      rfl
     ·cases h5
    |
     some a =>
     obtain⟨b,o,sp⟩:=a
     cases sp with
     | some s=>simp[jD] at h5
     |
      none =>
      simp only[jD,Nat.mul_one] at h5
      simp only[h5,hb]
      rfl
  rw[e]
  exact gL.same hS (.sc _ rfl)
 case new zero =>
  split at h
  case isFalse=>cases h
  rename_i hz
  cases h
  rw[Zm]
  exact Wz hS hz
 case box x =>
  split at h
  case isFalse=>cases h
  rename_i hs
  rw[Y7]
  exact WR hS (hE.ev x) hs h
 case make zero bytes l c =>
  split at h
  case isFalse=>cases h
  rename_i hz
  rw[W6]
  exact Ud hS hz (hE.ev l) (hE.ev c) h
 case lit zero n parts =>
  rw[abG]
  exact Wk hS (Hx hE parts) h
 case store size p x =>
  obtain⟨a,ha,he⟩:=cH h
  cases he
  rw[Um]
  exact Rj hS (hE.ev p) (hE.ev x) ha
 case app size bytes x y =>
  split at h
  case h_2=>cases h
  rename_i new hn
  obtain⟨h1,h2,h3,h4⟩:=wT hS (hE.ev y) hn
  obtain⟨pn,h5,h6⟩:=h4 new.length (Nat.le_refl _)
  rw[List.take_length] at h6
  rw[Y1]
  unfold ajS
  simp only[h1,h5]
  exact Gz hS (hE.ev x) h2 h3 h6 h
 case appz zero bytes x n =>
  split at h
  case h_2=>cases h
  rename_i k hk
  split at h
  case isFalse=>cases h
  rename_i hc
  obtain⟨e1,_⟩:=qS (hE.ev n) hk
  have K8:∀x∈List.replicate k.toNat (elemOf (zero.map jI)),(aB x).length=zero.length:=fun x hx=>by rw[List.eq_of_mem_replicate hx];exact DI hc.2.2
  have:=Gz hS (hE.ev x) K8 (AT (by
    rw[List.all_eq_true]
    intro x hx
    rw[List.eq_of_mem_replicate hx,nL hc.2.2]
    exact hc.2.2)) (B0 hc.2.2 _) h
  rw[List.length_replicate] at this
  rw[XN]
  unfold YH
  rw[e1]
  simp only[if_pos (show 0≤k∧k*(bytes:Int)≤140737488355328 from⟨hc.1,hc.2.1⟩)]
  exact this
 case copy size x y =>
  rw[Wm]
  exact T9 hS (hE.ev x) (hE.ev y) h
 case clear zero x =>
  obtain⟨a,ha,he⟩:=cH h
  cases he
  rw[Uj]
  exact RU hS (hE.ev x) ha
 all_goals cases h
end
end Go.PM
namespace Go.PM
def bare (F:Nat→Prop) (P:aE):View:=⟨fun _=>0,F,[],P,0⟩
theorem A5 {es:List VV}:aM es=true↔∀x∈es,aR x=true:=by
 induction es with
 | nil=>simp[aM]
 | cons x xs ih=>simp[aM,ih]
theorem C1 {x:VV} (h:aR x=true):aM (aB x)=true:=by
 unfold aB
 split
 ·simpa[aR] using h
 ·simp[aM,h]
theorem LD {es:List VV} (h:aM es=true):aM (es.flatMap aB)=true:=by
 rw[A5] at h ⊢
 intro x hx
 obtain⟨y,hy,AL⟩:=List.mem_flatMap.1 hx
 exact A5.1 (C1 (h y hy)) x AL
theorem Hu {es:List VV} {k:TK} (h:aR (.tree es k)=true):k = .op∧aM es=true∧uni es=true:=by
 simp only[aR,Bool.and_eq_true,decide_eq_true_eq] at h
 exact⟨h.1.1,h.1.2,h.2⟩
theorem I4 {x:VV} (h:aR x=true):x ≠ .any:=by
 rintro rfl
 cases h
theorem aeL {es:List VV} (h:uni es=true):∃e,∀x∈es,(aB x).length=e:=by
 cases es with
 | nil=>exact⟨0,fun x hx=>by cases hx⟩
 |
  cons x xs =>
  refine⟨(aB x).length,fun y hy => ?_⟩
  rcases List.mem_cons.1 hy with rfl | hy
  ·rfl
  ·have:=List.all_eq_true.1 h y hy
   simpa using this
section
variable {V V':View}
theorem VR.pure {x:VV} {v:Value} (hF:∀b,V.F b→V'.F b∧V'.P[b]? = V.P[b]?) (h:VR V x v):aR x=true→VR V' x v:=by
 induction h using VR.rec (motive_2:=fun xs vs _=>aM xs=true→VL V' xs vs) with
 | any=>intro hp;cases hp
 | sc _ h=>intro _;exact .sc _ h
 | agg cs ps _ ih=>intro hp;exact .agg _ _ (ih hp)
 | dS cs ps _ ih=>intro hp;exact .dS _ _ (ih hp)
 | oI k hk=>intro _;exact .oI k hk
 | tree es k b o c r e p TW hb ho hc he hk _ ih=>intro hp;exact .tree es k b o c r e p (hF _ TW).1 (by rw[(hF _ TW).2];exact hb) ho hc he hk (ih (LD (Hu hp).2.1))
 | cZ x off b o r e p TW hb ho _ ih=>intro hp;exact .cZ x off b o r e p (hF _ TW).1 (by rw[(hF _ TW).2];exact hb) ho (ih (C1 hp))
 | ref=>intro hp;cases hp
 | ptr=>intro hp;cases hp
 | uO f fR ps _ ih=>intro hp;exact .uO _ _ _ (ih hp)
 | nil=>exact .nil
 |
  cons x v xs vs _ _ ih SO =>
  rename_i hp
  simp only[aM,Bool.and_eq_true] at hp
  exact .cons _ _ _ _ (ih hp.1) (SO hp.2)
theorem VL.pure {xs:List VV} {vs:List Value} (hF:∀b,V.F b→V'.F b∧V'.P[b]? = V.P[b]?) (h:VL V xs vs) (hp:aM xs=true):VL V' xs vs:=by
 induction xs generalizing vs with
 | nil=>cases h;exact .nil
 |
  cons x xs ih=>cases h with
  |
   cons _ v _ vs h hs =>
   simp only[aM,Bool.and_eq_true] at hp
   exact .cons _ _ _ _ (h.pure hF hp.1) (ih hs hp.2)
theorem VL.flatten {es:List VV} {ps:List Value} (h:VL V es ps) (hp:aM es=true):VL V (es.flatMap aB) (ps.flatMap aL):=by
 induction es generalizing ps with
 | nil=>cases h;exact .nil
 |
  cons x xs ih =>
  cases h with
  |
   cons _ v _ vs h hs =>
   simp only[aM,Bool.and_eq_true] at hp
   rw[List.flatMap_cons,List.flatMap_cons]
   exact(h.cells (I4 hp.1)).append (ih hs hp.2)
theorem PH {P P':aE} (h:P <+: P'):∀b,(bare (· < P.length) P).F b→(bare (· < P'.length) P').F b∧(bare (· < P'.length) P').P[b]? = (bare (· < P.length) P).P[b]? := by
 intro b hb
 obtain⟨L,rfl⟩:=h
 have pZ:b<P.length:=hb
 exact⟨by show b<(P++L).length;simp;omega,List.getElem?_append_left pZ⟩
mutual
theorem real (x:VV) (hp:aR x=true) (P:aE):∃P' pv,P <+: P'∧VR (bare (· < P'.length) P') x pv:=by
 cases x with
 | any=>cases hp
 | sc v=>exact⟨P,v,List.prefix_refl _,.sc v hp⟩
 |
  agg cs =>
  obtain⟨P',ps,h1,h2⟩:=NP cs hp P
  exact⟨P',_,h1,.agg _ _ h2⟩
 |
  dS cs =>
  obtain⟨P',ps,h1,h2⟩:=NP cs hp P
  exact⟨P',_,h1,.dS _ _ h2⟩
 |
  tree es k =>
  obtain⟨rfl,h1,h2⟩:=Hu hp
  obtain⟨P',ps,h3,h4⟩:=NP es h1 P
  obtain⟨e,he⟩:=aeL h2
  have h5:=h4.flatten h1
  have hl:=h5.length
  rw[kK he] at hl
  have zO:P' <+: P'++[MM.row (ps.flatMap aL) e false]:=List.prefix_append _ _
  refine⟨_,.slice (some ⟨P'.length,0,none⟩) es.length es.length,h3.trans zO,?_⟩
  refine .tree es .op P'.length 0 es.length (ps.flatMap aL) e false (show P'.length<(P'++[MM.row (ps.flatMap aL) e false]).length by simp) (by show (P'++[MM.row (ps.flatMap aL) e false])[P'.length]? = _;simp) (by omega) (Nat.le_refl _) he trivial ?_
  rw[List.drop_zero,List.take_of_length_le (by omega)]
  exact VL.pure (PH zO) h5 (LD h1)
 |
  cZ x off =>
  obtain⟨P',pv,h3,h4⟩:=real x hp P
  have h5:=h4.cells (I4 hp)
  have zO:P' <+: P'++[MM.row (aL pv) (aL pv).length false]:=List.prefix_append _ _
  refine⟨_,.pointer (some ⟨P'.length,0+off,none⟩),h3.trans zO,?_⟩
  refine .cZ x off P'.length 0 (aL pv) (aL pv).length false (show P'.length<(P'++[MM.row (aL pv) (aL pv).length false]).length by simp) (by show (P'++[MM.row (aL pv) (aL pv).length false])[P'.length]? = _;simp) (by rw[h5.length];omega) ?_
  rw[List.drop_zero,List.take_of_length_le (by rw[h5.length];exact Nat.le_refl _)]
  exact VL.pure (PH zO) h5 (C1 hp)
 | ref=>cases hp
 | ptr=>cases hp
 |
  uO f fR =>
  obtain⟨P',ps,h1,h2⟩:=NP fR hp P
  exact⟨P',_,h1,.uO _ _ _ h2⟩
theorem NP (xs:List VV) (hp:aM xs=true) (P:aE):∃P' ps,P <+: P'∧VL (bare (· < P'.length) P') xs ps:=by
 cases xs with
 | nil=>exact⟨P,[],List.prefix_refl _,.nil⟩
 |
  cons x xs =>
  simp only[aM,Bool.and_eq_true] at hp
  obtain⟨P1,pv,h1,h2⟩:=real x hp.1 P
  obtain⟨P2,ps,h3,h4⟩:=NP xs hp.2 P1
  exact⟨P2,pv::ps,h1.trans h3,.cons _ _ _ _ (h2.pure (PH h3) hp.1) h4⟩
end
theorem LR {es:List VV}:rA es=true↔∀x∈es,gQ x=true:=by
 induction es with
 | nil=>simp[rA]
 | cons x xs ih=>simp[rA,ih]
theorem Dv {es:List VV} {k:TK} (h:gQ (.tree es k)=true):k = .op∧rA es=true∧uni es=true∧es.all AE=true:=by
 simp only[gQ,Bool.and_eq_true,decide_eq_true_eq] at h
 exact⟨h.1.1.1,h.1.1.2,h.1.2,h.2⟩
theorem S7 {x:VV} (h:gQ x=true):rA (aB x)=true:=by
 unfold aB
 split
 ·simpa[gQ] using h
 ·simp[rA,h]
theorem Oo {es:List VV} (h:rA es=true):rA (es.flatMap aB)=true:=by
 rw[LR] at h ⊢
 intro x hx
 obtain⟨y,hy,AL⟩:=List.mem_flatMap.1 hx
 exact LR.1 (S7 (h y hy)) x AL
mutual
theorem Rk (x:VV) (h:gQ x=true):aR x=true:=by
 cases x with
 | sc v=>exact h
 | agg cs=>exact Ef cs h
 | dS cs=>exact Ef cs h
 |
  tree es k =>
  obtain⟨h1,h2,h3,_⟩:=Dv h
  simp[aR,h1,Ef es h2,h3]
 | any=>cases h
 | cZ=>cases h
 | ref=>cases h
 | ptr=>cases h
 | uO=>cases h
theorem Ef (xs:List VV) (h:rA xs=true):aM xs=true:=by
 cases xs with
 | nil=>rfl
 |
  cons x xs =>
  simp only[rA,Bool.and_eq_true] at h
  simp[aM,Rk x h.1,Ef xs h.2]
end
theorem Rw {e:Nat}:∀ {es mU:List VV},(∀x∈es,(aB x).length=e)→(∀x∈mU,(aB x).length=e)→es.all AE=true→mU.all AE=true→es.length=mU.length→es.flatMap aB=mU.flatMap aB→es=mU
 | [],[],_,_,_,_,_,_=>rfl
 |
  x::es,y::mU,h1,h2,h3,h4,hl,h=>by
  rw[List.flatMap_cons,List.flatMap_cons] at h
  have hx:=h1 x List.mem_cons_self
  have hy:=h2 y List.mem_cons_self
  obtain⟨e1,e2⟩:=List.append_inj h (by omega)
  simp only[List.all_cons,Bool.and_eq_true] at h3 h4
  have AL:x=y:=by
   have g1:=h3.1
   have g2:=h4.1
   unfold aB at e1
   split at e1<;>split at e1
   ·rw[e1]
   ·rename_i cs _ _
    subst e1
    cases g1
   ·rename_i cs
    subst e1
    cases g2
   ·injection e1
  rw[AL,Rw (fun z hz=>h1 z (List.mem_cons_of_mem _ hz)) (fun z hz=>h2 z (List.mem_cons_of_mem _ hz)) h3.2 h4.2 (by simpa using hl) e2]
theorem VR.uniq {x y:VV} {v:Value} (h:VR V x v) (h':VR V y v) (hx:gQ x=true) (hy:gQ y=true):x=y:=by
 induction h using VR.rec (motive_2:=fun xs vs _=>∀ys,VL V ys vs→rA xs=true→rA ys=true→xs=ys) generalizing y with
 | any=>cases hx
 |
  sc _ h=>cases h' with
  | sc _ _=>rfl
  | any=>cases hy
  | agg=>cases h
  | dS=>cases h
  | oI=>cases h
  | tree=>cases h
  | cZ=>cases hy
  | ref=>cases hy
  | ptr=>cases hy
  | uO=>cases hy
 |
  agg cs ps h ih=>generalize hw:Value.agg ps.toArray=w at h';cases h' with
  | sc _ h'=>subst hw;cases h'
  | any=>cases hy
  |
   agg AK ps' h' =>
   injection hw with hw
   have:ps=ps':=by simpa using hw
   subst this
   rw[ih _ h' hx hy]
  | dS=>cases hw
  | oI=>cases hw
  | tree=>cases hw
  | cZ=>cases hy
  | ref=>cases hy
  | ptr=>cases hy
  | uO=>cases hy
 |
  dS cs ps h ih=>generalize hw:Value.tuple ps.toArray=w at h';cases h' with
  | sc _ h'=>subst hw;cases h'
  | any=>cases hy
  |
   dS AK ps' h' =>
   injection hw with hw
   have:ps=ps':=by simpa using hw
   subst this
   rw[ih _ h' hx hy]
  | agg=>cases hw
  | oI=>cases hw
  | tree=>cases hw
  | cZ=>cases hy
  | ref=>cases hy
  | ptr=>cases hy
  | uO=>cases hy
 |
  oI k hk =>
  obtain⟨rfl,_⟩:=Dv hx
  generalize hw:Value.slice none 0 0=w at h'
  cases h' with
  | sc _ h'=>subst hw;cases h'
  | any=>cases hy
  | oI k' XS=>obtain⟨rfl,_⟩:=Dv hy;rfl
  | agg=>cases hw
  | dS=>cases hw
  | tree=>cases hw
  | cZ=>cases hy
  | ref=>cases hy
  | ptr=>cases hy
  | uO=>cases hy
 |
  tree es k b o c r e p hF hb ho hc he hk hl ih =>
  obtain⟨rfl,hx1,hx2,hx3⟩:=Dv hx
  generalize hw:Value.slice (some ⟨b,o,none⟩) es.length c=w at h'
  cases h' with
  | sc _ h'=>subst hw;cases h'
  | any=>cases hy
  | oI=>cases hw
  | agg=>cases hw
  | dS=>cases hw
  |
   tree mU k' b' o' c' r' e' p' hF' pZ Zp hc' he' XS BJ =>
   obtain⟨rfl,hy1,hy2,hy3⟩:=Dv hy
   injection hw with h1 h2 h3
   injection h1 with h1
   injection h1 with h1 h4
   subst h1 h3 h4
   rw[hb] at pZ
   injection pZ with pZ
   injection pZ with g1 g2 g3
   subst g1 g2 g3
   rw[←h2] at BJ
   rw[Rw he he' hx3 hy3 h2 (ih _ BJ (Oo hx1) (Oo hy1))]
  | cZ=>cases hy
  | ref=>cases hy
  | ptr=>cases hy
  | uO=>cases hy
 | cZ=>cases hx
 | ref=>cases hx
 | ptr=>cases hx
 | uO=>cases hx
 | nil=>rename_i h' _ _;cases h';rfl
 |
  cons x v xs vs _ _ ih SO =>
  rename_i ys h' hx hy
  cases h' with
  |
   cons y _ ys _ h' hs' =>
   simp only[rA,Bool.and_eq_true] at hx hy
   rw[ih h' hx.1 hy.1,SO _ hs' hx.2 hy.2]
end
end Go.PM
namespace Go.PM
section
variable {V:View} {lo eH:Nat}
theorem jV {α β:Type} {f:α→Option β} {x:α} {xs:List α} {r:List β} (h:(x::xs).mapM f=some r):∃y ys,f x=some y∧xs.mapM f=some ys∧r=y::ys:=by
 rw[List.mapM_cons] at h
 cases hx:f x with
 | none=>rw[hx] at h;cases h
 |
  some y =>
  rw[hx] at h
  cases hs:xs.mapM f with
  | none=>rw[hs] at h;cases h
  | some ys=>rw[hs] at h;cases h;exact⟨y,ys,rfl,rfl,rfl⟩
theorem mZ {α β:Type} {f:α→Option β}:∀ {xs:List α} {r:List β},xs.mapM f=some r→r.length=xs.length
 | [],r,h=>by cases h;rfl
 |
  x::xs,r,h=>by
  obtain⟨y,ys,_,h2,rfl⟩:=jV h
  simp[mZ h2]
theorem UR {d:Nat} {H:aA} {x x':VV} (h:fz d H x=some x'):(∃cs AK,x = .agg cs∧x' = .agg AK∧AK.length=cs.length)∨(aB x=[x]∧aB x'=[x']):=by
 cases d with
 | zero=>cases h
 |
  succ d =>
  unfold fz at h
  split at h
  ·cases h
   cases x with
   | agg cs=>exact .inl ⟨cs,cs,rfl,rfl,rfl⟩
   | _=>exact .inr ⟨rfl,rfl⟩
  ·split at h
   ·obtain⟨AK,h1,rfl⟩:=cH h
    exact .inl ⟨_,_,rfl,rfl,mZ h1⟩
   ·obtain⟨AK,h1,rfl⟩:=cH h;exact .inr ⟨rfl,rfl⟩
   ·obtain⟨AK,h1,rfl⟩:=cH h;exact .inr ⟨rfl,rfl⟩
   ·obtain⟨AK,h1,rfl⟩:=cH h;exact .inr ⟨rfl,rfl⟩
   ·split at h
    ·split at h
     ·obtain⟨AK,h1,rfl⟩:=cH h;exact .inr ⟨rfl,rfl⟩
     ·cases h
    ·cases h
   ·split at h
    ·split at h
     ·obtain⟨AK,h1,rfl⟩:=cH h;exact .inr ⟨rfl,rfl⟩
     ·cases h
    ·cases h
   ·obtain⟨AK,h1,rfl⟩:=cH h;exact .inr ⟨rfl,rfl⟩
   ·cases h
theorem Oz {d:Nat} {H:aA} {x x':VV} (h:fz d H x=some x'):(aB x').length=(aB x).length:=by
 rcases UR h with⟨cs,AK,rfl,rfl,h'⟩ | ⟨h1,h2⟩
 ·exact h'
 ·rw[h1,h2];rfl
def Og (V:View) (G:Nat→Prop) (ids:List Nat):Prop:=∀i∈ids,∀g es e w,V.H[i]? = some (.row g es e w)→G (V.m i)
theorem Ls (hS:SR V lo eH) {G:Nat→Prop} (hG:∀q,V.F q→G q):∀(d:Nat) (v v':VV) (pv:Value),VR V v pv→fz d V.H v=some v'→Og V G (iW d V.H v)→VR (bare G V.P) v' pv:=by
 have hFG:∀b,V.F b→(bare G V.P).F b∧(bare G V.P).P[b]? = V.P[b]? := fun b hb=>⟨hG b hb,rfl⟩
 intro d
 induction d with
 | zero=>intro v v' pv _ h;cases h
 |
  succ d ih =>
  have ihL:∀(xs Iz:List VV) (ps:List Value),VL V xs ps→xs.mapM (fz d V.H)=some Iz→Og V G (xs.flatMap (iW d V.H))→VL (bare G V.P) Iz ps:=by
   intro xs
   induction xs with
   | nil=>intro Iz ps hl h _;cases h;cases hl;exact .nil
   |
    cons x xs ihx =>
    intro Iz ps hl h hi
    obtain⟨y,ys,h1,h2,rfl⟩:=jV h
    cases hl with
    |
     cons _ v _ vs hx PQ =>
     exact .cons _ _ _ _ (ih x y v hx h1 fun i pL=>hi i (by rw[List.flatMap_cons];exact List.mem_append_left _ pL)) (ihx ys vs PQ h2 fun i pL=>hi i (by rw[List.flatMap_cons];exact List.mem_append_right _ pL))
  have ihC:∀(x x':VV) (ps:List Value),VL V (aB x) ps→fz d V.H x=some x'→Og V G (iW d V.H x)→VL (bare G V.P) (aB x') ps:=by
   intro x x' ps hl h hi
   rcases UR h with⟨cs,AK,rfl,rfl,nO⟩ | ⟨h1,h2⟩
   ·have:=ih _ _ (.agg ps.toArray) (.agg _ _ hl) h hi
    generalize hw:Value.agg ps.toArray=w at this
    cases this with
    |
     agg _ ps' BJ =>
     injection hw with hw
     have:ps=ps':=by simpa using hw
     subst this
     exact BJ
   ·rw[h1] at hl
    rw[h2]
    cases hl with
    |
     cons _ v _ vs hx PQ =>
     cases PQ
     exact .cons _ _ _ _ (ih _ _ _ hx h hi) .nil
  have ihF:∀(xs Iz:List VV) (ps:List Value),VL V (xs.flatMap aB) ps→xs.mapM (fz d V.H)=some Iz→Og V G (xs.flatMap (iW d V.H))→VL (bare G V.P) (Iz.flatMap aB) ps:=by
   intro xs
   induction xs with
   | nil=>intro Iz ps hl h _;cases h;cases hl;exact .nil
   |
    cons x xs ihx =>
    intro Iz ps hl h hi
    obtain⟨y,ys,h1,h2,rfl⟩:=jV h
    rw[List.flatMap_cons] at hl ⊢
    have hlen:=hl.length
    have a1:=hl.take (aB x).length
    have a2:=hl.drop (aB x).length
    rw[List.take_left] at a1
    rw[List.drop_left] at a2
    rw[←List.take_append_drop (aB x).length ps]
    exact(ihC x y _ a1 h1 fun i pL=>hi i (by rw[List.flatMap_cons];exact List.mem_append_left _ pL)).append (ihx ys _ a2 h2 fun i pL=>hi i (by rw[List.flatMap_cons];exact List.mem_append_right _ pL))
  have anG:∀(xs Iz:List VV) (e:Nat),xs.mapM (fz d V.H)=some Iz→(∀x∈xs,(aB x).length=e)→∀x∈Iz,(aB x).length=e:=by
   intro xs
   induction xs with
   | nil=>intro Iz e h _ x hx;cases h;cases hx
   |
    cons x xs ihx =>
    intro Iz e h he z hz
    obtain⟨y,ys,h1,h2,rfl⟩:=jV h
    rcases List.mem_cons.1 hz with rfl | hz
    ·rw[Oz h1];exact he x List.mem_cons_self
    ·exact ihx ys e h2 (fun w hw=>he w (List.mem_cons_of_mem _ hw)) z hz
  intro v v' pv hv h hi
  unfold fz at h
  unfold iW at hi
  split at h
  ·rename_i hp
   cases h
   exact hv.pure hFG hp
  ·rename_i hp
   rw[if_neg hp] at hi
   split at h
   ·obtain⟨AK,h1,rfl⟩:=cH h
    cases hv with
    | agg cs ps hl=>exact .agg _ _ (ihL _ _ _ hl h1 hi)
   ·obtain⟨AK,h1,rfl⟩:=cH h
    cases hv with
    | dS cs ps hl=>exact .dS _ _ (ihL _ _ _ hl h1 hi)
   ·obtain⟨AK,h1,rfl⟩:=cH h
    cases hv with
    | oI k hk=>cases h1;exact .oI _ (.inl rfl)
    |
     tree es k b o c r e p hF hb ho hc he hk hl =>
     have hlen:=mZ h1
     have:=VR.tree (V:=bare G V.P) AK .op b o c r e p (hG b hF) hb (by rw[hlen];exact ho) (by rw[hlen];exact hc) (anG _ _ _ h1 he) trivial (by rw[hlen];exact ihF _ _ _ hl h1 hi)
     rw[hlen] at this
     exact this
   ·obtain⟨x',h1,rfl⟩:=cH h
    cases hv with
    |
     cZ x off b o r e p hF hb ho hl =>
     have hlen:=Oz h1
     exact .cZ x' _ b o r e p (hG b hF) hb (by rw[hlen];exact ho) (by rw[hlen];exact ihC _ _ _ hl h1 hi)
   ·rename_i b g o n c
    split at h
    case h_2=>cases h
    rename_i es e w hr
    simp only[hr] at hi
    rw[cG] at hr
    split at h
    case isFalse=>cases h
    rename_i awB
    obtain⟨hon,CW⟩:=awB
    obtain⟨mU,h1,rfl⟩:=cH h
    obtain⟨r,p,k1,k2,k3⟩:=hS.row b g es e w hr
    have D1:=k3.length
    rw[kK k2] at D1
    cases hv with
    |
     ref b g o n c a n' c' bB hg ha hq =>
     obtain⟨rfl,rfl,rfl⟩:=ha _ _ _ hr
     have ZI:∀x∈(es.drop o).take n',(aB x).length=e:=fun x hx=>k2 x (List.mem_of_mem_drop (List.mem_of_mem_take hx))
     have hn2:((es.drop o).take n').length=n':=by simp;omega
     have hlen:=mZ h1
     rw[hn2] at hlen
     have hm:(o+n')*e≤es.length*e:=Nat.mul_le_mul_right _ hon
     rw[Nat.add_mul] at hm
     have hl:VL V (((es.drop o).take n').flatMap aB) ((r.drop (o*e)).take (n'*e)):=by
      have h4:=(k3.drop (o*e)).take (n'*e)
      rw[tU k2,tK (fun x hx=>k2 x (List.mem_of_mem_drop hx))] at h4
      exact h4
     have hGb:G (V.m b):=hi b List.mem_cons_self _ _ _ _ hr
     have:=VR.tree (V:=bare G V.P) mU .op (V.m b) (o*e) c' r e p hGb k1 (by rw[hlen];omega) (by rw[hlen];exact CW) (anG _ _ _ h1 ZI) trivial (by rw[hlen];exact ihF _ _ _ hl h1 fun i pL=>hi i (List.mem_cons_of_mem _ pL))
     rw[hlen] at this
     exact this
   ·rename_i b g j o
    split at h
    case h_2=>cases h
    rename_i es e w hr
    simp only[hr] at hi
    rw[cG] at hr
    split at h
    case h_2=>cases h
    rename_i x hx
    simp only[hx] at hi
    obtain⟨x',h1,rfl⟩:=cH h
    obtain⟨r,p,k1,k2,k3,k4⟩:=Me hS hr hx
    cases hv with
    |
     ptr b g j off a bB hg ha hq =>
     have:=ha _ _ _ hr
     subst this
     have hlen:=Oz h1
     exact .cZ x' o (V.m b) (j*e) r e p (hi b List.mem_cons_self _ _ _ _ hr) k1 (by rw[hlen];exact k3) (by rw[hlen];exact ihC _ _ _ k4 h1 fun i pL=>hi i (List.mem_cons_of_mem _ pL))
   ·obtain⟨AK,h1,rfl⟩:=cH h
    cases hv with
    | uO f fR ps hl=>exact .uO _ _ _ (ihL _ _ _ hl h1 hi)
   ·cases h
theorem Ea (hS:SR V lo eH) {G:Nat→Prop} (hG:∀q,V.F q→G q) {d:Nat}:∀ {xs Iz:List VV} {ps:List Value},VL V xs ps→xs.mapM (fz d V.H)=some Iz→Og V G (xs.flatMap (iW d V.H))→VL (bare G V.P) Iz ps
 | [],Iz,ps,hl,h,_=>by cases h;cases hl;exact .nil
 |
  x::xs,Iz,ps,hl,h,hi=>by
  obtain⟨y,ys,h1,h2,rfl⟩:=jV h
  cases hl with
  |
   cons _ v _ vs hx PQ =>
   exact .cons _ _ _ _ (Ls hS hG d x y v hx h1 fun i pL=>hi i (by rw[List.flatMap_cons];exact List.mem_append_left _ pL)) (Ea hS hG PQ h2 fun i pL=>hi i (by rw[List.flatMap_cons];exact List.mem_append_right _ pL))
def View.cY (V:View) (ids:List Nat):View:=ids.foldl View.freeze V
theorem vM:∀(ids:List Nat) {V:View},SR V lo eH→SR (V.cY ids) lo eH∧E1 lo V (V.cY ids)∧(V.cY ids).H=PM.cY V.H ids∧(V.cY ids).P=V.P∧(V.cY ids).m=V.m∧Og V (V.cY ids).F ids
 | [],V,hS=>⟨hS,E1.refl _ _,rfl,rfl,rfl,fun i hi=>by cases hi⟩
 |
  i::ids,V,hS=>by
  obtain⟨h1,h2,h3⟩:=Pp hS i
  obtain⟨g1,g2,g3,g4,g5,g6⟩:=vM ids h1
  refine⟨g1,h2.trans g2,?_,g4.trans (ZF V i),g5.trans (Sm V i),?_⟩
  ·show ((V.freeze i).cY ids).H=_
   rw[g3,Q5]
   rfl
  ·intro k hk g es e w hr
   show ((V.freeze i).cY ids).F (V.m k)
   rcases List.mem_cons.1 hk with rfl | hk
   ·exact g2.F _ (h3 _ _ _ _ hr)
   ·have FR:∃g es e w,(V.freeze i).H[k]? = some (.row g es e w):=by
     rw[Q5]
     unfold BN
     split
     ·rename_i g' mU e' w' hi
      by_cases hki:k=i
      ·subst hki
       exact⟨g',mU,e',false,List.getElem?_set_self (List.getElem?_eq_some_iff.1 hi).1⟩
      ·exact⟨g,es,e,w,by rw[List.getElem?_set_ne (Ne.symm hki)];exact hr⟩
     ·exact⟨g,es,e,w,hr⟩
    obtain⟨g',mU,e',w',FR⟩:=FR
    have:=g6 k hk _ _ _ _ FR
    rw[Sm] at this
    exact this
end
end Go.PM