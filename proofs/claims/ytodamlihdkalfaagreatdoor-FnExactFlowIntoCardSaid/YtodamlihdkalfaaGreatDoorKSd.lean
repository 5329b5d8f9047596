/- Texts of a claim, in one: part 4. -/
import Derived.Test.YtodamlihdkalfaaGreatDoorKSc
set_option linter.unusedSimpArgs false
set_option linter.unusedVariables false
namespace Go.PM
structure View where
 m:Nat→Nat
 F:Nat→Prop
 H:aA
 P:aE
 base:Nat
def kindOk (k:TK) (n c e:Nat) (p:Bool):Prop :=
 match k with
 | .op=>True
 | .cl e'=>e'=e∧c=n∧p=false
 | .nil=>False
mutual
inductive VR (V:View):VV→Value→Prop
 | any (v:Value):VR V .any v
 | sc (v:Value) (h:nF v=true):VR V (.sc v) v
 | agg (cs:List VV) (ps:List Value) (h:VL V cs ps):VR V (.agg cs) (.agg ps.toArray)
 | dL (cs:List VV) (ps:List Value) (h:VL V cs ps):VR V (.dL cs) (.tuple ps.toArray)
 | nG (k:TK) (hk:k = .op∨k = .nil):VR V (.tree [] k) (.slice none 0 0)
 | tree (es:List VV) (k:TK) (b o c:Nat) (r:List Value) (e:Nat) (p:Bool) (hF:V.F b) (hb:V.P[b]? = some (.row r e p)) (ho:o+es.length*e≤r.length)
  (hc:es.length≤c) (he:∀x∈es,(aB x).length=e) (hk:kindOk k es.length c e p) (hl:VL V (es.flatMap aB) ((r.drop o).take (es.length*e))) :
  VR V (.tree es k) (.slice (some ⟨b,o,none⟩) es.length c)
 | cK (x:VV) (off b o:Nat) (r:List Value) (e:Nat) (p:Bool) (hF:V.F b) (hb:V.P[b]? = some (.row r e p)) (ho:o+(aB x).length≤r.length)
  (hl:VL V (aB x) ((r.drop o).take (aB x).length)):VR V (.cK x off) (.pointer (some ⟨b,o+off,none⟩))
 | ref (b g o n c:Nat) (a:Option Addr) (n' c':Nat) (bD:b<V.H.length) (hg:∀g' es e w,V.H[b]? = some (.row g' es e w)→g≤g')
  (h:∀es e w,V.H[b]? = some (.row g es e w)→a=some ⟨V.m b,o*e,none⟩∧n'=n∧c'=c)
  (hq:∀a0,a=some a0→V.base≤a0.block∧a0.block<V.P.length∧∀b' g' es e w,V.H[b']? = some (.row g' es e w)→b'≠b→V.m b'≠a0.block):VR V (.ref b g o n c) (.slice a n' c')
 | ptr (b g j off:Nat) (a:Option Addr) (bD:b<V.H.length) (hg:∀g' es e w,V.H[b]? = some (.row g' es e w)→g≤g')
  (h:∀es e w,V.H[b]? = some (.row g es e w)→a=some ⟨V.m b,j*e+off,none⟩)
  (hq:∀a0,a=some a0→V.base≤a0.block∧a0.block<V.P.length∧∀b' g' es e w,V.H[b']? = some (.row g' es e w)→b'≠b→V.m b'≠a0.block):VR V (.ptr b g j off) (.pointer a)
 | uG (f:Nat) (fS:List VV) (ps:List Value) (h:VL V fS ps):VR V (.uG f fS) (.func (.func f) #[] ps.toArray)
inductive VL (V:View):List VV→List Value→Prop
 | nil:VL V [] []
 | cons (x:VV) (v:Value) (xs:List VV) (vs:List Value) (h:VR V x v) (hs:VL V xs vs):VL V (x::xs) (v::vs)
end
structure Up (V V':View):Prop where
 F:∀b,V.F b→V'.F b
 P:∀b,V.F b→V'.P[b]? = V.P[b]?
 len:V.H.length≤V'.H.length
 row:∀b g' mO e w',b<V.H.length→V'.H[b]? = some (.row g' mO e w')→∃g es w,V.H[b]? = some (.row g es e w)∧g≤g'∧(g'=g→V'.m b=V.m b)
 Jf:V'.base=V.base
 DV:V.P.length≤V'.P.length
 BB:∀b g es e w,V'.H[b]? = some (.row g es e w)→V'.m b<V.P.length→∃g0 es0 w0,V.H[b]? = some (.row g0 es0 e w0)∧V'.m b=V.m b∧(w=true→w0=true)
section
variable {V V' PB:View}
theorem Up.refl (V:View):Up V V:=⟨fun _ h=>h,fun _ _=>rfl,Nat.le_refl _,fun b g es e w _ h=>⟨g,es,w,h,Nat.le_refl _,fun _=>rfl⟩,rfl,Nat.le_refl _,fun b g es e w h _=>⟨g,es,w,h,rfl,id⟩⟩
theorem Up.trans (h:Up V V') (h':Up V' PB):Up V PB :=
 ⟨fun b hb=>h'.F b (h.F b hb),fun b hb=>(h'.P b (h.F b hb)).trans (h.P b hb),Nat.le_trans h.len h'.len,fun b g es e w hb hr=>by
  obtain⟨g1,BW,w1,h1,h2,h3⟩:=h'.row b g es e w (Nat.lt_of_lt_of_le hb h.len) hr
  obtain⟨g2,Ym,w2,h4,h5,h6⟩:=h.row b g1 BW e w1 hb h1
  exact⟨g2,Ym,w2,h4,Nat.le_trans h5 h2,fun hg=>(h3 (by omega)).trans (h6 (by omega))⟩,h'.Jf.trans h.Jf,Nat.le_trans h.DV h'.DV,fun b g es e w hb hm=>by
   obtain⟨g1,BW,w1,h1,h2,h3⟩:=h'.BB b g es e w hb (Nat.lt_of_lt_of_le hm h.DV)
   obtain⟨g2,Ym,w2,h4,h5,h6⟩:=h.BB b g1 BW e w1 h1 (by rw[←h2];exact hm)
   exact⟨g2,Ym,w2,h4,h2.trans h5,fun hw=>h6 (h3 hw)⟩⟩
theorem Up.hq (u:Up V V') {b q:Nat} (h:V.base≤q∧q<V.P.length∧∀b' g' es e w,V.H[b']? = some (.row g' es e w)→b'≠b→V.m b'≠q):V'.base≤q∧q<V'.P.length∧∀b' g' es e w,V'.H[b']? = some (.row g' es e w)→b'≠b→V'.m b'≠q:=by
 refine⟨by rw[u.Jf];exact h.1,Nat.lt_of_lt_of_le h.2.1 u.DV,fun b' g' es e w hb fR hm => ?_⟩
 obtain⟨g0,es0,w0,h1,h2,_⟩:=u.BB b' g' es e w hb (by rw[hm];exact h.2.1)
 exact h.2.2 b' _ _ _ _ h1 fR (h2.symm.trans hm)
theorem VR.mono (u:Up V V') {x:VV} {v:Value} (h:VR V x v):VR V' x v:=by
 induction h using VR.rec (motive_2:=fun xs vs _=>VL V' xs vs) with
 | any=>exact .any _
 | sc _ h=>exact .sc _ h
 | agg cs ps _ ih=>exact .agg _ _ ih
 | dL cs ps _ ih=>exact .dL _ _ ih
 | nG k hk=>exact .nG k hk
 | tree es k b o c r e p hF hb ho hc he hk _ ih=>exact .tree es k b o c r e p (u.F _ hF) (by rw[u.P _ hF];exact hb) ho hc he hk ih
 | cK x off b o r e p hF hb ho _ ih=>exact .cK x off b o r e p (u.F _ hF) (by rw[u.P _ hF];exact hb) ho ih
 |
  ref b g o n c a n' c' bD hg h hq =>
  refine .ref b g o n c a n' c' (Nat.lt_of_lt_of_le bD u.len) (fun g' es e w hr => ?_) (fun es e w hr => ?_) fun a0 ha=>u.hq (hq a0 ha)
  ·obtain⟨g1,BW,w1,h1,h2,_⟩:=u.row b g' es e w bD hr
   exact Nat.le_trans (hg _ _ _ _ h1) h2
  ·obtain⟨g1,BW,w1,h1,h2,h3⟩:=u.row b g es e w bD hr
   have h4:=hg _ _ _ _ h1
   have h5:g=g1:=by omega
   subst h5
   rw[h3 rfl]
   exact h _ _ _ h1
 |
  ptr b g j off a bD hg h hq =>
  refine .ptr b g j off a (Nat.lt_of_lt_of_le bD u.len) (fun g' es e w hr => ?_) (fun es e w hr => ?_) fun a0 ha=>u.hq (hq a0 ha)
  ·obtain⟨g1,BW,w1,h1,h2,_⟩:=u.row b g' es e w bD hr
   exact Nat.le_trans (hg _ _ _ _ h1) h2
  ·obtain⟨g1,BW,w1,h1,h2,h3⟩:=u.row b g es e w bD hr
   have h4:=hg _ _ _ _ h1
   have h5:g=g1:=by omega
   subst h5
   rw[h3 rfl]
   exact h _ _ _ h1
 | uG f fS ps _ ih=>exact .uG _ _ _ ih
 | nil=>exact .nil
 | cons x v xs vs _ _ ih RQ=>exact .cons _ _ _ _ ih RQ
theorem VL.mono (u:Up V V') {xs:List VV} {vs:List Value} (h:VL V xs vs):VL V' xs vs:=by
 induction xs generalizing vs with
 | nil=>cases h;exact .nil
 |
  cons x xs ih=>cases h with
  | cons _ v _ vs h hs=>exact .cons _ _ _ _ (h.mono u) (ih hs)
end
section
variable {V:View} {xs ys:List VV} {vs ws:List Value}
theorem VL.length:∀ {xs:List VV} {vs:List Value},VL V xs vs→vs.length=xs.length
 | _,_,.nil=>rfl
 | _,_,.cons _ _ _ _ _ hs=>by simp[hs.length]
theorem VL.append:∀ {xs:List VV} {vs:List Value},VL V xs vs→VL V ys ws→VL V (xs++ys) (vs++ws)
 | _,_,.nil,h'=>h'
 | _,_,.cons _ _ _ _ h hs,h' => .cons _ _ _ _ h (hs.append h')
theorem VL.take (n:Nat):∀ {xs:List VV} {vs:List Value} ,VL V xs vs→VL V (xs.take n) (vs.take n):=by
 induction n with
 | zero=>intro xs vs _;simp;exact .nil
 |
  succ n ih=>intro xs vs h;cases h with
  | nil=>simp;exact .nil
  | cons x v xs vs h hs=>exact .cons _ _ _ _ h (ih hs)
theorem VL.drop (n:Nat):∀ {xs:List VV} {vs:List Value} ,VL V xs vs→VL V (xs.drop n) (vs.drop n):=by
 induction n with
 | zero=>intro xs vs h;simpa using h
 |
  succ n ih=>intro xs vs h;cases h with
  | nil=>simp;exact .nil
  | cons x v xs vs h hs=>exact ih hs
theorem VL.get (h:VL V xs vs) {i:Nat} {x:VV} (hx:xs[i]? = some x):∃v,vs[i]? = some v∧VR V x v:=by
 induction i generalizing xs vs with
 |
  zero=>cases h with
  | nil=>cases hx
  | cons y v xs vs h hs=>simp at hx;subst hx;exact⟨v,rfl,h⟩
 |
  succ i ih=>cases h with
  | nil=>cases hx
  | cons y v xs vs h hs=>exact ih hs (by simpa using hx)
theorem VL.map {α:Type} {f:α→VV} {g:α→Value}:∀ {l:List α},(∀x∈l,VR V (f x) (g x))→VL V (l.map f) (l.map g)
 | [],_ => .nil
 | x::l,h => .cons _ _ _ _ (h x (by simp)) (VL.map fun y hy=>h y (by simp[hy]))
theorem VL.replicate {x:VV} {v:Value} (h:VR V x v):∀n,VL V (List.replicate n x) (List.replicate n v)
 | 0 => .nil
 | n+1 => .cons _ _ _ _ h (VL.replicate h n)
theorem VL.iZ {cs new:List VV} {ps pn:List Value} (h:VL V cs ps) (hn:VL V new pn) (o:Nat):VL V (cS cs o new) (iZ ps o pn):=by
 unfold cS PM.iZ
 rw[←hn.length]
 exact((h.take o).append hn).append (h.drop _)
theorem VR.jI (v:Value):VR V (jI v) v:=by
 unfold PM.jI
 split
 ·exact .nG _ (.inr rfl)
 ·split
  ·rename_i h;exact .sc _ h
  ·exact .any _
theorem VR.inj (v:Value):VR V (inj v) v:=by
 unfold PM.inj
 split
 ·rename_i cs
  have:(Value.agg cs) = .agg cs.toList.toArray:=by simp
  rw[this]
  refine .agg _ _ ?_
  have:=VL.map (V:=V) (f:=PM.jI) (g:=id) (l:=cs.toList) fun x _=>VR.jI x
  simpa using this
 ·rename_i vs
  split
  ·rename_i h
   have:vs=[].toArray:=by simpa using h
   rw[this]
   exact .dL _ _ .nil
  ·exact .any _
 ·exact VR.jI _
theorem VL.zero (z:List Value):VL V (z.map PM.jI) z:=by
 have:=VL.map (V:=V) (f:=PM.jI) (g:=id) (l:=z) fun x _=>VR.jI x
 simpa using this
theorem VR.cells {x:VV} {v:Value} (h:VR V x v) (hx:x ≠ .any):VL V (aB x) (aO v):=by
 cases h with
 | any=>exact absurd rfl hx
 |
  sc v h =>
  have:aO v=[v]:=by cases v<;>first | rfl | cases h
  rw[this]
  exact .cons _ _ _ _ (.sc v h) .nil
 | agg cs ps h=>simpa[aB,aO] using h
 | dL cs ps h=>exact .cons _ _ _ _ (.dL _ _ h) .nil
 | nG k hk=>exact .cons _ _ _ _ (.nG k hk) .nil
 | tree es k b o c r e p hF hb ho hc he hk hl=>exact .cons _ _ _ _ (.tree es k b o c r e p hF hb ho hc he hk hl) .nil
 | cK x off b o r e p hF hb ho hl=>exact .cons _ _ _ _ (.cK x off b o r e p hF hb ho hl) .nil
 | ref b g o n c a n' c' bD hg h hq=>exact .cons _ _ _ _ (.ref b g o n c a n' c' bD hg h hq) .nil
 | ptr b g j off a bD hg h hq=>exact .cons _ _ _ _ (.ptr b g j off a bD hg h hq) .nil
 | uG f fS ps h=>exact .cons _ _ _ _ (.uG _ _ _ h) .nil
theorem VR.gS {x:VV} {v:Value} (h:VR V x v) (hx:cI x=true):gS v=true:=by
 cases h with
 | sc v h=>cases v<;>first | rfl | cases h
 | any=>cases hx
 | agg=>cases hx
 | dL=>cases hx
 | _=>rfl
theorem VL.gS:∀ {xs:List VV} {vs:List Value},VL V xs vs→xs.all cI=true→vs.all PM.gS=true
 | _,_,.nil,_=>rfl
 |
  _,_,.cons _ _ _ _ h hs,hx=>by
  rw[List.all_cons,Bool.and_eq_true] at hx ⊢
  exact⟨h.gS hx.1,hs.gS hx.2⟩
theorem R8 {x:VV} (h:(aB x).all cI=true):x ≠ .any:=by
 rintro rfl
 cases h
theorem kE {es:List VV} {e:Nat} (he:∀x∈es,(aB x).length=e):(es.flatMap aB).length=es.length*e:=by
 induction es with
 | nil=>simp
 |
  cons x xs ih =>
  rw[List.flatMap_cons,List.length_append,ih fun y hy=>he y (List.mem_cons_of_mem _ hy),he x List.mem_cons_self,List.length_cons,Nat.succ_mul]
  omega
theorem tO {es:List VV} {e:Nat} (he:∀x∈es,(aB x).length=e) (i:Nat):(es.flatMap aB).drop (i*e)=(es.drop i).flatMap aB:=by
 induction i generalizing es with
 | zero=>simp
 |
  succ i ih =>
  cases es with
  | nil=>simp
  |
   cons x xs =>
   have hx:=he x List.mem_cons_self
   rw[List.flatMap_cons,List.drop_succ_cons,←ih fun y hy=>he y (List.mem_cons_of_mem _ hy),show (i+1)*e=(aB x).length+i*e by rw[hx,Nat.succ_mul];omega,List.drop_append]
   simp
theorem tG {es:List VV} {e:Nat} (he:∀x∈es,(aB x).length=e) (i:Nat):(es.flatMap aB).take (i*e)=(es.take i).flatMap aB:=by
 induction i generalizing es with
 | zero=>simp
 |
  succ i ih =>
  cases es with
  | nil=>simp
  |
   cons x xs =>
   have hx:=he x List.mem_cons_self
   rw[List.flatMap_cons,List.take_succ_cons,List.flatMap_cons,←ih fun y hy=>he y (List.mem_cons_of_mem _ hy),show (i+1)*e=(aB x).length+i*e by rw[hx,Nat.succ_mul];omega,List.take_append]
   simp
   exact List.take_of_length_le (by omega)
theorem KY {es:List VV} {e:Nat} (he:∀x∈es,(aB x).length=e) {j:Nat} {x:VV} (hx:es[j]? = some x):((es.flatMap aB).drop (j*e)).take e=aB x:=by
 obtain⟨bD,G6⟩:=List.getElem?_eq_some_iff.1 hx
 rw[tO he,List.drop_eq_getElem_cons bD,G6,List.flatMap_cons,List.take_append,←he x (List.mem_of_getElem? hx)]
 simp
theorem wE {es new:List VV} {e:Nat} (he:∀x∈es,(aB x).length=e) (hn:∀x∈new,(aB x).length=e) (o:Nat):cS (es.flatMap aB) (o*e) (new.flatMap aB)=(cS es o new).flatMap aB:=by
 unfold cS
 rw[tG he,kE hn,show o*e+new.length*e=(o+new.length)*e by rw[Nat.add_mul],tO he]
 simp
theorem HP {es:List VV} {j:Nat} {x:VV} (hj:j<es.length):cS es j [x]=es.set j x:=by
 unfold cS
 rw[List.set_eq_take_append_cons_drop,if_pos hj]
 simp
theorem PY {cs new:List VV} {o:Nat} (h:o+new.length≤cs.length):(cS cs o new).length=cs.length:=by
 unfold cS
 simp
 omega
theorem Ir {cs new:List VV} {o:Nat} {x:VV} (h:x∈cS cs o new):x∈cs∨x∈new:=by
 unfold cS at h
 rw[List.mem_append,List.mem_append] at h
 rcases h with(h | h) | h
 ·exact .inl (List.mem_of_mem_take h)
 ·exact .inr h
 ·exact .inl (List.mem_of_mem_drop h)
theorem nB {cs:List VV} (h:cs.all cI=true):aB (elemOf cs)=cs:=by
 unfold elemOf
 split
 ·rename_i x
  simp only[List.all_cons,List.all_nil,Bool.and_true] at h
  cases x<;>first | rfl | cases h
 ·rfl
theorem cN {H:aA} {b g:Nat} {es:List VV} {e:Nat} {w:Bool}:aP H b g=some (es,e,w)↔H[b]? = some (.row g es e w):=by
 unfold aP
 constructor
 ·intro h
  split at h
  ·rename_i hb
   split at h
   ·rename_i hg;subst hg;cases h;exact hb
   ·cases h
  ·cases h
 ·intro h
  rw[h]
  simp
end
structure SR (V:View) (lo dS:Nat):Prop where
 row:∀b g es e w,V.H[b]? = some (.row g es e w)→∃r p,V.P[V.m b]? = some (.row r e p)∧(∀x∈es,(aB x).length=e)∧VL V (es.flatMap aB) r
 wr:∀b g es e,V.H[b]? = some (.row g es e true)→¬V.F (V.m b)∧(lo≤b→dS≤V.m b)
 inj:∀a b g es e w g' mO e' w',V.H[a]? = some (.row g es e w)→V.H[b]? = some (.row g' mO e' w')→V.m a=V.m b→a=b
 fr:∀b,V.F b→b<V.P.length
 RF:dS≤V.P.length
 Jf:V.base≤V.P.length
structure Eh (lo:Nat) (V V':View):Prop extends Up V V' where
 eI:∀q,q<V.P.length→(∀b g es e,V.H[b]? = some (.row g es e true)→lo≤b→V.m b≠q)→V'.P[q]? = V.P[q]?
 Cd:∀q,V'.F q→V.F q∨V.P.length≤q∨∃b g es e w,V.H[b]? = some (.row g es e w)∧V.m b=q
section
variable {V V' PB:View} {lo:Nat}
theorem Eh.refl (lo:Nat) (V:View):Eh lo V V :=
 { Up.refl V with eI:=fun _ _ _=>rfl,Cd:=fun _ h => .inl h }
theorem Eh.trans (h:Eh lo V V') (h':Eh lo V' PB):Eh lo V PB :=
 { Up.trans h.toUp h'.toUp with
  eI:=fun q hq hn=>by
   rw[h'.eI q (Nat.lt_of_lt_of_le hq h.DV) ?_,h.eI q hq hn]
   intro b g es e hb hl hm
   obtain⟨g1,BW,w1,h1,h2,h3⟩:=h.BB b g es e true hb (by rw[hm];exact hq)
   have:=h3 rfl
   subst this
   exact hn b g1 BW e h1 hl (h2.symm.trans hm)
  Cd:=fun q hq=>by
   rcases h'.Cd q hq with h1 | h1 | ⟨b,g,es,e,w,h1,h2⟩
   ·exact h.Cd q h1
   ·exact .inr (.inl (Nat.le_trans h.DV h1))
   ·rcases Nat.lt_or_ge q V.P.length with hl | hl
    ·obtain⟨g1,BW,w1,h3,h4,_⟩:=h.BB b g es e w h1 (by rw[h2];exact hl)
     exact .inr (.inr ⟨b,g1,BW,e,w1,h3,h4.symm.trans h2⟩)
    ·exact .inr (.inl hl) }
end
end Go.PM
namespace Go.PM
def Xb (m:Nat→Nat) (b v:Nat):Nat→Nat:=fun k=>if k=b then v else m k
theorem lQ {m:Nat→Nat} {b v:Nat}:Xb m b v b=v:=by simp[Xb]
theorem mN {m:Nat→Nat} {b v k:Nat} (h:k≠b):Xb m b v k=m k:=by simp[Xb,h]
section
variable {V:View} {lo dS:Nat}
theorem SR.mlt (hS:SR V lo dS) {b g e:Nat} {es:List VV} {w:Bool} (hb:V.H[b]? = some (.row g es e w)):V.m b<V.P.length:=by
 obtain⟨r,p,h,_⟩:=hS.row b g es e w hb
 exact(List.getElem?_eq_some_iff.1 h).1
theorem Bn (hS:SR V lo dS) (x:LU):SR { V with P:=V.P++[x],F:=fun q=>V.F q∨q=V.P.length } lo dS∧Eh lo V { V with P:=V.P++[x],F:=fun q=>V.F q∨q=V.P.length }:=by
 have hU:Up V { V with P:=V.P++[x],F:=fun q=>V.F q∨q=V.P.length }:=⟨fun _ h => .inl h,fun b hb=>List.getElem?_append_left (hS.fr b hb),Nat.le_refl _,fun b g es e w _ h=>⟨g,es,w,h,Nat.le_refl _,fun _=>rfl⟩,rfl,by simp,fun b g es e w hb _=>⟨g,es,w,hb,rfl,id⟩⟩
 refine⟨⟨fun b g es e w hb => ?_,fun b g es e hb=>⟨fun hF => ?_,(hS.wr b g es e hb).2⟩,hS.inj,fun b hb => ?_,by have:=hS.RF;simp;omega,by have:=hS.Jf;simp;omega⟩,{ hU with eI:=fun q hq _=>List.getElem?_append_left hq,Cd:=fun q hq => ?_ }⟩
 ·obtain⟨r,p,h1,h2,h3⟩:=hS.row b g es e w hb
  exact⟨r,p,by rw[←h1];exact List.getElem?_append_left (hS.mlt hb),h2,h3.mono hU⟩
 ·rcases hF with hF | hF
  ·exact(hS.wr b g es e hb).1 hF
  ·have h1:V.m b=V.P.length:=hF
   have:=hS.mlt hb
   omega
 ·rcases hb with hb | hb
  ·have:=hS.fr b hb
   simp;omega
  ·subst hb;simp
 ·rcases hq with hq | hq
  ·exact .inl hq
  ·exact .inr (.inl (by omega))
theorem qY (hS:SR V lo dS) {es:List VV} {r:List Value} {e:Nat} (p:Bool) (he:∀x∈es,(aB x).length=e) (hl:VL V (es.flatMap aB) r) :
  SR { V with m:=Xb V.m V.H.length V.P.length,H:=V.H++[.row 0 es e true],P:=V.P++[.row r e p] } lo dS∧Eh lo V { V with m:=Xb V.m V.H.length V.P.length,H:=V.H++[.row 0 es e true],P:=V.P++[.row r e p] }:=by
 have BB:∀b g mO e' w,(V.H++[fU.row 0 es e true])[b]? = some (.row g mO e' w)→(b=V.H.length∧g=0∧mO=es∧e'=e∧w=true)∨(b≠V.H.length∧V.H[b]? = some (.row g mO e' w)):=by
  intro b g mO e' w hb
  rcases Nat.lt_trichotomy b V.H.length with h | h | h
  ·rw[List.getElem?_append_left h] at hb
   exact .inr ⟨by omega,hb⟩
  ·subst h
   rw[List.getElem?_append_right (Nat.le_refl _)] at hb
   simp at hb
   obtain⟨h1,h2,h3,h4⟩:=hb
   exact .inl ⟨rfl,h1.symm,h2.symm,h3.symm,h4⟩
  ·rw[List.getElem?_eq_none (by simp;omega)] at hb
   cases hb
 have hU:Up V { V with m:=Xb V.m V.H.length V.P.length,H:=V.H++[.row 0 es e true],P:=V.P++[.row r e p] } :=
  ⟨fun _ h=>h,fun b hb=>List.getElem?_append_left (hS.fr b hb),by simp,fun b g' mO e' w' bD hb=>by
   rcases BB b g' mO e' w' hb with⟨h,_⟩ | ⟨h,hb⟩
   ·omega
   ·exact⟨g',mO,w',hb,Nat.le_refl _,fun _=>mN h⟩,rfl,by simp,fun b g mO e' w hb hm=>by
   rcases BB b g mO e' w hb with⟨rfl,_⟩ | ⟨h,hb⟩
   ·simp only[lQ] at hm
    omega
   ·exact⟨g,mO,w,hb,mN h,id⟩⟩
 refine⟨⟨fun b g mO e' w hb => ?_,fun b g mO e' hb => ?_,fun a b g BW e1 w1 g' Ym e2 w2 ha hb hm => ?_,fun b hb=>by have:=hS.fr b hb;simp;omega,by have:=hS.RF;simp;omega,by have:=hS.Jf;simp;omega⟩,
  { hU with eI:=fun q hq _=>List.getElem?_append_left hq,Cd:=fun q hq => .inl hq }⟩
 ·rcases BB b g mO e' w hb with⟨rfl,rfl,rfl,rfl,rfl⟩ | ⟨h,hb⟩
  ·exact⟨r,p,by simp only[lQ];simp,he,hl.mono hU⟩
  ·obtain⟨r1,p1,h1,h2,h3⟩:=hS.row b g mO e' w hb
   refine⟨r1,p1,?_,h2,h3.mono hU⟩
   simp only[mN h]
   rw[List.getElem?_append_left (hS.mlt hb)]
   exact h1
 ·rcases BB b g mO e' true hb with⟨rfl,_⟩ | ⟨h,hb⟩
  ·simp only[lQ]
   exact⟨fun hF=>by have:=hS.fr _ hF;omega,fun _=>hS.RF⟩
  ·simp only[mN h]
   exact hS.wr b g mO e' hb
 ·rcases BB a g BW e1 w1 ha with⟨rfl,_⟩ | ⟨h,ha⟩
  ·rcases BB b g' Ym e2 w2 hb with⟨rfl,_⟩ | ⟨h',hb⟩
   ·rfl
   ·simp only[lQ,mN h'] at hm
    have:=hS.mlt hb
    omega
  ·rcases BB b g' Ym e2 w2 hb with⟨rfl,_⟩ | ⟨h',hb⟩
   ·simp only[lQ,mN h] at hm
    have:=hS.mlt ha
    omega
   ·simp only[mN h,mN h'] at hm
    exact hS.inj a b _ _ _ _ _ _ _ _ ha hb hm
theorem gG {H:aA} {b:Nat} {x:fU} (hb:b<H.length) {a:Nat} {y:fU} (h:(H.set b x)[a]? = some y):(a=b∧y=x)∨(a≠b∧H[a]? = some y):=by
 by_cases he:a=b
 ·subst he
  rw[List.getElem?_set_self hb] at h
  cases h
  exact .inl ⟨rfl,rfl⟩
 ·rw[List.getElem?_set_ne (Ne.symm he)] at h
  exact .inr ⟨he,h⟩
theorem Dc (hS:SR V lo dS) {b g e:Nat} {es mO:List VV} {r':List Value} (hb:V.H[b]? = some (.row g es e true)) (iC:lo≤b) (he:∀x∈mO,(aB x).length=e) (hl:VL V (mO.flatMap aB) r') {r:List Value} {p:Bool} (hp:V.P[V.m b]? = some (.row r e p)) :
  SR { V with H:=V.H.set b (.row g mO e true),P:=V.P.set (V.m b) (.row r' e p) } lo dS∧Eh lo V { V with H:=V.H.set b (.row g mO e true),P:=V.P.set (V.m b) (.row r' e p) }:=by
 have vB:=(List.getElem?_eq_some_iff.1 hb).1
 have Lr:=hS.mlt hb
 have hU:Up V { V with H:=V.H.set b (.row g mO e true),P:=V.P.set (V.m b) (.row r' e p) } :=
  ⟨fun _ h=>h,fun q hq=>List.getElem?_set_ne (fun h=>(hS.wr b g es e hb).1 (by rw[h];exact hq)),by simp,fun a g' BW e1 w1 bD ha=>by
   rcases gG vB ha with⟨rfl,h⟩ | ⟨_,h⟩
   ·cases h
    exact⟨g,es,true,hb,Nat.le_refl _,fun _=>rfl⟩
   ·exact⟨g',BW,w1,h,Nat.le_refl _,fun _=>rfl⟩,rfl,by simp,fun a g1 BW e1 w1 ha _=>by
   rcases gG vB ha with⟨rfl,h⟩ | ⟨fR,h⟩
   ·cases h
    exact⟨g,es,true,hb,rfl,fun _=>rfl⟩
   ·exact⟨g1,BW,w1,h,rfl,id⟩⟩
 refine⟨⟨fun a g1 BW e1 w1 ha => ?_,fun a g1 BW e1 ha => ?_,fun a c g1 BW e1 w1 g2 Ym e2 w2 ha hc hm => ?_,fun q hq=>by have:=hS.fr q hq;simp;omega,by have:=hS.RF;simp;omega,by have:=hS.Jf;simp;omega⟩,
  { hU with eI:=fun q hq hn=>List.getElem?_set_ne (hn b g es e hb iC),Cd:=fun q hq => .inl hq }⟩
 ·rcases gG vB ha with⟨rfl,h⟩ | ⟨fR,h⟩
  ·cases h
   exact⟨r',p,List.getElem?_set_self Lr,he,hl.mono hU⟩
  ·obtain⟨r1,p1,h1,h2,h3⟩:=hS.row a g1 BW e1 w1 h
   exact⟨r1,p1,by rw[←h1];exact List.getElem?_set_ne (fun hm=>fR (hS.inj _ _ _ _ _ _ _ _ _ _ h hb hm.symm)),h2,h3.mono hU⟩
 ·rcases gG vB ha with⟨rfl,h⟩ | ⟨fR,h⟩
  ·cases h
   exact hS.wr _ _ _ _ hb
  ·exact hS.wr _ _ _ _ h
 ·rcases gG vB ha with⟨rfl,h⟩ | ⟨fR,h⟩<;>rcases gG vB hc with⟨rfl,h'⟩ | ⟨Vb,h'⟩
  ·rfl
  ·exact hS.inj _ _ _ _ _ _ _ _ _ _ hb h' hm
  ·exact hS.inj _ _ _ _ _ _ _ _ _ _ h hb hm
  ·exact hS.inj _ _ _ _ _ _ _ _ _ _ h h' hm
theorem RN (hS:SR V lo dS) {b g e:Nat} {es mO:List VV} {r':List Value} (hb:V.H[b]? = some (.row g es e true)) (iC:lo≤b) (he:∀x∈mO,(aB x).length=e) (hl:VL V (mO.flatMap aB) r') {P1:aE} (hP:P1.length=V.P.length) (hk:∀q,q≠V.m b→P1[q]? = V.P[q]?) (p:Bool) :
  SR { V with m:=Xb V.m b V.P.length,H:=V.H.set b (.row (g+1) mO e true),P:=P1++[.row r' e p] } lo dS∧Eh lo V { V with m:=Xb V.m b V.P.length,H:=V.H.set b (.row (g+1) mO e true),P:=P1++[.row r' e p] }:=by
 have vB:=(List.getElem?_eq_some_iff.1 hb).1
 have Lr:=hS.mlt hb
 have zD:∀q,q<V.P.length→q≠V.m b→(P1++[LU.row r' e p])[q]? = V.P[q]? := fun q hq hn=>by rw[List.getElem?_append_left (by omega)];exact hk q hn
 have hU:Up V { V with m:=Xb V.m b V.P.length,H:=V.H.set b (.row (g+1) mO e true),P:=P1++[.row r' e p] } :=
  ⟨fun _ h=>h,fun q hq=>zD q (hS.fr q hq) (fun h=>(hS.wr b g es e hb).1 (by rw[←h];exact hq)),by simp,fun a g' BW e1 w1 bD ha=>by
   rcases gG vB ha with⟨rfl,h⟩ | ⟨fR,h⟩
   ·cases h
    exact⟨g,es,true,hb,by omega,fun h=>by omega⟩
   ·exact⟨g',BW,w1,h,Nat.le_refl _,fun _=>mN fR⟩,rfl,by simp;omega,fun a g1 BW e1 w1 ha hm=>by
   rcases gG vB ha with⟨rfl,h⟩ | ⟨fR,h⟩
   ·simp only[lQ] at hm
    omega
   ·exact⟨g1,BW,w1,h,mN fR,id⟩⟩
 refine⟨⟨fun a g1 BW e1 w1 ha => ?_,fun a g1 BW e1 ha => ?_,fun a c g1 BW e1 w1 g2 Ym e2 w2 ha hc hm => ?_,fun q hq=>by have:=hS.fr q hq;simp;omega,by have:=hS.RF;simp;omega,by have:=hS.Jf;simp;omega⟩,
  { hU with eI:=fun q hq hn=>zD q hq (Ne.symm (hn b g es e hb iC)),Cd:=fun q hq => .inl hq }⟩
 ·rcases gG vB ha with⟨rfl,h⟩ | ⟨fR,h⟩
  ·cases h
   refine⟨r',p,?_,he,hl.mono hU⟩
   simp only[lQ]
   rw[←hP]
   simp
  ·obtain⟨r1,p1,h1,h2,h3⟩:=hS.row a g1 BW e1 w1 h
   refine⟨r1,p1,?_,h2,h3.mono hU⟩
   simp only[mN fR]
   rw[zD _ (hS.mlt h) (fun hm=>fR (hS.inj _ _ _ _ _ _ _ _ _ _ h hb hm))]
   exact h1
 ·rcases gG vB ha with⟨rfl,h⟩ | ⟨fR,h⟩
  ·cases h
   simp only[lQ]
   exact⟨fun hF=>by have:=hS.fr _ hF;omega,fun _=>hS.RF⟩
  ·simp only[mN fR]
   exact hS.wr _ _ _ _ h
 ·rcases gG vB ha with⟨rfl,h⟩ | ⟨fR,h⟩<;>rcases gG vB hc with⟨rfl,h'⟩ | ⟨Vb,h'⟩
  ·rfl
  ·simp only[lQ,mN Vb] at hm
   have:=hS.mlt h'
   omega
  ·simp only[lQ,mN fR] at hm
   have:=hS.mlt h
   omega
  ·simp only[mN fR,mN Vb] at hm
   exact hS.inj _ _ _ _ _ _ _ _ _ _ h h' hm
def View.freeze (V:View) (b:Nat):View :=
 match V.H[b]? with
 | some (.row _ _ _ _)=>{ V with H:=Bd V.H b,F:=fun q=>V.F q∨q=V.m b }
 | _=>V
theorem Rq (V:View) (b:Nat):(V.freeze b).H=Bd V.H b:=by
 unfold View.freeze Bd
 cases h:V.H[b]? with
 | none=>rfl
 | some x=>cases x<;>rfl
theorem Yy (V:View) (b:Nat):(V.freeze b).P=V.P:=by
 unfold View.freeze
 split<;>rfl
theorem RB (V:View) (b:Nat):(V.freeze b).m=V.m:=by
 unfold View.freeze
 split<;>rfl
theorem Oo (hS:SR V lo dS) (b:Nat):SR (V.freeze b) lo dS∧Eh lo V (V.freeze b)∧(∀g es e w,V.H[b]? = some (.row g es e w)→(V.freeze b).F (V.m b)):=by
 unfold View.freeze
 split
 case h_2 fR=>exact⟨hS,Eh.refl _ _,fun g es e w h=>absurd h (fR _ _ _ _)⟩
 rename_i g es e w hb
 have vB:=(List.getElem?_eq_some_iff.1 hb).1
 have hf:Bd V.H b=V.H.set b (.row g es e false):=by unfold Bd;rw[hb]
 rw[hf]
 have hU:Up V { V with H:=V.H.set b (.row g es e false),F:=fun q=>V.F q∨q=V.m b } :=
  ⟨fun _ h => .inl h,fun _ _=>rfl,by simp,fun a g' BW e1 w1 bD ha=>by
   rcases gG vB ha with⟨rfl,h⟩ | ⟨_,h⟩
   ·cases h
    exact⟨g,es,w,hb,Nat.le_refl _,fun _=>rfl⟩
   ·exact⟨g',BW,w1,h,Nat.le_refl _,fun _=>rfl⟩,rfl,Nat.le_refl _,fun a g1 BW e1 w1 ha hm=>by
   rcases gG vB ha with⟨rfl,h⟩ | ⟨fR,h⟩
   ·cases h
    exact⟨g,es,w,hb,rfl,fun h=>by cases h⟩
   ·exact⟨g1,BW,w1,h,rfl,id⟩⟩
 refine⟨⟨fun a g1 BW e1 w1 ha => ?_,fun a g1 BW e1 ha => ?_,fun a c g1 BW e1 w1 g2 Ym e2 w2 ha hc hm => ?_,fun q hq => ?_,hS.RF,hS.Jf⟩,
  { hU with eI:=fun q hq hn=>rfl,Cd:=fun q hq => ?_ },fun _ _ _ _ _ => .inr rfl⟩
 ·rcases gG vB ha with⟨rfl,h⟩ | ⟨fR,h⟩
  ·cases h
   obtain⟨r1,p1,h1,h2,h3⟩:=hS.row _ _ _ _ _ hb
   exact⟨r1,p1,h1,h2,h3.mono hU⟩
  ·obtain⟨r1,p1,h1,h2,h3⟩:=hS.row _ _ _ _ _ h
   exact⟨r1,p1,h1,h2,h3.mono hU⟩
 ·rcases gG vB ha with⟨rfl,h⟩ | ⟨fR,h⟩
  ·cases h
  ·refine⟨fun hF => ?_,(hS.wr _ _ _ _ h).2⟩
   rcases hF with hF | hF
   ·exact(hS.wr _ _ _ _ h).1 hF
   ·exact fR (hS.inj _ _ _ _ _ _ _ _ _ _ h hb hF)
 ·rcases gG vB ha with⟨rfl,h⟩ | ⟨fR,h⟩<;>rcases gG vB hc with⟨rfl,h'⟩ | ⟨Vb,h'⟩
  ·rfl
  ·exact hS.inj _ _ _ _ _ _ _ _ _ _ hb h' hm
  ·exact hS.inj _ _ _ _ _ _ _ _ _ _ h hb hm
  ·exact hS.inj _ _ _ _ _ _ _ _ _ _ h h' hm
 ·rcases hq with hq | hq
  ·exact hS.fr q hq
  ·subst hq;exact hS.mlt hb
 ·rcases hq with hq | hq
  ·exact .inl hq
  ·exact .inr (.inr ⟨b,g,es,e,w,hb,hq.symm⟩)
end
end Go.PM
namespace Go.PM
section
variable {V:View} {lo dS:Nat} {ρ:cP} {kH:Env}
def ER (V:View) (ρ:cP) (kH:Env):Prop:=∀t,VR V (ρ t) (kH t)
theorem ER.mono {V':View} (u:Up V V') (h:ER V ρ kH):ER V' ρ kH:=fun t=>(h t).mono u
theorem ER.ev (h:ER V ρ kH) (x:Operand):VR V (eG ρ x) (ev kH x):=by
 cases x with
 | tmp t=>exact h t
 | const v=>exact VR.inj v
 | global g=>exact .any _
 | func f=>exact .uG f [] [] .nil
theorem ER.put {d:Option Nat} {x:VV} {v:Value} (h:ER V ρ kH) (hx:VR V x v):ER V (I2 ρ d x) (put kH d v):=by
 cases d with
 | none=>exact h
 |
  some d =>
  intro t
  simp only[I2,PM.put]
  split
  ·exact hx
  ·exact h t
theorem ER.evs (h:ER V ρ kH) (xs:List Operand):VL V (xs.map (eG ρ)) (xs.map (PM.ev kH)):=VL.map fun x _=>h.ev x
def gN (lo dS:Nat) (V:View) (r:Option (Value×aE)) (v:VV) (H':aA):Prop :=
 ∃pv V',r=some (pv,V'.P)∧V'.H=H'∧SR V' lo dS∧Eh lo V V'∧VR V' v pv
theorem gN.pure (hS:SR V lo dS) {r:Option Value} {v:VV} {pv:Value} (h:r=some pv) (hv:VR V v pv):gN lo dS V (r.map (·,V.P)) v V.H :=
 ⟨pv,V,by rw[h];rfl,rfl,hS,Eh.refl _ _,hv⟩
theorem gN.of {V':View} {pv:Value} {v:VV} (h:SR V' lo dS∧Eh lo V V') (hv:VR V' v pv):gN lo dS V (some (pv,V'.P)) v V'.H:=⟨pv,V',rfl,rfl,h.1,h.2,hv⟩
theorem gN.same (hS:SR V lo dS) {v:VV} {pv:Value} (hv:VR V v pv):gN lo dS V (some (pv,V.P)) v V.H :=
 ⟨pv,V,rfl,rfl,hS,Eh.refl _ _,hv⟩
theorem cE {α β:Type} {o:Option α} {f:α→β} {b:β} (h:o.map f=some b):∃a,o=some a∧f a=b:=by
 cases o with
 | none=>cases h
 | some a=>cases h;exact⟨a,rfl,rfl⟩
theorem qJ {x:VV} {v u:Value} (h:VR V x u) (hx:x = .sc v):u=v∧nF v=true:=by
 subst hx
 cases h with
 | sc v h=>exact⟨rfl,h⟩
theorem Y1 {op:BinOp} {a b c:Value} (h:dF op a b=some c):nF c=true:=by
 unfold dF at h
 split at h
 ·split at h<;>cases h;rfl
 ·split at h<;>cases h;rfl
 ·split at h
  ·split at h<;>first | (cases h;rfl) | (split at h<;>cases h<;>rfl) | cases h
  ·cases h
 ·split at h<;>first | (cases h;rfl) | (split at h<;>cases h<;>rfl) | cases h
 ·cases h
theorem aaY {op:UnOp} {a c:Value} (h:Y5 op a=some c):nF c=true:=by
 unfold Y5 at h
 split at h<;>cases h<;>rfl
theorem XC {n:Bool} {a b c:Value} (h:Oy n a b=some c):nF c=true:=by
 unfold Oy at h
 split at h<;>cases h;rfl
theorem Yg {k:IntKind} {a c:Value} (h:SN k a=some c):nF c=true:=by
 unfold SN at h
 split at h<;>cases h;rfl
theorem Xm {a c:Value} (h:U8 a=some c):nF c=true:=by
 unfold U8 at h
 split at h<;>cases h;rfl
theorem WZ {a c:Value} (h:A2 a=some c):nF c=true:=by
 unfold A2 at h
 split at h<;>cases h;rfl
theorem Wf {a b c:Value} (h:Gb a b=some c):nF c=true:=by
 unfold Gb at h
 split at h
 ·split at h<;>cases h;rfl
 ·cases h
theorem X1 {a b c:Value} (h:Ri a b=some c):nF c=true:=by
 unfold Ri at h
 split at h<;>cases h;rfl
theorem Zp {a b c:Value} (h:Qv a b=some c):nF c=true:=by
 unfold Qv at h
 split at h<;>cases h;rfl
theorem DI (hS:SR V lo dS) {f:Value→Option Value} (hf:∀a c,f a=some c→nF c=true) {x v:VV} {u:Value} (hx:VR V x u) (h:KT f x=some v):gN lo dS V ((f u).map (·,V.P)) v V.H:=by
 unfold KT at h
 split at h
 ·obtain⟨h1,_⟩:=qJ hx rfl
  subst h1
  obtain⟨c,hc,rfl⟩:=cE h
  exact gN.pure hS hc (.sc _ (hf _ _ hc))
 ·cases h
theorem AW (hS:SR V lo dS) {f:Value→Value→Option Value} (hf:∀a b c,f a b=some c→nF c=true) {x y v:VV} {u w:Value} (hx:VR V x u) (hy:VR V y w) (h:Gr f x y=some v):gN lo dS V ((f u w).map (·,V.P)) v V.H:=by
 unfold Gr at h
 split at h
 ·obtain⟨h1,_⟩:=qJ hx rfl
  obtain⟨h2,_⟩:=qJ hy rfl
  subst h1 h2
  obtain⟨c,hc,rfl⟩:=cE h
  exact gN.pure hS hc (.sc _ (hf _ _ _ hc))
 ·cases h
theorem RX {α:Type} (l:List α) {o n a k:Nat} (h:a+k≤n):(((l.drop o).take n).drop a).take k=(l.drop (o+a)).take k:=by
 rw[List.drop_take,List.take_take,List.drop_drop,Nat.min_eq_left (by omega)]
theorem Q4 {x v:VV} {agg:Bool} {size off b o e:Nat} {r:List Value} {p:Bool} (hb:V.P[b]? = some (.row r e p)) (ho:o+(aB x).length≤r.length) (hl:VL V (aB x) ((r.drop o).take (aB x).length)) (h:dA agg size x off=some v) :
  ∃u,nO agg size (.pointer (some ⟨b,o+off,none⟩)) V.P=some u∧VR V v u:=by
 unfold dA at h
 cases agg with
 |
  true =>
  simp only[if_true] at h
  split at h
  ·rename_i hs
   cases h
   refine⟨.agg ((r.drop (o+off)).take size).toArray,?_,.agg _ _ ?_⟩
   ·simp only[nO,if_true,A6 hb (show o+off+size≤r.length by omega)]
    rfl
   ·have:=(hl.drop off).take size
    rw[RX _ hs] at this
    exact this
  ·cases h
 |
  false =>
  simp only[Bool.false_eq_true,if_false] at h
  obtain⟨u,hu,hv⟩:=hl.get h
  have agF:=(List.getElem?_eq_some_iff.1 h).1
  rw[List.getElem?_take,if_pos agF,List.getElem?_drop] at hu
  refine⟨u,?_,hv⟩
  have bD:=(List.getElem?_eq_some_iff.1 hu).1
  simp only[nO,Bool.false_eq_true,if_false,A6 hb (show o+off+1≤r.length by omega)]
  rw[List.drop_eq_getElem_cons bD]
  simp only[List.take_succ_cons,List.take_zero]
  rw[List.getElem?_eq_getElem bD] at hu
  injection hu with hu
  rw[hu]
theorem JL (hS:SR V lo dS) {b g e j:Nat} {es:List VV} {w:Bool} {x:VV} (hb:V.H[b]? = some (.row g es e w)) (hx:es[j]? = some x) :
  ∃r p,V.P[V.m b]? = some (.row r e p)∧(aB x).length=e∧j*e+(aB x).length≤r.length∧VL V (aB x) ((r.drop (j*e)).take (aB x).length):=by
 obtain⟨r,p,h1,h2,h3⟩:=hS.row b g es e w hb
 have hxe:=h2 x (List.mem_of_getElem? hx)
 have hj:=(List.getElem?_eq_some_iff.1 hx).1
 have hlen:=h3.length
 rw[kE h2] at hlen
 have hm:(j+1)*e≤es.length*e:=Nat.mul_le_mul_right _ hj
 rw[Nat.succ_mul] at hm
 refine⟨r,p,h1,hxe,by omega,?_⟩
 have:=(h3.drop (j*e)).take e
 rw[KY h2 hx] at this
 rw[hxe]
 exact this
theorem K8 (hS:SR V lo dS) {p v:VV} {u:Value} {agg:Bool} {size:Nat} (hp:VR V p u) (h:dN agg size p V.H=some v):∃w,nO agg size u V.P=some w∧VR V v w:=by
 unfold dN at h
 split at h
 ·cases hp with
  | cK x off b o r e p hF hb ho hl=>exact Q4 hb ho hl h
 ·split at h
  ·rename_i es e w hr
   rw[cN] at hr
   split at h
   ·rename_i x hx
    cases hp with
    |
     ptr b g j off a bD hg ha hq =>
     have:=ha _ _ _ hr
     subst this
     obtain⟨r,p,h1,h2,h3,h4⟩:=JL hS hr hx
     exact Q4 h1 h3 h4 h
   ·cases h
  ·cases h
 ·cases h
theorem QE (hS:SR V lo dS) {x i v:VV} {u k:Value} {size:Nat} (hx:VR V x u) (hi:VR V i k) (h:bJ size x i V.H=some v):∃w,NP size u k=some w∧VR V v w:=by
 unfold bJ at h
 split at h
 ·rename_i es tk ik i
  obtain⟨rfl,_⟩:=qJ hi rfl
  split at h
  ·rename_i h0
   split at h
   ·rename_i y hy
    split at h
    ·rename_i CJ
     cases h
     have bD:=(List.getElem?_eq_some_iff.1 hy).1
     cases hx with
     | nG=>simp at bD
     |
      tree es k b o c r e p hF hb ho hc he hk hl =>
      have hye:=he y (List.mem_of_getElem? hy)
      have L9:e=size:=by omega
      subst L9
      have hm:(i.toNat+1)*e≤es.length*e:=Nat.mul_le_mul_right _ bD
      rw[Nat.succ_mul] at hm
      refine⟨_,QU h0 (by omega),?_⟩
      have h1:=(hl.drop (i.toNat*e)).take e
      rw[KY he hy,RX _ (by omega)] at h1
      exact .cK y 0 b (o+i.toNat*e) r e p hF hb (by omega) (by rw[hye];exact h1)
    ·cases h
   ·cases h
  ·cases h
 ·rename_i b g o n c ik i
  obtain⟨rfl,_⟩:=qJ hi rfl
  split at h
  ·rename_i es e w hr
   rw[cN] at hr
   split at h
   ·rename_i hc
    obtain⟨rfl,h0,h1⟩:=hc
    cases h
    cases hx with
    |
     ref b g o n c a n' c' bD hg ha hq =>
     obtain⟨rfl,rfl,rfl⟩:=ha _ _ _ hr
     refine⟨_,QU h0 h1,.ptr b g (o+i.toNat) 0 _ bD hg (fun mO e' w' G7 => ?_) fun a0 h=>by cases h;exact hq ⟨V.m b,o*e,none⟩ rfl⟩
     rw[hr] at G7
     cases G7
     rw[Nat.add_mul,Nat.add_zero]
   ·cases h
  ·cases h
 ·cases h
theorem A7 {l:Option Operand} {lv:Option Value} (hE:ER V ρ kH) (h:FB (l.map (eG ρ))=some lv):l.map (ev kH)=lv:=by
 cases l with
 | none=>cases h;rfl
 |
  some x =>
  simp only[Option.map_some,FB] at h
  split at h
  ·rename_i hv;cases hv
  ·rename_i v hv
   cases h
   injection hv with hv
   obtain⟨h1,_⟩:=qJ (hE.ev x) hv
   rw[Option.map_some,h1]
  ·cases h
theorem Hw {v:Option Value} {d:Option Nat} {t x:Nat} (hd:∀y,d=some y→y≤t) (h:eV v d t=some x):x≤t:=by
 unfold eV at h
 split at h
 ·exact hd _ h
 ·split at h
  ·cases h;omega
  ·cases h
 ·cases h
theorem My {v:Option Value} {d d':Option Nat} {t t' x:Nat} (ht:t≤t') (hd:v=none→d=d') (h:eV v d t=some x):eV v d' t'=some x:=by
 unfold eV at h ⊢
 cases v with
 | none=>rw[←hd rfl];exact h
 |
  some v =>
  cases v with
  |
   int k i =>
   simp only at h ⊢
   split at h
   ·rename_i h1;rw[if_pos (by omega)];exact h
   ·cases h
  | _=>simp only at h ⊢;exact h
theorem MN (hS:SR V lo dS) (size:Nat):gN lo dS V (some (.slice (some ⟨V.P.length,0,none⟩) 0 0,V.P++[.row [] size false])) (.tree [] (.cl size)) V.H:=by
 exact(gN.of (Bn hS (.row [] size false)) (.tree [] (.cl size) V.P.length 0 0 [] size false (.inr rfl) (by simp) (by simp) (by simp) (fun x hx=>by cases hx) ⟨rfl,rfl,rfl⟩ (by simp;exact .nil)) :)
theorem V7 (hS:SR V lo dS) (hE:ER V ρ kH) {x v:VV} {u:Value} {size:Nat} {l h m:Option Operand} (hx:VR V x u) (hv:Fs size x (l.map (eG ρ)) (h.map (eG ρ)) (m.map (eG ρ)) V.H=some v) :
  gN lo dS V (Cb size u (l.map (ev kH)) (h.map (ev kH)) (m.map (ev kH)) V.P) v V.H:=by
 unfold Fs at hv
 split at hv
 case h_2=>cases hv
 rename_i lv hhv mv hl hh hm
 rw[A7 hE hl,A7 hE hh,A7 hE hm]
 split at hv
 ·rename_i y ys tk
  split at hv
  case isFalse=>cases hv
  rename_i CJ
  split at hv
  ·cases hv
  rename_i m0 hm0
  split at hv
  ·cases hv
  rename_i h0 hh0
  split at hv
  ·cases hv
  rename_i l0 zX
  cases hx with
  |
   tree es k b o c r e p hF hb ho hc he hk hl =>
   have L9:e=size:=by rw[←he y List.mem_cons_self];exact CJ
   subst L9
   have hlen:(y::ys).length=ys.length+1:=rfl
   rw[hlen] at ho hc
   have b1:m0≤ys.length+1:=Hw (fun z hz=>by injection hz with hz;omega) hm0
   have b2:h0≤m0:=by
    refine Hw (fun z hz => ?_) hh0
    split at hz
    ·cases hz
    ·rename_i hmn
     injection hz with hz
     have:mv=none:=by cases mv<;>simp_all
     subst this
     simp[eV] at hm0
     omega
   have b3:l0≤h0:=Hw (fun z hz=>by injection hz with hz;omega) zX
   have e1:eV mv (some c) c=some (if mv.isSome then m0 else c):=by
    cases mv with
    | none=>rfl
    | some q=>exact My hc (fun hq=>by cases hq) hm0
   have e2:eV hhv (if mv.isSome then none else some (ys.length+1)) (if mv.isSome then m0 else c)=some h0:=by
    cases mv with
    |
     none =>
     simp only[Option.isSome_none,Bool.false_eq_true,if_false] at hh0 ⊢
     exact My (by omega) (fun _=>rfl) hh0
    | some q=>exact hh0
   unfold Cb
   simp only[hb,if_true]
   rw[e1]
   simp only
   rw[hlen,e2]
   simp only
   rw[zX]
   simp only
   by_cases kX:mv.isSome=true∧m0=l0
   ·rw[if_pos kX] at hv
    cases hv
    rw[if_pos ⟨kX.1,by rw[if_pos kX.1];exact kX.2⟩]
    exact MN hS e
   ·rw[if_neg kX] at hv
    cases hv
    rw[if_neg (fun hh=>kX ⟨hh.1,by have:=hh.2;rw[if_pos hh.1] at this;exact this⟩)]
    have bD:(((y::ys).drop l0).take (h0-l0)).length=h0-l0:=by simp;omega
    have Kc:l0*e+(h0-l0)*e=h0*e:=by rw[←Nat.add_mul];congr 1;omega
    have Xg:h0*e≤(ys.length+1)*e:=Nat.mul_le_mul_right _ (by omega)
    have O2:h0-l0≤(if mv.isSome then m0 else c)-l0:=by split<;>omega
    have:=VR.tree (V:=V) (((y::ys).drop l0).take (h0-l0)) .op b (o+l0*e) ((if mv.isSome then m0 else c)-l0) r e p hF hb (by rw[bD];omega) (by rw[bD];exact O2) (fun z hz=>he z (List.mem_of_mem_drop (List.mem_of_mem_take hz))) trivial (by
     rw[bD]
     have h1:=(hl.drop (l0*e)).take ((h0-l0)*e)
     rw[RX _ (by rw[hlen];omega),tO he,tG (fun z hz=>he z (List.mem_of_mem_drop hz))] at h1
     exact h1)
    rw[bD] at this
    exact gN.same hS this
 ·rename_i b g o n c
  split at hv
  case h_2=>cases hv
  rename_i es e w hr
  rw[cN] at hr
  split at hv
  case isFalse=>cases hv
  rename_i CJ
  subst CJ
  split at hv
  ·cases hv
  rename_i m0 hm0
  split at hv
  ·cases hv
  rename_i h0 hh0
  split at hv
  ·cases hv
  rename_i l0 zX
  cases hx with
  |
   ref b g o n c a n' c' bD hg ha hq =>
   obtain⟨rfl,rfl,rfl⟩:=ha _ _ _ hr
   obtain⟨r,p,h1,_⟩:=hS.row b g es e w hr
   unfold Cb
   simp only[h1,if_true]
   rw[hm0]
   simp only
   rw[hh0]
   simp only
   rw[zX]
   simp only
   by_cases kX:mv.isSome=true∧m0=l0
   ·rw[if_pos kX] at hv
    cases hv
    rw[if_pos kX]
    exact MN hS e
   ·rw[if_neg kX] at hv
    cases hv
    rw[if_neg kX]
    refine gN.same hS (.ref b g (o+l0) _ _ _ _ _ bD hg (fun mO e' w' G7 => ?_) fun a0 h=>by cases h;exact hq ⟨V.m b,o*e,none⟩ rfl)
    rw[hr] at G7
    cases G7
    exact⟨by rw[Nat.add_mul],rfl,rfl⟩
 ·cases hv
theorem AT {es:List VV} (h:(es.all fun x=>(aB x).all cI)=true):(es.flatMap aB).all cI=true:=by
 rw[List.all_eq_true] at h ⊢
 intro x hx
 obtain⟨y,hy,Ap⟩:=List.mem_flatMap.1 hx
 exact List.all_eq_true.1 (h y hy) x Ap
theorem wJ (hS:SR V lo dS) {y:VV} {u:Value} {size:Nat} {new:List VV} (hy:VR V y u) (h:eW size y V.H=some new) :
  rQ u=some new.length∧(∀x∈new,(aB x).length=size)∧(new.flatMap aB).all cI=true∧∀n,n≤new.length→∃pn,jL V.P size n u=some pn∧VL V ((new.take n).flatMap aB) pn:=by
 unfold eW at h
 split at h
 ·rename_i es tk
  split at h
  case isFalse=>cases h
  rename_i lP
  cases h
  have Zb:∀x∈new,(aB x).length=size∧(aB x).all cI=true:=fun x hx=>by
   have:=List.all_eq_true.1 lP x hx
   simpa using this
  refine⟨?_,fun x hx=>(Zb x hx).1,AT (List.all_eq_true.2 fun x hx=>(Zb x hx).2),fun n hn => ?_⟩
  ·cases hy<;>rfl
  ·cases hy with
   |
    nG k hk =>
    have:n=0:=by simpa using hn
    subst this
    exact⟨[],rfl,by simp;exact .nil⟩
   |
    tree es k b o c r e p hF hb ho hc he hk hl =>
    cases L9:new with
    |
     nil =>
     rw[L9] at hn
     have:n=0:=by simpa using hn
     subst this
     refine⟨[],?_,by simp;exact .nil⟩
     simp only[jL,Nat.zero_mul]
     rw[A6 hb (by omega)]
     simp
    |
     cons x xs =>
     have O0:e=size:=by rw[←he x (by rw[L9];exact List.mem_cons_self)];exact(Zb x (by rw[L9];exact List.mem_cons_self)).1
     subst O0
     have hm:n*e≤new.length*e:=Nat.mul_le_mul_right _ hn
     refine⟨_,by simp only[jL];exact A6 hb (by omega),?_⟩
     rw[←L9,←tG he]
     have h1:=hl.take (n*e)
     rw[List.take_take,Nat.min_eq_left hm] at h1
     exact h1
 ·rename_i b g o n c
  split at h
  case h_2=>cases h
  rename_i es e w hr
  rw[cN] at hr
  split at h
  case isFalse=>cases h
  rename_i hc
  obtain⟨rfl,hlen,lP⟩:=hc
  cases h
  obtain⟨r,p,h1,h2,h3⟩:=hS.row b g es e w hr
  have hn2:((es.drop o).take n).length=n:=by simp;omega
  have FX:=h3.length
  rw[kE h2] at FX
  cases hy with
  |
   ref b g o n c a n' c' bD hg ha hq =>
   obtain⟨rfl,rfl,rfl⟩:=ha _ _ _ hr
   have YZ:∀x∈(es.drop o).take n',(aB x).length=e:=fun x hx=>h2 x (List.mem_of_mem_drop (List.mem_of_mem_take hx))
   refine⟨by rw[hn2];rfl,YZ,AT lP,fun k hk => ?_⟩
   rw[hn2] at hk
   have hm:(o+k)*e≤es.length*e:=Nat.mul_le_mul_right _ (by omega)
   rw[Nat.add_mul] at hm
   refine⟨_,by simp only[jL];exact A6 h1 (by omega),?_⟩
   rw[List.take_take,Nat.min_eq_left hk]
   have h4:=(h3.drop (o*e)).take (k*e)
   rw[tO h2,tG (fun x hx=>h2 x (List.mem_of_mem_drop hx))] at h4
   exact h4
 ·rename_i s
  split at h
  case isFalse=>cases h
  rename_i hs
  subst hs
  cases h
  obtain⟨rfl,_⟩:=qJ hy rfl
  have hlen:(s.data.toList.map fun b=>VV.sc (.int .u8 (b.toNat:Int))).length=s.size:=by simp
  refine⟨by rw[hlen];rfl,fun x hx => ?_,?_,fun n hn => ?_⟩
  ·obtain⟨b,_,rfl⟩:=List.mem_map.1 hx
   rfl
  ·refine AT (List.all_eq_true.2 fun x hx => ?_)
   obtain⟨b,_,rfl⟩:=List.mem_map.1 hx
   rfl
  ·refine⟨(s.data.toList.take n).map fun b=>Value.int .u8 (b.toNat:Int),by simp only[jL,if_true],?_⟩
   rw[←List.map_take,List.flatMap_map]
   have:((s.data.toList.take n).flatMap fun a=>aB (VV.sc (.int .u8 (a.toNat:Int))))=(s.data.toList.take n).map fun a=>VV.sc (.int .u8 (a.toNat:Int)):=by
    generalize s.data.toList.take n=l
    induction l with
    | nil=>rfl
    | cons a l ih=>rw[List.flatMap_cons,ih];rfl
   rw[this]
   exact VL.map fun b _ => .sc _ rfl
 ·cases h
end
end Go.PM
namespace Go.PM
section
variable {V:View} {lo dS:Nat} {ρ:cP} {kH:Env}
theorem Jo (hS:SR V lo dS) {es:List VV} {r:List Value} {e n c:Nat} {p:Bool}:VR { V with m:=Xb V.m V.H.length V.P.length,H:=V.H++[.row 0 es e true],P:=V.P++[.row r e p] } (.ref V.H.length 0 0 n c) (.slice (some ⟨V.P.length,0,none⟩) n c):=by
 refine .ref _ _ _ _ _ _ _ _ (by simp) (fun g' es e w _=>Nat.zero_le _) (fun mO e' w' h=>⟨?_,rfl,rfl⟩) fun a0 ha => ?_
 ·simp only[lQ,Nat.zero_mul]
 ·cases ha
  refine⟨hS.Jf,by simp,fun b' g' mO e' w' hb fR hm => ?_⟩
  have yY:(V.H++[fU.row 0 es e true])[b']? = some (.row g' mO e' w'):=hb
  have bD:b'<V.H.length:=by
   have:=(List.getElem?_eq_some_iff.1 yY).1
   simp at this
   omega
  rw[List.getElem?_append_left bD] at yY
  have h2:=hS.mlt yY
  simp only[mN (show b'≠V.H.length by omega)] at hm
  omega
theorem UU (hS:SR V lo dS) {es:List VV} {r:List Value} {e:Nat} {p:Bool}:VR { V with m:=Xb V.m V.H.length V.P.length,H:=V.H++[.row 0 es e true],P:=V.P++[.row r e p] } (.ptr V.H.length 0 0 0) (.pointer (some ⟨V.P.length,0,none⟩)):=by
 refine .ptr _ _ _ _ _ (by simp) (fun g' es e w _=>Nat.zero_le _) (fun mO e' w' h => ?_) fun a0 ha => ?_
 ·simp only[lQ,Nat.zero_mul]
 ·cases ha
  refine⟨hS.Jf,by simp,fun b' g' mO e' w' hb fR hm => ?_⟩
  have yY:(V.H++[fU.row 0 es e true])[b']? = some (.row g' mO e' w'):=hb
  have bD:b'<V.H.length:=by
   have:=(List.getElem?_eq_some_iff.1 yY).1
   simp at this
   omega
  rw[List.getElem?_append_left bD] at yY
  have h2:=hS.mlt yY
  simp only[mN (show b'≠V.H.length by omega)] at hm
  omega
theorem Ff (hS:SR V lo dS) {x v:VV} {u:Value} {size bytes:Nat} {nw:List VV} {pn:List Value} {H':aA} (hx:VR V x u) (hn:∀x∈nw,(aB x).length=size) (Cj:(nw.flatMap aB).all cI=true) (hl:VL V (nw.flatMap aB) pn) (h:fE lo size bytes x nw V.H=some (v,H')) :
  gN lo dS V (eH dS size bytes u nw.length pn V.P) v H':=by
 unfold fE at h
 split at h
 case isFalse=>cases h
 rename_i hbs
 have Lr:pn.length=nw.length*size:=by rw[hl.length,kE hn]
 unfold eH
 rw[if_pos ⟨hbs.1,hbs.2,hl.gS Cj,Lr⟩]
 split at h
 ·cases hx with
  | tree es k b o c r e p hF hb ho hc he hk hl=>exact hk.elim
  |
   nG =>
   simp only[and_self,if_true]
   split at h
   ·rename_i h0
    cases h
    rw[if_pos h0]
    exact gN.same hS (.nG _ (.inr rfl))
   ·rename_i h0
    split at h
    case isFalse=>cases h
    rename_i h1
    cases h
    rw[if_neg h0,if_pos h1]
    exact(gN.of (qY hS (es:=nw) (r:=pn) (e:=size) true hn hl) (Jo hS) :)
 ·rename_i es e
  split at h
  case isFalse=>cases h
  rename_i L9
  subst L9
  cases hx with
  | nG k hk=>rcases hk with hk | hk<;>cases hk
  |
   tree es k b o c r e' p hF hb ho hc he hk zA =>
   obtain⟨h1,h2,h3⟩:=hk
   subst h1 h2 h3
   simp only[hb]
   rw[if_pos ⟨trivial,ho⟩]
   split at h
   ·rename_i h0
    cases h
    rw[if_pos (by omega),if_pos h0]
    exact gN.same hS (.tree es _ b o _ r e false hF hb ho hc he ⟨rfl,rfl,rfl⟩ zA)
   ·rename_i h0
    split at h
    case isFalse=>cases h
    rename_i CJ
    cases h
    rw[if_neg (by omega),if_pos CJ]
    simp only[Bool.false_eq_true,if_false]
    have lP:∀x∈es++nw,(aB x).length=e:=fun x hx=>by
     rcases List.mem_append.1 hx with h | h
     ·exact he x h
     ·exact hn x h
    exact(gN.of (qY hS (es:=es++nw) (r:=(r.drop o).take (es.length*e)++pn) (e:=e) true lP (by rw[List.flatMap_append];exact zA.append hl)) (Jo hS) :)
 ·rename_i b g o n c
  split at h
  case h_2=>cases h
  rename_i es e hr
  rw[cN] at hr
  split at h
  case isFalse=>cases h
  rename_i hc
  obtain⟨rfl,iC,hon⟩:=hc
  obtain⟨r,p,h1,h2,h3⟩:=hS.row b g es e true hr
  have FX:=h3.length
  rw[kE h2] at FX
  have Eo:=(hS.wr b g es e hr).2 iC
  cases hx with
  |
   ref b g o n c a n' c' bD hg ha hq =>
   obtain⟨rfl,rfl,rfl⟩:=ha _ _ _ hr
   have hm:(o+n')*e≤es.length*e:=Nat.mul_le_mul_right _ hon
   rw[Nat.add_mul] at hm
   simp only[h1]
   rw[if_pos ⟨trivial,by omega⟩]
   split at h
   ·rename_i W5
    rw[if_pos W5]
    split at h
    ·rename_i h0
     cases h
     rw[if_pos h0]
     exact gN.same hS (.ref _ _ _ _ _ _ _ _ bD hg ha hq)
    ·rename_i h0
     split at h
     case isFalse=>cases h
     rename_i xB
     cases h
     rw[if_neg h0]
     have Xg:(o+n'+nw.length)*e≤es.length*e:=Nat.mul_le_mul_right _ xB
     rw[Nat.add_mul,Nat.add_mul] at Xg
     have lP:∀x∈cS es (o+n') nw,(aB x).length=e:=fun x hx=>by
      rcases Ir hx with h | h
      ·exact h2 x h
      ·exact hn x h
     have D3:VL V ((cS es (o+n') nw).flatMap aB) (iZ r (o*e+n'*e) pn):=by
      rw[←wE h2 hn,Nat.add_mul]
      exact h3.iZ hl _
     obtain⟨g1,g2⟩:=Dc hS hr iC lP D3 h1
     refine⟨.slice (some ⟨V.m b,o*e,none⟩) (n'+nw.length) c',{ V with H:=V.H.set b (.row g (cS es (o+n') nw) e true),P:=V.P.set (V.m b) (.row (iZ r (o*e+n'*e) pn) e p) },?_,rfl,g1,g2,?_⟩
     ·unfold aE.write
      simp only[h1]
      rw[if_pos ⟨Eo,by omega,hl.gS Cj⟩]
      rfl
     ·refine .ref _ _ _ _ _ _ _ _ (by simpa using bD) (fun g' mO e' w' G7 => ?_) (fun mO e' w' G7 => ?_) fun a0 h=>by cases h;exact g2.toUp.hq (hq _ rfl)
      ·rcases gG bD G7 with⟨_,h⟩ | ⟨h,_⟩
       ·cases h;exact Nat.le_refl _
       ·exact absurd rfl h
      ·rcases gG bD G7 with⟨_,h⟩ | ⟨h,_⟩
       ·cases h;exact⟨rfl,rfl,rfl⟩
       ·exact absurd rfl h
   ·rename_i W5
    split at h
    case isFalse=>cases h
    rename_i CJ
    cases h
    rw[if_neg W5,if_pos CJ]
    have lP:∀x∈(es.drop o).take n'++nw,(aB x).length=e:=fun x hx=>by
     rcases List.mem_append.1 hx with h | h
     ·exact h2 x (List.mem_of_mem_drop (List.mem_of_mem_take h))
     ·exact hn x h
    have D3:VL V (((es.drop o).take n'++nw).flatMap aB) ((r.drop (o*e)).take (n'*e)++pn):=by
     rw[List.flatMap_append]
     refine VL.append ?_ hl
     have h4:=(h3.drop (o*e)).take (n'*e)
     rw[tO h2,tG (fun x hx=>h2 x (List.mem_of_mem_drop hx))] at h4
     exact h4
    have fin:∀P1:aE,P1.length=V.P.length→(∀q,q≠V.m b→P1[q]? = V.P[q]?) →
      gN lo dS V (some (.slice (some ⟨V.P.length,0,none⟩) (n'+nw.length) (n'+nw.length),P1++[.row ((r.drop (o*e)).take (n'*e)++pn) e true])) (.ref b (g+1) 0 (n'+nw.length) (n'+nw.length)) (V.H.set b (.row (g+1) ((es.drop o).take n'++nw) e true)):=by
     intro P1 hP hk
     refine(gN.of (RN hS hr iC lP D3 hP hk true) ?_ :)
     refine .ref _ _ _ _ _ _ _ _ (by simpa using bD) (fun g' mO e' w' G7 => ?_) (fun mO e' w' G7 => ?_) fun a0 h => ?_
     ·rcases gG bD G7 with⟨_,h⟩ | ⟨h,_⟩
      ·cases h;exact Nat.le_refl _
      ·exact absurd rfl h
     ·rcases gG bD G7 with⟨_,h⟩ | ⟨h,_⟩
      ·cases h;exact⟨by simp only[lQ,Nat.zero_mul],rfl,rfl⟩
      ·exact absurd rfl h
     ·cases h
      refine⟨hS.Jf,by simp[hP],fun b' g' mO e' w' hb fR hm => ?_⟩
      rcases gG bD hb with⟨h,_⟩ | ⟨_,h⟩
      ·exact fR h
      ·simp only[mN fR] at hm
       have:=hS.mlt h
       omega
    cases p with
    |
     true =>
     simp only[if_true,Eo]
     exact fin (V.P.set (V.m b) .dead) (by simp) fun q hq=>List.getElem?_set_ne (Ne.symm hq)
    |
     false =>
     simp only[Bool.false_eq_true,if_false]
     exact fin V.P rfl fun _ _=>rfl
 ·cases h
theorem Rr (hS:SR V lo dS) {p v:VV} {u w:Value} {size:Nat} {H':aA} (hp:VR V p u) (hv:VR V v w) (h:cR lo size p v V.H=some H'):gN lo dS V (EY dS size u w V.P) pI H':=by
 unfold cR at h
 split at h
 case h_2=>cases h
 rename_i b g j o
 split at h
 case h_2=>cases h
 rename_i es e hr
 rw[cN] at hr
 split at h
 case h_2=>cases h
 rename_i x hx
 split at h
 case isFalse=>cases h
 rename_i hc
 obtain⟨CJ,iC,Cj⟩:=hc
 obtain⟨r,q,h1,h2,h3⟩:=hS.row b g es e true hr
 have FX:=h3.length
 rw[kE h2] at FX
 have Eo:=(hS.wr b g es e hr).2 iC
 have hj:=(List.getElem?_eq_some_iff.1 hx).1
 have hxe:=h2 x (List.mem_of_getElem? hx)
 have hm:(j+1)*e≤es.length*e:=Nat.mul_le_mul_right _ hj
 rw[Nat.succ_mul] at hm
 have kX:=hv.cells (R8 Cj)
 have hwl:(aO w).length=size:=by rw[kX.length,CJ]
 cases hp with
 |
  ptr b g j off a bD hg ha hq =>
  have:=ha _ _ _ hr
  subst this
  have fin:∀y:VV,(aB y).length=e→o+size≤e→aB y=cS (aB x) o (aB v)→H'=V.H.set b (.row g (es.set j y) e true)→gN lo dS V (EY dS size (.pointer (some ⟨V.m b,j*e+o,none⟩)) w V.P) pI H':=by
   intro y hy ho hye hH
   subst hH
   have lP:∀z∈es.set j y,(aB z).length=e:=fun z hz=>by
    rcases List.mem_or_eq_of_mem_set hz with h | h
    ·exact h2 z h
    ·subst h;exact hy
   have D3:VL V ((es.set j y).flatMap aB) (iZ r (j*e+o) (aO w)):=by
    have e1:(es.set j y).flatMap aB=cS (es.flatMap aB) (j*e+o) (aB v):=by
     rw[←HP hj,←wE h2 (new:=[y]) (fun z hz=>by rw[List.mem_singleton] at hz;subst hz;exact hy)]
     simp only[List.flatMap_cons,List.flatMap_nil,List.append_nil]
     rw[hye]
     have hx2:=KY h2 hx
     unfold cS
     have t1:(es.flatMap aB).take (j*e+o)=(es.flatMap aB).take (j*e)++(aB x).take o:=by
      rw[List.take_add,←hx2,List.take_take,Nat.min_eq_left (by omega)]
     have t2:(es.flatMap aB).drop (j*e+o+(aB v).length)=(aB x).drop (o+(aB v).length)++(es.flatMap aB).drop (j*e+e):=by
      have t0:(es.flatMap aB).drop (j*e+e)=((es.flatMap aB).drop (j*e+(o+(aB v).length))).drop (e-(o+(aB v).length)):=by
       rw[List.drop_drop]
       congr 1
       omega
      rw[←hx2,List.drop_take,List.drop_drop,t0,List.take_append_drop,Nat.add_assoc]
     rw[t1,t2]
     have t3:(List.take o (aB x)++aB v++List.drop (o+(aB v).length) (aB x)).length=e:=by
      simp;omega
     rw[t3]
     simp only[List.append_assoc]
    rw[e1]
    exact h3.iZ kX _
   obtain⟨g1,g2⟩:=Dc hS hr iC lP D3 h1
   refine⟨undef,{ V with H:=V.H.set b (.row g (es.set j y) e true),P:=V.P.set (V.m b) (.row (iZ r (j*e+o) (aO w)) e q) },?_,rfl,g1,g2,.dL [] [] .nil⟩
   unfold EY
   simp only[hwl,if_true]
   unfold aE.write
   simp only[h1]
   rw[if_pos ⟨Eo,by omega,kX.gS Cj⟩]
   rfl
  split at h
  ·rename_i ho
   obtain⟨rfl,rfl⟩:=ho
   cases h
   refine fin v CJ (by omega) ?_ rfl
   unfold cS
   rw[Nat.zero_add,List.take_zero,List.nil_append,List.drop_of_length_le (by omega),List.append_nil]
  ·split at h
   case isFalse=>cases h
   rename_i ho
   cases h
   have Q5:(cS (aB x) o (aB v)).length=e:=by rw[PY (by omega)];exact hxe
   exact fin (.agg (cS (aB x) o (aB v))) Q5 (by omega) rfl rfl
theorem Cm {z:List Value} (hz:(z.map jI).all cI=true):(aB (elemOf (z.map jI))).length=z.length:=by
 rw[nB hz,List.length_map]
theorem BA {z:List Value} (hz:(z.map jI).all cI=true):∀n,VL V ((List.replicate n (elemOf (z.map jI))).flatMap aB) (cL n z):=by
 intro n
 have Cj:z.all gS=true:=(VL.zero (V:=V) z).gS hz
 have Yv:cL n z=(List.replicate n ()).flatMap fun _=>z:=by
  rcases Nat.eq_zero_or_pos z.length with h0 | lA
  ·have:z=[]:=List.length_eq_zero_iff.1 h0
   subst this
   simp[cL]
  ·exact PO (enc:=fun(_:Unit)=>z) (fL:=z.length) (x:=()) ⟨fun _=>rfl,fun _=>Cj,lA⟩
 rw[Yv]
 clear Yv
 induction n with
 | zero=>exact .nil
 |
  succ n ih =>
  rw[List.replicate_succ,List.replicate_succ,List.flatMap_cons,List.flatMap_cons,nB hz]
  exact(VL.zero z).append ih
theorem Sr (hS:SR V lo dS) {z:List Value} {bytes:Nat} {l c v:VV} {u w:Value} {H':aA} (hz:(z.map jI).all cI=true) (hl:VR V l u) (hc:VR V c w) (h:AQ z bytes l c V.H=some (v,H')):gN lo dS V (Uq z bytes u w V.P) v H':=by
 unfold AQ at h
 split at h
 case h_2=>cases h
 obtain⟨rfl,_⟩:=qJ hl rfl
 obtain⟨rfl,_⟩:=qJ hc rfl
 split at h
 case isFalse=>cases h
 rename_i Q0
 cases h
 unfold Uq
 simp only[if_pos Q0]
 exact(gN.of (qY hS (e:=z.length) false (fun x hx=>by rw[List.eq_of_mem_replicate hx];exact Cm hz) (BA hz _)) (Jo hS) :)
theorem V3 (hS:SR V lo dS) {z:List Value} (hz:(z.map jI).all cI=true):gN lo dS V (some (.pointer (some ⟨V.P.length,0,none⟩),V.P++[.row z z.length false])) (.ptr V.H.length 0 0 0) (V.H++[.row 0 [elemOf (z.map jI)] z.length true]):=by
 exact(gN.of (qY hS (es:=[elemOf (z.map jI)]) (r:=z) (e:=z.length) false (fun x hx=>by rw[List.mem_singleton] at hx;subst hx;exact Cm hz) (by simp only[List.flatMap_cons,List.flatMap_nil,List.append_nil,nB hz];exact VL.zero z)) (UU hS) :)
theorem Vl (hS:SR V lo dS) {x v:VV} {u:Value} {H':aA} {bf:Bool} (hx:VR V x u) (hs:(aB x).all cI=true) (h:(if bf=true then some (VV.cK x 0,V.H) else some (VV.ptr V.H.length 0 0 0,V.H++[fU.row 0 [x] (aB x).length true]))=some (v,H')) :
  gN lo dS V (if (aO u).all gS then some (.pointer (some ⟨V.P.length,0,none⟩),V.P++[.row (aO u) (aO u).length false]) else none) v H':=by
 have hc:=hx.cells (R8 hs)
 rw[if_pos (hc.gS hs)]
 split at h
 ·cases h
  have g:=Bn hS (.row (aO u) (aO u).length false)
  refine(gN.of g ?_ :)
  have hm:=hc.mono g.2.toUp
  refine .cK x 0 V.P.length 0 (aO u) (aO u).length false (.inr rfl) (by simp) (by rw[hc.length];omega) ?_
  rw[List.drop_zero,List.take_of_length_le (by rw[hc.length];exact Nat.le_refl _)]
  exact hm
 ·cases h
  rw[hc.length]
  exact(gN.of (qY hS (es:=[x]) (r:=aO u) (e:=(aB x).length) false (fun y hy=>by rw[List.mem_singleton] at hy;subst hy;rfl) (by simpa using hc)) (UU hS) :)
theorem take_set {α:Type} {l:List α} {i:Nat} {x:α} (h:i<l.length):l.set i x=l.take i++x::l.drop (i+1):=by
 rw[List.set_eq_take_append_cons_drop,if_pos h]
inductive RY (V:View):List (Nat×VV)→List (Nat×Value)→Prop
 | nil:RY V [] []
 | cons {i:Nat} {x:VV} {v:Value} {xs:List (Nat×VV)} {vs:List (Nat×Value)} (h:VR V x v) (hs:RY V xs vs):RY V ((i,x)::xs) ((i,v)::vs)
theorem Eb {e n:Nat}:∀ {parts:List (Nat×VV)} {An:List (Nat×Value)} {es mO:List VV} {r:List Value},es.length=n→(∀x∈es,(aB x).length=e)→VL V (es.flatMap aB) r →
  RY V parts An→uF e es parts=some mO→mO.length=n∧(∀x∈mO,(aB x).length=e)∧∃r',vP ((List.range n).map fun i=>(i*e,e)) r An=some r'∧VL V (mO.flatMap aB) r'
 |
  [],_,es,mO,r,hn,he,hl,.nil,h=>by
  cases h
  exact⟨hn,he,r,rfl,hl⟩
 |
  (i,v)::parts,(_,w)::An,es,mO,r,hn,he,hl,.cons hv hps,h=>by
  unfold uF at h
  split at h
  case isFalse=>cases h
  rename_i hc
  obtain⟨hi,hve,Cj⟩:=hc
  have kX:=hv.cells (R8 Cj)
  have hwl:(aO w).length=e:=by rw[kX.length,hve]
  have FX:=hl.length
  rw[kE he] at FX
  have hm:(i+1)*e≤es.length*e:=Nat.mul_le_mul_right _ hi
  rw[Nat.succ_mul] at hm
  have lP:∀x∈es.set i v,(aB x).length=e:=fun x hx=>by
   rcases List.mem_or_eq_of_mem_set hx with h | h
   ·exact he x h
   ·subst h;exact hve
  have D3:VL V ((es.set i v).flatMap aB) (r.take (i*e)++aO w++r.drop (i*e+e)):=by
   have h1:=hl.iZ kX (i*e)
   have h2:=wE he (new:=[v]) (fun z hz=>by rw[List.mem_singleton] at hz;subst hz;exact hve) i
   simp only[List.flatMap_cons,List.flatMap_nil,List.append_nil] at h2
   rw[h2,HP hi] at h1
   unfold iZ at h1
   rw[hwl] at h1
   exact h1
  obtain⟨g1,g2,r',g3,g4⟩:=Eb (n:=n) (by rw[List.length_set];exact hn) lP D3 hps h
  refine⟨g1,g2,r',?_,g4⟩
  unfold vP
  have hr:((List.range n).map fun i=>(i*e,e))[i]? = some (i*e,e):=by simp[List.getElem?_range (show i<n by omega)]
  simp only[hr]
  rw[if_pos ⟨hwl,by omega⟩]
  exact g3
theorem G2 (hE:ER V ρ kH):∀parts:List (Nat×Operand),RY V (parts.map fun(i,x)=>(i,eG ρ x)) (parts.map fun(i,x)=>(i,ev kH x))
 | [] => .nil
 | (i,x)::parts => .cons (hE.ev x) (G2 hE parts)
theorem F0 {e:Nat}:∀ {parts:List (Nat×VV)} {es mO:List VV},(es.all fun x=>(aB x).all cI)=true→uF e es parts=some mO→(mO.all fun x=>(aB x).all cI)=true
 | [],es,mO,h,hf=>by cases hf;exact h
 |
  (i,v)::parts,es,mO,h,hf=>by
  unfold uF at hf
  split at hf
  case isFalse=>cases hf
  rename_i hc
  refine F0 ?_ hf
  rw[List.all_eq_true] at h ⊢
  intro x hx
  rcases List.mem_or_eq_of_mem_set hx with h1 | h1
  ·exact h x h1
  ·subst h1;exact hc.2.2
theorem WQ (hS:SR V lo dS) {lr:Bool} {z:List Value} {n:Nat} {parts:List (Nat×VV)} {An:List (Nat×Value)} {v:VV} {H':aA} (hp:RY V parts An) (h:pT lr z n parts V.H=some (v,H')):gN lo dS V (acX z n An V.P) v H':=by
 unfold pT at h
 split at h
 case h_2=>cases h
 rename_i es L9
 split at h
 case isFalse=>cases h
 rename_i hz
 obtain⟨g1,g2,r',g3,g4⟩:=Eb (V:=V) (n:=n) (by simp) (fun x hx=>by rw[List.eq_of_mem_replicate hx];exact Cm hz) (BA hz n) hp L9
 have Cj:=F0 (by
  rw[List.all_eq_true]
  intro x hx
  rw[List.eq_of_mem_replicate hx,nB hz]
  exact hz) L9
 unfold acX
 simp only[g3]
 rw[if_pos (g4.gS (AT Cj))]
 split at h
 ·cases h
  exact(gN.of (qY hS (e:=z.length) false g2 g4) (Jo hS) :)
 ·cases h
  have k:=Bn hS (.row r' z.length false)
  refine(gN.of k ?_ :)
  have hm:=g4.mono k.2.toUp
  have FX:=g4.length
  rw[kE g2] at FX
  subst g1
  refine .tree es _ V.P.length 0 es.length r' z.length false (.inr rfl) (by simp) (by omega) (Nat.le_refl _) g2 ⟨rfl,rfl,rfl⟩ ?_
  rw[List.drop_zero,List.take_of_length_le (by omega)]
  exact hm
theorem No (hS:SR V lo dS) {b g e o:Nat} {es nw:List VV} {pn:List Value} (hr:V.H[b]? = some (.row g es e true)) (iC:lo≤b) (xB:o+nw.length≤es.length) (hn:∀x∈nw,(aB x).length=e) (Cj:(nw.flatMap aB).all cI=true) (hl:VL V (nw.flatMap aB) pn) :
  ∃V',V.P.write dS (V.m b) (o*e) pn=some V'.P∧V'.H=V.H.set b (.row g (cS es o nw) e true)∧SR V' lo dS∧Eh lo V V':=by
 obtain⟨r,q,h1,h2,h3⟩:=hS.row b g es e true hr
 have FX:=h3.length
 rw[kE h2] at FX
 have Eo:=(hS.wr b g es e hr).2 iC
 have Lr:=hl.length
 rw[kE hn] at Lr
 have hm:(o+nw.length)*e≤es.length*e:=Nat.mul_le_mul_right _ xB
 rw[Nat.add_mul] at hm
 have lP:∀x∈cS es o nw,(aB x).length=e:=fun x hx=>by
  rcases Ir hx with h | h
  ·exact h2 x h
  ·exact hn x h
 have D3:VL V ((cS es o nw).flatMap aB) (iZ r (o*e) pn):=by
  rw[←wE h2 hn]
  exact h3.iZ hl _
 obtain⟨g1,g2⟩:=Dc hS hr iC lP D3 h1
 refine⟨{ V with H:=V.H.set b (.row g (cS es o nw) e true),P:=V.P.set (V.m b) (.row (iZ r (o*e) pn) e q) },?_,rfl,g1,g2⟩
 unfold aE.write
 simp only[h1]
 rw[if_pos ⟨Eo,by omega,hl.gS Cj⟩]
theorem Sc (hS:SR V lo dS) {x y v:VV} {u w:Value} {size:Nat} {H':aA} (hx:VR V x u) (hy:VR V y w) (h:MU lo size x y V.H=some (v,H')):gN lo dS V (copyV dS size u w V.P) v H':=by
 unfold MU at h
 split at h
 ·rename_i new hs
  obtain⟨h1,_⟩:=wJ hS hy hs
  cases h
  cases hx with
  | tree es k b o c r e p hF hb ho hc he hk hl=>exact hk.elim
  |
   nG =>
   unfold copyV
   simp only[h1]
   exact gN.same hS (.sc _ rfl)
 ·rename_i b g o d c new hs
  obtain⟨h1,h2,h3,h4⟩:=wJ hS hy hs
  split at h
  case h_2=>cases h
  rename_i es e hr
  rw[cN] at hr
  split at h
  case isFalse=>cases h
  rename_i hc
  obtain⟨rfl,iC,xB⟩:=hc
  cases h
  cases hx with
  |
   ref b g o n c a n' c' bD hg ha hq =>
   obtain⟨rfl,rfl,rfl⟩:=ha _ _ _ hr
   have abE:(new.take n').length=Nat.min new.length n':=by rw[List.length_take];exact Nat.min_comm _ _
   obtain⟨pn,h5,h6⟩:=h4 (Nat.min new.length n') (Nat.min_le_left _ _)
   have ht:new.take (Nat.min new.length n')=new.take n':=by
    rw[←abE,List.length_take,←List.take_take,List.take_length]
   rw[ht] at h6
   have Kq:∀x∈new.take n',(aB x).length=e:=fun x hx=>h2 x (List.mem_of_mem_take hx)
   have Cj:((new.take n').flatMap aB).all cI=true:=by
    rw[List.all_eq_true] at h3 ⊢
    intro x hx
    obtain⟨y,hy,Ap⟩:=List.mem_flatMap.1 hx
    exact h3 x (List.mem_flatMap.2 ⟨y,List.mem_of_mem_take hy,Ap⟩)
   obtain⟨V',k1,k2,k3,k4⟩:=No hS hr iC xB Kq Cj h6
   refine⟨.int .i64 (Nat.min new.length n'),V',?_,k2,k3,k4,?_⟩
   ·unfold copyV
    simp only[h1,h5,k1]
    rfl
   ·rw[abE]
    exact .sc _ rfl
 ·cases h
theorem PJ (hS:SR V lo dS) {x:VV} {u:Value} {z:List Value} {H':aA} (hx:VR V x u) (h:OH lo z x V.H=some H'):gN lo dS V (OT dS z u V.P) pI H':=by
 unfold OH at h
 split at h
 case h_2=>cases h
 rename_i b g o n c
 split at h
 case h_2=>cases h
 rename_i es e hr
 rw[cN] at hr
 cases hx with
 |
  ref b g o n c a n' c' bD hg ha hq =>
  obtain⟨rfl,rfl,rfl⟩:=ha _ _ _ hr
  unfold OT
  simp only
  split at h
  ·rename_i h0
   cases h
   rw[if_pos h0]
   exact gN.same hS (.dL [] [] .nil)
  ·rename_i h0
   rw[if_neg h0]
   split at h
   case isFalse=>cases h
   rename_i hc
   obtain⟨rfl,iC,xB,hz⟩:=hc
   cases h
   have Kq:∀x∈List.replicate n' (elemOf (z.map jI)),(aB x).length=z.length:=fun x hx=>by rw[List.eq_of_mem_replicate hx];exact Cm hz
   obtain⟨V',k1,k2,k3,k4⟩:=No hS hr iC (nw:=List.replicate n' (elemOf (z.map jI))) (by simpa using xB) Kq (AT (by
    rw[List.all_eq_true]
    intro x hx
    rw[List.eq_of_mem_replicate hx,nB hz]
    exact hz)) (BA hz n')
   refine⟨undef,V',?_,k2,k3,k4,.dL [] [] .nil⟩
   rw[k1]
   rfl
end
end Go.PM
namespace Go.PM
section
variable {V:View} {lo dS:Nat} {ρ:cP} {kH:Env}
theorem PN {x v:VV} {u:Value} {neg:Bool} (hx:VR V x u) (h:E4 neg x V.H=some v):∃w,XN neg u=some w∧VR V v w:=by
 unfold E4 at h
 split at h
 ·cases h
  cases hx with
  | tree es k b o c r e p hF hb ho hc he hk hl=>exact hk.elim
  | nG=>exact⟨_,rfl,.sc _ rfl⟩
 ·cases h
  cases hx with
  | nG k hk=>rcases hk with hk | hk<;>cases hk
  | tree=>exact⟨_,rfl,.sc _ rfl⟩
 ·cases h
  cases hx with
  | tree=>exact⟨_,rfl,.sc _ rfl⟩
 ·obtain⟨⟨es,e,w⟩,hr,rfl⟩:=cE h
  rw[cN] at hr
  cases hx with
  |
   ref b g o n c a n' c' bD hg ha hq =>
   obtain⟨rfl,rfl,rfl⟩:=ha _ _ _ hr
   exact⟨_,rfl,.sc _ rfl⟩
 ·cases h
theorem VY {x v:VV} {u:Value} (hx:VR V x u) (h:pV x V.H=some v):∃w,akZ u=some w∧VR V v w:=by
 unfold pV at h
 split at h
 ·cases h
  cases hx<;>exact⟨_,rfl,.sc _ rfl⟩
 ·obtain⟨⟨es,e,w⟩,hr,rfl⟩:=cE h
  rw[cN] at hr
  cases hx with
  |
   ref b g o n c a n' c' bD hg ha hq =>
   obtain⟨rfl,rfl,rfl⟩:=ha _ _ _ hr
   exact⟨_,rfl,.sc _ rfl⟩
 ·cases h
theorem Pa {x v:VV} {u:Value} {off:Nat} (hx:VR V x u) (h:GI off x V.H=some v):∃w,Zm off u=some w∧VR V v w:=by
 unfold GI at h
 split at h
 ·cases h
  cases hx with
  | cK x off b o r e p hF hb ho hl=>exact⟨_,rfl,by rw[Nat.add_assoc];exact .cK _ _ b o r e p hF hb ho hl⟩
 ·obtain⟨⟨es,e,w⟩,hr,rfl⟩:=cE h
  rw[cN] at hr
  cases hx with
  |
   ptr b g j off a bD hg ha hq =>
   have:=ha _ _ _ hr
   subst this
   refine⟨_,rfl,.ptr _ _ _ _ _ bD hg (fun mO e' w' G7 => ?_) fun a0 h=>by cases h;have:=hq _ rfl;exact this⟩
   rw[hr] at G7
   cases G7
   rw[Nat.add_assoc]
 ·cases h
theorem Vv {x v:VV} {u:Value} (hx:VR V x u) (h:Wo x V.H=some v):∃w,akJ u=some w∧VR V v w:=by
 unfold Wo at h
 split at h
 ·cases h
  cases hx with
  | cK x off b o r e p hF hb ho hl=>exact⟨_,rfl,.cK _ _ b o r e p hF hb ho hl⟩
 ·obtain⟨⟨es,e,w⟩,hr,rfl⟩:=cE h
  rw[cN] at hr
  cases hx with
  |
   ptr b g j off a bD hg ha hq =>
   have:=ha _ _ _ hr
   subst this
   exact⟨_,rfl,.ptr _ _ _ _ _ bD hg ha hq⟩
 ·cases h
theorem SV {c a b v:VV} {u x y:Value} (hc:VR V c u) (ha:VR V a x) (hb:VR V b y) (h:QD c a b=some v):∃t,u = .bool t∧VR V v (if t then x else y):=by
 unfold QD at h
 split at h
 ·rename_i t
  cases h
  obtain⟨rfl,_⟩:=qJ hc rfl
  refine⟨t,rfl,?_⟩
  cases t
  ·exact hb
  ·exact ha
 ·cases h
theorem WW {x v:VV} {u:Value} {i:Nat} (hx:VR V x u) (h:XS i x=some v):∃w,agX i u=some w∧VR V v w:=by
 unfold XS at h
 split at h
 ·cases hx with
  |
   dL cs ps hl =>
   obtain⟨w,hw,hv⟩:=hl.get h
   exact⟨w,by simpa[agX] using hw,hv⟩
 ·cases h
theorem VN {x v:VV} {u:Value} {agg:Bool} {off size:Nat} (hx:VR V x u) (h:adX agg off size x=some v):∃w,acR agg off size u=some w∧VR V v w:=by
 unfold adX at h
 split at h
 ·rename_i cs
  cases hx with
  |
   agg cs ps hl =>
   split at h
   ·rename_i ha
    split at h
    ·rename_i hs
     cases h
     refine⟨.agg ((ps.drop off).take size).toArray,?_,.agg _ _ ((hl.drop off).take size)⟩
     unfold acR
     simp only[ha,if_true]
     rw[if_pos (by simpa[hl.length] using hs)]
     congr 2
     apply Array.ext'
     simp[List.extract_eq_take_drop]
    ·cases h
   ·rename_i ha
    obtain⟨w,hw,hv⟩:=hl.get h
    refine⟨w,?_,hv⟩
    unfold acR
    simp only[ha]
    simpa using hw
 ·cases h
theorem LJ {ks:List CK}:∀ {xs ys:List VV} {us ws:List Value} {t:Bool},VL V xs us→VL V ys ws→pK ks xs ys=some t→pB ks us ws=some t:=by
 induction ks with
 |
  nil =>
  intro xs ys us ws t h1 h2 h
  cases h1 with
  |
   nil=>cases h2 with
   | nil=>exact h
   | cons=>simp[pK] at h
  | cons=>simp[pK] at h
 |
  cons k ks ih =>
  intro xs ys us ws t h1 h2 h
  cases h1 with
  | nil=>simp[pK] at h
  |
   cons x u xs us hx O0=>cases h2 with
   | nil=>cases x<;>simp[pK] at h
   |
    cons y w ys ws hy hys =>
    cases hx with
    |
     sc _ _=>cases hy with
     |
      sc _ _ =>
      simp only[pK] at h
      simp only[pB]
      split at h
      ·rename_i h1
       rw[h1]
       exact ih O0 hys h
      ·rename_i h1
       rw[h1]
       exact h
      ·cases h
     | _=>simp[pK] at h
    | _=>simp[pK] at h
theorem Kr {places:List (Nat×Nat)}:∀ {parts:List (Nat×VV)} {An:List (Nat×Value)} {cs Ae:List VV} {r:List Value},VL V cs r→RY V parts An→yC places cs parts=some Ae →
  ∃r',vP places r An=some r'∧VL V Ae r'
 | [],_,cs,Ae,r,hl,.nil,h=>by cases h;exact⟨r,rfl,hl⟩
 |
  (i,v)::parts,(_,w)::An,cs,Ae,r,hl,.cons hv hps,h=>by
  unfold yC at h
  unfold vP
  split at h
  ·cases h
  ·rename_i off size Lr
   simp only[Lr]
   split at h
   case isFalse=>cases h
   rename_i hc
   have kX:=hv.cells (fun e=>by subst e;cases hc.2.2)
   rw[if_pos ⟨by rw[kX.length];exact hc.1,by rw[hl.length];exact hc.2.1⟩]
   exact Kr (((hl.take off).append kX).append (hl.drop _)) hps h
theorem It:∀ {es:List VV} {r:List Value} {bs:List UInt8},VL V (es.flatMap aB) r→Hl es=some bs→tH r=some bs
 | [],_,bs,.nil,h=>h
 |
  x::es,r,bs,hl,h=>by
  unfold Hl at h
  split at h
  ·rename_i e;cases e
  ·rename_i n r' e
   cases e
   obtain⟨t,ht,rfl⟩:=cE h
   rw[List.flatMap_cons] at hl
   cases hl with
   |
    cons _ u _ us hu hus =>
    obtain⟨rfl,_⟩:=qJ hu rfl
    unfold tH
    rw[It hus ht]
    rfl
  ·cases h
theorem lift {r:Option VV} {v:VV} {H':aA} {s:Option (Value×aE)} (h:r.map (·,V.H)=some (v,H')) (k:r=some v→gN lo dS V s v V.H):gN lo dS V s v H':=by
 obtain⟨a,ha,he⟩:=cE h
 cases he
 exact k ha
theorem Vo (hS:SR V lo dS) (hE:ER V ρ kH) {fl:Fl} {o:nE} {v:VV} {H':aA} {q:Bool} (h:vop fl lo o ρ V.H=some (v,H')):gN lo dS V (jU dS q o kH V.P) v H':=by
 cases o<;>simp only[vop] at h
 case mv x=>cases h;rw[adJ];exact gN.same hS (hE.ev x)
 case pick c a b =>
  refine lift h fun h => ?_
  obtain⟨t,ht,hv⟩:=SV (hE.ev c) (hE.ev a) (hE.ev b) h
  rw[WV,ht]
  exact gN.same hS hv
 case bin op x y=>rw[XI];exact lift h fun h=>AW (f:=dF op) hS (fun _ _ _=>Y1) (hE.ev x) (hE.ev y) h
 case eqb neg x y=>rw[Zn];exact lift h fun h=>AW (f:=Oy neg) hS (fun _ _ _=>XC) (hE.ev x) (hE.ev y) h
 case isnil neg x =>
  rw[Sm]
  refine lift h fun h => ?_
  obtain⟨w,h1,h2⟩:=PN (hE.ev x) h
  exact gN.pure hS h1 h2
 case eqagg neg ks x y =>
  rw[Sl]
  refine lift h fun h => ?_
  unfold S7 at h
  split at h
  case h_2=>cases h
  rename_i a b hx hy
  obtain⟨t,ht,rfl⟩:=cE h
  have h1:=hE.ev x
  have h2:=hE.ev y
  rw[hx] at h1
  rw[hy] at h2
  generalize ev kH x=u at h1 ⊢
  generalize ev kH y=w at h2 ⊢
  cases h1 with
  |
   agg cs ps h1=>cases h2 with
   |
    agg Ae ps' h2 =>
    refine gN.pure hS (pv := .bool (t != neg)) ?_ (.sc _ rfl)
    unfold ZJ
    simp only
    rw[LJ h1 h2 ht]
    rfl
 case un op x=>rw[adH];exact lift h fun h=>DI (f:=Y5 op) hS (fun _ _=>aaY) (hE.ev x) h
 case cvt k x=>rw[X4];exact lift h fun h=>DI (f:=SN k) hS (fun _ _=>Yg) (hE.ev x) h
 case cvs x =>
  have e:jU dS q (.cvs x) kH V.P=(U8 (ev kH x)).map (·,V.P):=dD rfl
  rw[e];exact lift h fun h=>DI (f:=U8) hS (fun _ _=>Xm) (hE.ev x) h
 case ext x i =>
  rw[XU]
  refine lift h fun h => ?_
  obtain⟨w,h1,h2⟩:=WW (hE.ev x) h
  exact gN.pure hS h1 h2
 case fld agg off size x =>
  rw[XO]
  refine lift h fun h => ?_
  obtain⟨w,h1,h2⟩:=VN (hE.ev x) h
  exact gN.pure hS h1 h2
 case build zero places parts =>
  obtain⟨cs,KM,he⟩:=cE h
  cases he
  obtain⟨r,h1,h2⟩:=Kr (VL.zero zero) (G2 hE parts) KM
  rw[Tq,h1]
  exact gN.same hS (.agg _ _ h2)
 case chk x =>
  rw[Xq]
  refine lift h fun h => ?_
  obtain⟨w,h1,h2⟩:=Vv (hE.ev x) h
  exact gN.pure hS h1 h2
 case faddr off x =>
  rw[Tp]
  refine lift h fun h => ?_
  obtain⟨w,h1,h2⟩:=Pa (hE.ev x) h
  exact gN.pure hS h1 h2
 case iaddr size x i =>
  rw[Tl]
  refine lift h fun h => ?_
  obtain⟨w,h1,h2⟩:=QE hS (hE.ev x) (hE.ev i) h
  exact gN.pure hS h1 h2
 case sidx x i =>
  have e:jU dS q (.sidx x i) kH V.P=(Gb (ev kH x) (ev kH i)).map (·,V.P):=dD rfl
  rw[e];exact lift h fun h=>AW (f:=Gb) hS (fun _ _ _=>Wf) (hE.ev x) (hE.ev i) h
 case ssub x l h' =>
  refine lift h fun h => ?_
  unfold vA at h
  split at h
  case h_2=>cases h
  rename_i s lv hv hx h1 h2
  split at h
  case h_2=>cases h
  rename_i a b E6
  cases h
  obtain⟨e1,_⟩:=qJ (hE.ev x) hx
  have e:jU dS q (.ssub x l h') kH V.P=some (.string (s.extract a b),V.P):=by
   rw[dD rfl]
   simp only[iN,e1]
   rw[A7 hE h1,A7 hE h2,E6]
   rfl
  rw[e]
  exact gN.same hS (.sc _ rfl)
 case mkfn f fS =>
  cases h
  rw[We]
  exact gN.same hS (.uG _ _ _ (hE.evs fS))
 case len x =>
  rw[XJ]
  refine lift h fun h => ?_
  obtain⟨w,h1,h2⟩:=VY (hE.ev x) h
  exact gN.pure hS h1 h2
 case slen x =>
  have e:jU dS q (.slen x) kH V.P=(A2 (ev kH x)).map (·,V.P):=dD rfl
  rw[e];exact lift h fun h=>DI (f:=A2) hS (fun _ _=>WZ) (hE.ev x) h
 case min x y=>rw[Yu];exact lift h fun h=>AW (f:=Ri) hS (fun _ _ _=>X1) (hE.ev x) (hE.ev y) h
 case max x y=>rw[Zg];exact lift h fun h=>AW (f:=Qv) hS (fun _ _ _=>Zp) (hE.ev x) (hE.ev y) h
 case load agg size p =>
  rw[Vi]
  refine lift h fun h => ?_
  obtain⟨w,h1,h2⟩:=K8 hS (hE.ev p) h
  exact gN.pure hS h1 h2
 case sub size x l hh m =>
  rw[XP]
  exact lift h fun h=>V7 hS hE (hE.ev x) h
 case b2s x =>
  split at h
  ·cases h
  rename_i y fR
  split at h
  case h_2=>cases h
  rename_i es L9
  obtain⟨bs,hbs,he⟩:=cE h
  cases he
  obtain⟨h1,h2,h3,h4⟩:=wJ hS (hE.ev x) L9
  obtain⟨pn,h5,h6⟩:=h4 es.length (Nat.le_refl _)
  rw[List.take_length] at h6
  have hb:=It h6 hbs
  have hx:=hE.ev x
  have e:jU dS q (.b2s x) kH V.P=some (.string ⟨bs.toArray⟩,V.P):=by
   apply pA
   simp only[pop]
   generalize ev kH x=u at *
   cases u<;>first | (exfalso;simp[rQ] at h1;done) | skip
   case string s =>
    generalize eG ρ x=y at *
    cases hx with
    | any=>simp[eW] at L9
    | sc _ _=>exact absurd rfl (fR _)
   case slice a n c =>
    injection h1 with h1
    subst h1
    cases a with
    |
     none =>
     simp only[jL] at h5
     split at h5
     ·cases h5
      cases hb
      rfl
     ·cases h5
    |
     some a =>
     obtain⟨b,o,sp⟩:=a
     cases sp with
     | some s=>simp[jL] at h5
     |
      none =>
      simp only[jL,Nat.mul_one] at h5
      simp only[h5,hb]
      rfl
  rw[e]
  exact gN.same hS (.sc _ rfl)
 case new zero =>
  split at h
  case isFalse=>cases h
  rename_i hz
  cases h
  rw[ZK]
  exact V3 hS hz
 case box x =>
  split at h
  case isFalse=>cases h
  rename_i hs
  rw[Zz]
  exact Vl hS (hE.ev x) hs h
 case make zero bytes l c =>
  split at h
  case isFalse=>cases h
  rename_i hz
  rw[Wp]
  exact Sr hS hz (hE.ev l) (hE.ev c) h
 case lit zero n parts =>
  rw[ZV]
  exact WQ hS (G2 hE parts) h
 case store size p x =>
  obtain⟨a,ha,he⟩:=cE h
  cases he
  rw[Sf]
  exact Rr hS (hE.ev p) (hE.ev x) ha
 case app size bytes x y =>
  split at h
  case h_2=>cases h
  rename_i new hn
  obtain⟨h1,h2,h3,h4⟩:=wJ hS (hE.ev y) hn
  obtain⟨pn,h5,h6⟩:=h4 new.length (Nat.le_refl _)
  rw[List.take_length] at h6
  rw[Xx]
  unfold ajI
  simp only[h1,h5]
  exact Ff hS (hE.ev x) h2 h3 h6 h
 case appz zero bytes x n =>
  split at h
  case h_2=>cases h
  rename_i k hk
  split at h
  case isFalse=>cases h
  rename_i hc
  obtain⟨e1,_⟩:=qJ (hE.ev n) hk
  have Kq:∀x∈List.replicate k.toNat (elemOf (zero.map jI)),(aB x).length=zero.length:=fun x hx=>by rw[List.eq_of_mem_replicate hx];exact Cm hc.2.2
  have:=Ff hS (hE.ev x) Kq (AT (by
    rw[List.all_eq_true]
    intro x hx
    rw[List.eq_of_mem_replicate hx,nB hc.2.2]
    exact hc.2.2)) (BA hc.2.2 _) h
  rw[List.length_replicate] at this
  rw[Vd]
  unfold XB
  rw[e1]
  simp only[if_pos (show 0≤k∧k*(bytes:Int)≤140737488355328 from⟨hc.1,hc.2.1⟩)]
  exact this
 case copy size x y =>
  rw[Vp]
  exact Sc hS (hE.ev x) (hE.ev y) h
 case clear zero x =>
  obtain⟨a,ha,he⟩:=cE h
  cases he
  rw[SF]
  exact PJ hS (hE.ev x) ha
 all_goals cases h
end
end Go.PM
namespace Go.PM
def bare (F:Nat→Prop) (P:aE):View:=⟨fun _=>0,F,[],P,0⟩
theorem Ax {es:List VV}:aJ es=true↔∀x∈es,aM x=true:=by
 induction es with
 | nil=>simp[aJ]
 | cons x xs ih=>simp[aJ,ih]
theorem CX {x:VV} (h:aM x=true):aJ (aB x)=true:=by
 unfold aB
 split
 ·simpa[aM] using h
 ·simp[aJ,h]
theorem KU {es:List VV} (h:aJ es=true):aJ (es.flatMap aB)=true:=by
 rw[Ax] at h ⊢
 intro x hx
 obtain⟨y,hy,Ap⟩:=List.mem_flatMap.1 hx
 exact Ax.1 (CX (h y hy)) x Ap
theorem Hc {es:List VV} {k:TK} (h:aM (.tree es k)=true):k = .op∧aJ es=true∧uni es=true:=by
 simp only[aM,Bool.and_eq_true,decide_eq_true_eq] at h
 exact⟨h.1.1,h.1.2,h.2⟩
theorem Iz {x:VV} (h:aM x=true):x ≠ .any:=by
 rintro rfl
 cases h
theorem acT {es:List VV} (h:uni es=true):∃e,∀x∈es,(aB x).length=e:=by
 cases es with
 | nil=>exact⟨0,fun x hx=>by cases hx⟩
 |
  cons x xs =>
  refine⟨(aB x).length,fun y hy => ?_⟩
  rcases List.mem_cons.1 hy with rfl | hy
  ·rfl
  ·have:=List.all_eq_true.1 h y hy
   simpa using this
section
variable {V V':View}
theorem VR.pure {x:VV} {v:Value} (hF:∀b,V.F b→V'.F b∧V'.P[b]? = V.P[b]?) (h:VR V x v):aM x=true→VR V' x v:=by
 induction h using VR.rec (motive_2:=fun xs vs _=>aJ xs=true→VL V' xs vs) with
 | any=>intro hp;cases hp
 | sc _ h=>intro _;exact .sc _ h
 | agg cs ps _ ih=>intro hp;exact .agg _ _ (ih hp)
 | dL cs ps _ ih=>intro hp;exact .dL _ _ (ih hp)
 | nG k hk=>intro _;exact .nG k hk
 | tree es k b o c r e p Sp hb ho hc he hk _ ih=>intro hp;exact .tree es k b o c r e p (hF _ Sp).1 (by rw[(hF _ Sp).2];exact hb) ho hc he hk (ih (KU (Hc hp).2.1))
 | cK x off b o r e p Sp hb ho _ ih=>intro hp;exact .cK x off b o r e p (hF _ Sp).1 (by rw[(hF _ Sp).2];exact hb) ho (ih (CX hp))
 | ref=>intro hp;cases hp
 | ptr=>intro hp;cases hp
 | uG f fS ps _ ih=>intro hp;exact .uG _ _ _ (ih hp)
 | nil=>exact .nil
 |
  cons x v xs vs _ _ ih RQ =>
  rename_i hp
  simp only[aJ,Bool.and_eq_true] at hp
  exact .cons _ _ _ _ (ih hp.1) (RQ hp.2)
theorem VL.pure {xs:List VV} {vs:List Value} (hF:∀b,V.F b→V'.F b∧V'.P[b]? = V.P[b]?) (h:VL V xs vs) (hp:aJ xs=true):VL V' xs vs:=by
 induction xs generalizing vs with
 | nil=>cases h;exact .nil
 |
  cons x xs ih=>cases h with
  |
   cons _ v _ vs h hs =>
   simp only[aJ,Bool.and_eq_true] at hp
   exact .cons _ _ _ _ (h.pure hF hp.1) (ih hs hp.2)
theorem VL.flatten {es:List VV} {ps:List Value} (h:VL V es ps) (hp:aJ es=true):VL V (es.flatMap aB) (ps.flatMap aO):=by
 induction es generalizing ps with
 | nil=>cases h;exact .nil
 |
  cons x xs ih =>
  cases h with
  |
   cons _ v _ vs h hs =>
   simp only[aJ,Bool.and_eq_true] at hp
   rw[List.flatMap_cons,List.flatMap_cons]
   exact(h.cells (Iz hp.1)).append (ih hs hp.2)
theorem NS {P P':aE} (h:P <+: P'):∀b,(bare (· < P.length) P).F b→(bare (· < P'.length) P').F b∧(bare (· < P'.length) P').P[b]? = (bare (· < P.length) P).P[b]? := by
 intro b hb
 obtain⟨L,rfl⟩:=h
 have yY:b<P.length:=hb
 exact⟨by show b<(P++L).length;simp;omega,List.getElem?_append_left yY⟩
mutual
theorem real (x:VV) (hp:aM x=true) (P:aE):∃P' pv,P <+: P'∧VR (bare (· < P'.length) P') x pv:=by
 cases x with
 | any=>cases hp
 | sc v=>exact⟨P,v,List.prefix_refl _,.sc v hp⟩
 |
  agg cs =>
  obtain⟨P',ps,h1,h2⟩:=MJ cs hp P
  exact⟨P',_,h1,.agg _ _ h2⟩
 |
  dL cs =>
  obtain⟨P',ps,h1,h2⟩:=MJ cs hp P
  exact⟨P',_,h1,.dL _ _ h2⟩
 |
  tree es k =>
  obtain⟨rfl,h1,h2⟩:=Hc hp
  obtain⟨P',ps,h3,h4⟩:=MJ es h1 P
  obtain⟨e,he⟩:=acT h2
  have h5:=h4.flatten h1
  have hl:=h5.length
  rw[kE he] at hl
  have Ch:P' <+: P'++[LU.row (ps.flatMap aO) e false]:=List.prefix_append _ _
  refine⟨_,.slice (some ⟨P'.length,0,none⟩) es.length es.length,h3.trans Ch,?_⟩
  refine .tree es .op P'.length 0 es.length (ps.flatMap aO) e false (show P'.length<(P'++[LU.row (ps.flatMap aO) e false]).length by simp) (by show (P'++[LU.row (ps.flatMap aO) e false])[P'.length]? = _;simp) (by omega) (Nat.le_refl _) he trivial ?_
  rw[List.drop_zero,List.take_of_length_le (by omega)]
  exact VL.pure (NS Ch) h5 (KU h1)
 |
  cK x off =>
  obtain⟨P',pv,h3,h4⟩:=real x hp P
  have h5:=h4.cells (Iz hp)
  have Ch:P' <+: P'++[LU.row (aO pv) (aO pv).length false]:=List.prefix_append _ _
  refine⟨_,.pointer (some ⟨P'.length,0+off,none⟩),h3.trans Ch,?_⟩
  refine .cK x off P'.length 0 (aO pv) (aO pv).length false (show P'.length<(P'++[LU.row (aO pv) (aO pv).length false]).length by simp) (by show (P'++[LU.row (aO pv) (aO pv).length false])[P'.length]? = _;simp) (by rw[h5.length];omega) ?_
  rw[List.drop_zero,List.take_of_length_le (by rw[h5.length];exact Nat.le_refl _)]
  exact VL.pure (NS Ch) h5 (CX hp)
 | ref=>cases hp
 | ptr=>cases hp
 |
  uG f fS =>
  obtain⟨P',ps,h1,h2⟩:=MJ fS hp P
  exact⟨P',_,h1,.uG _ _ _ h2⟩
theorem MJ (xs:List VV) (hp:aJ xs=true) (P:aE):∃P' ps,P <+: P'∧VL (bare (· < P'.length) P') xs ps:=by
 cases xs with
 | nil=>exact⟨P,[],List.prefix_refl _,.nil⟩
 |
  cons x xs =>
  simp only[aJ,Bool.and_eq_true] at hp
  obtain⟨P1,pv,h1,h2⟩:=real x hp.1 P
  obtain⟨P2,ps,h3,h4⟩:=MJ xs hp.2 P1
  exact⟨P2,pv::ps,h1.trans h3,.cons _ _ _ _ (h2.pure (NS h3) hp.1) h4⟩
end
theorem JT {es:List VV}:pR es=true↔∀x∈es,eQ x=true:=by
 induction es with
 | nil=>simp[pR]
 | cons x xs ih=>simp[pR,ih]
theorem CZ {es:List VV} {k:TK} (h:eQ (.tree es k)=true):k = .op∧pR es=true∧uni es=true∧es.all yH=true:=by
 simp only[eQ,Bool.and_eq_true,decide_eq_true_eq] at h
 exact⟨h.1.1.1,h.1.1.2,h.1.2,h.2⟩
theorem RM {x:VV} (h:eQ x=true):pR (aB x)=true:=by
 unfold aB
 split
 ·simpa[eQ] using h
 ·simp[pR,h]
theorem MK {es:List VV} (h:pR es=true):pR (es.flatMap aB)=true:=by
 rw[JT] at h ⊢
 intro x hx
 obtain⟨y,hy,Ap⟩:=List.mem_flatMap.1 hx
 exact JT.1 (RM (h y hy)) x Ap
mutual
theorem Qx (x:VV) (h:eQ x=true):aM x=true:=by
 cases x with
 | sc v=>exact h
 | agg cs=>exact DC cs h
 | dL cs=>exact DC cs h
 |
  tree es k =>
  obtain⟨h1,h2,h3,_⟩:=CZ h
  simp[aM,h1,DC es h2,h3]
 | any=>cases h
 | cK=>cases h
 | ref=>cases h
 | ptr=>cases h
 | uG=>cases h
theorem DC (xs:List VV) (h:pR xs=true):aJ xs=true:=by
 cases xs with
 | nil=>rfl
 |
  cons x xs =>
  simp only[pR,Bool.and_eq_true] at h
  simp[aJ,Qx x h.1,DC xs h.2]
end
theorem QC {e:Nat}:∀ {es mO:List VV},(∀x∈es,(aB x).length=e)→(∀x∈mO,(aB x).length=e)→es.all yH=true→mO.all yH=true→es.length=mO.length→es.flatMap aB=mO.flatMap aB→es=mO
 | [],[],_,_,_,_,_,_=>rfl
 |
  x::es,y::mO,h1,h2,h3,h4,hl,h=>by
  rw[List.flatMap_cons,List.flatMap_cons] at h
  have hx:=h1 x List.mem_cons_self
  have hy:=h2 y List.mem_cons_self
  obtain⟨e1,e2⟩:=List.append_inj h (by omega)
  simp only[List.all_cons,Bool.and_eq_true] at h3 h4
  have Ap:x=y:=by
   have g1:=h3.1
   have g2:=h4.1
   unfold aB at e1
   split at e1<;>split at e1
   ·rw[e1]
   ·rename_i cs _ _
    subst e1
    cases g1
   ·rename_i cs
    subst e1
    cases g2
   ·injection e1
  rw[Ap,QC (fun z hz=>h1 z (List.mem_cons_of_mem _ hz)) (fun z hz=>h2 z (List.mem_cons_of_mem _ hz)) h3.2 h4.2 (by simpa using hl) e2]
theorem VR.uniq {x y:VV} {v:Value} (h:VR V x v) (h':VR V y v) (hx:eQ x=true) (hy:eQ y=true):x=y:=by
 induction h using VR.rec (motive_2:=fun xs vs _=>∀ys,VL V ys vs→pR xs=true→pR ys=true→xs=ys) generalizing y with
 | any=>cases hx
 |
  sc _ h=>cases h' with
  | sc _ _=>rfl
  | any=>cases hy
  | agg=>cases h
  | dL=>cases h
  | nG=>cases h
  | tree=>cases h
  | cK=>cases hy
  | ref=>cases hy
  | ptr=>cases hy
  | uG=>cases hy
 |
  agg cs ps h ih=>generalize hw:Value.agg ps.toArray=w at h';cases h' with
  | sc _ h'=>subst hw;cases h'
  | any=>cases hy
  |
   agg Ae ps' h' =>
   injection hw with hw
   have:ps=ps':=by simpa using hw
   subst this
   rw[ih _ h' hx hy]
  | dL=>cases hw
  | nG=>cases hw
  | tree=>cases hw
  | cK=>cases hy
  | ref=>cases hy
  | ptr=>cases hy
  | uG=>cases hy
 |
  dL cs ps h ih=>generalize hw:Value.tuple ps.toArray=w at h';cases h' with
  | sc _ h'=>subst hw;cases h'
  | any=>cases hy
  |
   dL Ae ps' h' =>
   injection hw with hw
   have:ps=ps':=by simpa using hw
   subst this
   rw[ih _ h' hx hy]
  | agg=>cases hw
  | nG=>cases hw
  | tree=>cases hw
  | cK=>cases hy
  | ref=>cases hy
  | ptr=>cases hy
  | uG=>cases hy
 |
  nG k hk =>
  obtain⟨rfl,_⟩:=CZ hx
  generalize hw:Value.slice none 0 0=w at h'
  cases h' with
  | sc _ h'=>subst hw;cases h'
  | any=>cases hy
  | nG k' hk'=>obtain⟨rfl,_⟩:=CZ hy;rfl
  | agg=>cases hw
  | dL=>cases hw
  | tree=>cases hw
  | cK=>cases hy
  | ref=>cases hy
  | ptr=>cases hy
  | uG=>cases hy
 |
  tree es k b o c r e p hF hb ho hc he hk hl ih =>
  obtain⟨rfl,hx1,hx2,hx3⟩:=CZ hx
  generalize hw:Value.slice (some ⟨b,o,none⟩) es.length c=w at h'
  cases h' with
  | sc _ h'=>subst hw;cases h'
  | any=>cases hy
  | nG=>cases hw
  | agg=>cases hw
  | dL=>cases hw
  |
   tree mO k' b' o' c' r' e' p' hF' yY Xj hc' he' hk' zA =>
   obtain⟨rfl,hy1,hy2,hy3⟩:=CZ hy
   injection hw with h1 h2 h3
   injection h1 with h1
   injection h1 with h1 h4
   subst h1 h3 h4
   rw[hb] at yY
   injection yY with yY
   injection yY with g1 g2 g3
   subst g1 g2 g3
   rw[←h2] at zA
   rw[QC he he' hx3 hy3 h2 (ih _ zA (MK hx1) (MK hy1))]
  | cK=>cases hy
  | ref=>cases hy
  | ptr=>cases hy
  | uG=>cases hy
 | cK=>cases hx
 | ref=>cases hx
 | ptr=>cases hx
 | uG=>cases hx
 | nil=>rename_i h' _ _;cases h';rfl
 |
  cons x v xs vs _ _ ih RQ =>
  rename_i ys h' hx hy
  cases h' with
  |
   cons y _ ys _ h' hs' =>
   simp only[pR,Bool.and_eq_true] at hx hy
   rw[ih h' hx.1 hy.1,RQ _ hs' hx.2 hy.2]
end
end Go.PM
namespace Go.PM
section
variable {V:View} {lo dS:Nat}
theorem oF {α β:Type} {f:α→Option β} {x:α} {xs:List α} {r:List β} (h:(x::xs).mapM f=some r):∃y ys,f x=some y∧xs.mapM f=some ys∧r=y::ys:=by
 rw[List.mapM_cons] at h
 cases hx:f x with
 | none=>rw[hx] at h;cases h
 |
  some y =>
  rw[hx] at h
  cases hs:xs.mapM f with
  | none=>rw[hs] at h;cases h
  | some ys=>rw[hs] at h;cases h;exact⟨y,ys,rfl,rfl,rfl⟩
theorem pL {α β:Type} {f:α→Option β}:∀ {xs:List α} {r:List β},xs.mapM f=some r→r.length=xs.length
 | [],r,h=>by cases h;rfl
 |
  x::xs,r,h=>by
  obtain⟨y,ys,_,h2,rfl⟩:=oF h
  simp[pL h2]
theorem Ua {d:Nat} {H:aA} {x x':VV} (h:fz d H x=some x'):(∃cs Ae,x = .agg cs∧x' = .agg Ae∧Ae.length=cs.length)∨(aB x=[x]∧aB x'=[x']):=by
 cases d with
 | zero=>cases h
 |
  succ d =>
  unfold fz at h
  split at h
  ·cases h
   cases x with
   | agg cs=>exact .inl ⟨cs,cs,rfl,rfl,rfl⟩
   | _=>exact .inr ⟨rfl,rfl⟩
  ·split at h
   ·obtain⟨Ae,h1,rfl⟩:=cE h
    exact .inl ⟨_,_,rfl,rfl,pL h1⟩
   ·obtain⟨Ae,h1,rfl⟩:=cE h;exact .inr ⟨rfl,rfl⟩
   ·obtain⟨Ae,h1,rfl⟩:=cE h;exact .inr ⟨rfl,rfl⟩
   ·obtain⟨Ae,h1,rfl⟩:=cE h;exact .inr ⟨rfl,rfl⟩
   ·split at h
    ·split at h
     ·obtain⟨Ae,h1,rfl⟩:=cE h;exact .inr ⟨rfl,rfl⟩
     ·cases h
    ·cases h
   ·split at h
    ·split at h
     ·obtain⟨Ae,h1,rfl⟩:=cE h;exact .inr ⟨rfl,rfl⟩
     ·cases h
    ·cases h
   ·obtain⟨Ae,h1,rfl⟩:=cE h;exact .inr ⟨rfl,rfl⟩
   ·cases h
theorem NH {d:Nat} {H:aA} {x x':VV} (h:fz d H x=some x'):(aB x').length=(aB x).length:=by
 rcases Ua h with⟨cs,Ae,rfl,rfl,h'⟩ | ⟨h1,h2⟩
 ·exact h'
 ·rw[h1,h2];rfl
def Ml (V:View) (G:Nat→Prop) (ids:List Nat):Prop:=∀i∈ids,∀g es e w,V.H[i]? = some (.row g es e w)→G (V.m i)
theorem Ka (hS:SR V lo dS) {G:Nat→Prop} (hG:∀q,V.F q→G q):∀(d:Nat) (v v':VV) (pv:Value),VR V v pv→fz d V.H v=some v'→Ml V G (jE d V.H v)→VR (bare G V.P) v' pv:=by
 have hFG:∀b,V.F b→(bare G V.P).F b∧(bare G V.P).P[b]? = V.P[b]? := fun b hb=>⟨hG b hb,rfl⟩
 intro d
 induction d with
 | zero=>intro v v' pv _ h;cases h
 |
  succ d ih =>
  have ihL:∀(xs Gv:List VV) (ps:List Value),VL V xs ps→xs.mapM (fz d V.H)=some Gv→Ml V G (xs.flatMap (jE d V.H))→VL (bare G V.P) Gv ps:=by
   intro xs
   induction xs with
   | nil=>intro Gv ps hl h _;cases h;cases hl;exact .nil
   |
    cons x xs ihx =>
    intro Gv ps hl h hi
    obtain⟨y,ys,h1,h2,rfl⟩:=oF h
    cases hl with
    |
     cons _ v _ vs hx O0 =>
     exact .cons _ _ _ _ (ih x y v hx h1 fun i B7=>hi i (by rw[List.flatMap_cons];exact List.mem_append_left _ B7)) (ihx ys vs O0 h2 fun i B7=>hi i (by rw[List.flatMap_cons];exact List.mem_append_right _ B7))
  have ihC:∀(x x':VV) (ps:List Value),VL V (aB x) ps→fz d V.H x=some x'→Ml V G (jE d V.H x)→VL (bare G V.P) (aB x') ps:=by
   intro x x' ps hl h hi
   rcases Ua h with⟨cs,Ae,rfl,rfl,kX⟩ | ⟨h1,h2⟩
   ·have:=ih _ _ (.agg ps.toArray) (.agg _ _ hl) h hi
    generalize hw:Value.agg ps.toArray=w at this
    cases this with
    |
     agg _ ps' zA =>
     injection hw with hw
     have:ps=ps':=by simpa using hw
     subst this
     exact zA
   ·rw[h1] at hl
    rw[h2]
    cases hl with
    |
     cons _ v _ vs hx O0 =>
     cases O0
     exact .cons _ _ _ _ (ih _ _ _ hx h hi) .nil
  have ihF:∀(xs Gv:List VV) (ps:List Value),VL V (xs.flatMap aB) ps→xs.mapM (fz d V.H)=some Gv→Ml V G (xs.flatMap (jE d V.H))→VL (bare G V.P) (Gv.flatMap aB) ps:=by
   intro xs
   induction xs with
   | nil=>intro Gv ps hl h _;cases h;cases hl;exact .nil
   |
    cons x xs ihx =>
    intro Gv ps hl h hi
    obtain⟨y,ys,h1,h2,rfl⟩:=oF h
    rw[List.flatMap_cons] at hl ⊢
    have hlen:=hl.length
    have a1:=hl.take (aB x).length
    have a2:=hl.drop (aB x).length
    rw[List.take_left] at a1
    rw[List.drop_left] at a2
    rw[←List.take_append_drop (aB x).length ps]
    exact(ihC x y _ a1 h1 fun i B7=>hi i (by rw[List.flatMap_cons];exact List.mem_append_left _ B7)).append (ihx ys _ a2 h2 fun i B7=>hi i (by rw[List.flatMap_cons];exact List.mem_append_right _ B7))
  have anN:∀(xs Gv:List VV) (e:Nat),xs.mapM (fz d V.H)=some Gv→(∀x∈xs,(aB x).length=e)→∀x∈Gv,(aB x).length=e:=by
   intro xs
   induction xs with
   | nil=>intro Gv e h _ x hx;cases h;cases hx
   |
    cons x xs ihx =>
    intro Gv e h he z hz
    obtain⟨y,ys,h1,h2,rfl⟩:=oF h
    rcases List.mem_cons.1 hz with rfl | hz
    ·rw[NH h1];exact he x List.mem_cons_self
    ·exact ihx ys e h2 (fun w hw=>he w (List.mem_cons_of_mem _ hw)) z hz
  intro v v' pv hv h hi
  unfold fz at h
  unfold jE at hi
  split at h
  ·rename_i hp
   cases h
   exact hv.pure hFG hp
  ·rename_i hp
   rw[if_neg hp] at hi
   split at h
   ·obtain⟨Ae,h1,rfl⟩:=cE h
    cases hv with
    | agg cs ps hl=>exact .agg _ _ (ihL _ _ _ hl h1 hi)
   ·obtain⟨Ae,h1,rfl⟩:=cE h
    cases hv with
    | dL cs ps hl=>exact .dL _ _ (ihL _ _ _ hl h1 hi)
   ·obtain⟨Ae,h1,rfl⟩:=cE h
    cases hv with
    | nG k hk=>cases h1;exact .nG _ (.inl rfl)
    |
     tree es k b o c r e p hF hb ho hc he hk hl =>
     have hlen:=pL h1
     have:=VR.tree (V:=bare G V.P) Ae .op b o c r e p (hG b hF) hb (by rw[hlen];exact ho) (by rw[hlen];exact hc) (anN _ _ _ h1 he) trivial (by rw[hlen];exact ihF _ _ _ hl h1 hi)
     rw[hlen] at this
     exact this
   ·obtain⟨x',h1,rfl⟩:=cE h
    cases hv with
    |
     cK x off b o r e p hF hb ho hl =>
     have hlen:=NH h1
     exact .cK x' _ b o r e p (hG b hF) hb (by rw[hlen];exact ho) (by rw[hlen];exact ihC _ _ _ hl h1 hi)
   ·rename_i b g o n c
    split at h
    case h_2=>cases h
    rename_i es e w hr
    simp only[hr] at hi
    rw[cN] at hr
    split at h
    case isFalse=>cases h
    rename_i auK
    obtain⟨hon,Df⟩:=auK
    obtain⟨mO,h1,rfl⟩:=cE h
    obtain⟨r,p,k1,k2,k3⟩:=hS.row b g es e w hr
    have FX:=k3.length
    rw[kE k2] at FX
    cases hv with
    |
     ref b g o n c a n' c' bD hg ha hq =>
     obtain⟨rfl,rfl,rfl⟩:=ha _ _ _ hr
     have YZ:∀x∈(es.drop o).take n',(aB x).length=e:=fun x hx=>k2 x (List.mem_of_mem_drop (List.mem_of_mem_take hx))
     have hn2:((es.drop o).take n').length=n':=by simp;omega
     have hlen:=pL h1
     rw[hn2] at hlen
     have hm:(o+n')*e≤es.length*e:=Nat.mul_le_mul_right _ hon
     rw[Nat.add_mul] at hm
     have hl:VL V (((es.drop o).take n').flatMap aB) ((r.drop (o*e)).take (n'*e)):=by
      have h4:=(k3.drop (o*e)).take (n'*e)
      rw[tO k2,tG (fun x hx=>k2 x (List.mem_of_mem_drop hx))] at h4
      exact h4
     have hGb:G (V.m b):=hi b List.mem_cons_self _ _ _ _ hr
     have:=VR.tree (V:=bare G V.P) mO .op (V.m b) (o*e) c' r e p hGb k1 (by rw[hlen];omega) (by rw[hlen];exact Df) (anN _ _ _ h1 YZ) trivial (by rw[hlen];exact ihF _ _ _ hl h1 fun i B7=>hi i (List.mem_cons_of_mem _ B7))
     rw[hlen] at this
     exact this
   ·rename_i b g j o
    split at h
    case h_2=>cases h
    rename_i es e w hr
    simp only[hr] at hi
    rw[cN] at hr
    split at h
    case h_2=>cases h
    rename_i x hx
    simp only[hx] at hi
    obtain⟨x',h1,rfl⟩:=cE h
    obtain⟨r,p,k1,k2,k3,k4⟩:=JL hS hr hx
    cases hv with
    |
     ptr b g j off a bD hg ha hq =>
     have:=ha _ _ _ hr
     subst this
     have hlen:=NH h1
     exact .cK x' o (V.m b) (j*e) r e p (hi b List.mem_cons_self _ _ _ _ hr) k1 (by rw[hlen];exact k3) (by rw[hlen];exact ihC _ _ _ k4 h1 fun i B7=>hi i (List.mem_cons_of_mem _ B7))
   ·obtain⟨Ae,h1,rfl⟩:=cE h
    cases hv with
    | uG f fS ps hl=>exact .uG _ _ _ (ihL _ _ _ hl h1 hi)
   ·cases h
theorem DK (hS:SR V lo dS) {G:Nat→Prop} (hG:∀q,V.F q→G q) {d:Nat}:∀ {xs Gv:List VV} {ps:List Value},VL V xs ps→xs.mapM (fz d V.H)=some Gv→Ml V G (xs.flatMap (jE d V.H))→VL (bare G V.P) Gv ps
 | [],Gv,ps,hl,h,_=>by cases h;cases hl;exact .nil
 |
  x::xs,Gv,ps,hl,h,hi=>by
  obtain⟨y,ys,h1,h2,rfl⟩:=oF h
  cases hl with
  |
   cons _ v _ vs hx O0 =>
   exact .cons _ _ _ _ (Ka hS hG d x y v hx h1 fun i B7=>hi i (by rw[List.flatMap_cons];exact List.mem_append_left _ B7)) (DK hS hG O0 h2 fun i B7=>hi i (by rw[List.flatMap_cons];exact List.mem_append_right _ B7))
def View.cM (V:View) (ids:List Nat):View:=ids.foldl View.freeze V
theorem vI:∀(ids:List Nat) {V:View},SR V lo dS→SR (V.cM ids) lo dS∧Eh lo V (V.cM ids)∧(V.cM ids).H=PM.cM V.H ids∧(V.cM ids).P=V.P∧(V.cM ids).m=V.m∧Ml V (V.cM ids).F ids
 | [],V,hS=>⟨hS,Eh.refl _ _,rfl,rfl,rfl,fun i hi=>by cases hi⟩
 |
  i::ids,V,hS=>by
  obtain⟨h1,h2,h3⟩:=Oo hS i
  obtain⟨g1,g2,g3,g4,g5,g6⟩:=vI ids h1
  refine⟨g1,h2.trans g2,?_,g4.trans (Yy V i),g5.trans (RB V i),?_⟩
  ·show ((V.freeze i).cM ids).H=_
   rw[g3,Rq]
   rfl
  ·intro k hk g es e w hr
   show ((V.freeze i).cM ids).F (V.m k)
   rcases List.mem_cons.1 hk with rfl | hk
   ·exact g2.F _ (h3 _ _ _ _ hr)
   ·have G7:∃g es e w,(V.freeze i).H[k]? = some (.row g es e w):=by
     rw[Rq]
     unfold Bd
     split
     ·rename_i g' mO e' w' hi
      by_cases hki:k=i
      ·subst hki
       exact⟨g',mO,e',false,List.getElem?_set_self (List.getElem?_eq_some_iff.1 hi).1⟩
      ·exact⟨g,es,e,w,by rw[List.getElem?_set_ne (Ne.symm hki)];exact hr⟩
     ·exact⟨g,es,e,w,hr⟩
    obtain⟨g',mO,e',w',G7⟩:=G7
    have:=g6 k hk _ _ _ _ G7
    rw[RB] at this
    exact this
end
end Go.PM