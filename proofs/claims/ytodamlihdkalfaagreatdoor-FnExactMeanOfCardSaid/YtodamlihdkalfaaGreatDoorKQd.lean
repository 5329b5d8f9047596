/- Texts of a claim, in one: part 4. -/
import Derived.Test.YtodamlihdkalfaaGreatDoorKQc
set_option linter.unusedSimpArgs false
set_option linter.unusedVariables false
namespace Go.PM
structure View where
 m:Nat→Nat
 F:Nat→Prop
 H:aB
 P:aD
 base:Nat
def kindOk (k:TK) (n c e:Nat) (p:Bool):Prop :=
 match k with
 | .op=>True
 | .cl e'=>e'=e∧c=n∧p=false
 | .nil=>False
mutual
inductive VR (V:View):VV→Value→Prop
 | any (v:Value):VR V .any v
 | sc (v:Value) (h:lL v=true):VR V (.sc v) v
 | agg (cs:List VV) (ps:List Value) (h:VL V cs ps):VR V (.agg cs) (.agg ps.toArray)
 | eK (cs:List VV) (ps:List Value) (h:VL V cs ps):VR V (.eK cs) (.tuple ps.toArray)
 | nH (k:TK) (hk:k = .op∨k = .nil):VR V (.tree [] k) (.slice none 0 0)
 | tree (es:List VV) (k:TK) (b o c:Nat) (r:List Value) (e:Nat) (p:Bool) (hF:V.F b) (hb:V.P[b]? = some (.row r e p)) (ho:o+es.length*e≤r.length)
  (hc:es.length≤c) (he:∀x∈es,(aA x).length=e) (hk:kindOk k es.length c e p) (hl:VL V (es.flatMap aA) ((r.drop o).take (es.length*e))) :
  VR V (.tree es k) (.slice (some ⟨b,o,none⟩) es.length c)
 | cO (x:VV) (off b o:Nat) (r:List Value) (e:Nat) (p:Bool) (hF:V.F b) (hb:V.P[b]? = some (.row r e p)) (ho:o+(aA x).length≤r.length)
  (hl:VL V (aA x) ((r.drop o).take (aA x).length)):VR V (.cO x off) (.pointer (some ⟨b,o+off,none⟩))
 | ref (b g o n c:Nat) (a:Option Addr) (n' c':Nat) (aX:b<V.H.length) (hg:∀g' es e w,V.H[b]? = some (.row g' es e w)→g≤g')
  (h:∀es e w,V.H[b]? = some (.row g es e w)→a=some ⟨V.m b,o*e,none⟩∧n'=n∧c'=c)
  (hq:∀a0,a=some a0→V.base≤a0.block∧a0.block<V.P.length∧∀b' g' es e w,V.H[b']? = some (.row g' es e w)→b'≠b→V.m b'≠a0.block):VR V (.ref b g o n c) (.slice a n' c')
 | ptr (b g j off:Nat) (a:Option Addr) (aX:b<V.H.length) (hg:∀g' es e w,V.H[b]? = some (.row g' es e w)→g≤g')
  (h:∀es e w,V.H[b]? = some (.row g es e w)→a=some ⟨V.m b,j*e+off,none⟩)
  (hq:∀a0,a=some a0→V.base≤a0.block∧a0.block<V.P.length∧∀b' g' es e w,V.H[b']? = some (.row g' es e w)→b'≠b→V.m b'≠a0.block):VR V (.ptr b g j off) (.pointer a)
 | sN (f:Nat) (fA:List VV) (ps:List Value) (h:VL V fA ps):VR V (.sN f fA) (.func (.func f) #[] ps.toArray)
inductive VL (V:View):List VV→List Value→Prop
 | nil:VL V [] []
 | cons (x:VV) (v:Value) (xs:List VV) (vs:List Value) (h:VR V x v) (hs:VL V xs vs):VL V (x::xs) (v::vs)
end
structure Up (V V':View):Prop where
 F:∀b,V.F b→V'.F b
 P:∀b,V.F b→V'.P[b]? = V.P[b]?
 len:V.H.length≤V'.H.length
 row:∀b g' lD e w',b<V.H.length→V'.H[b]? = some (.row g' lD e w')→∃g es w,V.H[b]? = some (.row g es e w)∧g≤g'∧(g'=g→V'.m b=V.m b)
 Ju:V'.base=V.base
 DX:V.P.length≤V'.P.length
 AA:∀b g es e w,V'.H[b]? = some (.row g es e w)→V'.m b<V.P.length→∃g0 es0 w0,V.H[b]? = some (.row g0 es0 e w0)∧V'.m b=V.m b∧(w=true→w0=true)
section
variable {V V' Nj:View}
theorem Up.refl (V:View):Up V V:=⟨fun _ h=>h,fun _ _=>rfl,Nat.le_refl _,fun b g es e w _ h=>⟨g,es,w,h,Nat.le_refl _,fun _=>rfl⟩,rfl,Nat.le_refl _,fun b g es e w h _=>⟨g,es,w,h,rfl,id⟩⟩
theorem Up.trans (h:Up V V') (h':Up V' Nj):Up V Nj :=
 ⟨fun b hb=>h'.F b (h.F b hb),fun b hb=>(h'.P b (h.F b hb)).trans (h.P b hb),Nat.le_trans h.len h'.len,fun b g es e w hb hr=>by
  obtain⟨g1,Ap,w1,h1,h2,h3⟩:=h'.row b g es e w (Nat.lt_of_lt_of_le hb h.len) hr
  obtain⟨g2,VE,w2,h4,h5,h6⟩:=h.row b g1 Ap e w1 hb h1
  exact⟨g2,VE,w2,h4,Nat.le_trans h5 h2,fun hg=>(h3 (by omega)).trans (h6 (by omega))⟩,h'.Ju.trans h.Ju,Nat.le_trans h.DX h'.DX,fun b g es e w hb hm=>by
   obtain⟨g1,Ap,w1,h1,h2,h3⟩:=h'.AA b g es e w hb (Nat.lt_of_lt_of_le hm h.DX)
   obtain⟨g2,VE,w2,h4,h5,h6⟩:=h.AA b g1 Ap e w1 h1 (by rw[←h2];exact hm)
   exact⟨g2,VE,w2,h4,h2.trans h5,fun hw=>h6 (h3 hw)⟩⟩
theorem Up.hq (u:Up V V') {b q:Nat} (h:V.base≤q∧q<V.P.length∧∀b' g' es e w,V.H[b']? = some (.row g' es e w)→b'≠b→V.m b'≠q):V'.base≤q∧q<V'.P.length∧∀b' g' es e w,V'.H[b']? = some (.row g' es e w)→b'≠b→V'.m b'≠q:=by
 refine⟨by rw[u.Ju];exact h.1,Nat.lt_of_lt_of_le h.2.1 u.DX,fun b' g' es e w hb eW hm => ?_⟩
 obtain⟨g0,es0,w0,h1,h2,_⟩:=u.AA b' g' es e w hb (by rw[hm];exact h.2.1)
 exact h.2.2 b' _ _ _ _ h1 eW (h2.symm.trans hm)
theorem VR.mono (u:Up V V') {x:VV} {v:Value} (h:VR V x v):VR V' x v:=by
 induction h using VR.rec (motive_2:=fun xs vs _=>VL V' xs vs) with
 | any=>exact .any _
 | sc _ h=>exact .sc _ h
 | agg cs ps _ ih=>exact .agg _ _ ih
 | eK cs ps _ ih=>exact .eK _ _ ih
 | nH k hk=>exact .nH k hk
 | tree es k b o c r e p hF hb ho hc he hk _ ih=>exact .tree es k b o c r e p (u.F _ hF) (by rw[u.P _ hF];exact hb) ho hc he hk ih
 | cO x off b o r e p hF hb ho _ ih=>exact .cO x off b o r e p (u.F _ hF) (by rw[u.P _ hF];exact hb) ho ih
 |
  ref b g o n c a n' c' aX hg h hq =>
  refine .ref b g o n c a n' c' (Nat.lt_of_lt_of_le aX u.len) (fun g' es e w hr => ?_) (fun es e w hr => ?_) fun a0 ha=>u.hq (hq a0 ha)
  ·obtain⟨g1,Ap,w1,h1,h2,_⟩:=u.row b g' es e w aX hr
   exact Nat.le_trans (hg _ _ _ _ h1) h2
  ·obtain⟨g1,Ap,w1,h1,h2,h3⟩:=u.row b g es e w aX hr
   have h4:=hg _ _ _ _ h1
   have h5:g=g1:=by omega
   subst h5
   rw[h3 rfl]
   exact h _ _ _ h1
 |
  ptr b g j off a aX hg h hq =>
  refine .ptr b g j off a (Nat.lt_of_lt_of_le aX u.len) (fun g' es e w hr => ?_) (fun es e w hr => ?_) fun a0 ha=>u.hq (hq a0 ha)
  ·obtain⟨g1,Ap,w1,h1,h2,_⟩:=u.row b g' es e w aX hr
   exact Nat.le_trans (hg _ _ _ _ h1) h2
  ·obtain⟨g1,Ap,w1,h1,h2,h3⟩:=u.row b g es e w aX hr
   have h4:=hg _ _ _ _ h1
   have h5:g=g1:=by omega
   subst h5
   rw[h3 rfl]
   exact h _ _ _ h1
 | sN f fA ps _ ih=>exact .sN _ _ _ ih
 | nil=>exact .nil
 | cons x v xs vs _ _ ih TE=>exact .cons _ _ _ _ ih TE
theorem VL.mono (u:Up V V') {xs:List VV} {vs:List Value} (h:VL V xs vs):VL V' xs vs:=by
 induction xs generalizing vs with
 | nil=>cases h;exact .nil
 |
  cons x xs ih=>cases h with
  | cons _ v _ vs h hs=>exact .cons _ _ _ _ (h.mono u) (ih hs)
end
section
variable {V:View} {xs ys:List VV} {vs ws:List Value}
theorem VL.length:∀ {xs:List VV} {vs:List Value},VL V xs vs→vs.length=xs.length
 | _,_,.nil=>rfl
 | _,_,.cons _ _ _ _ _ hs=>by simp[hs.length]
theorem VL.append:∀ {xs:List VV} {vs:List Value},VL V xs vs→VL V ys ws→VL V (xs++ys) (vs++ws)
 | _,_,.nil,h'=>h'
 | _,_,.cons _ _ _ _ h hs,h' => .cons _ _ _ _ h (hs.append h')
theorem VL.take (n:Nat):∀ {xs:List VV} {vs:List Value} ,VL V xs vs→VL V (xs.take n) (vs.take n):=by
 induction n with
 | zero=>intro xs vs _;simp;exact .nil
 |
  succ n ih=>intro xs vs h;cases h with
  | nil=>simp;exact .nil
  | cons x v xs vs h hs=>exact .cons _ _ _ _ h (ih hs)
theorem VL.drop (n:Nat):∀ {xs:List VV} {vs:List Value} ,VL V xs vs→VL V (xs.drop n) (vs.drop n):=by
 induction n with
 | zero=>intro xs vs h;simpa using h
 |
  succ n ih=>intro xs vs h;cases h with
  | nil=>simp;exact .nil
  | cons x v xs vs h hs=>exact ih hs
theorem VL.get (h:VL V xs vs) {i:Nat} {x:VV} (hx:xs[i]? = some x):∃v,vs[i]? = some v∧VR V x v:=by
 induction i generalizing xs vs with
 |
  zero=>cases h with
  | nil=>cases hx
  | cons y v xs vs h hs=>simp at hx;subst hx;exact⟨v,rfl,h⟩
 |
  succ i ih=>cases h with
  | nil=>cases hx
  | cons y v xs vs h hs=>exact ih hs (by simpa using hx)
theorem VL.map {α:Type} {f:α→VV} {g:α→Value}:∀ {l:List α},(∀x∈l,VR V (f x) (g x))→VL V (l.map f) (l.map g)
 | [],_ => .nil
 | x::l,h => .cons _ _ _ _ (h x (by simp)) (VL.map fun y hy=>h y (by simp[hy]))
theorem VL.replicate {x:VV} {v:Value} (h:VR V x v):∀n,VL V (List.replicate n x) (List.replicate n v)
 | 0 => .nil
 | n+1 => .cons _ _ _ _ h (VL.replicate h n)
theorem VL.gY {cs new:List VV} {ps pn:List Value} (h:VL V cs ps) (hn:VL V new pn) (o:Nat):VL V (cK cs o new) (gY ps o pn):=by
 unfold cK PM.gY
 rw[←hn.length]
 exact((h.take o).append hn).append (h.drop _)
theorem VR.iM (v:Value):VR V (iM v) v:=by
 unfold PM.iM
 split
 ·exact .nH _ (.inr rfl)
 ·split
  ·rename_i h;exact .sc _ h
  ·exact .any _
theorem VR.inj (v:Value):VR V (inj v) v:=by
 unfold PM.inj
 split
 ·rename_i cs
  have:(Value.agg cs) = .agg cs.toList.toArray:=by simp
  rw[this]
  refine .agg _ _ ?_
  have:=VL.map (V:=V) (f:=PM.iM) (g:=id) (l:=cs.toList) fun x _=>VR.iM x
  simpa using this
 ·rename_i vs
  split
  ·rename_i h
   have:vs=[].toArray:=by simpa using h
   rw[this]
   exact .eK _ _ .nil
  ·exact .any _
 ·exact VR.iM _
theorem VL.zero (z:List Value):VL V (z.map PM.iM) z:=by
 have:=VL.map (V:=V) (f:=PM.iM) (g:=id) (l:=z) fun x _=>VR.iM x
 simpa using this
theorem VR.cells {x:VV} {v:Value} (h:VR V x v) (hx:x ≠ .any):VL V (aA x) (aL v):=by
 cases h with
 | any=>exact absurd rfl hx
 |
  sc v h =>
  have:aL v=[v]:=by cases v<;>first | rfl | cases h
  rw[this]
  exact .cons _ _ _ _ (.sc v h) .nil
 | agg cs ps h=>simpa[aA,aL] using h
 | eK cs ps h=>exact .cons _ _ _ _ (.eK _ _ h) .nil
 | nH k hk=>exact .cons _ _ _ _ (.nH k hk) .nil
 | tree es k b o c r e p hF hb ho hc he hk hl=>exact .cons _ _ _ _ (.tree es k b o c r e p hF hb ho hc he hk hl) .nil
 | cO x off b o r e p hF hb ho hl=>exact .cons _ _ _ _ (.cO x off b o r e p hF hb ho hl) .nil
 | ref b g o n c a n' c' aX hg h hq=>exact .cons _ _ _ _ (.ref b g o n c a n' c' aX hg h hq) .nil
 | ptr b g j off a aX hg h hq=>exact .cons _ _ _ _ (.ptr b g j off a aX hg h hq) .nil
 | sN f fA ps h=>exact .cons _ _ _ _ (.sN _ _ _ h) .nil
theorem VR.fQ {x:VV} {v:Value} (h:VR V x v) (hx:cJ x=true):fQ v=true:=by
 cases h with
 | sc v h=>cases v<;>first | rfl | cases h
 | any=>cases hx
 | agg=>cases hx
 | eK=>cases hx
 | _=>rfl
theorem VL.fQ:∀ {xs:List VV} {vs:List Value},VL V xs vs→xs.all cJ=true→vs.all PM.fQ=true
 | _,_,.nil,_=>rfl
 |
  _,_,.cons _ _ _ _ h hs,hx=>by
  rw[List.all_cons,Bool.and_eq_true] at hx ⊢
  exact⟨h.fQ hx.1,hs.fQ hx.2⟩
theorem Qf {x:VV} (h:(aA x).all cJ=true):x ≠ .any:=by
 rintro rfl
 cases h
theorem jD {es:List VV} {e:Nat} (he:∀x∈es,(aA x).length=e):(es.flatMap aA).length=es.length*e:=by
 induction es with
 | nil=>simp
 |
  cons x xs ih =>
  rw[List.flatMap_cons,List.length_append,ih fun y hy=>he y (List.mem_cons_of_mem _ hy),he x List.mem_cons_self,List.length_cons,Nat.succ_mul]
  omega
theorem rC {es:List VV} {e:Nat} (he:∀x∈es,(aA x).length=e) (i:Nat):(es.flatMap aA).drop (i*e)=(es.drop i).flatMap aA:=by
 induction i generalizing es with
 | zero=>simp
 |
  succ i ih =>
  cases es with
  | nil=>simp
  |
   cons x xs =>
   have hx:=he x List.mem_cons_self
   rw[List.flatMap_cons,List.drop_succ_cons,←ih fun y hy=>he y (List.mem_cons_of_mem _ hy),show (i+1)*e=(aA x).length+i*e by rw[hx,Nat.succ_mul];omega,List.drop_append]
   simp
theorem rD {es:List VV} {e:Nat} (he:∀x∈es,(aA x).length=e) (i:Nat):(es.flatMap aA).take (i*e)=(es.take i).flatMap aA:=by
 induction i generalizing es with
 | zero=>simp
 |
  succ i ih =>
  cases es with
  | nil=>simp
  |
   cons x xs =>
   have hx:=he x List.mem_cons_self
   rw[List.flatMap_cons,List.take_succ_cons,List.flatMap_cons,←ih fun y hy=>he y (List.mem_cons_of_mem _ hy),show (i+1)*e=(aA x).length+i*e by rw[hx,Nat.succ_mul];omega,List.take_append]
   simp
   exact List.take_of_length_le (by omega)
theorem HB {es:List VV} {e:Nat} (he:∀x∈es,(aA x).length=e) {j:Nat} {x:VV} (hx:es[j]? = some x):((es.flatMap aA).drop (j*e)).take e=aA x:=by
 obtain⟨aX,SC⟩:=List.getElem?_eq_some_iff.1 hx
 rw[rC he,List.drop_eq_getElem_cons aX,SC,List.flatMap_cons,List.take_append,←he x (List.mem_of_getElem? hx)]
 simp
theorem tK {es new:List VV} {e:Nat} (he:∀x∈es,(aA x).length=e) (hn:∀x∈new,(aA x).length=e) (o:Nat):cK (es.flatMap aA) (o*e) (new.flatMap aA)=(cK es o new).flatMap aA:=by
 unfold cK
 rw[rD he,jD hn,show o*e+new.length*e=(o+new.length)*e by rw[Nat.add_mul],rC he]
 simp
theorem Gq {es:List VV} {j:Nat} {x:VV} (hj:j<es.length):cK es j [x]=es.set j x:=by
 unfold cK
 rw[List.set_eq_take_append_cons_drop,if_pos hj]
 simp
theorem NP {cs new:List VV} {o:Nat} (h:o+new.length≤cs.length):(cK cs o new).length=cs.length:=by
 unfold cK
 simp
 omega
theorem F9 {cs new:List VV} {o:Nat} {x:VV} (h:x∈cK cs o new):x∈cs∨x∈new:=by
 unfold cK at h
 rw[List.mem_append,List.mem_append] at h
 rcases h with(h | h) | h
 ·exact .inl (List.mem_of_mem_take h)
 ·exact .inr h
 ·exact .inl (List.mem_of_mem_drop h)
theorem lJ {cs:List VV} (h:cs.all cJ=true):aA (elemOf cs)=cs:=by
 unfold elemOf
 split
 ·rename_i x
  simp only[List.all_cons,List.all_nil,Bool.and_true] at h
  cases x<;>first | rfl | cases h
 ·rfl
theorem cY {H:aB} {b g:Nat} {es:List VV} {e:Nat} {w:Bool}:aV H b g=some (es,e,w)↔H[b]? = some (.row g es e w):=by
 unfold aV
 constructor
 ·intro h
  split at h
  ·rename_i hb
   split at h
   ·rename_i hg;subst hg;cases h;exact hb
   ·cases h
  ·cases h
 ·intro h
  rw[h]
  simp
end
structure SR (V:View) (lo dN:Nat):Prop where
 row:∀b g es e w,V.H[b]? = some (.row g es e w)→∃r p,V.P[V.m b]? = some (.row r e p)∧(∀x∈es,(aA x).length=e)∧VL V (es.flatMap aA) r
 wr:∀b g es e,V.H[b]? = some (.row g es e true)→¬V.F (V.m b)∧(lo≤b→dN≤V.m b)
 inj:∀a b g es e w g' lD e' w',V.H[a]? = some (.row g es e w)→V.H[b]? = some (.row g' lD e' w')→V.m a=V.m b→a=b
 fr:∀b,V.F b→b<V.P.length
 Qv:dN≤V.P.length
 Ju:V.base≤V.P.length
structure CA (lo:Nat) (V V':View):Prop extends Up V V' where
 jP:∀q,q<V.P.length→(∀b g es e,V.H[b]? = some (.row g es e true)→lo≤b→V.m b≠q)→V'.P[q]? = V.P[q]?
 Co:∀q,V'.F q→V.F q∨V.P.length≤q∨∃b g es e w,V.H[b]? = some (.row g es e w)∧V.m b=q
section
variable {V V' Nj:View} {lo:Nat}
theorem CA.refl (lo:Nat) (V:View):CA lo V V :=
 { Up.refl V with jP:=fun _ _ _=>rfl,Co:=fun _ h => .inl h }
theorem CA.trans (h:CA lo V V') (h':CA lo V' Nj):CA lo V Nj :=
 { Up.trans h.toUp h'.toUp with
  jP:=fun q hq hn=>by
   rw[h'.jP q (Nat.lt_of_lt_of_le hq h.DX) ?_,h.jP q hq hn]
   intro b g es e hb hl hm
   obtain⟨g1,Ap,w1,h1,h2,h3⟩:=h.AA b g es e true hb (by rw[hm];exact hq)
   have:=h3 rfl
   subst this
   exact hn b g1 Ap e h1 hl (h2.symm.trans hm)
  Co:=fun q hq=>by
   rcases h'.Co q hq with h1 | h1 | ⟨b,g,es,e,w,h1,h2⟩
   ·exact h.Co q h1
   ·exact .inr (.inl (Nat.le_trans h.DX h1))
   ·rcases Nat.lt_or_ge q V.P.length with hl | hl
    ·obtain⟨g1,Ap,w1,h3,h4,_⟩:=h.AA b g es e w h1 (by rw[h2];exact hl)
     exact .inr (.inr ⟨b,g1,Ap,e,w1,h3,h4.symm.trans h2⟩)
    ·exact .inr (.inl hl) }
end
end Go.PM
namespace Go.PM
def Us (m:Nat→Nat) (b v:Nat):Nat→Nat:=fun k=>if k=b then v else m k
theorem kA {m:Nat→Nat} {b v:Nat}:Us m b v b=v:=by simp[Us]
theorem kW {m:Nat→Nat} {b v k:Nat} (h:k≠b):Us m b v k=m k:=by simp[Us,h]
section
variable {V:View} {lo dN:Nat}
theorem SR.mlt (hS:SR V lo dN) {b g e:Nat} {es:List VV} {w:Bool} (hb:V.H[b]? = some (.row g es e w)):V.m b<V.P.length:=by
 obtain⟨r,p,h,_⟩:=hS.row b g es e w hb
 exact(List.getElem?_eq_some_iff.1 h).1
theorem Ab (hS:SR V lo dN) (x:JG):SR { V with P:=V.P++[x],F:=fun q=>V.F q∨q=V.P.length } lo dN∧CA lo V { V with P:=V.P++[x],F:=fun q=>V.F q∨q=V.P.length }:=by
 have hU:Up V { V with P:=V.P++[x],F:=fun q=>V.F q∨q=V.P.length }:=⟨fun _ h => .inl h,fun b hb=>List.getElem?_append_left (hS.fr b hb),Nat.le_refl _,fun b g es e w _ h=>⟨g,es,w,h,Nat.le_refl _,fun _=>rfl⟩,rfl,by simp,fun b g es e w hb _=>⟨g,es,w,hb,rfl,id⟩⟩
 refine⟨⟨fun b g es e w hb => ?_,fun b g es e hb=>⟨fun hF => ?_,(hS.wr b g es e hb).2⟩,hS.inj,fun b hb => ?_,by have:=hS.Qv;simp;omega,by have:=hS.Ju;simp;omega⟩,{ hU with jP:=fun q hq _=>List.getElem?_append_left hq,Co:=fun q hq => ?_ }⟩
 ·obtain⟨r,p,h1,h2,h3⟩:=hS.row b g es e w hb
  exact⟨r,p,by rw[←h1];exact List.getElem?_append_left (hS.mlt hb),h2,h3.mono hU⟩
 ·rcases hF with hF | hF
  ·exact(hS.wr b g es e hb).1 hF
  ·have h1:V.m b=V.P.length:=hF
   have:=hS.mlt hb
   omega
 ·rcases hb with hb | hb
  ·have:=hS.fr b hb
   simp;omega
  ·subst hb;simp
 ·rcases hq with hq | hq
  ·exact .inl hq
  ·exact .inr (.inl (by omega))
theorem pA (hS:SR V lo dN) {es:List VV} {r:List Value} {e:Nat} (p:Bool) (he:∀x∈es,(aA x).length=e) (hl:VL V (es.flatMap aA) r) :
  SR { V with m:=Us V.m V.H.length V.P.length,H:=V.H++[.row 0 es e true],P:=V.P++[.row r e p] } lo dN∧CA lo V { V with m:=Us V.m V.H.length V.P.length,H:=V.H++[.row 0 es e true],P:=V.P++[.row r e p] }:=by
 have AA:∀b g lD e' w,(V.H++[jR.row 0 es e true])[b]? = some (.row g lD e' w)→(b=V.H.length∧g=0∧lD=es∧e'=e∧w=true)∨(b≠V.H.length∧V.H[b]? = some (.row g lD e' w)):=by
  intro b g lD e' w hb
  rcases Nat.lt_trichotomy b V.H.length with h | h | h
  ·rw[List.getElem?_append_left h] at hb
   exact .inr ⟨by omega,hb⟩
  ·subst h
   rw[List.getElem?_append_right (Nat.le_refl _)] at hb
   simp at hb
   obtain⟨h1,h2,h3,h4⟩:=hb
   exact .inl ⟨rfl,h1.symm,h2.symm,h3.symm,h4⟩
  ·rw[List.getElem?_eq_none (by simp;omega)] at hb
   cases hb
 have hU:Up V { V with m:=Us V.m V.H.length V.P.length,H:=V.H++[.row 0 es e true],P:=V.P++[.row r e p] } :=
  ⟨fun _ h=>h,fun b hb=>List.getElem?_append_left (hS.fr b hb),by simp,fun b g' lD e' w' aX hb=>by
   rcases AA b g' lD e' w' hb with⟨h,_⟩ | ⟨h,hb⟩
   ·omega
   ·exact⟨g',lD,w',hb,Nat.le_refl _,fun _=>kW h⟩,rfl,by simp,fun b g lD e' w hb hm=>by
   rcases AA b g lD e' w hb with⟨rfl,_⟩ | ⟨h,hb⟩
   ·simp only[kA] at hm
    omega
   ·exact⟨g,lD,w,hb,kW h,id⟩⟩
 refine⟨⟨fun b g lD e' w hb => ?_,fun b g lD e' hb => ?_,fun a b g Ap e1 w1 g' VE e2 w2 ha hb hm => ?_,fun b hb=>by have:=hS.fr b hb;simp;omega,by have:=hS.Qv;simp;omega,by have:=hS.Ju;simp;omega⟩,
  { hU with jP:=fun q hq _=>List.getElem?_append_left hq,Co:=fun q hq => .inl hq }⟩
 ·rcases AA b g lD e' w hb with⟨rfl,rfl,rfl,rfl,rfl⟩ | ⟨h,hb⟩
  ·exact⟨r,p,by simp only[kA];simp,he,hl.mono hU⟩
  ·obtain⟨r1,p1,h1,h2,h3⟩:=hS.row b g lD e' w hb
   refine⟨r1,p1,?_,h2,h3.mono hU⟩
   simp only[kW h]
   rw[List.getElem?_append_left (hS.mlt hb)]
   exact h1
 ·rcases AA b g lD e' true hb with⟨rfl,_⟩ | ⟨h,hb⟩
  ·simp only[kA]
   exact⟨fun hF=>by have:=hS.fr _ hF;omega,fun _=>hS.Qv⟩
  ·simp only[kW h]
   exact hS.wr b g lD e' hb
 ·rcases AA a g Ap e1 w1 ha with⟨rfl,_⟩ | ⟨h,ha⟩
  ·rcases AA b g' VE e2 w2 hb with⟨rfl,_⟩ | ⟨h',hb⟩
   ·rfl
   ·simp only[kA,kW h'] at hm
    have:=hS.mlt hb
    omega
  ·rcases AA b g' VE e2 w2 hb with⟨rfl,_⟩ | ⟨h',hb⟩
   ·simp only[kA,kW h] at hm
    have:=hS.mlt ha
    omega
   ·simp only[kW h,kW h'] at hm
    exact hS.inj a b _ _ _ _ _ _ _ _ ha hb hm
theorem fG {H:aB} {b:Nat} {x:jR} (hb:b<H.length) {a:Nat} {y:jR} (h:(H.set b x)[a]? = some y):(a=b∧y=x)∨(a≠b∧H[a]? = some y):=by
 by_cases he:a=b
 ·subst he
  rw[List.getElem?_set_self hb] at h
  cases h
  exact .inl ⟨rfl,rfl⟩
 ·rw[List.getElem?_set_ne (Ne.symm he)] at h
  exact .inr ⟨he,h⟩
theorem Bd (hS:SR V lo dN) {b g e:Nat} {es lD:List VV} {r':List Value} (hb:V.H[b]? = some (.row g es e true)) (gV:lo≤b) (he:∀x∈lD,(aA x).length=e) (hl:VL V (lD.flatMap aA) r') {r:List Value} {p:Bool} (hp:V.P[V.m b]? = some (.row r e p)) :
  SR { V with H:=V.H.set b (.row g lD e true),P:=V.P.set (V.m b) (.row r' e p) } lo dN∧CA lo V { V with H:=V.H.set b (.row g lD e true),P:=V.P.set (V.m b) (.row r' e p) }:=by
 have sO:=(List.getElem?_eq_some_iff.1 hb).1
 have Jp:=hS.mlt hb
 have hU:Up V { V with H:=V.H.set b (.row g lD e true),P:=V.P.set (V.m b) (.row r' e p) } :=
  ⟨fun _ h=>h,fun q hq=>List.getElem?_set_ne (fun h=>(hS.wr b g es e hb).1 (by rw[h];exact hq)),by simp,fun a g' Ap e1 w1 aX ha=>by
   rcases fG sO ha with⟨rfl,h⟩ | ⟨_,h⟩
   ·cases h
    exact⟨g,es,true,hb,Nat.le_refl _,fun _=>rfl⟩
   ·exact⟨g',Ap,w1,h,Nat.le_refl _,fun _=>rfl⟩,rfl,by simp,fun a g1 Ap e1 w1 ha _=>by
   rcases fG sO ha with⟨rfl,h⟩ | ⟨eW,h⟩
   ·cases h
    exact⟨g,es,true,hb,rfl,fun _=>rfl⟩
   ·exact⟨g1,Ap,w1,h,rfl,id⟩⟩
 refine⟨⟨fun a g1 Ap e1 w1 ha => ?_,fun a g1 Ap e1 ha => ?_,fun a c g1 Ap e1 w1 g2 VE e2 w2 ha hc hm => ?_,fun q hq=>by have:=hS.fr q hq;simp;omega,by have:=hS.Qv;simp;omega,by have:=hS.Ju;simp;omega⟩,
  { hU with jP:=fun q hq hn=>List.getElem?_set_ne (hn b g es e hb gV),Co:=fun q hq => .inl hq }⟩
 ·rcases fG sO ha with⟨rfl,h⟩ | ⟨eW,h⟩
  ·cases h
   exact⟨r',p,List.getElem?_set_self Jp,he,hl.mono hU⟩
  ·obtain⟨r1,p1,h1,h2,h3⟩:=hS.row a g1 Ap e1 w1 h
   exact⟨r1,p1,by rw[←h1];exact List.getElem?_set_ne (fun hm=>eW (hS.inj _ _ _ _ _ _ _ _ _ _ h hb hm.symm)),h2,h3.mono hU⟩
 ·rcases fG sO ha with⟨rfl,h⟩ | ⟨eW,h⟩
  ·cases h
   exact hS.wr _ _ _ _ hb
  ·exact hS.wr _ _ _ _ h
 ·rcases fG sO ha with⟨rfl,h⟩ | ⟨eW,h⟩<;>rcases fG sO hc with⟨rfl,h'⟩ | ⟨SK,h'⟩
  ·rfl
  ·exact hS.inj _ _ _ _ _ _ _ _ _ _ hb h' hm
  ·exact hS.inj _ _ _ _ _ _ _ _ _ _ h hb hm
  ·exact hS.inj _ _ _ _ _ _ _ _ _ _ h h' hm
theorem Q4 (hS:SR V lo dN) {b g e:Nat} {es lD:List VV} {r':List Value} (hb:V.H[b]? = some (.row g es e true)) (gV:lo≤b) (he:∀x∈lD,(aA x).length=e) (hl:VL V (lD.flatMap aA) r') {P1:aD} (hP:P1.length=V.P.length) (hk:∀q,q≠V.m b→P1[q]? = V.P[q]?) (p:Bool) :
  SR { V with m:=Us V.m b V.P.length,H:=V.H.set b (.row (g+1) lD e true),P:=P1++[.row r' e p] } lo dN∧CA lo V { V with m:=Us V.m b V.P.length,H:=V.H.set b (.row (g+1) lD e true),P:=P1++[.row r' e p] }:=by
 have sO:=(List.getElem?_eq_some_iff.1 hb).1
 have Jp:=hS.mlt hb
 have wC:∀q,q<V.P.length→q≠V.m b→(P1++[JG.row r' e p])[q]? = V.P[q]? := fun q hq hn=>by rw[List.getElem?_append_left (by omega)];exact hk q hn
 have hU:Up V { V with m:=Us V.m b V.P.length,H:=V.H.set b (.row (g+1) lD e true),P:=P1++[.row r' e p] } :=
  ⟨fun _ h=>h,fun q hq=>wC q (hS.fr q hq) (fun h=>(hS.wr b g es e hb).1 (by rw[←h];exact hq)),by simp,fun a g' Ap e1 w1 aX ha=>by
   rcases fG sO ha with⟨rfl,h⟩ | ⟨eW,h⟩
   ·cases h
    exact⟨g,es,true,hb,by omega,fun h=>by omega⟩
   ·exact⟨g',Ap,w1,h,Nat.le_refl _,fun _=>kW eW⟩,rfl,by simp;omega,fun a g1 Ap e1 w1 ha hm=>by
   rcases fG sO ha with⟨rfl,h⟩ | ⟨eW,h⟩
   ·simp only[kA] at hm
    omega
   ·exact⟨g1,Ap,w1,h,kW eW,id⟩⟩
 refine⟨⟨fun a g1 Ap e1 w1 ha => ?_,fun a g1 Ap e1 ha => ?_,fun a c g1 Ap e1 w1 g2 VE e2 w2 ha hc hm => ?_,fun q hq=>by have:=hS.fr q hq;simp;omega,by have:=hS.Qv;simp;omega,by have:=hS.Ju;simp;omega⟩,
  { hU with jP:=fun q hq hn=>wC q hq (Ne.symm (hn b g es e hb gV)),Co:=fun q hq => .inl hq }⟩
 ·rcases fG sO ha with⟨rfl,h⟩ | ⟨eW,h⟩
  ·cases h
   refine⟨r',p,?_,he,hl.mono hU⟩
   simp only[kA]
   rw[←hP]
   simp
  ·obtain⟨r1,p1,h1,h2,h3⟩:=hS.row a g1 Ap e1 w1 h
   refine⟨r1,p1,?_,h2,h3.mono hU⟩
   simp only[kW eW]
   rw[wC _ (hS.mlt h) (fun hm=>eW (hS.inj _ _ _ _ _ _ _ _ _ _ h hb hm))]
   exact h1
 ·rcases fG sO ha with⟨rfl,h⟩ | ⟨eW,h⟩
  ·cases h
   simp only[kA]
   exact⟨fun hF=>by have:=hS.fr _ hF;omega,fun _=>hS.Qv⟩
  ·simp only[kW eW]
   exact hS.wr _ _ _ _ h
 ·rcases fG sO ha with⟨rfl,h⟩ | ⟨eW,h⟩<;>rcases fG sO hc with⟨rfl,h'⟩ | ⟨SK,h'⟩
  ·rfl
  ·simp only[kA,kW SK] at hm
   have:=hS.mlt h'
   omega
  ·simp only[kA,kW eW] at hm
   have:=hS.mlt h
   omega
  ·simp only[kW eW,kW SK] at hm
   exact hS.inj _ _ _ _ _ _ _ _ _ _ h h' hm
def View.freeze (V:View) (b:Nat):View :=
 match V.H[b]? with
 | some (.row _ _ _ _)=>{ V with H:=zD V.H b,F:=fun q=>V.F q∨q=V.m b }
 | _=>V
theorem Nq (V:View) (b:Nat):(V.freeze b).H=zD V.H b:=by
 unfold View.freeze zD
 cases h:V.H[b]? with
 | none=>rfl
 | some x=>cases x<;>rfl
theorem W0 (V:View) (b:Nat):(V.freeze b).P=V.P:=by
 unfold View.freeze
 split<;>rfl
theorem OG (V:View) (b:Nat):(V.freeze b).m=V.m:=by
 unfold View.freeze
 split<;>rfl
theorem Mn (hS:SR V lo dN) (b:Nat):SR (V.freeze b) lo dN∧CA lo V (V.freeze b)∧(∀g es e w,V.H[b]? = some (.row g es e w)→(V.freeze b).F (V.m b)):=by
 unfold View.freeze
 split
 case h_2 eW=>exact⟨hS,CA.refl _ _,fun g es e w h=>absurd h (eW _ _ _ _)⟩
 rename_i g es e w hb
 have sO:=(List.getElem?_eq_some_iff.1 hb).1
 have hf:zD V.H b=V.H.set b (.row g es e false):=by unfold zD;rw[hb]
 rw[hf]
 have hU:Up V { V with H:=V.H.set b (.row g es e false),F:=fun q=>V.F q∨q=V.m b } :=
  ⟨fun _ h => .inl h,fun _ _=>rfl,by simp,fun a g' Ap e1 w1 aX ha=>by
   rcases fG sO ha with⟨rfl,h⟩ | ⟨_,h⟩
   ·cases h
    exact⟨g,es,w,hb,Nat.le_refl _,fun _=>rfl⟩
   ·exact⟨g',Ap,w1,h,Nat.le_refl _,fun _=>rfl⟩,rfl,Nat.le_refl _,fun a g1 Ap e1 w1 ha hm=>by
   rcases fG sO ha with⟨rfl,h⟩ | ⟨eW,h⟩
   ·cases h
    exact⟨g,es,w,hb,rfl,fun h=>by cases h⟩
   ·exact⟨g1,Ap,w1,h,rfl,id⟩⟩
 refine⟨⟨fun a g1 Ap e1 w1 ha => ?_,fun a g1 Ap e1 ha => ?_,fun a c g1 Ap e1 w1 g2 VE e2 w2 ha hc hm => ?_,fun q hq => ?_,hS.Qv,hS.Ju⟩,
  { hU with jP:=fun q hq hn=>rfl,Co:=fun q hq => ?_ },fun _ _ _ _ _ => .inr rfl⟩
 ·rcases fG sO ha with⟨rfl,h⟩ | ⟨eW,h⟩
  ·cases h
   obtain⟨r1,p1,h1,h2,h3⟩:=hS.row _ _ _ _ _ hb
   exact⟨r1,p1,h1,h2,h3.mono hU⟩
  ·obtain⟨r1,p1,h1,h2,h3⟩:=hS.row _ _ _ _ _ h
   exact⟨r1,p1,h1,h2,h3.mono hU⟩
 ·rcases fG sO ha with⟨rfl,h⟩ | ⟨eW,h⟩
  ·cases h
  ·refine⟨fun hF => ?_,(hS.wr _ _ _ _ h).2⟩
   rcases hF with hF | hF
   ·exact(hS.wr _ _ _ _ h).1 hF
   ·exact eW (hS.inj _ _ _ _ _ _ _ _ _ _ h hb hF)
 ·rcases fG sO ha with⟨rfl,h⟩ | ⟨eW,h⟩<;>rcases fG sO hc with⟨rfl,h'⟩ | ⟨SK,h'⟩
  ·rfl
  ·exact hS.inj _ _ _ _ _ _ _ _ _ _ hb h' hm
  ·exact hS.inj _ _ _ _ _ _ _ _ _ _ h hb hm
  ·exact hS.inj _ _ _ _ _ _ _ _ _ _ h h' hm
 ·rcases hq with hq | hq
  ·exact hS.fr q hq
  ·subst hq;exact hS.mlt hb
 ·rcases hq with hq | hq
  ·exact .inl hq
  ·exact .inr (.inr ⟨b,g,es,e,w,hb,hq.symm⟩)
end
end Go.PM
namespace Go.PM
section
variable {V:View} {lo dN:Nat} {ρ:cP} {iZ:Env}
def ER (V:View) (ρ:cP) (iZ:Env):Prop:=∀t,VR V (ρ t) (iZ t)
theorem ER.mono {V':View} (u:Up V V') (h:ER V ρ iZ):ER V' ρ iZ:=fun t=>(h t).mono u
theorem ER.ev (h:ER V ρ iZ) (x:Operand):VR V (dL ρ x) (ev iZ x):=by
 cases x with
 | tmp t=>exact h t
 | const v=>exact VR.inj v
 | global g=>exact .any _
 | func f=>exact .sN f [] [] .nil
theorem ER.put {d:Option Nat} {x:VV} {v:Value} (h:ER V ρ iZ) (hx:VR V x v):ER V (Hf ρ d x) (put iZ d v):=by
 cases d with
 | none=>exact h
 |
  some d =>
  intro t
  simp only[Hf,PM.put]
  split
  ·exact hx
  ·exact h t
theorem ER.evs (h:ER V ρ iZ) (xs:List Operand):VL V (xs.map (dL ρ)) (xs.map (PM.ev iZ)):=VL.map fun x _=>h.ev x
def fO (lo dN:Nat) (V:View) (r:Option (Value×aD)) (v:VV) (H':aB):Prop :=
 ∃pv V',r=some (pv,V'.P)∧V'.H=H'∧SR V' lo dN∧CA lo V V'∧VR V' v pv
theorem fO.pure (hS:SR V lo dN) {r:Option Value} {v:VV} {pv:Value} (h:r=some pv) (hv:VR V v pv):fO lo dN V (r.map (·,V.P)) v V.H :=
 ⟨pv,V,by rw[h];rfl,rfl,hS,CA.refl _ _,hv⟩
theorem fO.of {V':View} {pv:Value} {v:VV} (h:SR V' lo dN∧CA lo V V') (hv:VR V' v pv):fO lo dN V (some (pv,V'.P)) v V'.H:=⟨pv,V',rfl,rfl,h.1,h.2,hv⟩
theorem fO.same (hS:SR V lo dN) {v:VV} {pv:Value} (hv:VR V v pv):fO lo dN V (some (pv,V.P)) v V.H :=
 ⟨pv,V,rfl,rfl,hS,CA.refl _ _,hv⟩
theorem bZ {α β:Type} {o:Option α} {f:α→β} {b:β} (h:o.map f=some b):∃a,o=some a∧f a=b:=by
 cases o with
 | none=>cases h
 | some a=>cases h;exact⟨a,rfl,rfl⟩
theorem oS {x:VV} {v u:Value} (h:VR V x u) (hx:x = .sc v):u=v∧lL v=true:=by
 subst hx
 cases h with
 | sc v h=>exact⟨rfl,h⟩
theorem Vk {op:BinOp} {a b c:Value} (h:cU op a b=some c):lL c=true:=by
 unfold cU at h
 split at h
 ·split at h<;>cases h;rfl
 ·split at h<;>cases h;rfl
 ·split at h
  ·split at h<;>first | (cases h;rfl) | (split at h<;>cases h<;>rfl) | cases h
  ·cases h
 ·split at h<;>first | (cases h;rfl) | (split at h<;>cases h<;>rfl) | cases h
 ·cases h
theorem Yp {op:UnOp} {a c:Value} (h:UL op a=some c):lL c=true:=by
 unfold UL at h
 split at h<;>cases h<;>rfl
theorem VH {n:Bool} {a b c:Value} (h:MF n a b=some c):lL c=true:=by
 unfold MF at h
 split at h<;>cases h;rfl
theorem Wc {k:IntKind} {a c:Value} (h:Qj k a=some c):lL c=true:=by
 unfold Qj at h
 split at h<;>cases h;rfl
theorem Xa {a c:Value} (h:T8 a=some c):lL c=true:=by
 unfold T8 at h
 split at h<;>cases h;rfl
theorem T0 {a c:Value} (h:yC a=some c):lL c=true:=by
 unfold yC at h
 split at h<;>cases h;rfl
theorem Sv {a b c:Value} (h:Ep a b=some c):lL c=true:=by
 unfold Ep at h
 split at h
 ·split at h<;>cases h;rfl
 ·cases h
theorem Vz {a b c:Value} (h:NG a b=some c):lL c=true:=by
 unfold NG at h
 split at h<;>cases h;rfl
theorem WO {a b c:Value} (h:Pn a b=some c):lL c=true:=by
 unfold Pn at h
 split at h<;>cases h;rfl
theorem BT (hS:SR V lo dN) {f:Value→Option Value} (hf:∀a c,f a=some c→lL c=true) {x v:VV} {u:Value} (hx:VR V x u) (h:I0 f x=some v):fO lo dN V ((f u).map (·,V.P)) v V.H:=by
 unfold I0 at h
 split at h
 ·obtain⟨h1,_⟩:=oS hx rfl
  subst h1
  obtain⟨c,hc,rfl⟩:=bZ h
  exact fO.pure hS hc (.sc _ (hf _ _ hc))
 ·cases h
theorem yD (hS:SR V lo dN) {f:Value→Value→Option Value} (hf:∀a b c,f a b=some c→lL c=true) {x y v:VV} {u w:Value} (hx:VR V x u) (hy:VR V y w) (h:Fu f x y=some v):fO lo dN V ((f u w).map (·,V.P)) v V.H:=by
 unfold Fu at h
 split at h
 ·obtain⟨h1,_⟩:=oS hx rfl
  obtain⟨h2,_⟩:=oS hy rfl
  subst h1 h2
  obtain⟨c,hc,rfl⟩:=bZ h
  exact fO.pure hS hc (.sc _ (hf _ _ _ hc))
 ·cases h
theorem QT {α:Type} (l:List α) {o n a k:Nat} (h:a+k≤n):(((l.drop o).take n).drop a).take k=(l.drop (o+a)).take k:=by
 rw[List.drop_take,List.take_take,List.drop_drop,Nat.min_eq_left (by omega)]
theorem OT {x v:VV} {agg:Bool} {size off b o e:Nat} {r:List Value} {p:Bool} (hb:V.P[b]? = some (.row r e p)) (ho:o+(aA x).length≤r.length) (hl:VL V (aA x) ((r.drop o).take (aA x).length)) (h:eX agg size x off=some v) :
  ∃u,lR agg size (.pointer (some ⟨b,o+off,none⟩)) V.P=some u∧VR V v u:=by
 unfold eX at h
 cases agg with
 |
  true =>
  simp only[if_true] at h
  split at h
  ·rename_i hs
   cases h
   refine⟨.agg ((r.drop (o+off)).take size).toArray,?_,.agg _ _ ?_⟩
   ·simp only[lR,if_true,yA hb (show o+off+size≤r.length by omega)]
    rfl
   ·have:=(hl.drop off).take size
    rw[QT _ hs] at this
    exact this
  ·cases h
 |
  false =>
  simp only[Bool.false_eq_true,if_false] at h
  obtain⟨u,hu,hv⟩:=hl.get h
  have acC:=(List.getElem?_eq_some_iff.1 h).1
  rw[List.getElem?_take,if_pos acC,List.getElem?_drop] at hu
  refine⟨u,?_,hv⟩
  have aX:=(List.getElem?_eq_some_iff.1 hu).1
  simp only[lR,Bool.false_eq_true,if_false,yA hb (show o+off+1≤r.length by omega)]
  rw[List.drop_eq_getElem_cons aX]
  simp only[List.take_succ_cons,List.take_zero]
  rw[List.getElem?_eq_getElem aX] at hu
  injection hu with hu
  rw[hu]
theorem HO (hS:SR V lo dN) {b g e j:Nat} {es:List VV} {w:Bool} {x:VV} (hb:V.H[b]? = some (.row g es e w)) (hx:es[j]? = some x) :
  ∃r p,V.P[V.m b]? = some (.row r e p)∧(aA x).length=e∧j*e+(aA x).length≤r.length∧VL V (aA x) ((r.drop (j*e)).take (aA x).length):=by
 obtain⟨r,p,h1,h2,h3⟩:=hS.row b g es e w hb
 have hxe:=h2 x (List.mem_of_getElem? hx)
 have hj:=(List.getElem?_eq_some_iff.1 hx).1
 have hlen:=h3.length
 rw[jD h2] at hlen
 have hm:(j+1)*e≤es.length*e:=Nat.mul_le_mul_right _ hj
 rw[Nat.succ_mul] at hm
 refine⟨r,p,h1,hxe,by omega,?_⟩
 have:=(h3.drop (j*e)).take e
 rw[HB h2 hx] at this
 rw[hxe]
 exact this
theorem IV (hS:SR V lo dN) {p v:VV} {u:Value} {agg:Bool} {size:Nat} (hp:VR V p u) (h:gM agg size p V.H=some v):∃w,lR agg size u V.P=some w∧VR V v w:=by
 unfold gM at h
 split at h
 ·cases hp with
  | cO x off b o r e p hF hb ho hl=>exact OT hb ho hl h
 ·split at h
  ·rename_i es e w hr
   rw[cY] at hr
   split at h
   ·rename_i x hx
    cases hp with
    |
     ptr b g j off a aX hg ha hq =>
     have:=ha _ _ _ hr
     subst this
     obtain⟨r,p,h1,h2,h3,h4⟩:=HO hS hr hx
     exact OT h1 h3 h4 h
   ·cases h
  ·cases h
 ·cases h
theorem Nx (hS:SR V lo dN) {x i v:VV} {u k:Value} {size:Nat} (hx:VR V x u) (hi:VR V i k) (h:bE size x i V.H=some v):∃w,Lz size u k=some w∧VR V v w:=by
 unfold bE at h
 split at h
 ·rename_i es tk ik i
  obtain⟨rfl,_⟩:=oS hi rfl
  split at h
  ·rename_i h0
   split at h
   ·rename_i y hy
    split at h
    ·rename_i Bf
     cases h
     have aX:=(List.getElem?_eq_some_iff.1 hy).1
     cases hx with
     | nH=>simp at aX
     |
      tree es k b o c r e p hF hb ho hc he hk hl =>
      have hye:=he y (List.mem_of_getElem? hy)
      have JL:e=size:=by omega
      subst JL
      have hm:(i.toNat+1)*e≤es.length*e:=Nat.mul_le_mul_right _ aX
      rw[Nat.succ_mul] at hm
      refine⟨_,M3 h0 (by omega),?_⟩
      have h1:=(hl.drop (i.toNat*e)).take e
      rw[HB he hy,QT _ (by omega)] at h1
      exact .cO y 0 b (o+i.toNat*e) r e p hF hb (by omega) (by rw[hye];exact h1)
    ·cases h
   ·cases h
  ·cases h
 ·rename_i b g o n c ik i
  obtain⟨rfl,_⟩:=oS hi rfl
  split at h
  ·rename_i es e w hr
   rw[cY] at hr
   split at h
   ·rename_i hc
    obtain⟨rfl,h0,h1⟩:=hc
    cases h
    cases hx with
    |
     ref b g o n c a n' c' aX hg ha hq =>
     obtain⟨rfl,rfl,rfl⟩:=ha _ _ _ hr
     refine⟨_,M3 h0 h1,.ptr b g (o+i.toNat) 0 _ aX hg (fun lD e' w' E0 => ?_) fun a0 h=>by cases h;exact hq ⟨V.m b,o*e,none⟩ rfl⟩
     rw[hr] at E0
     cases E0
     rw[Nat.add_mul,Nat.add_zero]
   ·cases h
  ·cases h
 ·cases h
theorem yF {l:Option Operand} {lv:Option Value} (hE:ER V ρ iZ) (h:Eh (l.map (dL ρ))=some lv):l.map (ev iZ)=lv:=by
 cases l with
 | none=>cases h;rfl
 |
  some x =>
  simp only[Option.map_some,Eh] at h
  split at h
  ·rename_i hv;cases hv
  ·rename_i v hv
   cases h
   injection hv with hv
   obtain⟨h1,_⟩:=oS (hE.ev x) hv
   rw[Option.map_some,h1]
  ·cases h
theorem Fe {v:Option Value} {d:Option Nat} {t x:Nat} (hd:∀y,d=some y→y≤t) (h:dR v d t=some x):x≤t:=by
 unfold dR at h
 split at h
 ·exact hd _ h
 ·split at h
  ·cases h;omega
  ·cases h
 ·cases h
theorem Lm {v:Option Value} {d d':Option Nat} {t t' x:Nat} (ht:t≤t') (hd:v=none→d=d') (h:dR v d t=some x):dR v d' t'=some x:=by
 unfold dR at h ⊢
 cases v with
 | none=>rw[←hd rfl];exact h
 |
  some v =>
  cases v with
  |
   int k i =>
   simp only at h ⊢
   split at h
   ·rename_i h1;rw[if_pos (by omega)];exact h
   ·cases h
  | _=>simp only at h ⊢;exact h
theorem K8 (hS:SR V lo dN) (size:Nat):fO lo dN V (some (.slice (some ⟨V.P.length,0,none⟩) 0 0,V.P++[.row [] size false])) (.tree [] (.cl size)) V.H:=by
 exact(fO.of (Ab hS (.row [] size false)) (.tree [] (.cl size) V.P.length 0 0 [] size false (.inr rfl) (by simp) (by simp) (by simp) (fun x hx=>by cases hx) ⟨rfl,rfl,rfl⟩ (by simp;exact .nil)) :)
theorem Te (hS:SR V lo dN) (hE:ER V ρ iZ) {x v:VV} {u:Value} {size:Nat} {l h m:Option Operand} (hx:VR V x u) (hv:DR size x (l.map (dL ρ)) (h.map (dL ρ)) (m.map (dL ρ)) V.H=some v) :
  fO lo dN V (AE size u (l.map (ev iZ)) (h.map (ev iZ)) (m.map (ev iZ)) V.P) v V.H:=by
 unfold DR at hv
 split at hv
 case h_2=>cases hv
 rename_i lv hhv mv hl hh hm
 rw[yF hE hl,yF hE hh,yF hE hm]
 split at hv
 ·rename_i y ys tk
  split at hv
  case isFalse=>cases hv
  rename_i Bf
  split at hv
  ·cases hv
  rename_i m0 Xy
  split at hv
  ·cases hv
  rename_i h0 hh0
  split at hv
  ·cases hv
  rename_i l0 xM
  cases hx with
  |
   tree es k b o c r e p hF hb ho hc he hk hl =>
   have JL:e=size:=by rw[←he y List.mem_cons_self];exact Bf
   subst JL
   have hlen:(y::ys).length=ys.length+1:=rfl
   rw[hlen] at ho hc
   have b1:m0≤ys.length+1:=Fe (fun z hz=>by injection hz with hz;omega) Xy
   have b2:h0≤m0:=by
    refine Fe (fun z hz => ?_) hh0
    split at hz
    ·cases hz
    ·rename_i hmn
     injection hz with hz
     have:mv=none:=by cases mv<;>simp_all
     subst this
     simp[dR] at Xy
     omega
   have b3:l0≤h0:=Fe (fun z hz=>by injection hz with hz;omega) xM
   have e1:dR mv (some c) c=some (if mv.isSome then m0 else c):=by
    cases mv with
    | none=>rfl
    | some q=>exact Lm hc (fun hq=>by cases hq) Xy
   have e2:dR hhv (if mv.isSome then none else some (ys.length+1)) (if mv.isSome then m0 else c)=some h0:=by
    cases mv with
    |
     none =>
     simp only[Option.isSome_none,Bool.false_eq_true,if_false] at hh0 ⊢
     exact Lm (by omega) (fun _=>rfl) hh0
    | some q=>exact hh0
   unfold AE
   simp only[hb,if_true]
   rw[e1]
   simp only
   rw[hlen,e2]
   simp only
   rw[xM]
   simp only
   by_cases lG:mv.isSome=true∧m0=l0
   ·rw[if_pos lG] at hv
    cases hv
    rw[if_pos ⟨lG.1,by rw[if_pos lG.1];exact lG.2⟩]
    exact K8 hS e
   ·rw[if_neg lG] at hv
    cases hv
    rw[if_neg (fun hh=>lG ⟨hh.1,by have:=hh.2;rw[if_pos hh.1] at this;exact this⟩)]
    have aX:(((y::ys).drop l0).take (h0-l0)).length=h0-l0:=by simp;omega
    have MG:l0*e+(h0-l0)*e=h0*e:=by rw[←Nat.add_mul];congr 1;omega
    have XI:h0*e≤(ys.length+1)*e:=Nat.mul_le_mul_right _ (by omega)
    have MT:h0-l0≤(if mv.isSome then m0 else c)-l0:=by split<;>omega
    have:=VR.tree (V:=V) (((y::ys).drop l0).take (h0-l0)) .op b (o+l0*e) ((if mv.isSome then m0 else c)-l0) r e p hF hb (by rw[aX];omega) (by rw[aX];exact MT) (fun z hz=>he z (List.mem_of_mem_drop (List.mem_of_mem_take hz))) trivial (by
     rw[aX]
     have h1:=(hl.drop (l0*e)).take ((h0-l0)*e)
     rw[QT _ (by rw[hlen];omega),rC he,rD (fun z hz=>he z (List.mem_of_mem_drop hz))] at h1
     exact h1)
    rw[aX] at this
    exact fO.same hS this
 ·rename_i b g o n c
  split at hv
  case h_2=>cases hv
  rename_i es e w hr
  rw[cY] at hr
  split at hv
  case isFalse=>cases hv
  rename_i Bf
  subst Bf
  split at hv
  ·cases hv
  rename_i m0 Xy
  split at hv
  ·cases hv
  rename_i h0 hh0
  split at hv
  ·cases hv
  rename_i l0 xM
  cases hx with
  |
   ref b g o n c a n' c' aX hg ha hq =>
   obtain⟨rfl,rfl,rfl⟩:=ha _ _ _ hr
   obtain⟨r,p,h1,_⟩:=hS.row b g es e w hr
   unfold AE
   simp only[h1,if_true]
   rw[Xy]
   simp only
   rw[hh0]
   simp only
   rw[xM]
   simp only
   by_cases lG:mv.isSome=true∧m0=l0
   ·rw[if_pos lG] at hv
    cases hv
    rw[if_pos lG]
    exact K8 hS e
   ·rw[if_neg lG] at hv
    cases hv
    rw[if_neg lG]
    refine fO.same hS (.ref b g (o+l0) _ _ _ _ _ aX hg (fun lD e' w' E0 => ?_) fun a0 h=>by cases h;exact hq ⟨V.m b,o*e,none⟩ rfl)
    rw[hr] at E0
    cases E0
    exact⟨by rw[Nat.add_mul],rfl,rfl⟩
 ·cases hv
theorem yH {es:List VV} (h:(es.all fun x=>(aA x).all cJ)=true):(es.flatMap aA).all cJ=true:=by
 rw[List.all_eq_true] at h ⊢
 intro x hx
 obtain⟨y,hy,Af⟩:=List.mem_flatMap.1 hx
 exact List.all_eq_true.1 (h y hy) x Af
theorem tM (hS:SR V lo dN) {y:VV} {u:Value} {size:Nat} {new:List VV} (hy:VR V y u) (h:eY size y V.H=some new) :
  pG u=some new.length∧(∀x∈new,(aA x).length=size)∧(new.flatMap aA).all cJ=true∧∀n,n≤new.length→∃pn,iF V.P size n u=some pn∧VL V ((new.take n).flatMap aA) pn:=by
 unfold eY at h
 split at h
 ·rename_i es tk
  split at h
  case isFalse=>cases h
  rename_i kG
  cases h
  have V4:∀x∈new,(aA x).length=size∧(aA x).all cJ=true:=fun x hx=>by
   have:=List.all_eq_true.1 kG x hx
   simpa using this
  refine⟨?_,fun x hx=>(V4 x hx).1,yH (List.all_eq_true.2 fun x hx=>(V4 x hx).2),fun n hn => ?_⟩
  ·cases hy<;>rfl
  ·cases hy with
   |
    nH k hk =>
    have:n=0:=by simpa using hn
    subst this
    exact⟨[],rfl,by simp;exact .nil⟩
   |
    tree es k b o c r e p hF hb ho hc he hk hl =>
    cases JL:new with
    |
     nil =>
     rw[JL] at hn
     have:n=0:=by simpa using hn
     subst this
     refine⟨[],?_,by simp;exact .nil⟩
     simp only[iF,Nat.zero_mul]
     rw[yA hb (by omega)]
     simp
    |
     cons x xs =>
     have MS:e=size:=by rw[←he x (by rw[JL];exact List.mem_cons_self)];exact(V4 x (by rw[JL];exact List.mem_cons_self)).1
     subst MS
     have hm:n*e≤new.length*e:=Nat.mul_le_mul_right _ hn
     refine⟨_,by simp only[iF];exact yA hb (by omega),?_⟩
     rw[←JL,←rD he]
     have h1:=hl.take (n*e)
     rw[List.take_take,Nat.min_eq_left hm] at h1
     exact h1
 ·rename_i b g o n c
  split at h
  case h_2=>cases h
  rename_i es e w hr
  rw[cY] at hr
  split at h
  case isFalse=>cases h
  rename_i hc
  obtain⟨rfl,hlen,kG⟩:=hc
  cases h
  obtain⟨r,p,h1,h2,h3⟩:=hS.row b g es e w hr
  have X2:((es.drop o).take n).length=n:=by simp;omega
  have Hi:=h3.length
  rw[jD h2] at Hi
  cases hy with
  |
   ref b g o n c a n' c' aX hg ha hq =>
   obtain⟨rfl,rfl,rfl⟩:=ha _ _ _ hr
   have WU:∀x∈(es.drop o).take n',(aA x).length=e:=fun x hx=>h2 x (List.mem_of_mem_drop (List.mem_of_mem_take hx))
   refine⟨by rw[X2];rfl,WU,yH kG,fun k hk => ?_⟩
   rw[X2] at hk
   have hm:(o+k)*e≤es.length*e:=Nat.mul_le_mul_right _ (by omega)
   rw[Nat.add_mul] at hm
   refine⟨_,by simp only[iF];exact yA h1 (by omega),?_⟩
   rw[List.take_take,Nat.min_eq_left hk]
   have h4:=(h3.drop (o*e)).take (k*e)
   rw[rC h2,rD (fun x hx=>h2 x (List.mem_of_mem_drop hx))] at h4
   exact h4
 ·rename_i s
  split at h
  case isFalse=>cases h
  rename_i hs
  subst hs
  cases h
  obtain⟨rfl,_⟩:=oS hy rfl
  have hlen:(s.data.toList.map fun b=>VV.sc (.int .u8 (b.toNat:Int))).length=s.size:=by simp
  refine⟨by rw[hlen];rfl,fun x hx => ?_,?_,fun n hn => ?_⟩
  ·obtain⟨b,_,rfl⟩:=List.mem_map.1 hx
   rfl
  ·refine yH (List.all_eq_true.2 fun x hx => ?_)
   obtain⟨b,_,rfl⟩:=List.mem_map.1 hx
   rfl
  ·refine⟨(s.data.toList.take n).map fun b=>Value.int .u8 (b.toNat:Int),by simp only[iF,if_true],?_⟩
   rw[←List.map_take,List.flatMap_map]
   have:((s.data.toList.take n).flatMap fun a=>aA (VV.sc (.int .u8 (a.toNat:Int))))=(s.data.toList.take n).map fun a=>VV.sc (.int .u8 (a.toNat:Int)):=by
    generalize s.data.toList.take n=l
    induction l with
    | nil=>rfl
    | cons a l ih=>rw[List.flatMap_cons,ih];rfl
   rw[this]
   exact VL.map fun b _ => .sc _ rfl
 ·cases h
end
end Go.PM
namespace Go.PM
section
variable {V:View} {lo dN:Nat} {ρ:cP} {iZ:Env}
theorem Hl (hS:SR V lo dN) {es:List VV} {r:List Value} {e n c:Nat} {p:Bool}:VR { V with m:=Us V.m V.H.length V.P.length,H:=V.H++[.row 0 es e true],P:=V.P++[.row r e p] } (.ref V.H.length 0 0 n c) (.slice (some ⟨V.P.length,0,none⟩) n c):=by
 refine .ref _ _ _ _ _ _ _ _ (by simp) (fun g' es e w _=>Nat.zero_le _) (fun lD e' w' h=>⟨?_,rfl,rfl⟩) fun a0 ha => ?_
 ·simp only[kA,Nat.zero_mul]
 ·cases ha
  refine⟨hS.Ju,by simp,fun b' g' lD e' w' hb eW hm => ?_⟩
  have wM:(V.H++[jR.row 0 es e true])[b']? = some (.row g' lD e' w'):=hb
  have aX:b'<V.H.length:=by
   have:=(List.getElem?_eq_some_iff.1 wM).1
   simp at this
   omega
  rw[List.getElem?_append_left aX] at wM
  have h2:=hS.mlt wM
  simp only[kW (show b'≠V.H.length by omega)] at hm
  omega
theorem Rq (hS:SR V lo dN) {es:List VV} {r:List Value} {e:Nat} {p:Bool}:VR { V with m:=Us V.m V.H.length V.P.length,H:=V.H++[.row 0 es e true],P:=V.P++[.row r e p] } (.ptr V.H.length 0 0 0) (.pointer (some ⟨V.P.length,0,none⟩)):=by
 refine .ptr _ _ _ _ _ (by simp) (fun g' es e w _=>Nat.zero_le _) (fun lD e' w' h => ?_) fun a0 ha => ?_
 ·simp only[kA,Nat.zero_mul]
 ·cases ha
  refine⟨hS.Ju,by simp,fun b' g' lD e' w' hb eW hm => ?_⟩
  have wM:(V.H++[jR.row 0 es e true])[b']? = some (.row g' lD e' w'):=hb
  have aX:b'<V.H.length:=by
   have:=(List.getElem?_eq_some_iff.1 wM).1
   simp at this
   omega
  rw[List.getElem?_append_left aX] at wM
  have h2:=hS.mlt wM
  simp only[kW (show b'≠V.H.length by omega)] at hm
  omega
theorem ED (hS:SR V lo dN) {x v:VV} {u:Value} {size bytes:Nat} {nw:List VV} {pn:List Value} {H':aB} (hx:VR V x u) (hn:∀x∈nw,(aA x).length=size) (AI:(nw.flatMap aA).all cJ=true) (hl:VL V (nw.flatMap aA) pn) (h:gF lo size bytes x nw V.H=some (v,H')) :
  fO lo dN V (dI dN size bytes u nw.length pn V.P) v H':=by
 unfold gF at h
 split at h
 case isFalse=>cases h
 rename_i ZF
 have Jp:pn.length=nw.length*size:=by rw[hl.length,jD hn]
 unfold dI
 rw[if_pos ⟨ZF.1,ZF.2,hl.fQ AI,Jp⟩]
 split at h
 ·cases hx with
  | tree es k b o c r e p hF hb ho hc he hk hl=>exact hk.elim
  |
   nH =>
   simp only[and_self,if_true]
   split at h
   ·rename_i h0
    cases h
    rw[if_pos h0]
    exact fO.same hS (.nH _ (.inr rfl))
   ·rename_i h0
    split at h
    case isFalse=>cases h
    rename_i h1
    cases h
    rw[if_neg h0,if_pos h1]
    exact(fO.of (pA hS (es:=nw) (r:=pn) (e:=size) true hn hl) (Hl hS) :)
 ·rename_i es e
  split at h
  case isFalse=>cases h
  rename_i JL
  subst JL
  cases hx with
  | nH k hk=>rcases hk with hk | hk<;>cases hk
  |
   tree es k b o c r e' p hF hb ho hc he hk A7 =>
   obtain⟨h1,h2,h3⟩:=hk
   subst h1 h2 h3
   simp only[hb]
   rw[if_pos ⟨trivial,ho⟩]
   split at h
   ·rename_i h0
    cases h
    rw[if_pos (by omega),if_pos h0]
    exact fO.same hS (.tree es _ b o _ r e false hF hb ho hc he ⟨rfl,rfl,rfl⟩ A7)
   ·rename_i h0
    split at h
    case isFalse=>cases h
    rename_i Bf
    cases h
    rw[if_neg (by omega),if_pos Bf]
    simp only[Bool.false_eq_true,if_false]
    have kG:∀x∈es++nw,(aA x).length=e:=fun x hx=>by
     rcases List.mem_append.1 hx with h | h
     ·exact he x h
     ·exact hn x h
    exact(fO.of (pA hS (es:=es++nw) (r:=(r.drop o).take (es.length*e)++pn) (e:=e) true kG (by rw[List.flatMap_append];exact A7.append hl)) (Hl hS) :)
 ·rename_i b g o n c
  split at h
  case h_2=>cases h
  rename_i es e hr
  rw[cY] at hr
  split at h
  case isFalse=>cases h
  rename_i hc
  obtain⟨rfl,gV,hon⟩:=hc
  obtain⟨r,p,h1,h2,h3⟩:=hS.row b g es e true hr
  have Hi:=h3.length
  rw[jD h2] at Hi
  have CD:=(hS.wr b g es e hr).2 gV
  cases hx with
  |
   ref b g o n c a n' c' aX hg ha hq =>
   obtain⟨rfl,rfl,rfl⟩:=ha _ _ _ hr
   have hm:(o+n')*e≤es.length*e:=Nat.mul_le_mul_right _ hon
   rw[Nat.add_mul] at hm
   simp only[h1]
   rw[if_pos ⟨trivial,by omega⟩]
   split at h
   ·rename_i Un
    rw[if_pos Un]
    split at h
    ·rename_i h0
     cases h
     rw[if_pos h0]
     exact fO.same hS (.ref _ _ _ _ _ _ _ _ aX hg ha hq)
    ·rename_i h0
     split at h
     case isFalse=>cases h
     rename_i vF
     cases h
     rw[if_neg h0]
     have XI:(o+n'+nw.length)*e≤es.length*e:=Nat.mul_le_mul_right _ vF
     rw[Nat.add_mul,Nat.add_mul] at XI
     have kG:∀x∈cK es (o+n') nw,(aA x).length=e:=fun x hx=>by
      rcases F9 hx with h | h
      ·exact h2 x h
      ·exact hn x h
     have CV:VL V ((cK es (o+n') nw).flatMap aA) (gY r (o*e+n'*e) pn):=by
      rw[←tK h2 hn,Nat.add_mul]
      exact h3.gY hl _
     obtain⟨g1,g2⟩:=Bd hS hr gV kG CV h1
     refine⟨.slice (some ⟨V.m b,o*e,none⟩) (n'+nw.length) c',{ V with H:=V.H.set b (.row g (cK es (o+n') nw) e true),P:=V.P.set (V.m b) (.row (gY r (o*e+n'*e) pn) e p) },?_,rfl,g1,g2,?_⟩
     ·unfold aD.write
      simp only[h1]
      rw[if_pos ⟨CD,by omega,hl.fQ AI⟩]
      rfl
     ·refine .ref _ _ _ _ _ _ _ _ (by simpa using aX) (fun g' lD e' w' E0 => ?_) (fun lD e' w' E0 => ?_) fun a0 h=>by cases h;exact g2.toUp.hq (hq _ rfl)
      ·rcases fG aX E0 with⟨_,h⟩ | ⟨h,_⟩
       ·cases h;exact Nat.le_refl _
       ·exact absurd rfl h
      ·rcases fG aX E0 with⟨_,h⟩ | ⟨h,_⟩
       ·cases h;exact⟨rfl,rfl,rfl⟩
       ·exact absurd rfl h
   ·rename_i Un
    split at h
    case isFalse=>cases h
    rename_i Bf
    cases h
    rw[if_neg Un,if_pos Bf]
    have kG:∀x∈(es.drop o).take n'++nw,(aA x).length=e:=fun x hx=>by
     rcases List.mem_append.1 hx with h | h
     ·exact h2 x (List.mem_of_mem_drop (List.mem_of_mem_take h))
     ·exact hn x h
    have CV:VL V (((es.drop o).take n'++nw).flatMap aA) ((r.drop (o*e)).take (n'*e)++pn):=by
     rw[List.flatMap_append]
     refine VL.append ?_ hl
     have h4:=(h3.drop (o*e)).take (n'*e)
     rw[rC h2,rD (fun x hx=>h2 x (List.mem_of_mem_drop hx))] at h4
     exact h4
    have fin:∀P1:aD,P1.length=V.P.length→(∀q,q≠V.m b→P1[q]? = V.P[q]?) →
      fO lo dN V (some (.slice (some ⟨V.P.length,0,none⟩) (n'+nw.length) (n'+nw.length),P1++[.row ((r.drop (o*e)).take (n'*e)++pn) e true])) (.ref b (g+1) 0 (n'+nw.length) (n'+nw.length)) (V.H.set b (.row (g+1) ((es.drop o).take n'++nw) e true)):=by
     intro P1 hP hk
     refine(fO.of (Q4 hS hr gV kG CV hP hk true) ?_ :)
     refine .ref _ _ _ _ _ _ _ _ (by simpa using aX) (fun g' lD e' w' E0 => ?_) (fun lD e' w' E0 => ?_) fun a0 h => ?_
     ·rcases fG aX E0 with⟨_,h⟩ | ⟨h,_⟩
      ·cases h;exact Nat.le_refl _
      ·exact absurd rfl h
     ·rcases fG aX E0 with⟨_,h⟩ | ⟨h,_⟩
      ·cases h;exact⟨by simp only[kA,Nat.zero_mul],rfl,rfl⟩
      ·exact absurd rfl h
     ·cases h
      refine⟨hS.Ju,by simp[hP],fun b' g' lD e' w' hb eW hm => ?_⟩
      rcases fG aX hb with⟨h,_⟩ | ⟨_,h⟩
      ·exact eW h
      ·simp only[kW eW] at hm
       have:=hS.mlt h
       omega
    cases p with
    |
     true =>
     simp only[if_true,CD]
     exact fin (V.P.set (V.m b) .dead) (by simp) fun q hq=>List.getElem?_set_ne (Ne.symm hq)
    |
     false =>
     simp only[Bool.false_eq_true,if_false]
     exact fin V.P rfl fun _ _=>rfl
 ·cases h
theorem Oh (hS:SR V lo dN) {p v:VV} {u w:Value} {size:Nat} {H':aB} (hp:VR V p u) (hv:VR V v w) (h:dC lo size p v V.H=some H'):fO lo dN V (De dN size u w V.P) nM H':=by
 unfold dC at h
 split at h
 case h_2=>cases h
 rename_i b g j o
 split at h
 case h_2=>cases h
 rename_i es e hr
 rw[cY] at hr
 split at h
 case h_2=>cases h
 rename_i x hx
 split at h
 case isFalse=>cases h
 rename_i hc
 obtain⟨Bf,gV,AI⟩:=hc
 obtain⟨r,q,h1,h2,h3⟩:=hS.row b g es e true hr
 have Hi:=h3.length
 rw[jD h2] at Hi
 have CD:=(hS.wr b g es e hr).2 gV
 have hj:=(List.getElem?_eq_some_iff.1 hx).1
 have hxe:=h2 x (List.mem_of_getElem? hx)
 have hm:(j+1)*e≤es.length*e:=Nat.mul_le_mul_right _ hj
 rw[Nat.succ_mul] at hm
 have lG:=hv.cells (Qf AI)
 have hwl:(aL w).length=size:=by rw[lG.length,Bf]
 cases hp with
 |
  ptr b g j off a aX hg ha hq =>
  have:=ha _ _ _ hr
  subst this
  have fin:∀y:VV,(aA y).length=e→o+size≤e→aA y=cK (aA x) o (aA v)→H'=V.H.set b (.row g (es.set j y) e true)→fO lo dN V (De dN size (.pointer (some ⟨V.m b,j*e+o,none⟩)) w V.P) nM H':=by
   intro y hy ho hye hH
   subst hH
   have kG:∀z∈es.set j y,(aA z).length=e:=fun z hz=>by
    rcases List.mem_or_eq_of_mem_set hz with h | h
    ·exact h2 z h
    ·subst h;exact hy
   have CV:VL V ((es.set j y).flatMap aA) (gY r (j*e+o) (aL w)):=by
    have e1:(es.set j y).flatMap aA=cK (es.flatMap aA) (j*e+o) (aA v):=by
     rw[←Gq hj,←tK h2 (new:=[y]) (fun z hz=>by rw[List.mem_singleton] at hz;subst hz;exact hy)]
     simp only[List.flatMap_cons,List.flatMap_nil,List.append_nil]
     rw[hye]
     have hx2:=HB h2 hx
     unfold cK
     have t1:(es.flatMap aA).take (j*e+o)=(es.flatMap aA).take (j*e)++(aA x).take o:=by
      rw[List.take_add,←hx2,List.take_take,Nat.min_eq_left (by omega)]
     have t2:(es.flatMap aA).drop (j*e+o+(aA v).length)=(aA x).drop (o+(aA v).length)++(es.flatMap aA).drop (j*e+e):=by
      have t0:(es.flatMap aA).drop (j*e+e)=((es.flatMap aA).drop (j*e+(o+(aA v).length))).drop (e-(o+(aA v).length)):=by
       rw[List.drop_drop]
       congr 1
       omega
      rw[←hx2,List.drop_take,List.drop_drop,t0,List.take_append_drop,Nat.add_assoc]
     rw[t1,t2]
     have t3:(List.take o (aA x)++aA v++List.drop (o+(aA v).length) (aA x)).length=e:=by
      simp;omega
     rw[t3]
     simp only[List.append_assoc]
    rw[e1]
    exact h3.gY lG _
   obtain⟨g1,g2⟩:=Bd hS hr gV kG CV h1
   refine⟨undef,{ V with H:=V.H.set b (.row g (es.set j y) e true),P:=V.P.set (V.m b) (.row (gY r (j*e+o) (aL w)) e q) },?_,rfl,g1,g2,.eK [] [] .nil⟩
   unfold De
   simp only[hwl,if_true]
   unfold aD.write
   simp only[h1]
   rw[if_pos ⟨CD,by omega,lG.fQ AI⟩]
   rfl
  split at h
  ·rename_i ho
   obtain⟨rfl,rfl⟩:=ho
   cases h
   refine fin v Bf (by omega) ?_ rfl
   unfold cK
   rw[Nat.zero_add,List.take_zero,List.nil_append,List.drop_of_length_le (by omega),List.append_nil]
  ·split at h
   case isFalse=>cases h
   rename_i ho
   cases h
   have Ns:(cK (aA x) o (aA v)).length=e:=by rw[NP (by omega)];exact hxe
   exact fin (.agg (cK (aA x) o (aA v))) Ns (by omega) rfl rfl
theorem AO {z:List Value} (hz:(z.map iM).all cJ=true):(aA (elemOf (z.map iM))).length=z.length:=by
 rw[lJ hz,List.length_map]
theorem zK {z:List Value} (hz:(z.map iM).all cJ=true):∀n,VL V ((List.replicate n (elemOf (z.map iM))).flatMap aA) (cG n z):=by
 intro n
 have AI:z.all fQ=true:=(VL.zero (V:=V) z).fQ hz
 have We:cG n z=(List.replicate n ()).flatMap fun _=>z:=by
  rcases Nat.eq_zero_or_pos z.length with h0 | jO
  ·have:z=[]:=List.length_eq_zero_iff.1 h0
   subst this
   simp[cG]
  ·exact OQ (enc:=fun(_:Unit)=>z) (eR:=z.length) (x:=()) ⟨fun _=>rfl,fun _=>AI,jO⟩
 rw[We]
 clear We
 induction n with
 | zero=>exact .nil
 |
  succ n ih =>
  rw[List.replicate_succ,List.replicate_succ,List.flatMap_cons,List.flatMap_cons,lJ hz]
  exact(VL.zero z).append ih
theorem Qz (hS:SR V lo dN) {z:List Value} {bytes:Nat} {l c v:VV} {u w:Value} {H':aB} (hz:(z.map iM).all cJ=true) (hl:VR V l u) (hc:VR V c w) (h:xY z bytes l c V.H=some (v,H')):fO lo dN V (Rr z bytes u w V.P) v H':=by
 unfold xY at h
 split at h
 case h_2=>cases h
 obtain⟨rfl,_⟩:=oS hl rfl
 obtain⟨rfl,_⟩:=oS hc rfl
 split at h
 case isFalse=>cases h
 rename_i M1
 cases h
 unfold Rr
 simp only[if_pos M1]
 exact(fO.of (pA hS (e:=z.length) false (fun x hx=>by rw[List.eq_of_mem_replicate hx];exact AO hz) (zK hz _)) (Hl hS) :)
theorem Ud (hS:SR V lo dN) {z:List Value} (hz:(z.map iM).all cJ=true):fO lo dN V (some (.pointer (some ⟨V.P.length,0,none⟩),V.P++[.row z z.length false])) (.ptr V.H.length 0 0 0) (V.H++[.row 0 [elemOf (z.map iM)] z.length true]):=by
 exact(fO.of (pA hS (es:=[elemOf (z.map iM)]) (r:=z) (e:=z.length) false (fun x hx=>by rw[List.mem_singleton] at hx;subst hx;exact AO hz) (by simp only[List.flatMap_cons,List.flatMap_nil,List.append_nil,lJ hz];exact VL.zero z)) (Rq hS) :)
theorem TD (hS:SR V lo dN) {x v:VV} {u:Value} {H':aB} {bf:Bool} (hx:VR V x u) (hs:(aA x).all cJ=true) (h:(if bf=true then some (VV.cO x 0,V.H) else some (VV.ptr V.H.length 0 0 0,V.H++[jR.row 0 [x] (aA x).length true]))=some (v,H')) :
  fO lo dN V (if (aL u).all fQ then some (.pointer (some ⟨V.P.length,0,none⟩),V.P++[.row (aL u) (aL u).length false]) else none) v H':=by
 have hc:=hx.cells (Qf hs)
 rw[if_pos (hc.fQ hs)]
 split at h
 ·cases h
  have g:=Ab hS (.row (aL u) (aL u).length false)
  refine(fO.of g ?_ :)
  have hm:=hc.mono g.2.toUp
  refine .cO x 0 V.P.length 0 (aL u) (aL u).length false (.inr rfl) (by simp) (by rw[hc.length];omega) ?_
  rw[List.drop_zero,List.take_of_length_le (by rw[hc.length];exact Nat.le_refl _)]
  exact hm
 ·cases h
  rw[hc.length]
  exact(fO.of (pA hS (es:=[x]) (r:=aL u) (e:=(aA x).length) false (fun y hy=>by rw[List.mem_singleton] at hy;subst hy;rfl) (by simpa using hc)) (Rq hS) :)
theorem take_set {α:Type} {l:List α} {i:Nat} {x:α} (h:i<l.length):l.set i x=l.take i++x::l.drop (i+1):=by
 rw[List.set_eq_take_append_cons_drop,if_pos h]
inductive Qe (V:View):List (Nat×VV)→List (Nat×Value)→Prop
 | nil:Qe V [] []
 | cons {i:Nat} {x:VV} {v:Value} {xs:List (Nat×VV)} {vs:List (Nat×Value)} (h:VR V x v) (hs:Qe V xs vs):Qe V ((i,x)::xs) ((i,v)::vs)
theorem CL {e n:Nat}:∀ {parts:List (Nat×VV)} {xF:List (Nat×Value)} {es lD:List VV} {r:List Value},es.length=n→(∀x∈es,(aA x).length=e)→VL V (es.flatMap aA) r →
  Qe V parts xF→tD e es parts=some lD→lD.length=n∧(∀x∈lD,(aA x).length=e)∧∃r',tB ((List.range n).map fun i=>(i*e,e)) r xF=some r'∧VL V (lD.flatMap aA) r'
 |
  [],_,es,lD,r,hn,he,hl,.nil,h=>by
  cases h
  exact⟨hn,he,r,rfl,hl⟩
 |
  (i,v)::parts,(_,w)::xF,es,lD,r,hn,he,hl,.cons hv hps,h=>by
  unfold tD at h
  split at h
  case isFalse=>cases h
  rename_i hc
  obtain⟨hi,hve,AI⟩:=hc
  have lG:=hv.cells (Qf AI)
  have hwl:(aL w).length=e:=by rw[lG.length,hve]
  have Hi:=hl.length
  rw[jD he] at Hi
  have hm:(i+1)*e≤es.length*e:=Nat.mul_le_mul_right _ hi
  rw[Nat.succ_mul] at hm
  have kG:∀x∈es.set i v,(aA x).length=e:=fun x hx=>by
   rcases List.mem_or_eq_of_mem_set hx with h | h
   ·exact he x h
   ·subst h;exact hve
  have CV:VL V ((es.set i v).flatMap aA) (r.take (i*e)++aL w++r.drop (i*e+e)):=by
   have h1:=hl.gY lG (i*e)
   have h2:=tK he (new:=[v]) (fun z hz=>by rw[List.mem_singleton] at hz;subst hz;exact hve) i
   simp only[List.flatMap_cons,List.flatMap_nil,List.append_nil] at h2
   rw[h2,Gq hi] at h1
   unfold gY at h1
   rw[hwl] at h1
   exact h1
  obtain⟨g1,g2,r',g3,g4⟩:=CL (n:=n) (by rw[List.length_set];exact hn) kG CV hps h
  refine⟨g1,g2,r',?_,g4⟩
  unfold tB
  have hr:((List.range n).map fun i=>(i*e,e))[i]? = some (i*e,e):=by simp[List.getElem?_range (show i<n by omega)]
  simp only[hr]
  rw[if_pos ⟨hwl,by omega⟩]
  exact g3
theorem Fm (hE:ER V ρ iZ):∀parts:List (Nat×Operand),Qe V (parts.map fun(i,x)=>(i,dL ρ x)) (parts.map fun(i,x)=>(i,ev iZ x))
 | [] => .nil
 | (i,x)::parts => .cons (hE.ev x) (Fm hE parts)
theorem DG {e:Nat}:∀ {parts:List (Nat×VV)} {es lD:List VV},(es.all fun x=>(aA x).all cJ)=true→tD e es parts=some lD→(lD.all fun x=>(aA x).all cJ)=true
 | [],es,lD,h,hf=>by cases hf;exact h
 |
  (i,v)::parts,es,lD,h,hf=>by
  unfold tD at hf
  split at hf
  case isFalse=>cases hf
  rename_i hc
  refine DG ?_ hf
  rw[List.all_eq_true] at h ⊢
  intro x hx
  rcases List.mem_or_eq_of_mem_set hx with h1 | h1
  ·exact h x h1
  ·subst h1;exact hc.2.2
theorem SF (hS:SR V lo dN) {lr:Bool} {z:List Value} {n:Nat} {parts:List (Nat×VV)} {xF:List (Nat×Value)} {v:VV} {H':aB} (hp:Qe V parts xF) (h:qV lr z n parts V.H=some (v,H')):fO lo dN V (Y1 z n xF V.P) v H':=by
 unfold qV at h
 split at h
 case h_2=>cases h
 rename_i es JL
 split at h
 case isFalse=>cases h
 rename_i hz
 obtain⟨g1,g2,r',g3,g4⟩:=CL (V:=V) (n:=n) (by simp) (fun x hx=>by rw[List.eq_of_mem_replicate hx];exact AO hz) (zK hz n) hp JL
 have AI:=DG (by
  rw[List.all_eq_true]
  intro x hx
  rw[List.eq_of_mem_replicate hx,lJ hz]
  exact hz) JL
 unfold Y1
 simp only[g3]
 rw[if_pos (g4.fQ (yH AI))]
 split at h
 ·cases h
  exact(fO.of (pA hS (e:=z.length) false g2 g4) (Hl hS) :)
 ·cases h
  have k:=Ab hS (.row r' z.length false)
  refine(fO.of k ?_ :)
  have hm:=g4.mono k.2.toUp
  have Hi:=g4.length
  rw[jD g2] at Hi
  subst g1
  refine .tree es _ V.P.length 0 es.length r' z.length false (.inr rfl) (by simp) (by omega) (Nat.le_refl _) g2 ⟨rfl,rfl,rfl⟩ ?_
  rw[List.drop_zero,List.take_of_length_le (by omega)]
  exact hm
theorem Ka (hS:SR V lo dN) {b g e o:Nat} {es nw:List VV} {pn:List Value} (hr:V.H[b]? = some (.row g es e true)) (gV:lo≤b) (vF:o+nw.length≤es.length) (hn:∀x∈nw,(aA x).length=e) (AI:(nw.flatMap aA).all cJ=true) (hl:VL V (nw.flatMap aA) pn) :
  ∃V',V.P.write dN (V.m b) (o*e) pn=some V'.P∧V'.H=V.H.set b (.row g (cK es o nw) e true)∧SR V' lo dN∧CA lo V V':=by
 obtain⟨r,q,h1,h2,h3⟩:=hS.row b g es e true hr
 have Hi:=h3.length
 rw[jD h2] at Hi
 have CD:=(hS.wr b g es e hr).2 gV
 have Jp:=hl.length
 rw[jD hn] at Jp
 have hm:(o+nw.length)*e≤es.length*e:=Nat.mul_le_mul_right _ vF
 rw[Nat.add_mul] at hm
 have kG:∀x∈cK es o nw,(aA x).length=e:=fun x hx=>by
  rcases F9 hx with h | h
  ·exact h2 x h
  ·exact hn x h
 have CV:VL V ((cK es o nw).flatMap aA) (gY r (o*e) pn):=by
  rw[←tK h2 hn]
  exact h3.gY hl _
 obtain⟨g1,g2⟩:=Bd hS hr gV kG CV h1
 refine⟨{ V with H:=V.H.set b (.row g (cK es o nw) e true),P:=V.P.set (V.m b) (.row (gY r (o*e) pn) e q) },?_,rfl,g1,g2⟩
 unfold aD.write
 simp only[h1]
 rw[if_pos ⟨CD,by omega,hl.fQ AI⟩]
theorem QN (hS:SR V lo dN) {x y v:VV} {u w:Value} {size:Nat} {H':aB} (hx:VR V x u) (hy:VR V y w) (h:J8 lo size x y V.H=some (v,H')):fO lo dN V (copyV dN size u w V.P) v H':=by
 unfold J8 at h
 split at h
 ·rename_i new hs
  obtain⟨h1,_⟩:=tM hS hy hs
  cases h
  cases hx with
  | tree es k b o c r e p hF hb ho hc he hk hl=>exact hk.elim
  |
   nH =>
   unfold copyV
   simp only[h1]
   exact fO.same hS (.sc _ rfl)
 ·rename_i b g o d c new hs
  obtain⟨h1,h2,h3,h4⟩:=tM hS hy hs
  split at h
  case h_2=>cases h
  rename_i es e hr
  rw[cY] at hr
  split at h
  case isFalse=>cases h
  rename_i hc
  obtain⟨rfl,gV,vF⟩:=hc
  cases h
  cases hx with
  |
   ref b g o n c a n' c' aX hg ha hq =>
   obtain⟨rfl,rfl,rfl⟩:=ha _ _ _ hr
   have YC:(new.take n').length=Nat.min new.length n':=by rw[List.length_take];exact Nat.min_comm _ _
   obtain⟨pn,h5,h6⟩:=h4 (Nat.min new.length n') (Nat.min_le_left _ _)
   have ht:new.take (Nat.min new.length n')=new.take n':=by
    rw[←YC,List.length_take,←List.take_take,List.take_length]
   rw[ht] at h6
   have Io:∀x∈new.take n',(aA x).length=e:=fun x hx=>h2 x (List.mem_of_mem_take hx)
   have AI:((new.take n').flatMap aA).all cJ=true:=by
    rw[List.all_eq_true] at h3 ⊢
    intro x hx
    obtain⟨y,hy,Af⟩:=List.mem_flatMap.1 hx
    exact h3 x (List.mem_flatMap.2 ⟨y,List.mem_of_mem_take hy,Af⟩)
   obtain⟨V',k1,k2,k3,k4⟩:=Ka hS hr gV vF Io AI h6
   refine⟨.int .i64 (Nat.min new.length n'),V',?_,k2,k3,k4,?_⟩
   ·unfold copyV
    simp only[h1,h5,k1]
    rfl
   ·rw[YC]
    exact .sc _ rfl
 ·cases h
theorem N5 (hS:SR V lo dN) {x:VV} {u:Value} {z:List Value} {H':aB} (hx:VR V x u) (h:My lo z x V.H=some H'):fO lo dN V (Ls dN z u V.P) nM H':=by
 unfold My at h
 split at h
 case h_2=>cases h
 rename_i b g o n c
 split at h
 case h_2=>cases h
 rename_i es e hr
 rw[cY] at hr
 cases hx with
 |
  ref b g o n c a n' c' aX hg ha hq =>
  obtain⟨rfl,rfl,rfl⟩:=ha _ _ _ hr
  unfold Ls
  simp only
  split at h
  ·rename_i h0
   cases h
   rw[if_pos h0]
   exact fO.same hS (.eK [] [] .nil)
  ·rename_i h0
   rw[if_neg h0]
   split at h
   case isFalse=>cases h
   rename_i hc
   obtain⟨rfl,gV,vF,hz⟩:=hc
   cases h
   have Io:∀x∈List.replicate n' (elemOf (z.map iM)),(aA x).length=z.length:=fun x hx=>by rw[List.eq_of_mem_replicate hx];exact AO hz
   obtain⟨V',k1,k2,k3,k4⟩:=Ka hS hr gV (nw:=List.replicate n' (elemOf (z.map iM))) (by simpa using vF) Io (yH (by
    rw[List.all_eq_true]
    intro x hx
    rw[List.eq_of_mem_replicate hx,lJ hz]
    exact hz)) (zK hz n')
   refine⟨undef,V',?_,k2,k3,k4,.eK [] [] .nil⟩
   rw[k1]
   rfl
end
end Go.PM
namespace Go.PM
section
variable {V:View} {lo dN:Nat} {ρ:cP} {iZ:Env}
theorem NH {x v:VV} {u:Value} {neg:Bool} (hx:VR V x u) (h:Dl neg x V.H=some v):∃w,Va neg u=some w∧VR V v w:=by
 unfold Dl at h
 split at h
 ·cases h
  cases hx with
  | tree es k b o c r e p hF hb ho hc he hk hl=>exact hk.elim
  | nH=>exact⟨_,rfl,.sc _ rfl⟩
 ·cases h
  cases hx with
  | nH k hk=>rcases hk with hk | hk<;>cases hk
  | tree=>exact⟨_,rfl,.sc _ rfl⟩
 ·cases h
  cases hx with
  | tree=>exact⟨_,rfl,.sc _ rfl⟩
 ·obtain⟨⟨es,e,w⟩,hr,rfl⟩:=bZ h
  rw[cY] at hr
  cases hx with
  |
   ref b g o n c a n' c' aX hg ha hq =>
   obtain⟨rfl,rfl,rfl⟩:=ha _ _ _ hr
   exact⟨_,rfl,.sc _ rfl⟩
 ·cases h
theorem Ui {x v:VV} {u:Value} (hx:VR V x u) (h:pE x V.H=some v):∃w,agQ u=some w∧VR V v w:=by
 unfold pE at h
 split at h
 ·cases h
  cases hx<;>exact⟨_,rfl,.sc _ rfl⟩
 ·obtain⟨⟨es,e,w⟩,hr,rfl⟩:=bZ h
  rw[cY] at hr
  cases hx with
  |
   ref b g o n c a n' c' aX hg ha hq =>
   obtain⟨rfl,rfl,rfl⟩:=ha _ _ _ hr
   exact⟨_,rfl,.sc _ rfl⟩
 ·cases h
theorem NF {x v:VV} {u:Value} {off:Nat} (hx:VR V x u) (h:ES off x V.H=some v):∃w,UX off u=some w∧VR V v w:=by
 unfold ES at h
 split at h
 ·cases h
  cases hx with
  | cO x off b o r e p hF hb ho hl=>exact⟨_,rfl,by rw[Nat.add_assoc];exact .cO _ _ b o r e p hF hb ho hl⟩
 ·obtain⟨⟨es,e,w⟩,hr,rfl⟩:=bZ h
  rw[cY] at hr
  cases hx with
  |
   ptr b g j off a aX hg ha hq =>
   have:=ha _ _ _ hr
   subst this
   refine⟨_,rfl,.ptr _ _ _ _ _ aX hg (fun lD e' w' E0 => ?_) fun a0 h=>by cases h;have:=hq _ rfl;exact this⟩
   rw[hr] at E0
   cases E0
   rw[Nat.add_assoc]
 ·cases h
theorem SD {x v:VV} {u:Value} (hx:VR V x u) (h:SX x V.H=some v):∃w,agZ u=some w∧VR V v w:=by
 unfold SX at h
 split at h
 ·cases h
  cases hx with
  | cO x off b o r e p hF hb ho hl=>exact⟨_,rfl,.cO _ _ b o r e p hF hb ho hl⟩
 ·obtain⟨⟨es,e,w⟩,hr,rfl⟩:=bZ h
  rw[cY] at hr
  cases hx with
  |
   ptr b g j off a aX hg ha hq =>
   have:=ha _ _ _ hr
   subst this
   exact⟨_,rfl,.ptr _ _ _ _ _ aX hg ha hq⟩
 ·cases h
theorem QF {c a b v:VV} {u x y:Value} (hc:VR V c u) (ha:VR V a x) (hb:VR V b y) (h:Om c a b=some v):∃t,u = .bool t∧VR V v (if t then x else y):=by
 unfold Om at h
 split at h
 ·rename_i t
  cases h
  obtain⟨rfl,_⟩:=oS hc rfl
  refine⟨t,rfl,?_⟩
  cases t
  ·exact hb
  ·exact ha
 ·cases h
theorem T1 {x v:VV} {u:Value} {i:Nat} (hx:VR V x u) (h:WH i x=some v):∃w,acM i u=some w∧VR V v w:=by
 unfold WH at h
 split at h
 ·cases hx with
  |
   eK cs ps hl =>
   obtain⟨w,hw,hv⟩:=hl.get h
   exact⟨w,by simpa[acM] using hw,hv⟩
 ·cases h
theorem SM {x v:VV} {u:Value} {agg:Bool} {off size:Nat} (hx:VR V x u) (h:Y0 agg off size x=some v):∃w,YF agg off size u=some w∧VR V v w:=by
 unfold Y0 at h
 split at h
 ·rename_i cs
  cases hx with
  |
   agg cs ps hl =>
   split at h
   ·rename_i ha
    split at h
    ·rename_i hs
     cases h
     refine⟨.agg ((ps.drop off).take size).toArray,?_,.agg _ _ ((hl.drop off).take size)⟩
     unfold YF
     simp only[ha,if_true]
     rw[if_pos (by simpa[hl.length] using hs)]
     congr 2
     apply Array.ext'
     simp[List.extract_eq_take_drop]
    ·cases h
   ·rename_i ha
    obtain⟨w,hw,hv⟩:=hl.get h
    refine⟨w,?_,hv⟩
    unfold YF
    simp only[ha]
    simpa using hw
 ·cases h
theorem JC {ks:List CK}:∀ {xs ys:List VV} {us ws:List Value} {t:Bool},VL V xs us→VL V ys ws→nY ks xs ys=some t→mY ks us ws=some t:=by
 induction ks with
 |
  nil =>
  intro xs ys us ws t h1 h2 h
  cases h1 with
  |
   nil=>cases h2 with
   | nil=>exact h
   | cons=>simp[nY] at h
  | cons=>simp[nY] at h
 |
  cons k ks ih =>
  intro xs ys us ws t h1 h2 h
  cases h1 with
  | nil=>simp[nY] at h
  |
   cons x u xs us hx MS=>cases h2 with
   | nil=>cases x<;>simp[nY] at h
   |
    cons y w ys ws hy hys =>
    cases hx with
    |
     sc _ _=>cases hy with
     |
      sc _ _ =>
      simp only[nY] at h
      simp only[mY]
      split at h
      ·rename_i h1
       rw[h1]
       exact ih MS hys h
      ·rename_i h1
       rw[h1]
       exact h
      ·cases h
     | _=>simp[nY] at h
    | _=>simp[nY] at h
theorem HG {places:List (Nat×Nat)}:∀ {parts:List (Nat×VV)} {xF:List (Nat×Value)} {cs xN:List VV} {r:List Value},VL V cs r→Qe V parts xF→Bg places cs parts=some xN →
  ∃r',tB places r xF=some r'∧VL V xN r'
 | [],_,cs,xN,r,hl,.nil,h=>by cases h;exact⟨r,rfl,hl⟩
 |
  (i,v)::parts,(_,w)::xF,cs,xN,r,hl,.cons hv hps,h=>by
  unfold Bg at h
  unfold tB
  split at h
  ·cases h
  ·rename_i off size Jp
   simp only[Jp]
   split at h
   case isFalse=>cases h
   rename_i hc
   have lG:=hv.cells (fun e=>by subst e;cases hc.2.2)
   rw[if_pos ⟨by rw[lG.length];exact hc.1,by rw[hl.length];exact hc.2.1⟩]
   exact HG (((hl.take off).append lG).append (hl.drop _)) hps h
theorem FX:∀ {es:List VV} {r:List Value} {bs:List UInt8},VL V (es.flatMap aA) r→EH es=some bs→rL r=some bs
 | [],_,bs,.nil,h=>h
 |
  x::es,r,bs,hl,h=>by
  unfold EH at h
  split at h
  ·rename_i e;cases e
  ·rename_i n r' e
   cases e
   obtain⟨t,ht,rfl⟩:=bZ h
   rw[List.flatMap_cons] at hl
   cases hl with
   |
    cons _ u _ us hu hus =>
    obtain⟨rfl,_⟩:=oS hu rfl
    unfold rL
    rw[FX hus ht]
    rfl
  ·cases h
theorem lift {r:Option VV} {v:VV} {H':aB} {s:Option (Value×aD)} (h:r.map (·,V.H)=some (v,H')) (k:r=some v→fO lo dN V s v V.H):fO lo dN V s v H':=by
 obtain⟨a,ha,he⟩:=bZ h
 cases he
 exact k ha
theorem S8 (hS:SR V lo dN) (hE:ER V ρ iZ) {fl:Fl} {o:lM} {v:VV} {H':aB} {q:Bool} (h:ZM fl lo o ρ V.H=some (v,H')):fO lo dN V (iU dN q o iZ V.P) v H':=by
 cases o<;>simp only[ZM] at h
 case mv x=>cases h;rw[X5];exact fO.same hS (hE.ev x)
 case pick c a b =>
  refine lift h fun h => ?_
  obtain⟨t,ht,hv⟩:=QF (hE.ev c) (hE.ev a) (hE.ev b) h
  rw[SP,ht]
  exact fO.same hS hv
 case bin op x y=>rw[UD];exact lift h fun h=>yD (f:=cU op) hS (fun _ _ _=>Vk) (hE.ev x) (hE.ev y) h
 case eqb neg x y=>rw[W9];exact lift h fun h=>yD (f:=MF neg) hS (fun _ _ _=>VH) (hE.ev x) (hE.ev y) h
 case isnil neg x =>
  rw[Qo]
  refine lift h fun h => ?_
  obtain⟨w,h1,h2⟩:=NH (hE.ev x) h
  exact fO.pure hS h1 h2
 case eqagg neg ks x y =>
  rw[Q5]
  refine lift h fun h => ?_
  unfold PF at h
  split at h
  case h_2=>cases h
  rename_i a b hx hy
  obtain⟨t,ht,rfl⟩:=bZ h
  have h1:=hE.ev x
  have h2:=hE.ev y
  rw[hx] at h1
  rw[hy] at h2
  generalize ev iZ x=u at h1 ⊢
  generalize ev iZ y=w at h2 ⊢
  cases h1 with
  |
   agg cs ps h1=>cases h2 with
   |
    agg xN ps' h2 =>
    refine fO.pure hS (pv := .bool (t != neg)) ?_ (.sc _ rfl)
    unfold U0
    simp only
    rw[JC h1 h2 ht]
    rfl
 case un op x=>rw[Yo];exact lift h fun h=>BT (f:=UL op) hS (fun _ _=>Yp) (hE.ev x) h
 case cvt k x=>rw[Wt];exact lift h fun h=>BT (f:=Qj k) hS (fun _ _=>Wc) (hE.ev x) h
 case cvs x =>
  have e:iU dN q (.cvs x) iZ V.P=(T8 (ev iZ x)).map (·,V.P):=cS rfl
  rw[e];exact lift h fun h=>BT (f:=T8) hS (fun _ _=>Xa) (hE.ev x) h
 case ext x i =>
  rw[UG]
  refine lift h fun h => ?_
  obtain⟨w,h1,h2⟩:=T1 (hE.ev x) h
  exact fO.pure hS h1 h2
 case fld agg off size x =>
  rw[W7]
  refine lift h fun h => ?_
  obtain⟨w,h1,h2⟩:=SM (hE.ev x) h
  exact fO.pure hS h1 h2
 case build zero places parts =>
  obtain⟨cs,Kb,he⟩:=bZ h
  cases he
  obtain⟨r,h1,h2⟩:=HG (VL.zero zero) (Fm hE parts) Kb
  rw[P5,h1]
  exact fO.same hS (.agg _ _ h2)
 case chk x =>
  rw[VP]
  refine lift h fun h => ?_
  obtain⟨w,h1,h2⟩:=SD (hE.ev x) h
  exact fO.pure hS h1 h2
 case faddr off x =>
  rw[PO]
  refine lift h fun h => ?_
  obtain⟨w,h1,h2⟩:=NF (hE.ev x) h
  exact fO.pure hS h1 h2
 case iaddr size x i =>
  rw[P4]
  refine lift h fun h => ?_
  obtain⟨w,h1,h2⟩:=Nx hS (hE.ev x) (hE.ev i) h
  exact fO.pure hS h1 h2
 case sidx x i =>
  have e:iU dN q (.sidx x i) iZ V.P=(Ep (ev iZ x) (ev iZ i)).map (·,V.P):=cS rfl
  rw[e];exact lift h fun h=>yD (f:=Ep) hS (fun _ _ _=>Sv) (hE.ev x) (hE.ev i) h
 case ssub x l h' =>
  refine lift h fun h => ?_
  unfold sD at h
  split at h
  case h_2=>cases h
  rename_i s lv hv hx h1 h2
  split at h
  case h_2=>cases h
  rename_i a b Dw
  cases h
  obtain⟨e1,_⟩:=oS (hE.ev x) hx
  have e:iU dN q (.ssub x l h') iZ V.P=some (.string (s.extract a b),V.P):=by
   rw[cS rfl]
   simp only[gR,e1]
   rw[yF hE h1,yF hE h2,Dw]
   rfl
  rw[e]
  exact fO.same hS (.sc _ rfl)
 case mkfn f fA =>
  cases h
  rw[Uh]
  exact fO.same hS (.sN _ _ _ (hE.evs fA))
 case len x =>
  rw[Xb]
  refine lift h fun h => ?_
  obtain⟨w,h1,h2⟩:=Ui (hE.ev x) h
  exact fO.pure hS h1 h2
 case slen x =>
  have e:iU dN q (.slen x) iZ V.P=(yC (ev iZ x)).map (·,V.P):=cS rfl
  rw[e];exact lift h fun h=>BT (f:=yC) hS (fun _ _=>T0) (hE.ev x) h
 case min x y=>rw[UK];exact lift h fun h=>yD (f:=NG) hS (fun _ _ _=>Vz) (hE.ev x) (hE.ev y) h
 case max x y=>rw[Wf];exact lift h fun h=>yD (f:=Pn) hS (fun _ _ _=>WO) (hE.ev x) (hE.ev y) h
 case load agg size p =>
  rw[Ty]
  refine lift h fun h => ?_
  obtain⟨w,h1,h2⟩:=IV hS (hE.ev p) h
  exact fO.pure hS h1 h2
 case sub size x l hh m =>
  rw[Vt]
  exact lift h fun h=>Te hS hE (hE.ev x) h
 case b2s x =>
  split at h
  ·cases h
  rename_i y eW
  split at h
  case h_2=>cases h
  rename_i es JL
  obtain⟨bs,ZF,he⟩:=bZ h
  cases he
  obtain⟨h1,h2,h3,h4⟩:=tM hS (hE.ev x) JL
  obtain⟨pn,h5,h6⟩:=h4 es.length (Nat.le_refl _)
  rw[List.take_length] at h6
  have hb:=FX h6 ZF
  have hx:=hE.ev x
  have e:iU dN q (.b2s x) iZ V.P=some (.string ⟨bs.toArray⟩,V.P):=by
   apply nK
   simp only[pop]
   generalize ev iZ x=u at *
   cases u<;>first | (exfalso;simp[pG] at h1;done) | skip
   case string s =>
    generalize dL ρ x=y at *
    cases hx with
    | any=>simp[eY] at JL
    | sc _ _=>exact absurd rfl (eW _)
   case slice a n c =>
    injection h1 with h1
    subst h1
    cases a with
    |
     none =>
     simp only[iF] at h5
     split at h5
     ·cases h5
      cases hb
      rfl
     ·cases h5
    |
     some a =>
     obtain⟨b,o,sp⟩:=a
     cases sp with
     | some s=>simp[iF] at h5
     |
      none =>
      simp only[iF,Nat.mul_one] at h5
      simp only[h5,hb]
      rfl
  rw[e]
  exact fO.same hS (.sc _ rfl)
 case new zero =>
  split at h
  case isFalse=>cases h
  rename_i hz
  cases h
  rw[VO]
  exact Ud hS hz
 case box x =>
  split at h
  case isFalse=>cases h
  rename_i hs
  rw[Xf]
  exact TD hS (hE.ev x) hs h
 case make zero bytes l c =>
  split at h
  case isFalse=>cases h
  rename_i hz
  rw[SJ]
  exact Qz hS hz (hE.ev l) (hE.ev c) h
 case lit zero n parts =>
  rw[Xc]
  exact SF hS (Fm hE parts) h
 case store size p x =>
  obtain⟨a,ha,he⟩:=bZ h
  cases he
  rw[QY]
  exact Oh hS (hE.ev p) (hE.ev x) ha
 case app size bytes x y =>
  split at h
  case h_2=>cases h
  rename_i new hn
  obtain⟨h1,h2,h3,h4⟩:=tM hS (hE.ev y) hn
  obtain⟨pn,h5,h6⟩:=h4 new.length (Nat.le_refl _)
  rw[List.take_length] at h6
  rw[Vv]
  unfold ZQ
  simp only[h1,h5]
  exact ED hS (hE.ev x) h2 h3 h6 h
 case appz zero bytes x n =>
  split at h
  case h_2=>cases h
  rename_i k hk
  split at h
  case isFalse=>cases h
  rename_i hc
  obtain⟨e1,_⟩:=oS (hE.ev n) hk
  have Io:∀x∈List.replicate k.toNat (elemOf (zero.map iM)),(aA x).length=zero.length:=fun x hx=>by rw[List.eq_of_mem_replicate hx];exact AO hc.2.2
  have:=ED hS (hE.ev x) Io (yH (by
    rw[List.all_eq_true]
    intro x hx
    rw[List.eq_of_mem_replicate hx,lJ hc.2.2]
    exact hc.2.2)) (zK hc.2.2 _) h
  rw[List.length_replicate] at this
  rw[Tm]
  unfold U5
  rw[e1]
  simp only[if_pos (show 0≤k∧k*(bytes:Int)≤140737488355328 from⟨hc.1,hc.2.1⟩)]
  exact this
 case copy size x y =>
  rw[SE]
  exact QN hS (hE.ev x) (hE.ev y) h
 case clear zero x =>
  obtain⟨a,ha,he⟩:=bZ h
  cases he
  rw[Qc]
  exact N5 hS (hE.ev x) ha
 all_goals cases h
end
end Go.PM
namespace Go.PM
def bare (F:Nat→Prop) (P:aD):View:=⟨fun _=>0,F,[],P,0⟩
theorem yY {es:List VV}:aK es=true↔∀x∈es,aW x=true:=by
 induction es with
 | nil=>simp[aK]
 | cons x xs ih=>simp[aK,ih]
theorem Bm {x:VV} (h:aW x=true):aK (aA x)=true:=by
 unfold aA
 split
 ·simpa[aW] using h
 ·simp[aK,h]
theorem II {es:List VV} (h:aK es=true):aK (es.flatMap aA)=true:=by
 rw[yY] at h ⊢
 intro x hx
 obtain⟨y,hy,Af⟩:=List.mem_flatMap.1 hx
 exact yY.1 (Bm (h y hy)) x Af
theorem EK {es:List VV} {k:TK} (h:aW (.tree es k)=true):k = .op∧aK es=true∧uni es=true:=by
 simp only[aW,Bool.and_eq_true,decide_eq_true_eq] at h
 exact⟨h.1.1,h.1.2,h.2⟩
theorem GO {x:VV} (h:aW x=true):x ≠ .any:=by
 rintro rfl
 cases h
theorem XS {es:List VV} (h:uni es=true):∃e,∀x∈es,(aA x).length=e:=by
 cases es with
 | nil=>exact⟨0,fun x hx=>by cases hx⟩
 |
  cons x xs =>
  refine⟨(aA x).length,fun y hy => ?_⟩
  rcases List.mem_cons.1 hy with rfl | hy
  ·rfl
  ·have:=List.all_eq_true.1 h y hy
   simpa using this
section
variable {V V':View}
theorem VR.pure {x:VV} {v:Value} (hF:∀b,V.F b→V'.F b∧V'.P[b]? = V.P[b]?) (h:VR V x v):aW x=true→VR V' x v:=by
 induction h using VR.rec (motive_2:=fun xs vs _=>aK xs=true→VL V' xs vs) with
 | any=>intro hp;cases hp
 | sc _ h=>intro _;exact .sc _ h
 | agg cs ps _ ih=>intro hp;exact .agg _ _ (ih hp)
 | eK cs ps _ ih=>intro hp;exact .eK _ _ (ih hp)
 | nH k hk=>intro _;exact .nH k hk
 | tree es k b o c r e p Qw hb ho hc he hk _ ih=>intro hp;exact .tree es k b o c r e p (hF _ Qw).1 (by rw[(hF _ Qw).2];exact hb) ho hc he hk (ih (II (EK hp).2.1))
 | cO x off b o r e p Qw hb ho _ ih=>intro hp;exact .cO x off b o r e p (hF _ Qw).1 (by rw[(hF _ Qw).2];exact hb) ho (ih (Bm hp))
 | ref=>intro hp;cases hp
 | ptr=>intro hp;cases hp
 | sN f fA ps _ ih=>intro hp;exact .sN _ _ _ (ih hp)
 | nil=>exact .nil
 |
  cons x v xs vs _ _ ih TE =>
  rename_i hp
  simp only[aK,Bool.and_eq_true] at hp
  exact .cons _ _ _ _ (ih hp.1) (TE hp.2)
theorem VL.pure {xs:List VV} {vs:List Value} (hF:∀b,V.F b→V'.F b∧V'.P[b]? = V.P[b]?) (h:VL V xs vs) (hp:aK xs=true):VL V' xs vs:=by
 induction xs generalizing vs with
 | nil=>cases h;exact .nil
 |
  cons x xs ih=>cases h with
  |
   cons _ v _ vs h hs =>
   simp only[aK,Bool.and_eq_true] at hp
   exact .cons _ _ _ _ (h.pure hF hp.1) (ih hs hp.2)
theorem VL.flatten {es:List VV} {ps:List Value} (h:VL V es ps) (hp:aK es=true):VL V (es.flatMap aA) (ps.flatMap aL):=by
 induction es generalizing ps with
 | nil=>cases h;exact .nil
 |
  cons x xs ih =>
  cases h with
  |
   cons _ v _ vs h hs =>
   simp only[aK,Bool.and_eq_true] at hp
   rw[List.flatMap_cons,List.flatMap_cons]
   exact(h.cells (GO hp.1)).append (ih hs hp.2)
theorem Ma {P P':aD} (h:P <+: P'):∀b,(bare (· < P.length) P).F b→(bare (· < P'.length) P').F b∧(bare (· < P'.length) P').P[b]? = (bare (· < P.length) P).P[b]? := by
 intro b hb
 obtain⟨L,rfl⟩:=h
 have wM:b<P.length:=hb
 exact⟨by show b<(P++L).length;simp;omega,List.getElem?_append_left wM⟩
mutual
theorem real (x:VV) (hp:aW x=true) (P:aD):∃P' pv,P <+: P'∧VR (bare (· < P'.length) P') x pv:=by
 cases x with
 | any=>cases hp
 | sc v=>exact⟨P,v,List.prefix_refl _,.sc v hp⟩
 |
  agg cs =>
  obtain⟨P',ps,h1,h2⟩:=K1 cs hp P
  exact⟨P',_,h1,.agg _ _ h2⟩
 |
  eK cs =>
  obtain⟨P',ps,h1,h2⟩:=K1 cs hp P
  exact⟨P',_,h1,.eK _ _ h2⟩
 |
  tree es k =>
  obtain⟨rfl,h1,h2⟩:=EK hp
  obtain⟨P',ps,h3,h4⟩:=K1 es h1 P
  obtain⟨e,he⟩:=XS h2
  have h5:=h4.flatten h1
  have hl:=h5.length
  rw[jD he] at hl
  have Az:P' <+: P'++[JG.row (ps.flatMap aL) e false]:=List.prefix_append _ _
  refine⟨_,.slice (some ⟨P'.length,0,none⟩) es.length es.length,h3.trans Az,?_⟩
  refine .tree es .op P'.length 0 es.length (ps.flatMap aL) e false (show P'.length<(P'++[JG.row (ps.flatMap aL) e false]).length by simp) (by show (P'++[JG.row (ps.flatMap aL) e false])[P'.length]? = _;simp) (by omega) (Nat.le_refl _) he trivial ?_
  rw[List.drop_zero,List.take_of_length_le (by omega)]
  exact VL.pure (Ma Az) h5 (II h1)
 |
  cO x off =>
  obtain⟨P',pv,h3,h4⟩:=real x hp P
  have h5:=h4.cells (GO hp)
  have Az:P' <+: P'++[JG.row (aL pv) (aL pv).length false]:=List.prefix_append _ _
  refine⟨_,.pointer (some ⟨P'.length,0+off,none⟩),h3.trans Az,?_⟩
  refine .cO x off P'.length 0 (aL pv) (aL pv).length false (show P'.length<(P'++[JG.row (aL pv) (aL pv).length false]).length by simp) (by show (P'++[JG.row (aL pv) (aL pv).length false])[P'.length]? = _;simp) (by rw[h5.length];omega) ?_
  rw[List.drop_zero,List.take_of_length_le (by rw[h5.length];exact Nat.le_refl _)]
  exact VL.pure (Ma Az) h5 (Bm hp)
 | ref=>cases hp
 | ptr=>cases hp
 |
  sN f fA =>
  obtain⟨P',ps,h1,h2⟩:=K1 fA hp P
  exact⟨P',_,h1,.sN _ _ _ h2⟩
theorem K1 (xs:List VV) (hp:aK xs=true) (P:aD):∃P' ps,P <+: P'∧VL (bare (· < P'.length) P') xs ps:=by
 cases xs with
 | nil=>exact⟨P,[],List.prefix_refl _,.nil⟩
 |
  cons x xs =>
  simp only[aK,Bool.and_eq_true] at hp
  obtain⟨P1,pv,h1,h2⟩:=real x hp.1 P
  obtain⟨P2,ps,h3,h4⟩:=K1 xs hp.2 P1
  exact⟨P2,pv::ps,h1.trans h3,.cons _ _ _ _ (h2.pure (Ma h3) hp.1) h4⟩
end
theorem IC {es:List VV}:pF es=true↔∀x∈es,gH x=true:=by
 induction es with
 | nil=>simp[pF]
 | cons x xs ih=>simp[pF,ih]
theorem By {es:List VV} {k:TK} (h:gH (.tree es k)=true):k = .op∧pF es=true∧uni es=true∧es.all xG=true:=by
 simp only[gH,Bool.and_eq_true,decide_eq_true_eq] at h
 exact⟨h.1.1.1,h.1.1.2,h.1.2,h.2⟩
theorem Qs {x:VV} (h:gH x=true):pF (aA x)=true:=by
 unfold aA
 split
 ·simpa[gH] using h
 ·simp[pF,h]
theorem KX {es:List VV} (h:pF es=true):pF (es.flatMap aA)=true:=by
 rw[IC] at h ⊢
 intro x hx
 obtain⟨y,hy,Af⟩:=List.mem_flatMap.1 hx
 exact IC.1 (Qs (h y hy)) x Af
mutual
theorem Og (x:VV) (h:gH x=true):aW x=true:=by
 cases x with
 | sc v=>exact h
 | agg cs=>exact B5 cs h
 | eK cs=>exact B5 cs h
 |
  tree es k =>
  obtain⟨h1,h2,h3,_⟩:=By h
  simp[aW,h1,B5 es h2,h3]
 | any=>cases h
 | cO=>cases h
 | ref=>cases h
 | ptr=>cases h
 | sN=>cases h
theorem B5 (xs:List VV) (h:pF xs=true):aK xs=true:=by
 cases xs with
 | nil=>rfl
 |
  cons x xs =>
  simp only[pF,Bool.and_eq_true] at h
  simp[aK,Og x h.1,B5 xs h.2]
end
theorem OU {e:Nat}:∀ {es lD:List VV},(∀x∈es,(aA x).length=e)→(∀x∈lD,(aA x).length=e)→es.all xG=true→lD.all xG=true→es.length=lD.length→es.flatMap aA=lD.flatMap aA→es=lD
 | [],[],_,_,_,_,_,_=>rfl
 |
  x::es,y::lD,h1,h2,h3,h4,hl,h=>by
  rw[List.flatMap_cons,List.flatMap_cons] at h
  have hx:=h1 x List.mem_cons_self
  have hy:=h2 y List.mem_cons_self
  obtain⟨e1,e2⟩:=List.append_inj h (by omega)
  simp only[List.all_cons,Bool.and_eq_true] at h3 h4
  have Af:x=y:=by
   have g1:=h3.1
   have g2:=h4.1
   unfold aA at e1
   split at e1<;>split at e1
   ·rw[e1]
   ·rename_i cs _ _
    subst e1
    cases g1
   ·rename_i cs
    subst e1
    cases g2
   ·injection e1
  rw[Af,OU (fun z hz=>h1 z (List.mem_cons_of_mem _ hz)) (fun z hz=>h2 z (List.mem_cons_of_mem _ hz)) h3.2 h4.2 (by simpa using hl) e2]
theorem VR.uniq {x y:VV} {v:Value} (h:VR V x v) (h':VR V y v) (hx:gH x=true) (hy:gH y=true):x=y:=by
 induction h using VR.rec (motive_2:=fun xs vs _=>∀ys,VL V ys vs→pF xs=true→pF ys=true→xs=ys) generalizing y with
 | any=>cases hx
 |
  sc _ h=>cases h' with
  | sc _ _=>rfl
  | any=>cases hy
  | agg=>cases h
  | eK=>cases h
  | nH=>cases h
  | tree=>cases h
  | cO=>cases hy
  | ref=>cases hy
  | ptr=>cases hy
  | sN=>cases hy
 |
  agg cs ps h ih=>generalize hw:Value.agg ps.toArray=w at h';cases h' with
  | sc _ h'=>subst hw;cases h'
  | any=>cases hy
  |
   agg xN ps' h' =>
   injection hw with hw
   have:ps=ps':=by simpa using hw
   subst this
   rw[ih _ h' hx hy]
  | eK=>cases hw
  | nH=>cases hw
  | tree=>cases hw
  | cO=>cases hy
  | ref=>cases hy
  | ptr=>cases hy
  | sN=>cases hy
 |
  eK cs ps h ih=>generalize hw:Value.tuple ps.toArray=w at h';cases h' with
  | sc _ h'=>subst hw;cases h'
  | any=>cases hy
  |
   eK xN ps' h' =>
   injection hw with hw
   have:ps=ps':=by simpa using hw
   subst this
   rw[ih _ h' hx hy]
  | agg=>cases hw
  | nH=>cases hw
  | tree=>cases hw
  | cO=>cases hy
  | ref=>cases hy
  | ptr=>cases hy
  | sN=>cases hy
 |
  nH k hk =>
  obtain⟨rfl,_⟩:=By hx
  generalize hw:Value.slice none 0 0=w at h'
  cases h' with
  | sc _ h'=>subst hw;cases h'
  | any=>cases hy
  | nH k' Zj=>obtain⟨rfl,_⟩:=By hy;rfl
  | agg=>cases hw
  | eK=>cases hw
  | tree=>cases hw
  | cO=>cases hy
  | ref=>cases hy
  | ptr=>cases hy
  | sN=>cases hy
 |
  tree es k b o c r e p hF hb ho hc he hk hl ih =>
  obtain⟨rfl,hx1,hx2,hx3⟩:=By hx
  generalize hw:Value.slice (some ⟨b,o,none⟩) es.length c=w at h'
  cases h' with
  | sc _ h'=>subst hw;cases h'
  | any=>cases hy
  | nH=>cases hw
  | agg=>cases hw
  | eK=>cases hw
  |
   tree lD k' b' o' c' r' e' p' hF' wM Vd hc' he' Zj A7 =>
   obtain⟨rfl,hy1,hy2,hy3⟩:=By hy
   injection hw with h1 h2 h3
   injection h1 with h1
   injection h1 with h1 h4
   subst h1 h3 h4
   rw[hb] at wM
   injection wM with wM
   injection wM with g1 g2 g3
   subst g1 g2 g3
   rw[←h2] at A7
   rw[OU he he' hx3 hy3 h2 (ih _ A7 (KX hx1) (KX hy1))]
  | cO=>cases hy
  | ref=>cases hy
  | ptr=>cases hy
  | sN=>cases hy
 | cO=>cases hx
 | ref=>cases hx
 | ptr=>cases hx
 | sN=>cases hx
 | nil=>rename_i h' _ _;cases h';rfl
 |
  cons x v xs vs _ _ ih TE =>
  rename_i ys h' hx hy
  cases h' with
  |
   cons y _ ys _ h' hs' =>
   simp only[pF,Bool.and_eq_true] at hx hy
   rw[ih h' hx.1 hy.1,TE _ hs' hx.2 hy.2]
end
end Go.PM
namespace Go.PM
section
variable {V:View} {lo dN:Nat}
theorem mQ {α β:Type} {f:α→Option β} {x:α} {xs:List α} {r:List β} (h:(x::xs).mapM f=some r):∃y ys,f x=some y∧xs.mapM f=some ys∧r=y::ys:=by
 rw[List.mapM_cons] at h
 cases hx:f x with
 | none=>rw[hx] at h;cases h
 |
  some y =>
  rw[hx] at h
  cases hs:xs.mapM f with
  | none=>rw[hs] at h;cases h
  | some ys=>rw[hs] at h;cases h;exact⟨y,ys,rfl,rfl,rfl⟩
theorem uI {α β:Type} {f:α→Option β}:∀ {xs:List α} {r:List β},xs.mapM f=some r→r.length=xs.length
 | [],r,h=>by cases h;rfl
 |
  x::xs,r,h=>by
  obtain⟨y,ys,_,h2,rfl⟩:=mQ h
  simp[uI h2]
theorem R9 {d:Nat} {H:aB} {x x':VV} (h:fz d H x=some x'):(∃cs xN,x = .agg cs∧x' = .agg xN∧xN.length=cs.length)∨(aA x=[x]∧aA x'=[x']):=by
 cases d with
 | zero=>cases h
 |
  succ d =>
  unfold fz at h
  split at h
  ·cases h
   cases x with
   | agg cs=>exact .inl ⟨cs,cs,rfl,rfl,rfl⟩
   | _=>exact .inr ⟨rfl,rfl⟩
  ·split at h
   ·obtain⟨xN,h1,rfl⟩:=bZ h
    exact .inl ⟨_,_,rfl,rfl,uI h1⟩
   ·obtain⟨xN,h1,rfl⟩:=bZ h;exact .inr ⟨rfl,rfl⟩
   ·obtain⟨xN,h1,rfl⟩:=bZ h;exact .inr ⟨rfl,rfl⟩
   ·obtain⟨xN,h1,rfl⟩:=bZ h;exact .inr ⟨rfl,rfl⟩
   ·split at h
    ·split at h
     ·obtain⟨xN,h1,rfl⟩:=bZ h;exact .inr ⟨rfl,rfl⟩
     ·cases h
    ·cases h
   ·split at h
    ·split at h
     ·obtain⟨xN,h1,rfl⟩:=bZ h;exact .inr ⟨rfl,rfl⟩
     ·cases h
    ·cases h
   ·obtain⟨xN,h1,rfl⟩:=bZ h;exact .inr ⟨rfl,rfl⟩
   ·cases h
theorem MA {d:Nat} {H:aB} {x x':VV} (h:fz d H x=some x'):(aA x').length=(aA x).length:=by
 rcases R9 h with⟨cs,xN,rfl,rfl,h'⟩ | ⟨h1,h2⟩
 ·exact h'
 ·rw[h1,h2];rfl
def Km (V:View) (G:Nat→Prop) (ids:List Nat):Prop:=∀i∈ids,∀g es e w,V.H[i]? = some (.row g es e w)→G (V.m i)
theorem IZ (hS:SR V lo dN) {G:Nat→Prop} (hG:∀q,V.F q→G q):∀(d:Nat) (v v':VV) (pv:Value),VR V v pv→fz d V.H v=some v'→Km V G (iA d V.H v)→VR (bare G V.P) v' pv:=by
 have hFG:∀b,V.F b→(bare G V.P).F b∧(bare G V.P).P[b]? = V.P[b]? := fun b hb=>⟨hG b hb,rfl⟩
 intro d
 induction d with
 | zero=>intro v v' pv _ h;cases h
 |
  succ d ih =>
  have ihL:∀(xs Fk:List VV) (ps:List Value),VL V xs ps→xs.mapM (fz d V.H)=some Fk→Km V G (xs.flatMap (iA d V.H))→VL (bare G V.P) Fk ps:=by
   intro xs
   induction xs with
   | nil=>intro Fk ps hl h _;cases h;cases hl;exact .nil
   |
    cons x xs ihx =>
    intro Fk ps hl h hi
    obtain⟨y,ys,h1,h2,rfl⟩:=mQ h
    cases hl with
    |
     cons _ v _ vs hx MS =>
     exact .cons _ _ _ _ (ih x y v hx h1 fun i Cq=>hi i (by rw[List.flatMap_cons];exact List.mem_append_left _ Cq)) (ihx ys vs MS h2 fun i Cq=>hi i (by rw[List.flatMap_cons];exact List.mem_append_right _ Cq))
  have ihC:∀(x x':VV) (ps:List Value),VL V (aA x) ps→fz d V.H x=some x'→Km V G (iA d V.H x)→VL (bare G V.P) (aA x') ps:=by
   intro x x' ps hl h hi
   rcases R9 h with⟨cs,xN,rfl,rfl,lG⟩ | ⟨h1,h2⟩
   ·have:=ih _ _ (.agg ps.toArray) (.agg _ _ hl) h hi
    generalize hw:Value.agg ps.toArray=w at this
    cases this with
    |
     agg _ ps' A7 =>
     injection hw with hw
     have:ps=ps':=by simpa using hw
     subst this
     exact A7
   ·rw[h1] at hl
    rw[h2]
    cases hl with
    |
     cons _ v _ vs hx MS =>
     cases MS
     exact .cons _ _ _ _ (ih _ _ _ hx h hi) .nil
  have ihF:∀(xs Fk:List VV) (ps:List Value),VL V (xs.flatMap aA) ps→xs.mapM (fz d V.H)=some Fk→Km V G (xs.flatMap (iA d V.H))→VL (bare G V.P) (Fk.flatMap aA) ps:=by
   intro xs
   induction xs with
   | nil=>intro Fk ps hl h _;cases h;cases hl;exact .nil
   |
    cons x xs ihx =>
    intro Fk ps hl h hi
    obtain⟨y,ys,h1,h2,rfl⟩:=mQ h
    rw[List.flatMap_cons] at hl ⊢
    have hlen:=hl.length
    have a1:=hl.take (aA x).length
    have a2:=hl.drop (aA x).length
    rw[List.take_left] at a1
    rw[List.drop_left] at a2
    rw[←List.take_append_drop (aA x).length ps]
    exact(ihC x y _ a1 h1 fun i Cq=>hi i (by rw[List.flatMap_cons];exact List.mem_append_left _ Cq)).append (ihx ys _ a2 h2 fun i Cq=>hi i (by rw[List.flatMap_cons];exact List.mem_append_right _ Cq))
  have afF:∀(xs Fk:List VV) (e:Nat),xs.mapM (fz d V.H)=some Fk→(∀x∈xs,(aA x).length=e)→∀x∈Fk,(aA x).length=e:=by
   intro xs
   induction xs with
   | nil=>intro Fk e h _ x hx;cases h;cases hx
   |
    cons x xs ihx =>
    intro Fk e h he z hz
    obtain⟨y,ys,h1,h2,rfl⟩:=mQ h
    rcases List.mem_cons.1 hz with rfl | hz
    ·rw[MA h1];exact he x List.mem_cons_self
    ·exact ihx ys e h2 (fun w hw=>he w (List.mem_cons_of_mem _ hw)) z hz
  intro v v' pv hv h hi
  unfold fz at h
  unfold iA at hi
  split at h
  ·rename_i hp
   cases h
   exact hv.pure hFG hp
  ·rename_i hp
   rw[if_neg hp] at hi
   split at h
   ·obtain⟨xN,h1,rfl⟩:=bZ h
    cases hv with
    | agg cs ps hl=>exact .agg _ _ (ihL _ _ _ hl h1 hi)
   ·obtain⟨xN,h1,rfl⟩:=bZ h
    cases hv with
    | eK cs ps hl=>exact .eK _ _ (ihL _ _ _ hl h1 hi)
   ·obtain⟨xN,h1,rfl⟩:=bZ h
    cases hv with
    | nH k hk=>cases h1;exact .nH _ (.inl rfl)
    |
     tree es k b o c r e p hF hb ho hc he hk hl =>
     have hlen:=uI h1
     have:=VR.tree (V:=bare G V.P) xN .op b o c r e p (hG b hF) hb (by rw[hlen];exact ho) (by rw[hlen];exact hc) (afF _ _ _ h1 he) trivial (by rw[hlen];exact ihF _ _ _ hl h1 hi)
     rw[hlen] at this
     exact this
   ·obtain⟨x',h1,rfl⟩:=bZ h
    cases hv with
    |
     cO x off b o r e p hF hb ho hl =>
     have hlen:=MA h1
     exact .cO x' _ b o r e p (hG b hF) hb (by rw[hlen];exact ho) (by rw[hlen];exact ihC _ _ _ hl h1 hi)
   ·rename_i b g o n c
    split at h
    case h_2=>cases h
    rename_i es e w hr
    simp only[hr] at hi
    rw[cY] at hr
    split at h
    case isFalse=>cases h
    rename_i anN
    obtain⟨hon,A2⟩:=anN
    obtain⟨lD,h1,rfl⟩:=bZ h
    obtain⟨r,p,k1,k2,k3⟩:=hS.row b g es e w hr
    have Hi:=k3.length
    rw[jD k2] at Hi
    cases hv with
    |
     ref b g o n c a n' c' aX hg ha hq =>
     obtain⟨rfl,rfl,rfl⟩:=ha _ _ _ hr
     have WU:∀x∈(es.drop o).take n',(aA x).length=e:=fun x hx=>k2 x (List.mem_of_mem_drop (List.mem_of_mem_take hx))
     have X2:((es.drop o).take n').length=n':=by simp;omega
     have hlen:=uI h1
     rw[X2] at hlen
     have hm:(o+n')*e≤es.length*e:=Nat.mul_le_mul_right _ hon
     rw[Nat.add_mul] at hm
     have hl:VL V (((es.drop o).take n').flatMap aA) ((r.drop (o*e)).take (n'*e)):=by
      have h4:=(k3.drop (o*e)).take (n'*e)
      rw[rC k2,rD (fun x hx=>k2 x (List.mem_of_mem_drop hx))] at h4
      exact h4
     have hGb:G (V.m b):=hi b List.mem_cons_self _ _ _ _ hr
     have:=VR.tree (V:=bare G V.P) lD .op (V.m b) (o*e) c' r e p hGb k1 (by rw[hlen];omega) (by rw[hlen];exact A2) (afF _ _ _ h1 WU) trivial (by rw[hlen];exact ihF _ _ _ hl h1 fun i Cq=>hi i (List.mem_cons_of_mem _ Cq))
     rw[hlen] at this
     exact this
   ·rename_i b g j o
    split at h
    case h_2=>cases h
    rename_i es e w hr
    simp only[hr] at hi
    rw[cY] at hr
    split at h
    case h_2=>cases h
    rename_i x hx
    simp only[hx] at hi
    obtain⟨x',h1,rfl⟩:=bZ h
    obtain⟨r,p,k1,k2,k3,k4⟩:=HO hS hr hx
    cases hv with
    |
     ptr b g j off a aX hg ha hq =>
     have:=ha _ _ _ hr
     subst this
     have hlen:=MA h1
     exact .cO x' o (V.m b) (j*e) r e p (hi b List.mem_cons_self _ _ _ _ hr) k1 (by rw[hlen];exact k3) (by rw[hlen];exact ihC _ _ _ k4 h1 fun i Cq=>hi i (List.mem_cons_of_mem _ Cq))
   ·obtain⟨xN,h1,rfl⟩:=bZ h
    cases hv with
    | sN f fA ps hl=>exact .sN _ _ _ (ihL _ _ _ hl h1 hi)
   ·cases h
theorem B2 (hS:SR V lo dN) {G:Nat→Prop} (hG:∀q,V.F q→G q) {d:Nat}:∀ {xs Fk:List VV} {ps:List Value},VL V xs ps→xs.mapM (fz d V.H)=some Fk→Km V G (xs.flatMap (iA d V.H))→VL (bare G V.P) Fk ps
 | [],Fk,ps,hl,h,_=>by cases h;cases hl;exact .nil
 |
  x::xs,Fk,ps,hl,h,hi=>by
  obtain⟨y,ys,h1,h2,rfl⟩:=mQ h
  cases hl with
  |
   cons _ v _ vs hx MS =>
   exact .cons _ _ _ _ (IZ hS hG d x y v hx h1 fun i Cq=>hi i (by rw[List.flatMap_cons];exact List.mem_append_left _ Cq)) (B2 hS hG MS h2 fun i Cq=>hi i (by rw[List.flatMap_cons];exact List.mem_append_right _ Cq))
def View.cH (V:View) (ids:List Nat):View:=ids.foldl View.freeze V
theorem sW:∀(ids:List Nat) {V:View},SR V lo dN→SR (V.cH ids) lo dN∧CA lo V (V.cH ids)∧(V.cH ids).H=PM.cH V.H ids∧(V.cH ids).P=V.P∧(V.cH ids).m=V.m∧Km V (V.cH ids).F ids
 | [],V,hS=>⟨hS,CA.refl _ _,rfl,rfl,rfl,fun i hi=>by cases hi⟩
 |
  i::ids,V,hS=>by
  obtain⟨h1,h2,h3⟩:=Mn hS i
  obtain⟨g1,g2,g3,g4,g5,g6⟩:=sW ids h1
  refine⟨g1,h2.trans g2,?_,g4.trans (W0 V i),g5.trans (OG V i),?_⟩
  ·show ((V.freeze i).cH ids).H=_
   rw[g3,Nq]
   rfl
  ·intro k hk g es e w hr
   show ((V.freeze i).cH ids).F (V.m k)
   rcases List.mem_cons.1 hk with rfl | hk
   ·exact g2.F _ (h3 _ _ _ _ hr)
   ·have E0:∃g es e w,(V.freeze i).H[k]? = some (.row g es e w):=by
     rw[Nq]
     unfold zD
     split
     ·rename_i g' lD e' w' hi
      by_cases hki:k=i
      ·subst hki
       exact⟨g',lD,e',false,List.getElem?_set_self (List.getElem?_eq_some_iff.1 hi).1⟩
      ·exact⟨g,es,e,w,by rw[List.getElem?_set_ne (Ne.symm hki)];exact hr⟩
     ·exact⟨g,es,e,w,hr⟩
    obtain⟨g',lD,e',w',E0⟩:=E0
    have:=g6 k hk _ _ _ _ E0
    rw[OG] at this
    exact this
end
end Go.PM