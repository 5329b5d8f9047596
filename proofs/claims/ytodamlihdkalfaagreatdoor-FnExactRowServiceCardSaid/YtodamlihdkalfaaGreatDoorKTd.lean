/- Texts of a claim, in one: part 4. -/
import Derived.Test.YtodamlihdkalfaaGreatDoorKTc
set_option linter.unusedSimpArgs false
set_option linter.unusedVariables false
namespace Go.PM
structure View where
 m:Nat→Nat
 F:Nat→Prop
 H:aA
 P:aD
 base:Nat
def kindOk (k:TK) (n c e:Nat) (p:Bool):Prop :=
 match k with
 | .op=>True
 | .cl e'=>e'=e∧c=n∧p=false
 | .nil=>False
mutual
inductive VR (V:View):VV→Value→Prop
 | any (v:Value):VR V .any v
 | sc (v:Value) (h:jW v=true):VR V (.sc v) v
 | agg (cs:List VV) (ps:List Value) (h:VL V cs ps):VR V (.agg cs) (.agg ps.toArray)
 | dS (cs:List VV) (ps:List Value) (h:VL V cs ps):VR V (.dS cs) (.tuple ps.toArray)
 | mD (k:TK) (hk:k = .op∨k = .nil):VR V (.tree [] k) (.slice none 0 0)
 | tree (es:List VV) (k:TK) (b o c:Nat) (r:List Value) (e:Nat) (p:Bool) (hF:V.F b) (hb:V.P[b]? = some (.row r e p)) (ho:o+es.length*e≤r.length)
  (hc:es.length≤c) (he:∀x∈es,(aB x).length=e) (hk:kindOk k es.length c e p) (hl:VL V (es.flatMap aB) ((r.drop o).take (es.length*e))) :
  VR V (.tree es k) (.slice (some ⟨b,o,none⟩) es.length c)
 | dA (x:VV) (off b o:Nat) (r:List Value) (e:Nat) (p:Bool) (hF:V.F b) (hb:V.P[b]? = some (.row r e p)) (ho:o+(aB x).length≤r.length)
  (hl:VL V (aB x) ((r.drop o).take (aB x).length)):VR V (.dA x off) (.pointer (some ⟨b,o+off,none⟩))
 | ref (b g o n c:Nat) (a:Option Addr) (n' c':Nat) (aU:b<V.H.length) (hg:∀g' es e w,V.H[b]? = some (.row g' es e w)→g≤g')
  (h:∀es e w,V.H[b]? = some (.row g es e w)→a=some ⟨V.m b,o*e,none⟩∧n'=n∧c'=c)
  (hq:∀a0,a=some a0→V.base≤a0.block∧a0.block<V.P.length∧∀b' g' es e w,V.H[b']? = some (.row g' es e w)→b'≠b→V.m b'≠a0.block):VR V (.ref b g o n c) (.slice a n' c')
 | ptr (b g j off:Nat) (a:Option Addr) (aU:b<V.H.length) (hg:∀g' es e w,V.H[b]? = some (.row g' es e w)→g≤g')
  (h:∀es e w,V.H[b]? = some (.row g es e w)→a=some ⟨V.m b,j*e+off,none⟩)
  (hq:∀a0,a=some a0→V.base≤a0.block∧a0.block<V.P.length∧∀b' g' es e w,V.H[b']? = some (.row g' es e w)→b'≠b→V.m b'≠a0.block):VR V (.ptr b g j off) (.pointer a)
 | sU (f:Nat) (fE:List VV) (ps:List Value) (h:VL V fE ps):VR V (.sU f fE) (.func (.func f) #[] ps.toArray)
inductive VL (V:View):List VV→List Value→Prop
 | nil:VL V [] []
 | cons (x:VV) (v:Value) (xs:List VV) (vs:List Value) (h:VR V x v) (hs:VL V xs vs):VL V (x::xs) (v::vs)
end
structure Up (V V':View):Prop where
 F:∀b,V.F b→V'.F b
 P:∀b,V.F b→V'.P[b]? = V.P[b]?
 len:V.H.length≤V'.H.length
 row:∀b g' lA e w',b<V.H.length→V'.H[b]? = some (.row g' lA e w')→∃g es w,V.H[b]? = some (.row g es e w)∧g≤g'∧(g'=g→V'.m b=V.m b)
 H8:V'.base=V.base
 CU:V.P.length≤V'.P.length
 Ah:∀b g es e w,V'.H[b]? = some (.row g es e w)→V'.m b<V.P.length→∃g0 es0 w0,V.H[b]? = some (.row g0 es0 e w0)∧V'.m b=V.m b∧(w=true→w0=true)
section
variable {V V' PG:View}
theorem Up.refl (V:View):Up V V:=⟨fun _ h=>h,fun _ _=>rfl,Nat.le_refl _,fun b g es e w _ h=>⟨g,es,w,h,Nat.le_refl _,fun _=>rfl⟩,rfl,Nat.le_refl _,fun b g es e w h _=>⟨g,es,w,h,rfl,id⟩⟩
theorem Up.trans (h:Up V V') (h':Up V' PG):Up V PG :=
 ⟨fun b hb=>h'.F b (h.F b hb),fun b hb=>(h'.P b (h.F b hb)).trans (h.P b hb),Nat.le_trans h.len h'.len,fun b g es e w hb hr=>by
  obtain⟨g1,AP,w1,h1,h2,h3⟩:=h'.row b g es e w (Nat.lt_of_lt_of_le hb h.len) hr
  obtain⟨g2,Yx,w2,h4,h5,h6⟩:=h.row b g1 AP e w1 hb h1
  exact⟨g2,Yx,w2,h4,Nat.le_trans h5 h2,fun hg=>(h3 (by omega)).trans (h6 (by omega))⟩,h'.H8.trans h.H8,Nat.le_trans h.CU h'.CU,fun b g es e w hb hm=>by
   obtain⟨g1,AP,w1,h1,h2,h3⟩:=h'.Ah b g es e w hb (Nat.lt_of_lt_of_le hm h.CU)
   obtain⟨g2,Yx,w2,h4,h5,h6⟩:=h.Ah b g1 AP e w1 h1 (by rw[←h2];exact hm)
   exact⟨g2,Yx,w2,h4,h2.trans h5,fun hw=>h6 (h3 hw)⟩⟩
theorem Up.hq (u:Up V V') {b q:Nat} (h:V.base≤q∧q<V.P.length∧∀b' g' es e w,V.H[b']? = some (.row g' es e w)→b'≠b→V.m b'≠q):V'.base≤q∧q<V'.P.length∧∀b' g' es e w,V'.H[b']? = some (.row g' es e w)→b'≠b→V'.m b'≠q:=by
 refine⟨by rw[u.H8];exact h.1,Nat.lt_of_lt_of_le h.2.1 u.CU,fun b' g' es e w hb eV hm => ?_⟩
 obtain⟨g0,es0,w0,h1,h2,_⟩:=u.Ah b' g' es e w hb (by rw[hm];exact h.2.1)
 exact h.2.2 b' _ _ _ _ h1 eV (h2.symm.trans hm)
theorem VR.mono (u:Up V V') {x:VV} {v:Value} (h:VR V x v):VR V' x v:=by
 induction h using VR.rec (motive_2:=fun xs vs _=>VL V' xs vs) with
 | any=>exact .any _
 | sc _ h=>exact .sc _ h
 | agg cs ps _ ih=>exact .agg _ _ ih
 | dS cs ps _ ih=>exact .dS _ _ ih
 | mD k hk=>exact .mD k hk
 | tree es k b o c r e p hF hb ho hc he hk _ ih=>exact .tree es k b o c r e p (u.F _ hF) (by rw[u.P _ hF];exact hb) ho hc he hk ih
 | dA x off b o r e p hF hb ho _ ih=>exact .dA x off b o r e p (u.F _ hF) (by rw[u.P _ hF];exact hb) ho ih
 |
  ref b g o n c a n' c' aU hg h hq =>
  refine .ref b g o n c a n' c' (Nat.lt_of_lt_of_le aU u.len) (fun g' es e w hr => ?_) (fun es e w hr => ?_) fun a0 ha=>u.hq (hq a0 ha)
  ·obtain⟨g1,AP,w1,h1,h2,_⟩:=u.row b g' es e w aU hr
   exact Nat.le_trans (hg _ _ _ _ h1) h2
  ·obtain⟨g1,AP,w1,h1,h2,h3⟩:=u.row b g es e w aU hr
   have h4:=hg _ _ _ _ h1
   have h5:g=g1:=by omega
   subst h5
   rw[h3 rfl]
   exact h _ _ _ h1
 |
  ptr b g j off a aU hg h hq =>
  refine .ptr b g j off a (Nat.lt_of_lt_of_le aU u.len) (fun g' es e w hr => ?_) (fun es e w hr => ?_) fun a0 ha=>u.hq (hq a0 ha)
  ·obtain⟨g1,AP,w1,h1,h2,_⟩:=u.row b g' es e w aU hr
   exact Nat.le_trans (hg _ _ _ _ h1) h2
  ·obtain⟨g1,AP,w1,h1,h2,h3⟩:=u.row b g es e w aU hr
   have h4:=hg _ _ _ _ h1
   have h5:g=g1:=by omega
   subst h5
   rw[h3 rfl]
   exact h _ _ _ h1
 | sU f fE ps _ ih=>exact .sU _ _ _ ih
 | nil=>exact .nil
 | cons x v xs vs _ _ ih RP=>exact .cons _ _ _ _ ih RP
theorem VL.mono (u:Up V V') {xs:List VV} {vs:List Value} (h:VL V xs vs):VL V' xs vs:=by
 induction xs generalizing vs with
 | nil=>cases h;exact .nil
 |
  cons x xs ih=>cases h with
  | cons _ v _ vs h hs=>exact .cons _ _ _ _ (h.mono u) (ih hs)
end
section
variable {V:View} {xs ys:List VV} {vs ws:List Value}
theorem VL.length:∀ {xs:List VV} {vs:List Value},VL V xs vs→vs.length=xs.length
 | _,_,.nil=>rfl
 | _,_,.cons _ _ _ _ _ hs=>by simp[hs.length]
theorem VL.append:∀ {xs:List VV} {vs:List Value},VL V xs vs→VL V ys ws→VL V (xs++ys) (vs++ws)
 | _,_,.nil,h'=>h'
 | _,_,.cons _ _ _ _ h hs,h' => .cons _ _ _ _ h (hs.append h')
theorem VL.take (n:Nat):∀ {xs:List VV} {vs:List Value} ,VL V xs vs→VL V (xs.take n) (vs.take n):=by
 induction n with
 | zero=>intro xs vs _;simp;exact .nil
 |
  succ n ih=>intro xs vs h;cases h with
  | nil=>simp;exact .nil
  | cons x v xs vs h hs=>exact .cons _ _ _ _ h (ih hs)
theorem VL.drop (n:Nat):∀ {xs:List VV} {vs:List Value} ,VL V xs vs→VL V (xs.drop n) (vs.drop n):=by
 induction n with
 | zero=>intro xs vs h;simpa using h
 |
  succ n ih=>intro xs vs h;cases h with
  | nil=>simp;exact .nil
  | cons x v xs vs h hs=>exact ih hs
theorem VL.get (h:VL V xs vs) {i:Nat} {x:VV} (hx:xs[i]? = some x):∃v,vs[i]? = some v∧VR V x v:=by
 induction i generalizing xs vs with
 |
  zero=>cases h with
  | nil=>cases hx
  | cons y v xs vs h hs=>simp at hx;subst hx;exact⟨v,rfl,h⟩
 |
  succ i ih=>cases h with
  | nil=>cases hx
  | cons y v xs vs h hs=>exact ih hs (by simpa using hx)
theorem VL.map {α:Type} {f:α→VV} {g:α→Value}:∀ {l:List α},(∀x∈l,VR V (f x) (g x))→VL V (l.map f) (l.map g)
 | [],_ => .nil
 | x::l,h => .cons _ _ _ _ (h x (by simp)) (VL.map fun y hy=>h y (by simp[hy]))
theorem VL.replicate {x:VV} {v:Value} (h:VR V x v):∀n,VL V (List.replicate n x) (List.replicate n v)
 | 0 => .nil
 | n+1 => .cons _ _ _ _ h (VL.replicate h n)
theorem VL.gZ {cs new:List VV} {ps pn:List Value} (h:VL V cs ps) (hn:VL V new pn) (o:Nat):VL V (cP cs o new) (gZ ps o pn):=by
 unfold cP PM.gZ
 rw[←hn.length]
 exact((h.take o).append hn).append (h.drop _)
theorem VR.iO (v:Value):VR V (iO v) v:=by
 unfold PM.iO
 split
 ·exact .mD _ (.inr rfl)
 ·split
  ·rename_i h;exact .sc _ h
  ·exact .any _
theorem VR.inj (v:Value):VR V (inj v) v:=by
 unfold PM.inj
 split
 ·rename_i cs
  have:(Value.agg cs) = .agg cs.toList.toArray:=by simp
  rw[this]
  refine .agg _ _ ?_
  have:=VL.map (V:=V) (f:=PM.iO) (g:=id) (l:=cs.toList) fun x _=>VR.iO x
  simpa using this
 ·rename_i vs
  split
  ·rename_i h
   have:vs=[].toArray:=by simpa using h
   rw[this]
   exact .dS _ _ .nil
  ·exact .any _
 ·exact VR.iO _
theorem VL.zero (z:List Value):VL V (z.map PM.iO) z:=by
 have:=VL.map (V:=V) (f:=PM.iO) (g:=id) (l:=z) fun x _=>VR.iO x
 simpa using this
theorem VR.cells {x:VV} {v:Value} (h:VR V x v) (hx:x ≠ .any):VL V (aB x) (aK v):=by
 cases h with
 | any=>exact absurd rfl hx
 |
  sc v h =>
  have:aK v=[v]:=by cases v<;>first | rfl | cases h
  rw[this]
  exact .cons _ _ _ _ (.sc v h) .nil
 | agg cs ps h=>simpa[aB,aK] using h
 | dS cs ps h=>exact .cons _ _ _ _ (.dS _ _ h) .nil
 | mD k hk=>exact .cons _ _ _ _ (.mD k hk) .nil
 | tree es k b o c r e p hF hb ho hc he hk hl=>exact .cons _ _ _ _ (.tree es k b o c r e p hF hb ho hc he hk hl) .nil
 | dA x off b o r e p hF hb ho hl=>exact .cons _ _ _ _ (.dA x off b o r e p hF hb ho hl) .nil
 | ref b g o n c a n' c' aU hg h hq=>exact .cons _ _ _ _ (.ref b g o n c a n' c' aU hg h hq) .nil
 | ptr b g j off a aU hg h hq=>exact .cons _ _ _ _ (.ptr b g j off a aU hg h hq) .nil
 | sU f fE ps h=>exact .cons _ _ _ _ (.sU _ _ _ h) .nil
theorem VR.fD {x:VV} {v:Value} (h:VR V x v) (hx:aZ x=true):fD v=true:=by
 cases h with
 | sc v h=>cases v<;>first | rfl | cases h
 | any=>cases hx
 | agg=>cases hx
 | dS=>cases hx
 | _=>rfl
theorem VL.fD:∀ {xs:List VV} {vs:List Value},VL V xs vs→xs.all aZ=true→vs.all PM.fD=true
 | _,_,.nil,_=>rfl
 |
  _,_,.cons _ _ _ _ h hs,hx=>by
  rw[List.all_cons,Bool.and_eq_true] at hx ⊢
  exact⟨h.fD hx.1,hs.fD hx.2⟩
theorem Q4 {x:VV} (h:(aB x).all aZ=true):x ≠ .any:=by
 rintro rfl
 cases h
theorem jJ {es:List VV} {e:Nat} (he:∀x∈es,(aB x).length=e):(es.flatMap aB).length=es.length*e:=by
 induction es with
 | nil=>simp
 |
  cons x xs ih =>
  rw[List.flatMap_cons,List.length_append,ih fun y hy=>he y (List.mem_cons_of_mem _ hy),he x List.mem_cons_self,List.length_cons,Nat.succ_mul]
  omega
theorem rM {es:List VV} {e:Nat} (he:∀x∈es,(aB x).length=e) (i:Nat):(es.flatMap aB).drop (i*e)=(es.drop i).flatMap aB:=by
 induction i generalizing es with
 | zero=>simp
 |
  succ i ih =>
  cases es with
  | nil=>simp
  |
   cons x xs =>
   have hx:=he x List.mem_cons_self
   rw[List.flatMap_cons,List.drop_succ_cons,←ih fun y hy=>he y (List.mem_cons_of_mem _ hy),show (i+1)*e=(aB x).length+i*e by rw[hx,Nat.succ_mul];omega,List.drop_append]
   simp
theorem rP {es:List VV} {e:Nat} (he:∀x∈es,(aB x).length=e) (i:Nat):(es.flatMap aB).take (i*e)=(es.take i).flatMap aB:=by
 induction i generalizing es with
 | zero=>simp
 |
  succ i ih =>
  cases es with
  | nil=>simp
  |
   cons x xs =>
   have hx:=he x List.mem_cons_self
   rw[List.flatMap_cons,List.take_succ_cons,List.flatMap_cons,←ih fun y hy=>he y (List.mem_cons_of_mem _ hy),show (i+1)*e=(aB x).length+i*e by rw[hx,Nat.succ_mul];omega,List.take_append]
   simp
   exact List.take_of_length_le (by omega)
theorem Iq {es:List VV} {e:Nat} (he:∀x∈es,(aB x).length=e) {j:Nat} {x:VV} (hx:es[j]? = some x):((es.flatMap aB).drop (j*e)).take e=aB x:=by
 obtain⟨aU,Oa⟩:=List.getElem?_eq_some_iff.1 hx
 rw[rM he,List.drop_eq_getElem_cons aU,Oa,List.flatMap_cons,List.take_append,←he x (List.mem_of_getElem? hx)]
 simp
theorem tQ {es new:List VV} {e:Nat} (he:∀x∈es,(aB x).length=e) (hn:∀x∈new,(aB x).length=e) (o:Nat):cP (es.flatMap aB) (o*e) (new.flatMap aB)=(cP es o new).flatMap aB:=by
 unfold cP
 rw[rP he,jJ hn,show o*e+new.length*e=(o+new.length)*e by rw[Nat.add_mul],rM he]
 simp
theorem Ha {es:List VV} {j:Nat} {x:VV} (hj:j<es.length):cP es j [x]=es.set j x:=by
 unfold cP
 rw[List.set_eq_take_append_cons_drop,if_pos hj]
 simp
theorem Qd {cs new:List VV} {o:Nat} (h:o+new.length≤cs.length):(cP cs o new).length=cs.length:=by
 unfold cP
 simp
 omega
theorem GG {cs new:List VV} {o:Nat} {x:VV} (h:x∈cP cs o new):x∈cs∨x∈new:=by
 unfold cP at h
 rw[List.mem_append,List.mem_append] at h
 rcases h with(h | h) | h
 ·exact .inl (List.mem_of_mem_take h)
 ·exact .inr h
 ·exact .inl (List.mem_of_mem_drop h)
theorem lJ {cs:List VV} (h:cs.all aZ=true):aB (elemOf cs)=cs:=by
 unfold elemOf
 split
 ·rename_i x
  simp only[List.all_cons,List.all_nil,Bool.and_true] at h
  cases x<;>first | rfl | cases h
 ·rfl
theorem cD {H:aA} {b g:Nat} {es:List VV} {e:Nat} {w:Bool}:aF H b g=some (es,e,w)↔H[b]? = some (.row g es e w):=by
 unfold aF
 constructor
 ·intro h
  split at h
  ·rename_i hb
   split at h
   ·rename_i hg;subst hg;cases h;exact hb
   ·cases h
  ·cases h
 ·intro h
  rw[h]
  simp
end
structure SR (V:View) (lo dV:Nat):Prop where
 row:∀b g es e w,V.H[b]? = some (.row g es e w)→∃r p,V.P[V.m b]? = some (.row r e p)∧(∀x∈es,(aB x).length=e)∧VL V (es.flatMap aB) r
 wr:∀b g es e,V.H[b]? = some (.row g es e true)→¬V.F (V.m b)∧(lo≤b→dV≤V.m b)
 inj:∀a b g es e w g' lA e' w',V.H[a]? = some (.row g es e w)→V.H[b]? = some (.row g' lA e' w')→V.m a=V.m b→a=b
 fr:∀b,V.F b→b<V.P.length
 QC:dV≤V.P.length
 H8:V.base≤V.P.length
structure Dh (lo:Nat) (V V':View):Prop extends Up V V' where
 bO:∀q,q<V.P.length→(∀b g es e,V.H[b]? = some (.row g es e true)→lo≤b→V.m b≠q)→V'.P[q]? = V.P[q]?
 Bb:∀q,V'.F q→V.F q∨V.P.length≤q∨∃b g es e w,V.H[b]? = some (.row g es e w)∧V.m b=q
section
variable {V V' PG:View} {lo:Nat}
theorem Dh.refl (lo:Nat) (V:View):Dh lo V V :=
 { Up.refl V with bO:=fun _ _ _=>rfl,Bb:=fun _ h => .inl h }
theorem Dh.trans (h:Dh lo V V') (h':Dh lo V' PG):Dh lo V PG :=
 { Up.trans h.toUp h'.toUp with
  bO:=fun q hq hn=>by
   rw[h'.bO q (Nat.lt_of_lt_of_le hq h.CU) ?_,h.bO q hq hn]
   intro b g es e hb hl hm
   obtain⟨g1,AP,w1,h1,h2,h3⟩:=h.Ah b g es e true hb (by rw[hm];exact hq)
   have:=h3 rfl
   subst this
   exact hn b g1 AP e h1 hl (h2.symm.trans hm)
  Bb:=fun q hq=>by
   rcases h'.Bb q hq with h1 | h1 | ⟨b,g,es,e,w,h1,h2⟩
   ·exact h.Bb q h1
   ·exact .inr (.inl (Nat.le_trans h.CU h1))
   ·rcases Nat.lt_or_ge q V.P.length with hl | hl
    ·obtain⟨g1,AP,w1,h3,h4,_⟩:=h.Ah b g es e w h1 (by rw[h2];exact hl)
     exact .inr (.inr ⟨b,g1,AP,e,w1,h3,h4.symm.trans h2⟩)
    ·exact .inr (.inl hl) }
end
end Go.PM
namespace Go.PM
def Wd (m:Nat→Nat) (b v:Nat):Nat→Nat:=fun k=>if k=b then v else m k
theorem kG {m:Nat→Nat} {b v:Nat}:Wd m b v b=v:=by simp[Wd]
theorem lB {m:Nat→Nat} {b v k:Nat} (h:k≠b):Wd m b v k=m k:=by simp[Wd,h]
section
variable {V:View} {lo dV:Nat}
theorem SR.mlt (hS:SR V lo dV) {b g e:Nat} {es:List VV} {w:Bool} (hb:V.H[b]? = some (.row g es e w)):V.m b<V.P.length:=by
 obtain⟨r,p,h,_⟩:=hS.row b g es e w hb
 exact(List.getElem?_eq_some_iff.1 h).1
theorem Ap (hS:SR V lo dV) (x:KC):SR { V with P:=V.P++[x],F:=fun q=>V.F q∨q=V.P.length } lo dV∧Dh lo V { V with P:=V.P++[x],F:=fun q=>V.F q∨q=V.P.length }:=by
 have hU:Up V { V with P:=V.P++[x],F:=fun q=>V.F q∨q=V.P.length }:=⟨fun _ h => .inl h,fun b hb=>List.getElem?_append_left (hS.fr b hb),Nat.le_refl _,fun b g es e w _ h=>⟨g,es,w,h,Nat.le_refl _,fun _=>rfl⟩,rfl,by simp,fun b g es e w hb _=>⟨g,es,w,hb,rfl,id⟩⟩
 refine⟨⟨fun b g es e w hb => ?_,fun b g es e hb=>⟨fun hF => ?_,(hS.wr b g es e hb).2⟩,hS.inj,fun b hb => ?_,by have:=hS.QC;simp;omega,by have:=hS.H8;simp;omega⟩,{ hU with bO:=fun q hq _=>List.getElem?_append_left hq,Bb:=fun q hq => ?_ }⟩
 ·obtain⟨r,p,h1,h2,h3⟩:=hS.row b g es e w hb
  exact⟨r,p,by rw[←h1];exact List.getElem?_append_left (hS.mlt hb),h2,h3.mono hU⟩
 ·rcases hF with hF | hF
  ·exact(hS.wr b g es e hb).1 hF
  ·have h1:V.m b=V.P.length:=hF
   have:=hS.mlt hb
   omega
 ·rcases hb with hb | hb
  ·have:=hS.fr b hb
   simp;omega
  ·subst hb;simp
 ·rcases hq with hq | hq
  ·exact .inl hq
  ·exact .inr (.inl (by omega))
theorem pK (hS:SR V lo dV) {es:List VV} {r:List Value} {e:Nat} (p:Bool) (he:∀x∈es,(aB x).length=e) (hl:VL V (es.flatMap aB) r) :
  SR { V with m:=Wd V.m V.H.length V.P.length,H:=V.H++[.row 0 es e true],P:=V.P++[.row r e p] } lo dV∧Dh lo V { V with m:=Wd V.m V.H.length V.P.length,H:=V.H++[.row 0 es e true],P:=V.P++[.row r e p] }:=by
 have Ah:∀b g lA e' w,(V.H++[bM.row 0 es e true])[b]? = some (.row g lA e' w)→(b=V.H.length∧g=0∧lA=es∧e'=e∧w=true)∨(b≠V.H.length∧V.H[b]? = some (.row g lA e' w)):=by
  intro b g lA e' w hb
  rcases Nat.lt_trichotomy b V.H.length with h | h | h
  ·rw[List.getElem?_append_left h] at hb
   exact .inr ⟨by omega,hb⟩
  ·subst h
   rw[List.getElem?_append_right (Nat.le_refl _)] at hb
   simp at hb
   obtain⟨h1,h2,h3,h4⟩:=hb
   exact .inl ⟨rfl,h1.symm,h2.symm,h3.symm,h4⟩
  ·rw[List.getElem?_eq_none (by simp;omega)] at hb
   cases hb
 have hU:Up V { V with m:=Wd V.m V.H.length V.P.length,H:=V.H++[.row 0 es e true],P:=V.P++[.row r e p] } :=
  ⟨fun _ h=>h,fun b hb=>List.getElem?_append_left (hS.fr b hb),by simp,fun b g' lA e' w' aU hb=>by
   rcases Ah b g' lA e' w' hb with⟨h,_⟩ | ⟨h,hb⟩
   ·omega
   ·exact⟨g',lA,w',hb,Nat.le_refl _,fun _=>lB h⟩,rfl,by simp,fun b g lA e' w hb hm=>by
   rcases Ah b g lA e' w hb with⟨rfl,_⟩ | ⟨h,hb⟩
   ·simp only[kG] at hm
    omega
   ·exact⟨g,lA,w,hb,lB h,id⟩⟩
 refine⟨⟨fun b g lA e' w hb => ?_,fun b g lA e' hb => ?_,fun a b g AP e1 w1 g' Yx e2 w2 ha hb hm => ?_,fun b hb=>by have:=hS.fr b hb;simp;omega,by have:=hS.QC;simp;omega,by have:=hS.H8;simp;omega⟩,
  { hU with bO:=fun q hq _=>List.getElem?_append_left hq,Bb:=fun q hq => .inl hq }⟩
 ·rcases Ah b g lA e' w hb with⟨rfl,rfl,rfl,rfl,rfl⟩ | ⟨h,hb⟩
  ·exact⟨r,p,by simp only[kG];simp,he,hl.mono hU⟩
  ·obtain⟨r1,p1,h1,h2,h3⟩:=hS.row b g lA e' w hb
   refine⟨r1,p1,?_,h2,h3.mono hU⟩
   simp only[lB h]
   rw[List.getElem?_append_left (hS.mlt hb)]
   exact h1
 ·rcases Ah b g lA e' true hb with⟨rfl,_⟩ | ⟨h,hb⟩
  ·simp only[kG]
   exact⟨fun hF=>by have:=hS.fr _ hF;omega,fun _=>hS.QC⟩
  ·simp only[lB h]
   exact hS.wr b g lA e' hb
 ·rcases Ah a g AP e1 w1 ha with⟨rfl,_⟩ | ⟨h,ha⟩
  ·rcases Ah b g' Yx e2 w2 hb with⟨rfl,_⟩ | ⟨h',hb⟩
   ·rfl
   ·simp only[kG,lB h'] at hm
    have:=hS.mlt hb
    omega
  ·rcases Ah b g' Yx e2 w2 hb with⟨rfl,_⟩ | ⟨h',hb⟩
   ·simp only[kG,lB h] at hm
    have:=hS.mlt ha
    omega
   ·simp only[lB h,lB h'] at hm
    exact hS.inj a b _ _ _ _ _ _ _ _ ha hb hm
theorem fN {H:aA} {b:Nat} {x:bM} (hb:b<H.length) {a:Nat} {y:bM} (h:(H.set b x)[a]? = some y):(a=b∧y=x)∨(a≠b∧H[a]? = some y):=by
 by_cases he:a=b
 ·subst he
  rw[List.getElem?_set_self hb] at h
  cases h
  exact .inl ⟨rfl,rfl⟩
 ·rw[List.getElem?_set_ne (Ne.symm he)] at h
  exact .inr ⟨he,h⟩
theorem BH (hS:SR V lo dV) {b g e:Nat} {es lA:List VV} {r':List Value} (hb:V.H[b]? = some (.row g es e true)) (eI:lo≤b) (he:∀x∈lA,(aB x).length=e) (hl:VL V (lA.flatMap aB) r') {r:List Value} {p:Bool} (hp:V.P[V.m b]? = some (.row r e p)) :
  SR { V with H:=V.H.set b (.row g lA e true),P:=V.P.set (V.m b) (.row r' e p) } lo dV∧Dh lo V { V with H:=V.H.set b (.row g lA e true),P:=V.P.set (V.m b) (.row r' e p) }:=by
 have wQ:=(List.getElem?_eq_some_iff.1 hb).1
 have Kj:=hS.mlt hb
 have hU:Up V { V with H:=V.H.set b (.row g lA e true),P:=V.P.set (V.m b) (.row r' e p) } :=
  ⟨fun _ h=>h,fun q hq=>List.getElem?_set_ne (fun h=>(hS.wr b g es e hb).1 (by rw[h];exact hq)),by simp,fun a g' AP e1 w1 aU ha=>by
   rcases fN wQ ha with⟨rfl,h⟩ | ⟨_,h⟩
   ·cases h
    exact⟨g,es,true,hb,Nat.le_refl _,fun _=>rfl⟩
   ·exact⟨g',AP,w1,h,Nat.le_refl _,fun _=>rfl⟩,rfl,by simp,fun a g1 AP e1 w1 ha _=>by
   rcases fN wQ ha with⟨rfl,h⟩ | ⟨eV,h⟩
   ·cases h
    exact⟨g,es,true,hb,rfl,fun _=>rfl⟩
   ·exact⟨g1,AP,w1,h,rfl,id⟩⟩
 refine⟨⟨fun a g1 AP e1 w1 ha => ?_,fun a g1 AP e1 ha => ?_,fun a c g1 AP e1 w1 g2 Yx e2 w2 ha hc hm => ?_,fun q hq=>by have:=hS.fr q hq;simp;omega,by have:=hS.QC;simp;omega,by have:=hS.H8;simp;omega⟩,
  { hU with bO:=fun q hq hn=>List.getElem?_set_ne (hn b g es e hb eI),Bb:=fun q hq => .inl hq }⟩
 ·rcases fN wQ ha with⟨rfl,h⟩ | ⟨eV,h⟩
  ·cases h
   exact⟨r',p,List.getElem?_set_self Kj,he,hl.mono hU⟩
  ·obtain⟨r1,p1,h1,h2,h3⟩:=hS.row a g1 AP e1 w1 h
   exact⟨r1,p1,by rw[←h1];exact List.getElem?_set_ne (fun hm=>eV (hS.inj _ _ _ _ _ _ _ _ _ _ h hb hm.symm)),h2,h3.mono hU⟩
 ·rcases fN wQ ha with⟨rfl,h⟩ | ⟨eV,h⟩
  ·cases h
   exact hS.wr _ _ _ _ hb
  ·exact hS.wr _ _ _ _ h
 ·rcases fN wQ ha with⟨rfl,h⟩ | ⟨eV,h⟩<;>rcases fN wQ hc with⟨rfl,h'⟩ | ⟨Uz,h'⟩
  ·rfl
  ·exact hS.inj _ _ _ _ _ _ _ _ _ _ hb h' hm
  ·exact hS.inj _ _ _ _ _ _ _ _ _ _ h hb hm
  ·exact hS.inj _ _ _ _ _ _ _ _ _ _ h h' hm
theorem QN (hS:SR V lo dV) {b g e:Nat} {es lA:List VV} {r':List Value} (hb:V.H[b]? = some (.row g es e true)) (eI:lo≤b) (he:∀x∈lA,(aB x).length=e) (hl:VL V (lA.flatMap aB) r') {P1:aD} (hP:P1.length=V.P.length) (hk:∀q,q≠V.m b→P1[q]? = V.P[q]?) (p:Bool) :
  SR { V with m:=Wd V.m b V.P.length,H:=V.H.set b (.row (g+1) lA e true),P:=P1++[.row r' e p] } lo dV∧Dh lo V { V with m:=Wd V.m b V.P.length,H:=V.H.set b (.row (g+1) lA e true),P:=P1++[.row r' e p] }:=by
 have wQ:=(List.getElem?_eq_some_iff.1 hb).1
 have Kj:=hS.mlt hb
 have sK:∀q,q<V.P.length→q≠V.m b→(P1++[KC.row r' e p])[q]? = V.P[q]? := fun q hq hn=>by rw[List.getElem?_append_left (by omega)];exact hk q hn
 have hU:Up V { V with m:=Wd V.m b V.P.length,H:=V.H.set b (.row (g+1) lA e true),P:=P1++[.row r' e p] } :=
  ⟨fun _ h=>h,fun q hq=>sK q (hS.fr q hq) (fun h=>(hS.wr b g es e hb).1 (by rw[←h];exact hq)),by simp,fun a g' AP e1 w1 aU ha=>by
   rcases fN wQ ha with⟨rfl,h⟩ | ⟨eV,h⟩
   ·cases h
    exact⟨g,es,true,hb,by omega,fun h=>by omega⟩
   ·exact⟨g',AP,w1,h,Nat.le_refl _,fun _=>lB eV⟩,rfl,by simp;omega,fun a g1 AP e1 w1 ha hm=>by
   rcases fN wQ ha with⟨rfl,h⟩ | ⟨eV,h⟩
   ·simp only[kG] at hm
    omega
   ·exact⟨g1,AP,w1,h,lB eV,id⟩⟩
 refine⟨⟨fun a g1 AP e1 w1 ha => ?_,fun a g1 AP e1 ha => ?_,fun a c g1 AP e1 w1 g2 Yx e2 w2 ha hc hm => ?_,fun q hq=>by have:=hS.fr q hq;simp;omega,by have:=hS.QC;simp;omega,by have:=hS.H8;simp;omega⟩,
  { hU with bO:=fun q hq hn=>sK q hq (Ne.symm (hn b g es e hb eI)),Bb:=fun q hq => .inl hq }⟩
 ·rcases fN wQ ha with⟨rfl,h⟩ | ⟨eV,h⟩
  ·cases h
   refine⟨r',p,?_,he,hl.mono hU⟩
   simp only[kG]
   rw[←hP]
   simp
  ·obtain⟨r1,p1,h1,h2,h3⟩:=hS.row a g1 AP e1 w1 h
   refine⟨r1,p1,?_,h2,h3.mono hU⟩
   simp only[lB eV]
   rw[sK _ (hS.mlt h) (fun hm=>eV (hS.inj _ _ _ _ _ _ _ _ _ _ h hb hm))]
   exact h1
 ·rcases fN wQ ha with⟨rfl,h⟩ | ⟨eV,h⟩
  ·cases h
   simp only[kG]
   exact⟨fun hF=>by have:=hS.fr _ hF;omega,fun _=>hS.QC⟩
  ·simp only[lB eV]
   exact hS.wr _ _ _ _ h
 ·rcases fN wQ ha with⟨rfl,h⟩ | ⟨eV,h⟩<;>rcases fN wQ hc with⟨rfl,h'⟩ | ⟨Uz,h'⟩
  ·rfl
  ·simp only[kG,lB Uz] at hm
   have:=hS.mlt h'
   omega
  ·simp only[kG,lB eV] at hm
   have:=hS.mlt h
   omega
  ·simp only[lB eV,lB Uz] at hm
   exact hS.inj _ _ _ _ _ _ _ _ _ _ h h' hm
def View.freeze (V:View) (b:Nat):View :=
 match V.H[b]? with
 | some (.row _ _ _ _)=>{ V with H:=AF V.H b,F:=fun q=>V.F q∨q=V.m b }
 | _=>V
theorem Pv (V:View) (b:Nat):(V.freeze b).H=AF V.H b:=by
 unfold View.freeze AF
 cases h:V.H[b]? with
 | none=>rfl
 | some x=>cases x<;>rfl
theorem Xb (V:View) (b:Nat):(V.freeze b).P=V.P:=by
 unfold View.freeze
 split<;>rfl
theorem Pz (V:View) (b:Nat):(V.freeze b).m=V.m:=by
 unfold View.freeze
 split<;>rfl
theorem NC (hS:SR V lo dV) (b:Nat):SR (V.freeze b) lo dV∧Dh lo V (V.freeze b)∧(∀g es e w,V.H[b]? = some (.row g es e w)→(V.freeze b).F (V.m b)):=by
 unfold View.freeze
 split
 case h_2 eV=>exact⟨hS,Dh.refl _ _,fun g es e w h=>absurd h (eV _ _ _ _)⟩
 rename_i g es e w hb
 have wQ:=(List.getElem?_eq_some_iff.1 hb).1
 have hf:AF V.H b=V.H.set b (.row g es e false):=by unfold AF;rw[hb]
 rw[hf]
 have hU:Up V { V with H:=V.H.set b (.row g es e false),F:=fun q=>V.F q∨q=V.m b } :=
  ⟨fun _ h => .inl h,fun _ _=>rfl,by simp,fun a g' AP e1 w1 aU ha=>by
   rcases fN wQ ha with⟨rfl,h⟩ | ⟨_,h⟩
   ·cases h
    exact⟨g,es,w,hb,Nat.le_refl _,fun _=>rfl⟩
   ·exact⟨g',AP,w1,h,Nat.le_refl _,fun _=>rfl⟩,rfl,Nat.le_refl _,fun a g1 AP e1 w1 ha hm=>by
   rcases fN wQ ha with⟨rfl,h⟩ | ⟨eV,h⟩
   ·cases h
    exact⟨g,es,w,hb,rfl,fun h=>by cases h⟩
   ·exact⟨g1,AP,w1,h,rfl,id⟩⟩
 refine⟨⟨fun a g1 AP e1 w1 ha => ?_,fun a g1 AP e1 ha => ?_,fun a c g1 AP e1 w1 g2 Yx e2 w2 ha hc hm => ?_,fun q hq => ?_,hS.QC,hS.H8⟩,
  { hU with bO:=fun q hq hn=>rfl,Bb:=fun q hq => ?_ },fun _ _ _ _ _ => .inr rfl⟩
 ·rcases fN wQ ha with⟨rfl,h⟩ | ⟨eV,h⟩
  ·cases h
   obtain⟨r1,p1,h1,h2,h3⟩:=hS.row _ _ _ _ _ hb
   exact⟨r1,p1,h1,h2,h3.mono hU⟩
  ·obtain⟨r1,p1,h1,h2,h3⟩:=hS.row _ _ _ _ _ h
   exact⟨r1,p1,h1,h2,h3.mono hU⟩
 ·rcases fN wQ ha with⟨rfl,h⟩ | ⟨eV,h⟩
  ·cases h
  ·refine⟨fun hF => ?_,(hS.wr _ _ _ _ h).2⟩
   rcases hF with hF | hF
   ·exact(hS.wr _ _ _ _ h).1 hF
   ·exact eV (hS.inj _ _ _ _ _ _ _ _ _ _ h hb hF)
 ·rcases fN wQ ha with⟨rfl,h⟩ | ⟨eV,h⟩<;>rcases fN wQ hc with⟨rfl,h'⟩ | ⟨Uz,h'⟩
  ·rfl
  ·exact hS.inj _ _ _ _ _ _ _ _ _ _ hb h' hm
  ·exact hS.inj _ _ _ _ _ _ _ _ _ _ h hb hm
  ·exact hS.inj _ _ _ _ _ _ _ _ _ _ h h' hm
 ·rcases hq with hq | hq
  ·exact hS.fr q hq
  ·subst hq;exact hS.mlt hb
 ·rcases hq with hq | hq
  ·exact .inl hq
  ·exact .inr (.inr ⟨b,g,es,e,w,hb,hq.symm⟩)
end
end Go.PM
namespace Go.PM
section
variable {V:View} {lo dV:Nat} {ρ:dI} {jI:Env}
def ER (V:View) (ρ:dI) (jI:Env):Prop:=∀t,VR V (ρ t) (jI t)
theorem ER.mono {V':View} (u:Up V V') (h:ER V ρ jI):ER V' ρ jI:=fun t=>(h t).mono u
theorem ER.ev (h:ER V ρ jI) (x:Operand):VR V (dW ρ x) (ev jI x):=by
 cases x with
 | tmp t=>exact h t
 | const v=>exact VR.inj v
 | global g=>exact .any _
 | func f=>exact .sU f [] [] .nil
theorem ER.put {d:Option Nat} {x:VV} {v:Value} (h:ER V ρ jI) (hx:VR V x v):ER V (HB ρ d x) (put jI d v):=by
 cases d with
 | none=>exact h
 |
  some d =>
  intro t
  simp only[HB,PM.put]
  split
  ·exact hx
  ·exact h t
theorem ER.evs (h:ER V ρ jI) (xs:List Operand):VL V (xs.map (dW ρ)) (xs.map (PM.ev jI)):=VL.map fun x _=>h.ev x
def fV (lo dV:Nat) (V:View) (r:Option (Value×aD)) (v:VV) (H':aA):Prop :=
 ∃pv V',r=some (pv,V'.P)∧V'.H=H'∧SR V' lo dV∧Dh lo V V'∧VR V' v pv
theorem fV.pure (hS:SR V lo dV) {r:Option Value} {v:VV} {pv:Value} (h:r=some pv) (hv:VR V v pv):fV lo dV V (r.map (·,V.P)) v V.H :=
 ⟨pv,V,by rw[h];rfl,rfl,hS,Dh.refl _ _,hv⟩
theorem fV.of {V':View} {pv:Value} {v:VV} (h:SR V' lo dV∧Dh lo V V') (hv:VR V' v pv):fV lo dV V (some (pv,V'.P)) v V'.H:=⟨pv,V',rfl,rfl,h.1,h.2,hv⟩
theorem fV.same (hS:SR V lo dV) {v:VV} {pv:Value} (hv:VR V v pv):fV lo dV V (some (pv,V.P)) v V.H :=
 ⟨pv,V,rfl,rfl,hS,Dh.refl _ _,hv⟩
theorem cC {α β:Type} {o:Option α} {f:α→β} {b:β} (h:o.map f=some b):∃a,o=some a∧f a=b:=by
 cases o with
 | none=>cases h
 | some a=>cases h;exact⟨a,rfl,rfl⟩
theorem pA {x:VV} {v u:Value} (h:VR V x u) (hx:x = .sc v):u=v∧jW v=true:=by
 subst hx
 cases h with
 | sc v h=>exact⟨rfl,h⟩
theorem WB {op:BinOp} {a b c:Value} (h:cV op a b=some c):jW c=true:=by
 unfold cV at h
 split at h
 ·split at h<;>cases h;rfl
 ·split at h<;>cases h;rfl
 ·split at h
  ·split at h<;>first | (cases h;rfl) | (split at h<;>cases h<;>rfl) | cases h
  ·cases h
 ·split at h<;>first | (cases h;rfl) | (split at h<;>cases h<;>rfl) | cases h
 ·cases h
theorem aaO {op:UnOp} {a c:Value} (h:YK op a=some c):jW c=true:=by
 unfold YK at h
 split at h<;>cases h<;>rfl
theorem Xh {n:Bool} {a b c:Value} (h:OE n a b=some c):jW c=true:=by
 unfold OE at h
 split at h<;>cases h;rfl
theorem Xn {k:IntKind} {a c:Value} (h:Rf k a=some c):jW c=true:=by
 unfold Rf at h
 split at h<;>cases h;rfl
theorem X0 {a c:Value} (h:Ug a=some c):jW c=true:=by
 unfold Ug at h
 split at h<;>cases h;rfl
theorem T9 {a c:Value} (h:yK a=some c):jW c=true:=by
 unfold yK at h
 split at h<;>cases h;rfl
theorem Vz {a b c:Value} (h:E0 a b=some c):jW c=true:=by
 unfold E0 at h
 split at h
 ·split at h<;>cases h;rfl
 ·cases h
theorem Wu {a b c:Value} (h:ON a b=some c):jW c=true:=by
 unfold ON at h
 split at h<;>cases h;rfl
theorem Yt {a b c:Value} (h:OG a b=some c):jW c=true:=by
 unfold OG at h
 split at h<;>cases h;rfl
theorem Cj (hS:SR V lo dV) {f:Value→Option Value} (hf:∀a c,f a=some c→jW c=true) {x v:VV} {u:Value} (hx:VR V x u) (h:Jy f x=some v):fV lo dV V ((f u).map (·,V.P)) v V.H:=by
 unfold Jy at h
 split at h
 ·obtain⟨h1,_⟩:=pA hx rfl
  subst h1
  obtain⟨c,hc,rfl⟩:=cC h
  exact fV.pure hS hc (.sc _ (hf _ _ hc))
 ·cases h
theorem zI (hS:SR V lo dV) {f:Value→Value→Option Value} (hf:∀a b c,f a b=some c→jW c=true) {x y v:VV} {u w:Value} (hx:VR V x u) (hy:VR V y w) (h:FN f x y=some v):fV lo dV V ((f u w).map (·,V.P)) v V.H:=by
 unfold FN at h
 split at h
 ·obtain⟨h1,_⟩:=pA hx rfl
  obtain⟨h2,_⟩:=pA hy rfl
  subst h1 h2
  obtain⟨c,hc,rfl⟩:=cC h
  exact fV.pure hS hc (.sc _ (hf _ _ _ hc))
 ·cases h
theorem Sl {α:Type} (l:List α) {o n a k:Nat} (h:a+k≤n):(((l.drop o).take n).drop a).take k=(l.drop (o+a)).take k:=by
 rw[List.drop_take,List.take_take,List.drop_drop,Nat.min_eq_left (by omega)]
theorem Ox {x v:VV} {agg:Bool} {size off b o e:Nat} {r:List Value} {p:Bool} (hb:V.P[b]? = some (.row r e p)) (ho:o+(aB x).length≤r.length) (hl:VL V (aB x) ((r.drop o).take (aB x).length)) (h:dP agg size x off=some v) :
  ∃u,lW agg size (.pointer (some ⟨b,o+off,none⟩)) V.P=some u∧VR V v u:=by
 unfold dP at h
 cases agg with
 |
  true =>
  simp only[if_true] at h
  split at h
  ·rename_i hs
   cases h
   refine⟨.agg ((r.drop (o+off)).take size).toArray,?_,.agg _ _ ?_⟩
   ·simp only[lW,if_true,zT hb (show o+off+size≤r.length by omega)]
    rfl
   ·have:=(hl.drop off).take size
    rw[Sl _ hs] at this
    exact this
  ·cases h
 |
  false =>
  simp only[Bool.false_eq_true,if_false] at h
  obtain⟨u,hu,hv⟩:=hl.get h
  have agC:=(List.getElem?_eq_some_iff.1 h).1
  rw[List.getElem?_take,if_pos agC,List.getElem?_drop] at hu
  refine⟨u,?_,hv⟩
  have aU:=(List.getElem?_eq_some_iff.1 hu).1
  simp only[lW,Bool.false_eq_true,if_false,zT hb (show o+off+1≤r.length by omega)]
  rw[List.drop_eq_getElem_cons aU]
  simp only[List.take_succ_cons,List.take_zero]
  rw[List.getElem?_eq_getElem aU] at hu
  injection hu with hu
  rw[hu]
theorem JA (hS:SR V lo dV) {b g e j:Nat} {es:List VV} {w:Bool} {x:VV} (hb:V.H[b]? = some (.row g es e w)) (hx:es[j]? = some x) :
  ∃r p,V.P[V.m b]? = some (.row r e p)∧(aB x).length=e∧j*e+(aB x).length≤r.length∧VL V (aB x) ((r.drop (j*e)).take (aB x).length):=by
 obtain⟨r,p,h1,h2,h3⟩:=hS.row b g es e w hb
 have hxe:=h2 x (List.mem_of_getElem? hx)
 have hj:=(List.getElem?_eq_some_iff.1 hx).1
 have hlen:=h3.length
 rw[jJ h2] at hlen
 have hm:(j+1)*e≤es.length*e:=Nat.mul_le_mul_right _ hj
 rw[Nat.succ_mul] at hm
 refine⟨r,p,h1,hxe,by omega,?_⟩
 have:=(h3.drop (j*e)).take e
 rw[Iq h2 hx] at this
 rw[hxe]
 exact this
theorem J5 (hS:SR V lo dV) {p v:VV} {u:Value} {agg:Bool} {size:Nat} (hp:VR V p u) (h:cQ agg size p V.H=some v):∃w,lW agg size u V.P=some w∧VR V v w:=by
 unfold cQ at h
 split at h
 ·cases hp with
  | dA x off b o r e p hF hb ho hl=>exact Ox hb ho hl h
 ·split at h
  ·rename_i es e w hr
   rw[cD] at hr
   split at h
   ·rename_i x hx
    cases hp with
    |
     ptr b g j off a aU hg ha hq =>
     have:=ha _ _ _ hr
     subst this
     obtain⟨r,p,h1,h2,h3,h4⟩:=JA hS hr hx
     exact Ox h1 h3 h4 h
   ·cases h
  ·cases h
 ·cases h
theorem PH (hS:SR V lo dV) {x i v:VV} {u k:Value} {size:Nat} (hx:VR V x u) (hi:VR V i k) (h:bJ size x i V.H=some v):∃w,Nu size u k=some w∧VR V v w:=by
 unfold bJ at h
 split at h
 ·rename_i es tk ik i
  obtain⟨rfl,_⟩:=pA hi rfl
  split at h
  ·rename_i h0
   split at h
   ·rename_i y hy
    split at h
    ·rename_i Bf
     cases h
     have aU:=(List.getElem?_eq_some_iff.1 hy).1
     cases hx with
     | mD=>simp at aU
     |
      tree es k b o c r e p hF hb ho hc he hk hl =>
      have hye:=he y (List.mem_of_getElem? hy)
      have KM:e=size:=by omega
      subst KM
      have hm:(i.toNat+1)*e≤es.length*e:=Nat.mul_le_mul_right _ aU
      rw[Nat.succ_mul] at hm
      refine⟨_,Qr h0 (by omega),?_⟩
      have h1:=(hl.drop (i.toNat*e)).take e
      rw[Iq he hy,Sl _ (by omega)] at h1
      exact .dA y 0 b (o+i.toNat*e) r e p hF hb (by omega) (by rw[hye];exact h1)
    ·cases h
   ·cases h
  ·cases h
 ·rename_i b g o n c ik i
  obtain⟨rfl,_⟩:=pA hi rfl
  split at h
  ·rename_i es e w hr
   rw[cD] at hr
   split at h
   ·rename_i hc
    obtain⟨rfl,h0,h1⟩:=hc
    cases h
    cases hx with
    |
     ref b g o n c a n' c' aU hg ha hq =>
     obtain⟨rfl,rfl,rfl⟩:=ha _ _ _ hr
     refine⟨_,Qr h0 h1,.ptr b g (o+i.toNat) 0 _ aU hg (fun lA e' w' D7 => ?_) fun a0 h=>by cases h;exact hq ⟨V.m b,o*e,none⟩ rfl⟩
     rw[hr] at D7
     cases D7
     rw[Nat.add_mul,Nat.add_zero]
   ·cases h
  ·cases h
 ·cases h
theorem zH {l:Option Operand} {lv:Option Value} (hE:ER V ρ jI) (h:D5 (l.map (dW ρ))=some lv):l.map (ev jI)=lv:=by
 cases l with
 | none=>cases h;rfl
 |
  some x =>
  simp only[Option.map_some,D5] at h
  split at h
  ·rename_i hv;cases hv
  ·rename_i v hv
   cases h
   injection hv with hv
   obtain⟨h1,_⟩:=pA (hE.ev x) hv
   rw[Option.map_some,h1]
  ·cases h
theorem F0 {v:Option Value} {d:Option Nat} {t x:Nat} (hd:∀y,d=some y→y≤t) (h:eA v d t=some x):x≤t:=by
 unfold eA at h
 split at h
 ·exact hd _ h
 ·split at h
  ·cases h;omega
  ·cases h
 ·cases h
theorem Ln {v:Option Value} {d d':Option Nat} {t t' x:Nat} (ht:t≤t') (hd:v=none→d=d') (h:eA v d t=some x):eA v d' t'=some x:=by
 unfold eA at h ⊢
 cases v with
 | none=>rw[←hd rfl];exact h
 |
  some v =>
  cases v with
  |
   int k i =>
   simp only at h ⊢
   split at h
   ·rename_i h1;rw[if_pos (by omega)];exact h
   ·cases h
  | _=>simp only at h ⊢;exact h
theorem KY (hS:SR V lo dV) (size:Nat):fV lo dV V (some (.slice (some ⟨V.P.length,0,none⟩) 0 0,V.P++[.row [] size false])) (.tree [] (.cl size)) V.H:=by
 exact(fV.of (Ap hS (.row [] size false)) (.tree [] (.cl size) V.P.length 0 0 [] size false (.inr rfl) (by simp) (by simp) (by simp) (fun x hx=>by cases hx) ⟨rfl,rfl,rfl⟩ (by simp;exact .nil)) :)
theorem Vv (hS:SR V lo dV) (hE:ER V ρ jI) {x v:VV} {u:Value} {size:Nat} {l h m:Option Operand} (hx:VR V x u) (hv:CW size x (l.map (dW ρ)) (h.map (dW ρ)) (m.map (dW ρ)) V.H=some v) :
  fV lo dV V (A5 size u (l.map (ev jI)) (h.map (ev jI)) (m.map (ev jI)) V.P) v V.H:=by
 unfold CW at hv
 split at hv
 case h_2=>cases hv
 rename_i lv hhv mv hl hh hm
 rw[zH hE hl,zH hE hh,zH hE hm]
 split at hv
 ·rename_i y ys tk
  split at hv
  case isFalse=>cases hv
  rename_i Bf
  split at hv
  ·cases hv
  rename_i m0 Z3
  split at hv
  ·cases hv
  rename_i h0 hh0
  split at hv
  ·cases hv
  rename_i l0 wR
  cases hx with
  |
   tree es k b o c r e p hF hb ho hc he hk hl =>
   have KM:e=size:=by rw[←he y List.mem_cons_self];exact Bf
   subst KM
   have hlen:(y::ys).length=ys.length+1:=rfl
   rw[hlen] at ho hc
   have b1:m0≤ys.length+1:=F0 (fun z hz=>by injection hz with hz;omega) Z3
   have b2:h0≤m0:=by
    refine F0 (fun z hz => ?_) hh0
    split at hz
    ·cases hz
    ·rename_i hmn
     injection hz with hz
     have:mv=none:=by cases mv<;>simp_all
     subst this
     simp[eA] at Z3
     omega
   have b3:l0≤h0:=F0 (fun z hz=>by injection hz with hz;omega) wR
   have e1:eA mv (some c) c=some (if mv.isSome then m0 else c):=by
    cases mv with
    | none=>rfl
    | some q=>exact Ln hc (fun hq=>by cases hq) Z3
   have e2:eA hhv (if mv.isSome then none else some (ys.length+1)) (if mv.isSome then m0 else c)=some h0:=by
    cases mv with
    |
     none =>
     simp only[Option.isSome_none,Bool.false_eq_true,if_false] at hh0 ⊢
     exact Ln (by omega) (fun _=>rfl) hh0
    | some q=>exact hh0
   unfold A5
   simp only[hb,if_true]
   rw[e1]
   simp only
   rw[hlen,e2]
   simp only
   rw[wR]
   simp only
   by_cases lO:mv.isSome=true∧m0=l0
   ·rw[if_pos lO] at hv
    cases hv
    rw[if_pos ⟨lO.1,by rw[if_pos lO.1];exact lO.2⟩]
    exact KY hS e
   ·rw[if_neg lO] at hv
    cases hv
    rw[if_neg (fun hh=>lO ⟨hh.1,by have:=hh.2;rw[if_pos hh.1] at this;exact this⟩)]
    have aU:(((y::ys).drop l0).take (h0-l0)).length=h0-l0:=by simp;omega
    have Mw:l0*e+(h0-l0)*e=h0*e:=by rw[←Nat.add_mul];congr 1;omega
    have Zn:h0*e≤(ys.length+1)*e:=Nat.mul_le_mul_right _ (by omega)
    have NG:h0-l0≤(if mv.isSome then m0 else c)-l0:=by split<;>omega
    have:=VR.tree (V:=V) (((y::ys).drop l0).take (h0-l0)) .op b (o+l0*e) ((if mv.isSome then m0 else c)-l0) r e p hF hb (by rw[aU];omega) (by rw[aU];exact NG) (fun z hz=>he z (List.mem_of_mem_drop (List.mem_of_mem_take hz))) trivial (by
     rw[aU]
     have h1:=(hl.drop (l0*e)).take ((h0-l0)*e)
     rw[Sl _ (by rw[hlen];omega),rM he,rP (fun z hz=>he z (List.mem_of_mem_drop hz))] at h1
     exact h1)
    rw[aU] at this
    exact fV.same hS this
 ·rename_i b g o n c
  split at hv
  case h_2=>cases hv
  rename_i es e w hr
  rw[cD] at hr
  split at hv
  case isFalse=>cases hv
  rename_i Bf
  subst Bf
  split at hv
  ·cases hv
  rename_i m0 Z3
  split at hv
  ·cases hv
  rename_i h0 hh0
  split at hv
  ·cases hv
  rename_i l0 wR
  cases hx with
  |
   ref b g o n c a n' c' aU hg ha hq =>
   obtain⟨rfl,rfl,rfl⟩:=ha _ _ _ hr
   obtain⟨r,p,h1,_⟩:=hS.row b g es e w hr
   unfold A5
   simp only[h1,if_true]
   rw[Z3]
   simp only
   rw[hh0]
   simp only
   rw[wR]
   simp only
   by_cases lO:mv.isSome=true∧m0=l0
   ·rw[if_pos lO] at hv
    cases hv
    rw[if_pos lO]
    exact KY hS e
   ·rw[if_neg lO] at hv
    cases hv
    rw[if_neg lO]
    refine fV.same hS (.ref b g (o+l0) _ _ _ _ _ aU hg (fun lA e' w' D7 => ?_) fun a0 h=>by cases h;exact hq ⟨V.m b,o*e,none⟩ rfl)
    rw[hr] at D7
    cases D7
    exact⟨by rw[Nat.add_mul],rfl,rfl⟩
 ·cases hv
theorem yJ {es:List VV} (h:(es.all fun x=>(aB x).all aZ)=true):(es.flatMap aB).all aZ=true:=by
 rw[List.all_eq_true] at h ⊢
 intro x hx
 obtain⟨y,hy,zE⟩:=List.mem_flatMap.1 hx
 exact List.all_eq_true.1 (h y hy) x zE
theorem tW (hS:SR V lo dV) {y:VV} {u:Value} {size:Nat} {new:List VV} (hy:VR V y u) (h:cN size y V.H=some new) :
  pU u=some new.length∧(∀x∈new,(aB x).length=size)∧(new.flatMap aB).all aZ=true∧∀n,n≤new.length→∃pn,iF V.P size n u=some pn∧VL V ((new.take n).flatMap aB) pn:=by
 unfold cN at h
 split at h
 ·rename_i es tk
  split at h
  case isFalse=>cases h
  rename_i nF
  cases h
  have XW:∀x∈new,(aB x).length=size∧(aB x).all aZ=true:=fun x hx=>by
   have:=List.all_eq_true.1 nF x hx
   simpa using this
  refine⟨?_,fun x hx=>(XW x hx).1,yJ (List.all_eq_true.2 fun x hx=>(XW x hx).2),fun n hn => ?_⟩
  ·cases hy<;>rfl
  ·cases hy with
   |
    mD k hk =>
    have:n=0:=by simpa using hn
    subst this
    exact⟨[],rfl,by simp;exact .nil⟩
   |
    tree es k b o c r e p hF hb ho hc he hk hl =>
    cases KM:new with
    |
     nil =>
     rw[KM] at hn
     have:n=0:=by simpa using hn
     subst this
     refine⟨[],?_,by simp;exact .nil⟩
     simp only[iF,Nat.zero_mul]
     rw[zT hb (by omega)]
     simp
    |
     cons x xs =>
     have NJ:e=size:=by rw[←he x (by rw[KM];exact List.mem_cons_self)];exact(XW x (by rw[KM];exact List.mem_cons_self)).1
     subst NJ
     have hm:n*e≤new.length*e:=Nat.mul_le_mul_right _ hn
     refine⟨_,by simp only[iF];exact zT hb (by omega),?_⟩
     rw[←KM,←rP he]
     have h1:=hl.take (n*e)
     rw[List.take_take,Nat.min_eq_left hm] at h1
     exact h1
 ·rename_i b g o n c
  split at h
  case h_2=>cases h
  rename_i es e w hr
  rw[cD] at hr
  split at h
  case isFalse=>cases h
  rename_i hc
  obtain⟨rfl,hlen,nF⟩:=hc
  cases h
  obtain⟨r,p,h1,h2,h3⟩:=hS.row b g es e w hr
  have hn2:((es.drop o).take n).length=n:=by simp;omega
  have yE:=h3.length
  rw[jJ h2] at yE
  cases hy with
  |
   ref b g o n c a n' c' aU hg ha hq =>
   obtain⟨rfl,rfl,rfl⟩:=ha _ _ _ hr
   have Yg:∀x∈(es.drop o).take n',(aB x).length=e:=fun x hx=>h2 x (List.mem_of_mem_drop (List.mem_of_mem_take hx))
   refine⟨by rw[hn2];rfl,Yg,yJ nF,fun k hk => ?_⟩
   rw[hn2] at hk
   have hm:(o+k)*e≤es.length*e:=Nat.mul_le_mul_right _ (by omega)
   rw[Nat.add_mul] at hm
   refine⟨_,by simp only[iF];exact zT h1 (by omega),?_⟩
   rw[List.take_take,Nat.min_eq_left hk]
   have h4:=(h3.drop (o*e)).take (k*e)
   rw[rM h2,rP (fun x hx=>h2 x (List.mem_of_mem_drop hx))] at h4
   exact h4
 ·rename_i s
  split at h
  case isFalse=>cases h
  rename_i hs
  subst hs
  cases h
  obtain⟨rfl,_⟩:=pA hy rfl
  have hlen:(s.data.toList.map fun b=>VV.sc (.int .u8 (b.toNat:Int))).length=s.size:=by simp
  refine⟨by rw[hlen];rfl,fun x hx => ?_,?_,fun n hn => ?_⟩
  ·obtain⟨b,_,rfl⟩:=List.mem_map.1 hx
   rfl
  ·refine yJ (List.all_eq_true.2 fun x hx => ?_)
   obtain⟨b,_,rfl⟩:=List.mem_map.1 hx
   rfl
  ·refine⟨(s.data.toList.take n).map fun b=>Value.int .u8 (b.toNat:Int),by simp only[iF,if_true],?_⟩
   rw[←List.map_take,List.flatMap_map]
   have:((s.data.toList.take n).flatMap fun a=>aB (VV.sc (.int .u8 (a.toNat:Int))))=(s.data.toList.take n).map fun a=>VV.sc (.int .u8 (a.toNat:Int)):=by
    generalize s.data.toList.take n=l
    induction l with
    | nil=>rfl
    | cons a l ih=>rw[List.flatMap_cons,ih];rfl
   rw[this]
   exact VL.map fun b _ => .sc _ rfl
 ·cases h
end
end Go.PM
namespace Go.PM
section
variable {V:View} {lo dV:Nat} {ρ:dI} {jI:Env}
theorem HZ (hS:SR V lo dV) {es:List VV} {r:List Value} {e n c:Nat} {p:Bool}:VR { V with m:=Wd V.m V.H.length V.P.length,H:=V.H++[.row 0 es e true],P:=V.P++[.row r e p] } (.ref V.H.length 0 0 n c) (.slice (some ⟨V.P.length,0,none⟩) n c):=by
 refine .ref _ _ _ _ _ _ _ _ (by simp) (fun g' es e w _=>Nat.zero_le _) (fun lA e' w' h=>⟨?_,rfl,rfl⟩) fun a0 ha => ?_
 ·simp only[kG,Nat.zero_mul]
 ·cases ha
  refine⟨hS.H8,by simp,fun b' g' lA e' w' hb eV hm => ?_⟩
  have oC:(V.H++[bM.row 0 es e true])[b']? = some (.row g' lA e' w'):=hb
  have aU:b'<V.H.length:=by
   have:=(List.getElem?_eq_some_iff.1 oC).1
   simp at this
   omega
  rw[List.getElem?_append_left aU] at oC
  have h2:=hS.mlt oC
  simp only[lB (show b'≠V.H.length by omega)] at hm
  omega
theorem SK (hS:SR V lo dV) {es:List VV} {r:List Value} {e:Nat} {p:Bool}:VR { V with m:=Wd V.m V.H.length V.P.length,H:=V.H++[.row 0 es e true],P:=V.P++[.row r e p] } (.ptr V.H.length 0 0 0) (.pointer (some ⟨V.P.length,0,none⟩)):=by
 refine .ptr _ _ _ _ _ (by simp) (fun g' es e w _=>Nat.zero_le _) (fun lA e' w' h => ?_) fun a0 ha => ?_
 ·simp only[kG,Nat.zero_mul]
 ·cases ha
  refine⟨hS.H8,by simp,fun b' g' lA e' w' hb eV hm => ?_⟩
  have oC:(V.H++[bM.row 0 es e true])[b']? = some (.row g' lA e' w'):=hb
  have aU:b'<V.H.length:=by
   have:=(List.getElem?_eq_some_iff.1 oC).1
   simp at this
   omega
  rw[List.getElem?_append_left aU] at oC
  have h2:=hS.mlt oC
  simp only[lB (show b'≠V.H.length by omega)] at hm
  omega
theorem Ff (hS:SR V lo dV) {x v:VV} {u:Value} {size bytes:Nat} {nw:List VV} {pn:List Value} {H':aA} (hx:VR V x u) (hn:∀x∈nw,(aB x).length=size) (sT:(nw.flatMap aB).all aZ=true) (hl:VL V (nw.flatMap aB) pn) (h:eK lo size bytes x nw V.H=some (v,H')) :
  fV lo dV V (dX dV size bytes u nw.length pn V.P) v H':=by
 unfold eK at h
 split at h
 case isFalse=>cases h
 rename_i hbs
 have Kj:pn.length=nw.length*size:=by rw[hl.length,jJ hn]
 unfold dX
 rw[if_pos ⟨hbs.1,hbs.2,hl.fD sT,Kj⟩]
 split at h
 ·cases hx with
  | tree es k b o c r e p hF hb ho hc he hk hl=>exact hk.elim
  |
   mD =>
   simp only[and_self,if_true]
   split at h
   ·rename_i h0
    cases h
    rw[if_pos h0]
    exact fV.same hS (.mD _ (.inr rfl))
   ·rename_i h0
    split at h
    case isFalse=>cases h
    rename_i h1
    cases h
    rw[if_neg h0,if_pos h1]
    exact(fV.of (pK hS (es:=nw) (r:=pn) (e:=size) true hn hl) (HZ hS) :)
 ·rename_i es e
  split at h
  case isFalse=>cases h
  rename_i KM
  subst KM
  cases hx with
  | mD k hk=>rcases hk with hk | hk<;>cases hk
  |
   tree es k b o c r e' p hF hb ho hc he hk A7 =>
   obtain⟨h1,h2,h3⟩:=hk
   subst h1 h2 h3
   simp only[hb]
   rw[if_pos ⟨trivial,ho⟩]
   split at h
   ·rename_i h0
    cases h
    rw[if_pos (by omega),if_pos h0]
    exact fV.same hS (.tree es _ b o _ r e false hF hb ho hc he ⟨rfl,rfl,rfl⟩ A7)
   ·rename_i h0
    split at h
    case isFalse=>cases h
    rename_i Bf
    cases h
    rw[if_neg (by omega),if_pos Bf]
    simp only[Bool.false_eq_true,if_false]
    have nF:∀x∈es++nw,(aB x).length=e:=fun x hx=>by
     rcases List.mem_append.1 hx with h | h
     ·exact he x h
     ·exact hn x h
    exact(fV.of (pK hS (es:=es++nw) (r:=(r.drop o).take (es.length*e)++pn) (e:=e) true nF (by rw[List.flatMap_append];exact A7.append hl)) (HZ hS) :)
 ·rename_i b g o n c
  split at h
  case h_2=>cases h
  rename_i es e hr
  rw[cD] at hr
  split at h
  case isFalse=>cases h
  rename_i hc
  obtain⟨rfl,eI,hon⟩:=hc
  obtain⟨r,p,h1,h2,h3⟩:=hS.row b g es e true hr
  have yE:=h3.length
  rw[jJ h2] at yE
  have Da:=(hS.wr b g es e hr).2 eI
  cases hx with
  |
   ref b g o n c a n' c' aU hg ha hq =>
   obtain⟨rfl,rfl,rfl⟩:=ha _ _ _ hr
   have hm:(o+n')*e≤es.length*e:=Nat.mul_le_mul_right _ hon
   rw[Nat.add_mul] at hm
   simp only[h1]
   rw[if_pos ⟨trivial,by omega⟩]
   split at h
   ·rename_i VO
    rw[if_pos VO]
    split at h
    ·rename_i h0
     cases h
     rw[if_pos h0]
     exact fV.same hS (.ref _ _ _ _ _ _ _ _ aU hg ha hq)
    ·rename_i h0
     split at h
     case isFalse=>cases h
     rename_i oW
     cases h
     rw[if_neg h0]
     have Zn:(o+n'+nw.length)*e≤es.length*e:=Nat.mul_le_mul_right _ oW
     rw[Nat.add_mul,Nat.add_mul] at Zn
     have nF:∀x∈cP es (o+n') nw,(aB x).length=e:=fun x hx=>by
      rcases GG hx with h | h
      ·exact h2 x h
      ·exact hn x h
     have Dg:VL V ((cP es (o+n') nw).flatMap aB) (gZ r (o*e+n'*e) pn):=by
      rw[←tQ h2 hn,Nat.add_mul]
      exact h3.gZ hl _
     obtain⟨g1,g2⟩:=BH hS hr eI nF Dg h1
     refine⟨.slice (some ⟨V.m b,o*e,none⟩) (n'+nw.length) c',{ V with H:=V.H.set b (.row g (cP es (o+n') nw) e true),P:=V.P.set (V.m b) (.row (gZ r (o*e+n'*e) pn) e p) },?_,rfl,g1,g2,?_⟩
     ·unfold aD.write
      simp only[h1]
      rw[if_pos ⟨Da,by omega,hl.fD sT⟩]
      rfl
     ·refine .ref _ _ _ _ _ _ _ _ (by simpa using aU) (fun g' lA e' w' D7 => ?_) (fun lA e' w' D7 => ?_) fun a0 h=>by cases h;exact g2.toUp.hq (hq _ rfl)
      ·rcases fN aU D7 with⟨_,h⟩ | ⟨h,_⟩
       ·cases h;exact Nat.le_refl _
       ·exact absurd rfl h
      ·rcases fN aU D7 with⟨_,h⟩ | ⟨h,_⟩
       ·cases h;exact⟨rfl,rfl,rfl⟩
       ·exact absurd rfl h
   ·rename_i VO
    split at h
    case isFalse=>cases h
    rename_i Bf
    cases h
    rw[if_neg VO,if_pos Bf]
    have nF:∀x∈(es.drop o).take n'++nw,(aB x).length=e:=fun x hx=>by
     rcases List.mem_append.1 hx with h | h
     ·exact h2 x (List.mem_of_mem_drop (List.mem_of_mem_take h))
     ·exact hn x h
    have Dg:VL V (((es.drop o).take n'++nw).flatMap aB) ((r.drop (o*e)).take (n'*e)++pn):=by
     rw[List.flatMap_append]
     refine VL.append ?_ hl
     have h4:=(h3.drop (o*e)).take (n'*e)
     rw[rM h2,rP (fun x hx=>h2 x (List.mem_of_mem_drop hx))] at h4
     exact h4
    have fin:∀P1:aD,P1.length=V.P.length→(∀q,q≠V.m b→P1[q]? = V.P[q]?) →
      fV lo dV V (some (.slice (some ⟨V.P.length,0,none⟩) (n'+nw.length) (n'+nw.length),P1++[.row ((r.drop (o*e)).take (n'*e)++pn) e true])) (.ref b (g+1) 0 (n'+nw.length) (n'+nw.length)) (V.H.set b (.row (g+1) ((es.drop o).take n'++nw) e true)):=by
     intro P1 hP hk
     refine(fV.of (QN hS hr eI nF Dg hP hk true) ?_ :)
     refine .ref _ _ _ _ _ _ _ _ (by simpa using aU) (fun g' lA e' w' D7 => ?_) (fun lA e' w' D7 => ?_) fun a0 h => ?_
     ·rcases fN aU D7 with⟨_,h⟩ | ⟨h,_⟩
      ·cases h;exact Nat.le_refl _
      ·exact absurd rfl h
     ·rcases fN aU D7 with⟨_,h⟩ | ⟨h,_⟩
      ·cases h;exact⟨by simp only[kG,Nat.zero_mul],rfl,rfl⟩
      ·exact absurd rfl h
     ·cases h
      refine⟨hS.H8,by simp[hP],fun b' g' lA e' w' hb eV hm => ?_⟩
      rcases fN aU hb with⟨h,_⟩ | ⟨_,h⟩
      ·exact eV h
      ·simp only[lB eV] at hm
       have:=hS.mlt h
       omega
    cases p with
    |
     true =>
     simp only[if_true,Da]
     exact fin (V.P.set (V.m b) .dead) (by simp) fun q hq=>List.getElem?_set_ne (Ne.symm hq)
    |
     false =>
     simp only[Bool.false_eq_true,if_false]
     exact fin V.P rfl fun _ _=>rfl
 ·cases h
theorem O2 (hS:SR V lo dV) {p v:VV} {u w:Value} {size:Nat} {H':aA} (hp:VR V p u) (hv:VR V v w) (h:bX lo size p v V.H=some H'):fV lo dV V (DS dV size u w V.P) nS H':=by
 unfold bX at h
 split at h
 case h_2=>cases h
 rename_i b g j o
 split at h
 case h_2=>cases h
 rename_i es e hr
 rw[cD] at hr
 split at h
 case h_2=>cases h
 rename_i x hx
 split at h
 case isFalse=>cases h
 rename_i hc
 obtain⟨Bf,eI,sT⟩:=hc
 obtain⟨r,q,h1,h2,h3⟩:=hS.row b g es e true hr
 have yE:=h3.length
 rw[jJ h2] at yE
 have Da:=(hS.wr b g es e hr).2 eI
 have hj:=(List.getElem?_eq_some_iff.1 hx).1
 have hxe:=h2 x (List.mem_of_getElem? hx)
 have hm:(j+1)*e≤es.length*e:=Nat.mul_le_mul_right _ hj
 rw[Nat.succ_mul] at hm
 have lO:=hv.cells (Q4 sT)
 have hwl:(aK w).length=size:=by rw[lO.length,Bf]
 cases hp with
 |
  ptr b g j off a aU hg ha hq =>
  have:=ha _ _ _ hr
  subst this
  have fin:∀y:VV,(aB y).length=e→o+size≤e→aB y=cP (aB x) o (aB v)→H'=V.H.set b (.row g (es.set j y) e true)→fV lo dV V (DS dV size (.pointer (some ⟨V.m b,j*e+o,none⟩)) w V.P) nS H':=by
   intro y hy ho hye hH
   subst hH
   have nF:∀z∈es.set j y,(aB z).length=e:=fun z hz=>by
    rcases List.mem_or_eq_of_mem_set hz with h | h
    ·exact h2 z h
    ·subst h;exact hy
   have Dg:VL V ((es.set j y).flatMap aB) (gZ r (j*e+o) (aK w)):=by
    have e1:(es.set j y).flatMap aB=cP (es.flatMap aB) (j*e+o) (aB v):=by
     rw[←Ha hj,←tQ h2 (new:=[y]) (fun z hz=>by rw[List.mem_singleton] at hz;subst hz;exact hy)]
     simp only[List.flatMap_cons,List.flatMap_nil,List.append_nil]
     rw[hye]
     have hx2:=Iq h2 hx
     unfold cP
     have t1:(es.flatMap aB).take (j*e+o)=(es.flatMap aB).take (j*e)++(aB x).take o:=by
      rw[List.take_add,←hx2,List.take_take,Nat.min_eq_left (by omega)]
     have t2:(es.flatMap aB).drop (j*e+o+(aB v).length)=(aB x).drop (o+(aB v).length)++(es.flatMap aB).drop (j*e+e):=by
      have t0:(es.flatMap aB).drop (j*e+e)=((es.flatMap aB).drop (j*e+(o+(aB v).length))).drop (e-(o+(aB v).length)):=by
       rw[List.drop_drop]
       congr 1
       omega
      rw[←hx2,List.drop_take,List.drop_drop,t0,List.take_append_drop,Nat.add_assoc]
     rw[t1,t2]
     have t3:(List.take o (aB x)++aB v++List.drop (o+(aB v).length) (aB x)).length=e:=by
      simp;omega
     rw[t3]
     simp only[List.append_assoc]
    rw[e1]
    exact h3.gZ lO _
   obtain⟨g1,g2⟩:=BH hS hr eI nF Dg h1
   refine⟨undef,{ V with H:=V.H.set b (.row g (es.set j y) e true),P:=V.P.set (V.m b) (.row (gZ r (j*e+o) (aK w)) e q) },?_,rfl,g1,g2,.dS [] [] .nil⟩
   unfold DS
   simp only[hwl,if_true]
   unfold aD.write
   simp only[h1]
   rw[if_pos ⟨Da,by omega,lO.fD sT⟩]
   rfl
  split at h
  ·rename_i ho
   obtain⟨rfl,rfl⟩:=ho
   cases h
   refine fin v Bf (by omega) ?_ rfl
   unfold cP
   rw[Nat.zero_add,List.take_zero,List.nil_append,List.drop_of_length_le (by omega),List.append_nil]
  ·split at h
   case isFalse=>cases h
   rename_i ho
   cases h
   have O8:(cP (aB x) o (aB v)).length=e:=by rw[Qd (by omega)];exact hxe
   exact fin (.agg (cP (aB x) o (aB v))) O8 (by omega) rfl rfl
theorem BU {z:List Value} (hz:(z.map iO).all aZ=true):(aB (elemOf (z.map iO))).length=z.length:=by
 rw[lJ hz,List.length_map]
theorem Am {z:List Value} (hz:(z.map iO).all aZ=true):∀n,VL V ((List.replicate n (elemOf (z.map iO))).flatMap aB) (cR n z):=by
 intro n
 have sT:z.all fD=true:=(VL.zero (V:=V) z).fD hz
 have WZ:cR n z=(List.replicate n ()).flatMap fun _=>z:=by
  rcases Nat.eq_zero_or_pos z.length with h0 | jB
  ·have:z=[]:=List.length_eq_zero_iff.1 h0
   subst this
   simp[cR]
  ·exact Oi (enc:=fun(_:Unit)=>z) (eY:=z.length) (x:=()) ⟨fun _=>rfl,fun _=>sT,jB⟩
 rw[WZ]
 clear WZ
 induction n with
 | zero=>exact .nil
 |
  succ n ih =>
  rw[List.replicate_succ,List.replicate_succ,List.flatMap_cons,List.flatMap_cons,lJ hz]
  exact(VL.zero z).append ih
theorem RJ (hS:SR V lo dV) {z:List Value} {bytes:Nat} {l c v:VV} {u w:Value} {H':aA} (hz:(z.map iO).all aZ=true) (hl:VR V l u) (hc:VR V c w) (h:yY z bytes l c V.H=some (v,H')):fV lo dV V (TO z bytes u w V.P) v H':=by
 unfold yY at h
 split at h
 case h_2=>cases h
 obtain⟨rfl,_⟩:=pA hl rfl
 obtain⟨rfl,_⟩:=pA hc rfl
 split at h
 case isFalse=>cases h
 rename_i Od
 cases h
 unfold TO
 simp only[if_pos Od]
 exact(fV.of (pK hS (e:=z.length) false (fun x hx=>by rw[List.eq_of_mem_replicate hx];exact BU hz) (Am hz _)) (HZ hS) :)
theorem Vx (hS:SR V lo dV) {z:List Value} (hz:(z.map iO).all aZ=true):fV lo dV V (some (.pointer (some ⟨V.P.length,0,none⟩),V.P++[.row z z.length false])) (.ptr V.H.length 0 0 0) (V.H++[.row 0 [elemOf (z.map iO)] z.length true]):=by
 exact(fV.of (pK hS (es:=[elemOf (z.map iO)]) (r:=z) (e:=z.length) false (fun x hx=>by rw[List.mem_singleton] at hx;subst hx;exact BU hz) (by simp only[List.flatMap_cons,List.flatMap_nil,List.append_nil,lJ hz];exact VL.zero z)) (SK hS) :)
theorem VE (hS:SR V lo dV) {x v:VV} {u:Value} {H':aA} {bf:Bool} (hx:VR V x u) (hs:(aB x).all aZ=true) (h:(if bf=true then some (VV.dA x 0,V.H) else some (VV.ptr V.H.length 0 0 0,V.H++[bM.row 0 [x] (aB x).length true]))=some (v,H')) :
  fV lo dV V (if (aK u).all fD then some (.pointer (some ⟨V.P.length,0,none⟩),V.P++[.row (aK u) (aK u).length false]) else none) v H':=by
 have hc:=hx.cells (Q4 hs)
 rw[if_pos (hc.fD hs)]
 split at h
 ·cases h
  have g:=Ap hS (.row (aK u) (aK u).length false)
  refine(fV.of g ?_ :)
  have hm:=hc.mono g.2.toUp
  refine .dA x 0 V.P.length 0 (aK u) (aK u).length false (.inr rfl) (by simp) (by rw[hc.length];omega) ?_
  rw[List.drop_zero,List.take_of_length_le (by rw[hc.length];exact Nat.le_refl _)]
  exact hm
 ·cases h
  rw[hc.length]
  exact(fV.of (pK hS (es:=[x]) (r:=aK u) (e:=(aB x).length) false (fun y hy=>by rw[List.mem_singleton] at hy;subst hy;rfl) (by simpa using hc)) (SK hS) :)
theorem take_set {α:Type} {l:List α} {i:Nat} {x:α} (h:i<l.length):l.set i x=l.take i++x::l.drop (i+1):=by
 rw[List.set_eq_take_append_cons_drop,if_pos h]
inductive Sd (V:View):List (Nat×VV)→List (Nat×Value)→Prop
 | nil:Sd V [] []
 | cons {i:Nat} {x:VV} {v:Value} {xs:List (Nat×VV)} {vs:List (Nat×Value)} (h:VR V x v) (hs:Sd V xs vs):Sd V ((i,x)::xs) ((i,v)::vs)
theorem CY {e n:Nat}:∀ {parts:List (Nat×VV)} {xS:List (Nat×Value)} {es lA:List VV} {r:List Value},es.length=n→(∀x∈es,(aB x).length=e)→VL V (es.flatMap aB) r →
  Sd V parts xS→tP e es parts=some lA→lA.length=n∧(∀x∈lA,(aB x).length=e)∧∃r',tH ((List.range n).map fun i=>(i*e,e)) r xS=some r'∧VL V (lA.flatMap aB) r'
 |
  [],_,es,lA,r,hn,he,hl,.nil,h=>by
  cases h
  exact⟨hn,he,r,rfl,hl⟩
 |
  (i,v)::parts,(_,w)::xS,es,lA,r,hn,he,hl,.cons hv hps,h=>by
  unfold tP at h
  split at h
  case isFalse=>cases h
  rename_i hc
  obtain⟨hi,hve,sT⟩:=hc
  have lO:=hv.cells (Q4 sT)
  have hwl:(aK w).length=e:=by rw[lO.length,hve]
  have yE:=hl.length
  rw[jJ he] at yE
  have hm:(i+1)*e≤es.length*e:=Nat.mul_le_mul_right _ hi
  rw[Nat.succ_mul] at hm
  have nF:∀x∈es.set i v,(aB x).length=e:=fun x hx=>by
   rcases List.mem_or_eq_of_mem_set hx with h | h
   ·exact he x h
   ·subst h;exact hve
  have Dg:VL V ((es.set i v).flatMap aB) (r.take (i*e)++aK w++r.drop (i*e+e)):=by
   have h1:=hl.gZ lO (i*e)
   have h2:=tQ he (new:=[v]) (fun z hz=>by rw[List.mem_singleton] at hz;subst hz;exact hve) i
   simp only[List.flatMap_cons,List.flatMap_nil,List.append_nil] at h2
   rw[h2,Ha hi] at h1
   unfold gZ at h1
   rw[hwl] at h1
   exact h1
  obtain⟨g1,g2,r',g3,g4⟩:=CY (n:=n) (by rw[List.length_set];exact hn) nF Dg hps h
  refine⟨g1,g2,r',?_,g4⟩
  unfold tH
  have hr:((List.range n).map fun i=>(i*e,e))[i]? = some (i*e,e):=by simp[List.getElem?_range (show i<n by omega)]
  simp only[hr]
  rw[if_pos ⟨hwl,by omega⟩]
  exact g3
theorem FZ (hE:ER V ρ jI):∀parts:List (Nat×Operand),Sd V (parts.map fun(i,x)=>(i,dW ρ x)) (parts.map fun(i,x)=>(i,ev jI x))
 | [] => .nil
 | (i,x)::parts => .cons (hE.ev x) (FZ hE parts)
theorem Fk {e:Nat}:∀ {parts:List (Nat×VV)} {es lA:List VV},(es.all fun x=>(aB x).all aZ)=true→tP e es parts=some lA→(lA.all fun x=>(aB x).all aZ)=true
 | [],es,lA,h,hf=>by cases hf;exact h
 |
  (i,v)::parts,es,lA,h,hf=>by
  unfold tP at hf
  split at hf
  case isFalse=>cases hf
  rename_i hc
  refine Fk ?_ hf
  rw[List.all_eq_true] at h ⊢
  intro x hx
  rcases List.mem_or_eq_of_mem_set hx with h1 | h1
  ·exact h x h1
  ·subst h1;exact hc.2.2
theorem Ue (hS:SR V lo dV) {lr:Bool} {z:List Value} {n:Nat} {parts:List (Nat×VV)} {xS:List (Nat×Value)} {v:VV} {H':aA} (hp:Sd V parts xS) (h:jX lr z n parts V.H=some (v,H')):fV lo dV V (ZB z n xS V.P) v H':=by
 unfold jX at h
 split at h
 case h_2=>cases h
 rename_i es KM
 split at h
 case isFalse=>cases h
 rename_i hz
 obtain⟨g1,g2,r',g3,g4⟩:=CY (V:=V) (n:=n) (by simp) (fun x hx=>by rw[List.eq_of_mem_replicate hx];exact BU hz) (Am hz n) hp KM
 have sT:=Fk (by
  rw[List.all_eq_true]
  intro x hx
  rw[List.eq_of_mem_replicate hx,lJ hz]
  exact hz) KM
 unfold ZB
 simp only[g3]
 rw[if_pos (g4.fD (yJ sT))]
 split at h
 ·cases h
  exact(fV.of (pK hS (e:=z.length) false g2 g4) (HZ hS) :)
 ·cases h
  have k:=Ap hS (.row r' z.length false)
  refine(fV.of k ?_ :)
  have hm:=g4.mono k.2.toUp
  have yE:=g4.length
  rw[jJ g2] at yE
  subst g1
  refine .tree es _ V.P.length 0 es.length r' z.length false (.inr rfl) (by simp) (by omega) (Nat.le_refl _) g2 ⟨rfl,rfl,rfl⟩ ?_
  rw[List.drop_zero,List.take_of_length_le (by omega)]
  exact hm
theorem LJ (hS:SR V lo dV) {b g e o:Nat} {es nw:List VV} {pn:List Value} (hr:V.H[b]? = some (.row g es e true)) (eI:lo≤b) (oW:o+nw.length≤es.length) (hn:∀x∈nw,(aB x).length=e) (sT:(nw.flatMap aB).all aZ=true) (hl:VL V (nw.flatMap aB) pn) :
  ∃V',V.P.write dV (V.m b) (o*e) pn=some V'.P∧V'.H=V.H.set b (.row g (cP es o nw) e true)∧SR V' lo dV∧Dh lo V V':=by
 obtain⟨r,q,h1,h2,h3⟩:=hS.row b g es e true hr
 have yE:=h3.length
 rw[jJ h2] at yE
 have Da:=(hS.wr b g es e hr).2 eI
 have Kj:=hl.length
 rw[jJ hn] at Kj
 have hm:(o+nw.length)*e≤es.length*e:=Nat.mul_le_mul_right _ oW
 rw[Nat.add_mul] at hm
 have nF:∀x∈cP es o nw,(aB x).length=e:=fun x hx=>by
  rcases GG hx with h | h
  ·exact h2 x h
  ·exact hn x h
 have Dg:VL V ((cP es o nw).flatMap aB) (gZ r (o*e) pn):=by
  rw[←tQ h2 hn]
  exact h3.gZ hl _
 obtain⟨g1,g2⟩:=BH hS hr eI nF Dg h1
 refine⟨{ V with H:=V.H.set b (.row g (cP es o nw) e true),P:=V.P.set (V.m b) (.row (gZ r (o*e) pn) e q) },?_,rfl,g1,g2⟩
 unfold aD.write
 simp only[h1]
 rw[if_pos ⟨Da,by omega,hl.fD sT⟩]
theorem Sm (hS:SR V lo dV) {x y v:VV} {u w:Value} {size:Nat} {H':aA} (hx:VR V x u) (hy:VR V y w) (h:GU lo size x y V.H=some (v,H')):fV lo dV V (copyV dV size u w V.P) v H':=by
 unfold GU at h
 split at h
 ·rename_i new hs
  obtain⟨h1,_⟩:=tW hS hy hs
  cases h
  cases hx with
  | tree es k b o c r e p hF hb ho hc he hk hl=>exact hk.elim
  |
   mD =>
   unfold copyV
   simp only[h1]
   exact fV.same hS (.sc _ rfl)
 ·rename_i b g o d c new hs
  obtain⟨h1,h2,h3,h4⟩:=tW hS hy hs
  split at h
  case h_2=>cases h
  rename_i es e hr
  rw[cD] at hr
  split at h
  case isFalse=>cases h
  rename_i hc
  obtain⟨rfl,eI,oW⟩:=hc
  cases h
  cases hx with
  |
   ref b g o n c a n' c' aU hg ha hq =>
   obtain⟨rfl,rfl,rfl⟩:=ha _ _ _ hr
   have Zw:(new.take n').length=Nat.min new.length n':=by rw[List.length_take];exact Nat.min_comm _ _
   obtain⟨pn,h5,h6⟩:=h4 (Nat.min new.length n') (Nat.min_le_left _ _)
   have ht:new.take (Nat.min new.length n')=new.take n':=by
    rw[←Zw,List.length_take,←List.take_take,List.take_length]
   rw[ht] at h6
   have Iu:∀x∈new.take n',(aB x).length=e:=fun x hx=>h2 x (List.mem_of_mem_take hx)
   have sT:((new.take n').flatMap aB).all aZ=true:=by
    rw[List.all_eq_true] at h3 ⊢
    intro x hx
    obtain⟨y,hy,zE⟩:=List.mem_flatMap.1 hx
    exact h3 x (List.mem_flatMap.2 ⟨y,List.mem_of_mem_take hy,zE⟩)
   obtain⟨V',k1,k2,k3,k4⟩:=LJ hS hr eI oW Iu sT h6
   refine⟨.int .i64 (Nat.min new.length n'),V',?_,k2,k3,k4,?_⟩
   ·unfold copyV
    simp only[h1,h5,k1]
    rfl
   ·rw[Zw]
    exact .sc _ rfl
 ·cases h
theorem Pq (hS:SR V lo dV) {x:VV} {u:Value} {z:List Value} {H':aA} (hx:VR V x u) (h:MO lo z x V.H=some H'):fV lo dV V (MB dV z u V.P) nS H':=by
 unfold MO at h
 split at h
 case h_2=>cases h
 rename_i b g o n c
 split at h
 case h_2=>cases h
 rename_i es e hr
 rw[cD] at hr
 cases hx with
 |
  ref b g o n c a n' c' aU hg ha hq =>
  obtain⟨rfl,rfl,rfl⟩:=ha _ _ _ hr
  unfold MB
  simp only
  split at h
  ·rename_i h0
   cases h
   rw[if_pos h0]
   exact fV.same hS (.dS [] [] .nil)
  ·rename_i h0
   rw[if_neg h0]
   split at h
   case isFalse=>cases h
   rename_i hc
   obtain⟨rfl,eI,oW,hz⟩:=hc
   cases h
   have Iu:∀x∈List.replicate n' (elemOf (z.map iO)),(aB x).length=z.length:=fun x hx=>by rw[List.eq_of_mem_replicate hx];exact BU hz
   obtain⟨V',k1,k2,k3,k4⟩:=LJ hS hr eI (nw:=List.replicate n' (elemOf (z.map iO))) (by simpa using oW) Iu (yJ (by
    rw[List.all_eq_true]
    intro x hx
    rw[List.eq_of_mem_replicate hx,lJ hz]
    exact hz)) (Am hz n')
   refine⟨undef,V',?_,k2,k3,k4,.dS [] [] .nil⟩
   rw[k1]
   rfl
end
end Go.PM
namespace Go.PM
section
variable {V:View} {lo dV:Nat} {ρ:dI} {jI:Env}
theorem Oo {x v:VV} {u:Value} {neg:Bool} (hx:VR V x u) (h:DW neg x V.H=some v):∃w,YG neg u=some w∧VR V v w:=by
 unfold DW at h
 split at h
 ·cases h
  cases hx with
  | tree es k b o c r e p hF hb ho hc he hk hl=>exact hk.elim
  | mD=>exact⟨_,rfl,.sc _ rfl⟩
 ·cases h
  cases hx with
  | mD k hk=>rcases hk with hk | hk<;>cases hk
  | tree=>exact⟨_,rfl,.sc _ rfl⟩
 ·cases h
  cases hx with
  | tree=>exact⟨_,rfl,.sc _ rfl⟩
 ·obtain⟨⟨es,e,w⟩,hr,rfl⟩:=cC h
  rw[cD] at hr
  cases hx with
  |
   ref b g o n c a n' c' aU hg ha hq =>
   obtain⟨rfl,rfl,rfl⟩:=ha _ _ _ hr
   exact⟨_,rfl,.sc _ rfl⟩
 ·cases h
theorem US {x v:VV} {u:Value} (hx:VR V x u) (h:nR x V.H=some v):∃w,afU u=some w∧VR V v w:=by
 unfold nR at h
 split at h
 ·cases h
  cases hx<;>exact⟨_,rfl,.sc _ rfl⟩
 ·obtain⟨⟨es,e,w⟩,hr,rfl⟩:=cC h
  rw[cD] at hr
  cases hx with
  |
   ref b g o n c a n' c' aU hg ha hq =>
   obtain⟨rfl,rfl,rfl⟩:=ha _ _ _ hr
   exact⟨_,rfl,.sc _ rfl⟩
 ·cases h
theorem P0 {x v:VV} {u:Value} {off:Nat} (hx:VR V x u) (h:FJ off x V.H=some v):∃w,Xz off u=some w∧VR V v w:=by
 unfold FJ at h
 split at h
 ·cases h
  cases hx with
  | dA x off b o r e p hF hb ho hl=>exact⟨_,rfl,by rw[Nat.add_assoc];exact .dA _ _ b o r e p hF hb ho hl⟩
 ·obtain⟨⟨es,e,w⟩,hr,rfl⟩:=cC h
  rw[cD] at hr
  cases hx with
  |
   ptr b g j off a aU hg ha hq =>
   have:=ha _ _ _ hr
   subst this
   refine⟨_,rfl,.ptr _ _ _ _ _ aU hg (fun lA e' w' D7 => ?_) fun a0 h=>by cases h;have:=hq _ rfl;exact this⟩
   rw[hr] at D7
   cases D7
   rw[Nat.add_assoc]
 ·cases h
theorem UM {x v:VV} {u:Value} (hx:VR V x u) (h:UN x V.H=some v):∃w,alR u=some w∧VR V v w:=by
 unfold UN at h
 split at h
 ·cases h
  cases hx with
  | dA x off b o r e p hF hb ho hl=>exact⟨_,rfl,.dA _ _ b o r e p hF hb ho hl⟩
 ·obtain⟨⟨es,e,w⟩,hr,rfl⟩:=cC h
  rw[cD] at hr
  cases hx with
  |
   ptr b g j off a aU hg ha hq =>
   have:=ha _ _ _ hr
   subst this
   exact⟨_,rfl,.ptr _ _ _ _ _ aU hg ha hq⟩
 ·cases h
theorem R7 {c a b v:VV} {u x y:Value} (hc:VR V c u) (ha:VR V a x) (hb:VR V b y) (h:Oe c a b=some v):∃t,u = .bool t∧VR V v (if t then x else y):=by
 unfold Oe at h
 split at h
 ·rename_i t
  cases h
  obtain⟨rfl,_⟩:=pA hc rfl
  refine⟨t,rfl,?_⟩
  cases t
  ·exact hb
  ·exact ha
 ·cases h
theorem Uf {x v:VV} {u:Value} {i:Nat} (hx:VR V x u) (h:Ym i x=some v):∃w,afF i u=some w∧VR V v w:=by
 unfold Ym at h
 split at h
 ·cases hx with
  |
   dS cs ps hl =>
   obtain⟨w,hw,hv⟩:=hl.get h
   exact⟨w,by simpa[afF] using hw,hv⟩
 ·cases h
theorem Uw {x v:VV} {u:Value} {agg:Bool} {off size:Nat} (hx:VR V x u) (h:abR agg off size x=some v):∃w,Z9 agg off size u=some w∧VR V v w:=by
 unfold abR at h
 split at h
 ·rename_i cs
  cases hx with
  |
   agg cs ps hl =>
   split at h
   ·rename_i ha
    split at h
    ·rename_i hs
     cases h
     refine⟨.agg ((ps.drop off).take size).toArray,?_,.agg _ _ ((hl.drop off).take size)⟩
     unfold Z9
     simp only[ha,if_true]
     rw[if_pos (by simpa[hl.length] using hs)]
     congr 2
     apply Array.ext'
     simp[List.extract_eq_take_drop]
    ·cases h
   ·rename_i ha
    obtain⟨w,hw,hv⟩:=hl.get h
    refine⟨w,?_,hv⟩
    unfold Z9
    simp only[ha]
    simpa using hw
 ·cases h
theorem KL {ks:List CK}:∀ {xs ys:List VV} {us ws:List Value} {t:Bool},VL V xs us→VL V ys ws→nZ ks xs ys=some t→mZ ks us ws=some t:=by
 induction ks with
 |
  nil =>
  intro xs ys us ws t h1 h2 h
  cases h1 with
  |
   nil=>cases h2 with
   | nil=>exact h
   | cons=>simp[nZ] at h
  | cons=>simp[nZ] at h
 |
  cons k ks ih =>
  intro xs ys us ws t h1 h2 h
  cases h1 with
  | nil=>simp[nZ] at h
  |
   cons x u xs us hx NJ=>cases h2 with
   | nil=>cases x<;>simp[nZ] at h
   |
    cons y w ys ws hy hys =>
    cases hx with
    |
     sc _ _=>cases hy with
     |
      sc _ _ =>
      simp only[nZ] at h
      simp only[mZ]
      split at h
      ·rename_i h1
       rw[h1]
       exact ih NJ hys h
      ·rename_i h1
       rw[h1]
       exact h
      ·cases h
     | _=>simp[nZ] at h
    | _=>simp[nZ] at h
theorem IJ {places:List (Nat×Nat)}:∀ {parts:List (Nat×VV)} {xS:List (Nat×Value)} {cs yF:List VV} {r:List Value},VL V cs r→Sd V parts xS→vZ places cs parts=some yF →
  ∃r',tH places r xS=some r'∧VL V yF r'
 | [],_,cs,yF,r,hl,.nil,h=>by cases h;exact⟨r,rfl,hl⟩
 |
  (i,v)::parts,(_,w)::xS,cs,yF,r,hl,.cons hv hps,h=>by
  unfold vZ at h
  unfold tH
  split at h
  ·cases h
  ·rename_i off size Kj
   simp only[Kj]
   split at h
   case isFalse=>cases h
   rename_i hc
   have lO:=hv.cells (fun e=>by subst e;cases hc.2.2)
   rw[if_pos ⟨by rw[lO.length];exact hc.1,by rw[hl.length];exact hc.2.1⟩]
   exact IJ (((hl.take off).append lO).append (hl.drop _)) hps h
theorem Ht:∀ {es:List VV} {r:List Value} {bs:List UInt8},VL V (es.flatMap aB) r→Gi es=some bs→rY r=some bs
 | [],_,bs,.nil,h=>h
 |
  x::es,r,bs,hl,h=>by
  unfold Gi at h
  split at h
  ·rename_i e;cases e
  ·rename_i n r' e
   cases e
   obtain⟨t,ht,rfl⟩:=cC h
   rw[List.flatMap_cons] at hl
   cases hl with
   |
    cons _ u _ us hu hus =>
    obtain⟨rfl,_⟩:=pA hu rfl
    unfold rY
    rw[Ht hus ht]
    rfl
  ·cases h
theorem lift {r:Option VV} {v:VV} {H':aA} {s:Option (Value×aD)} (h:r.map (·,V.H)=some (v,H')) (k:r=some v→fV lo dV V s v V.H):fV lo dV V s v H':=by
 obtain⟨a,ha,he⟩:=cC h
 cases he
 exact k ha
theorem VJ (hS:SR V lo dV) (hE:ER V ρ jI) {fl:Fl} {o:lM} {v:VV} {H':aA} {q:Bool} (h:vop fl lo o ρ V.H=some (v,H')):fV lo dV V (iR dV q o jI V.P) v H':=by
 cases o<;>simp only[vop] at h
 case mv x=>cases h;rw[ZO];exact fV.same hS (hE.ev x)
 case pick c a b =>
  refine lift h fun h => ?_
  obtain⟨t,ht,hv⟩:=R7 (hE.ev c) (hE.ev a) (hE.ev b) h
  rw[UK,ht]
  exact fV.same hS hv
 case bin op x y=>rw[XO];exact lift h fun h=>zI (f:=cV op) hS (fun _ _ _=>WB) (hE.ev x) (hE.ev y) h
 case eqb neg x y=>rw[X3];exact lift h fun h=>zI (f:=OE neg) hS (fun _ _ _=>Xh) (hE.ev x) (hE.ev y) h
 case isnil neg x =>
  rw[Sf]
  refine lift h fun h => ?_
  obtain⟨w,h1,h2⟩:=Oo (hE.ev x) h
  exact fV.pure hS h1 h2
 case eqagg neg ks x y =>
  rw[QX]
  refine lift h fun h => ?_
  unfold Sh at h
  split at h
  case h_2=>cases h
  rename_i a b hx hy
  obtain⟨t,ht,rfl⟩:=cC h
  have h1:=hE.ev x
  have h2:=hE.ev y
  rw[hx] at h1
  rw[hy] at h2
  generalize ev jI x=u at h1 ⊢
  generalize ev jI y=w at h2 ⊢
  cases h1 with
  |
   agg cs ps h1=>cases h2 with
   |
    agg yF ps' h2 =>
    refine fV.pure hS (pv := .bool (t != neg)) ?_ (.sc _ rfl)
    unfold Yk
    simp only
    rw[KL h1 h2 ht]
    rfl
 case un op x=>rw[ZW];exact lift h fun h=>Cj (f:=YK op) hS (fun _ _=>aaO) (hE.ev x) h
 case cvt k x=>rw[WM];exact lift h fun h=>Cj (f:=Rf k) hS (fun _ _=>Xn) (hE.ev x) h
 case cvs x =>
  have e:iR dV q (.cvs x) jI V.P=(Ug (ev jI x)).map (·,V.P):=dK rfl
  rw[e];exact lift h fun h=>Cj (f:=Ug) hS (fun _ _=>X0) (hE.ev x) h
 case ext x i =>
  rw[Xu]
  refine lift h fun h => ?_
  obtain⟨w,h1,h2⟩:=Uf (hE.ev x) h
  exact fV.pure hS h1 h2
 case fld agg off size x =>
  rw[Y6]
  refine lift h fun h => ?_
  obtain⟨w,h1,h2⟩:=Uw (hE.ev x) h
  exact fV.pure hS h1 h2
 case build zero places parts =>
  obtain⟨cs,KS,he⟩:=cC h
  cases he
  obtain⟨r,h1,h2⟩:=IJ (VL.zero zero) (FZ hE parts) KS
  rw[R6,h1]
  exact fV.same hS (.agg _ _ h2)
 case chk x =>
  rw[YV]
  refine lift h fun h => ?_
  obtain⟨w,h1,h2⟩:=UM (hE.ev x) h
  exact fV.pure hS h1 h2
 case faddr off x =>
  rw[Sk]
  refine lift h fun h => ?_
  obtain⟨w,h1,h2⟩:=P0 (hE.ev x) h
  exact fV.pure hS h1 h2
 case iaddr size x i =>
  rw[Ri]
  refine lift h fun h => ?_
  obtain⟨w,h1,h2⟩:=PH hS (hE.ev x) (hE.ev i) h
  exact fV.pure hS h1 h2
 case sidx x i =>
  have e:iR dV q (.sidx x i) jI V.P=(E0 (ev jI x) (ev jI i)).map (·,V.P):=dK rfl
  rw[e];exact lift h fun h=>zI (f:=E0) hS (fun _ _ _=>Vz) (hE.ev x) (hE.ev i) h
 case ssub x l h' =>
  refine lift h fun h => ?_
  unfold sE at h
  split at h
  case h_2=>cases h
  rename_i s lv hv hx h1 h2
  split at h
  case h_2=>cases h
  rename_i a b Io
  cases h
  obtain⟨e1,_⟩:=pA (hE.ev x) hx
  have e:iR dV q (.ssub x l h') jI V.P=some (.string (s.extract a b),V.P):=by
   rw[dK rfl]
   simp only[gU,e1]
   rw[zH hE h1,zH hE h2,Io]
   rfl
  rw[e]
  exact fV.same hS (.sc _ rfl)
 case mkfn f fE =>
  cases h
  rw[Ui]
  exact fV.same hS (.sU _ _ _ (hE.evs fE))
 case len x =>
  rw[Y5]
  refine lift h fun h => ?_
  obtain⟨w,h1,h2⟩:=US (hE.ev x) h
  exact fV.pure hS h1 h2
 case slen x =>
  have e:iR dV q (.slen x) jI V.P=(yK (ev jI x)).map (·,V.P):=dK rfl
  rw[e];exact lift h fun h=>Cj (f:=yK) hS (fun _ _=>T9) (hE.ev x) h
 case min x y=>rw[X7];exact lift h fun h=>zI (f:=ON) hS (fun _ _ _=>Wu) (hE.ev x) (hE.ev y) h
 case max x y=>rw[Yb];exact lift h fun h=>zI (f:=OG) hS (fun _ _ _=>Yt) (hE.ev x) (hE.ev y) h
 case load agg size p =>
  rw[Uk]
  refine lift h fun h => ?_
  obtain⟨w,h1,h2⟩:=J5 hS (hE.ev p) h
  exact fV.pure hS h1 h2
 case sub size x l hh m =>
  rw[XR]
  exact lift h fun h=>Vv hS hE (hE.ev x) h
 case b2s x =>
  split at h
  ·cases h
  rename_i y eV
  split at h
  case h_2=>cases h
  rename_i es KM
  obtain⟨bs,hbs,he⟩:=cC h
  cases he
  obtain⟨h1,h2,h3,h4⟩:=tW hS (hE.ev x) KM
  obtain⟨pn,h5,h6⟩:=h4 es.length (Nat.le_refl _)
  rw[List.take_length] at h6
  have hb:=Ht h6 hbs
  have hx:=hE.ev x
  have e:iR dV q (.b2s x) jI V.P=some (.string ⟨bs.toArray⟩,V.P):=by
   apply nD
   simp only[pop]
   generalize ev jI x=u at *
   cases u<;>first | (exfalso;simp[pU] at h1;done) | skip
   case string s =>
    generalize dW ρ x=y at *
    cases hx with
    | any=>simp[cN] at KM
    | sc _ _=>exact absurd rfl (eV _)
   case slice a n c =>
    injection h1 with h1
    subst h1
    cases a with
    |
     none =>
     simp only[iF] at h5
     split at h5
     ·cases h5
      cases hb
      rfl
     ·cases h5
    |
     some a =>
     obtain⟨b,o,sp⟩:=a
     cases sp with
     | some s=>simp[iF] at h5
     |
      none =>
      simp only[iF,Nat.mul_one] at h5
      simp only[h5,hb]
      rfl
  rw[e]
  exact fV.same hS (.sc _ rfl)
 case new zero =>
  split at h
  case isFalse=>cases h
  rename_i hz
  cases h
  rw[Yy]
  exact Vx hS hz
 case box x =>
  split at h
  case isFalse=>cases h
  rename_i hs
  rw[Yf]
  exact VE hS (hE.ev x) hs h
 case make zero bytes l c =>
  split at h
  case isFalse=>cases h
  rename_i hz
  rw[Uh]
  exact RJ hS hz (hE.ev l) (hE.ev c) h
 case lit zero n parts =>
  rw[Xl]
  exact Ue hS (FZ hE parts) h
 case store size p x =>
  obtain⟨a,ha,he⟩:=cC h
  cases he
  rw[RN]
  exact O2 hS (hE.ev p) (hE.ev x) ha
 case app size bytes x y =>
  split at h
  case h_2=>cases h
  rename_i new hn
  obtain⟨h1,h2,h3,h4⟩:=tW hS (hE.ev y) hn
  obtain⟨pn,h5,h6⟩:=h4 new.length (Nat.le_refl _)
  rw[List.take_length] at h6
  rw[XB]
  unfold aeT
  simp only[h1,h5]
  exact Ff hS (hE.ev x) h2 h3 h6 h
 case appz zero bytes x n =>
  split at h
  case h_2=>cases h
  rename_i k hk
  split at h
  case isFalse=>cases h
  rename_i hc
  obtain⟨e1,_⟩:=pA (hE.ev n) hk
  have Iu:∀x∈List.replicate k.toNat (elemOf (zero.map iO)),(aB x).length=zero.length:=fun x hx=>by rw[List.eq_of_mem_replicate hx];exact BU hc.2.2
  have:=Ff hS (hE.ev x) Iu (yJ (by
    rw[List.all_eq_true]
    intro x hx
    rw[List.eq_of_mem_replicate hx,lJ hc.2.2]
    exact hc.2.2)) (Am hc.2.2 _) h
  rw[List.length_replicate] at this
  rw[Vf]
  unfold W1
  rw[e1]
  simp only[if_pos (show 0≤k∧k*(bytes:Int)≤140737488355328 from⟨hc.1,hc.2.1⟩)]
  exact this
 case copy size x y =>
  rw[Vb]
  exact Sm hS (hE.ev x) (hE.ev y) h
 case clear zero x =>
  obtain⟨a,ha,he⟩:=cC h
  cases he
  rw[Rs]
  exact Pq hS (hE.ev x) ha
 all_goals cases h
end
end Go.PM
namespace Go.PM
def bare (F:Nat→Prop) (P:aD):View:=⟨fun _=>0,F,[],P,0⟩
theorem yN {es:List VV}:aM es=true↔∀x∈es,aN x=true:=by
 induction es with
 | nil=>simp[aM]
 | cons x xs ih=>simp[aM,ih]
theorem Bi {x:VV} (h:aN x=true):aM (aB x)=true:=by
 unfold aB
 split
 ·simpa[aN] using h
 ·simp[aM,h]
theorem JE {es:List VV} (h:aM es=true):aM (es.flatMap aB)=true:=by
 rw[yN] at h ⊢
 intro x hx
 obtain⟨y,hy,zE⟩:=List.mem_flatMap.1 hx
 exact yN.1 (Bi (h y hy)) x zE
theorem FI {es:List VV} {k:TK} (h:aN (.tree es k)=true):k = .op∧aM es=true∧uni es=true:=by
 simp only[aN,Bool.and_eq_true,decide_eq_true_eq] at h
 exact⟨h.1.1,h.1.2,h.2⟩
theorem Hi {x:VV} (h:aN x=true):x ≠ .any:=by
 rintro rfl
 cases h
theorem aaI {es:List VV} (h:uni es=true):∃e,∀x∈es,(aB x).length=e:=by
 cases es with
 | nil=>exact⟨0,fun x hx=>by cases hx⟩
 |
  cons x xs =>
  refine⟨(aB x).length,fun y hy => ?_⟩
  rcases List.mem_cons.1 hy with rfl | hy
  ·rfl
  ·have:=List.all_eq_true.1 h y hy
   simpa using this
section
variable {V V':View}
theorem VR.pure {x:VV} {v:Value} (hF:∀b,V.F b→V'.F b∧V'.P[b]? = V.P[b]?) (h:VR V x v):aN x=true→VR V' x v:=by
 induction h using VR.rec (motive_2:=fun xs vs _=>aM xs=true→VL V' xs vs) with
 | any=>intro hp;cases hp
 | sc _ h=>intro _;exact .sc _ h
 | agg cs ps _ ih=>intro hp;exact .agg _ _ (ih hp)
 | dS cs ps _ ih=>intro hp;exact .dS _ _ (ih hp)
 | mD k hk=>intro _;exact .mD k hk
 | tree es k b o c r e p Ru hb ho hc he hk _ ih=>intro hp;exact .tree es k b o c r e p (hF _ Ru).1 (by rw[(hF _ Ru).2];exact hb) ho hc he hk (ih (JE (FI hp).2.1))
 | dA x off b o r e p Ru hb ho _ ih=>intro hp;exact .dA x off b o r e p (hF _ Ru).1 (by rw[(hF _ Ru).2];exact hb) ho (ih (Bi hp))
 | ref=>intro hp;cases hp
 | ptr=>intro hp;cases hp
 | sU f fE ps _ ih=>intro hp;exact .sU _ _ _ (ih hp)
 | nil=>exact .nil
 |
  cons x v xs vs _ _ ih RP =>
  rename_i hp
  simp only[aM,Bool.and_eq_true] at hp
  exact .cons _ _ _ _ (ih hp.1) (RP hp.2)
theorem VL.pure {xs:List VV} {vs:List Value} (hF:∀b,V.F b→V'.F b∧V'.P[b]? = V.P[b]?) (h:VL V xs vs) (hp:aM xs=true):VL V' xs vs:=by
 induction xs generalizing vs with
 | nil=>cases h;exact .nil
 |
  cons x xs ih=>cases h with
  |
   cons _ v _ vs h hs =>
   simp only[aM,Bool.and_eq_true] at hp
   exact .cons _ _ _ _ (h.pure hF hp.1) (ih hs hp.2)
theorem VL.flatten {es:List VV} {ps:List Value} (h:VL V es ps) (hp:aM es=true):VL V (es.flatMap aB) (ps.flatMap aK):=by
 induction es generalizing ps with
 | nil=>cases h;exact .nil
 |
  cons x xs ih =>
  cases h with
  |
   cons _ v _ vs h hs =>
   simp only[aM,Bool.and_eq_true] at hp
   rw[List.flatMap_cons,List.flatMap_cons]
   exact(h.cells (Hi hp.1)).append (ih hs hp.2)
theorem ND {P P':aD} (h:P <+: P'):∀b,(bare (· < P.length) P).F b→(bare (· < P'.length) P').F b∧(bare (· < P'.length) P').P[b]? = (bare (· < P.length) P).P[b]? := by
 intro b hb
 obtain⟨L,rfl⟩:=h
 have oC:b<P.length:=hb
 exact⟨by show b<(P++L).length;simp;omega,List.getElem?_append_left oC⟩
mutual
theorem real (x:VV) (hp:aN x=true) (P:aD):∃P' pv,P <+: P'∧VR (bare (· < P'.length) P') x pv:=by
 cases x with
 | any=>cases hp
 | sc v=>exact⟨P,v,List.prefix_refl _,.sc v hp⟩
 |
  agg cs =>
  obtain⟨P',ps,h1,h2⟩:=K9 cs hp P
  exact⟨P',_,h1,.agg _ _ h2⟩
 |
  dS cs =>
  obtain⟨P',ps,h1,h2⟩:=K9 cs hp P
  exact⟨P',_,h1,.dS _ _ h2⟩
 |
  tree es k =>
  obtain⟨rfl,h1,h2⟩:=FI hp
  obtain⟨P',ps,h3,h4⟩:=K9 es h1 P
  obtain⟨e,he⟩:=aaI h2
  have h5:=h4.flatten h1
  have hl:=h5.length
  rw[jJ he] at hl
  have wS:P' <+: P'++[KC.row (ps.flatMap aK) e false]:=List.prefix_append _ _
  refine⟨_,.slice (some ⟨P'.length,0,none⟩) es.length es.length,h3.trans wS,?_⟩
  refine .tree es .op P'.length 0 es.length (ps.flatMap aK) e false (show P'.length<(P'++[KC.row (ps.flatMap aK) e false]).length by simp) (by show (P'++[KC.row (ps.flatMap aK) e false])[P'.length]? = _;simp) (by omega) (Nat.le_refl _) he trivial ?_
  rw[List.drop_zero,List.take_of_length_le (by omega)]
  exact VL.pure (ND wS) h5 (JE h1)
 |
  dA x off =>
  obtain⟨P',pv,h3,h4⟩:=real x hp P
  have h5:=h4.cells (Hi hp)
  have wS:P' <+: P'++[KC.row (aK pv) (aK pv).length false]:=List.prefix_append _ _
  refine⟨_,.pointer (some ⟨P'.length,0+off,none⟩),h3.trans wS,?_⟩
  refine .dA x off P'.length 0 (aK pv) (aK pv).length false (show P'.length<(P'++[KC.row (aK pv) (aK pv).length false]).length by simp) (by show (P'++[KC.row (aK pv) (aK pv).length false])[P'.length]? = _;simp) (by rw[h5.length];omega) ?_
  rw[List.drop_zero,List.take_of_length_le (by rw[h5.length];exact Nat.le_refl _)]
  exact VL.pure (ND wS) h5 (Bi hp)
 | ref=>cases hp
 | ptr=>cases hp
 |
  sU f fE =>
  obtain⟨P',ps,h1,h2⟩:=K9 fE hp P
  exact⟨P',_,h1,.sU _ _ _ h2⟩
theorem K9 (xs:List VV) (hp:aM xs=true) (P:aD):∃P' ps,P <+: P'∧VL (bare (· < P'.length) P') xs ps:=by
 cases xs with
 | nil=>exact⟨P,[],List.prefix_refl _,.nil⟩
 |
  cons x xs =>
  simp only[aM,Bool.and_eq_true] at hp
  obtain⟨P1,pv,h1,h2⟩:=real x hp.1 P
  obtain⟨P2,ps,h3,h4⟩:=K9 xs hp.2 P1
  exact⟨P2,pv::ps,h1.trans h3,.cons _ _ _ _ (h2.pure (ND h3) hp.1) h4⟩
end
theorem IT {es:List VV}:oS es=true↔∀x∈es,gA x=true:=by
 induction es with
 | nil=>simp[oS]
 | cons x xs ih=>simp[oS,ih]
theorem B9 {es:List VV} {k:TK} (h:gA (.tree es k)=true):k = .op∧oS es=true∧uni es=true∧es.all yB=true:=by
 simp only[gA,Bool.and_eq_true,decide_eq_true_eq] at h
 exact⟨h.1.1.1,h.1.1.2,h.1.2,h.2⟩
theorem QL {x:VV} (h:gA x=true):oS (aB x)=true:=by
 unfold aB
 split
 ·simpa[gA] using h
 ·simp[oS,h]
theorem K1 {es:List VV} (h:oS es=true):oS (es.flatMap aB)=true:=by
 rw[IT] at h ⊢
 intro x hx
 obtain⟨y,hy,zE⟩:=List.mem_flatMap.1 hx
 exact IT.1 (QL (h y hy)) x zE
mutual
theorem PL (x:VV) (h:gA x=true):aN x=true:=by
 cases x with
 | sc v=>exact h
 | agg cs=>exact Cl cs h
 | dS cs=>exact Cl cs h
 |
  tree es k =>
  obtain⟨h1,h2,h3,_⟩:=B9 h
  simp[aN,h1,Cl es h2,h3]
 | any=>cases h
 | dA=>cases h
 | ref=>cases h
 | ptr=>cases h
 | sU=>cases h
theorem Cl (xs:List VV) (h:oS xs=true):aM xs=true:=by
 cases xs with
 | nil=>rfl
 |
  cons x xs =>
  simp only[oS,Bool.and_eq_true] at h
  simp[aM,PL x h.1,Cl xs h.2]
end
theorem Qp {e:Nat}:∀ {es lA:List VV},(∀x∈es,(aB x).length=e)→(∀x∈lA,(aB x).length=e)→es.all yB=true→lA.all yB=true→es.length=lA.length→es.flatMap aB=lA.flatMap aB→es=lA
 | [],[],_,_,_,_,_,_=>rfl
 |
  x::es,y::lA,h1,h2,h3,h4,hl,h=>by
  rw[List.flatMap_cons,List.flatMap_cons] at h
  have hx:=h1 x List.mem_cons_self
  have hy:=h2 y List.mem_cons_self
  obtain⟨e1,e2⟩:=List.append_inj h (by omega)
  simp only[List.all_cons,Bool.and_eq_true] at h3 h4
  have zE:x=y:=by
   have g1:=h3.1
   have g2:=h4.1
   unfold aB at e1
   split at e1<;>split at e1
   ·rw[e1]
   ·rename_i cs _ _
    subst e1
    cases g1
   ·rename_i cs
    subst e1
    cases g2
   ·injection e1
  rw[zE,Qp (fun z hz=>h1 z (List.mem_cons_of_mem _ hz)) (fun z hz=>h2 z (List.mem_cons_of_mem _ hz)) h3.2 h4.2 (by simpa using hl) e2]
theorem VR.uniq {x y:VV} {v:Value} (h:VR V x v) (h':VR V y v) (hx:gA x=true) (hy:gA y=true):x=y:=by
 induction h using VR.rec (motive_2:=fun xs vs _=>∀ys,VL V ys vs→oS xs=true→oS ys=true→xs=ys) generalizing y with
 | any=>cases hx
 |
  sc _ h=>cases h' with
  | sc _ _=>rfl
  | any=>cases hy
  | agg=>cases h
  | dS=>cases h
  | mD=>cases h
  | tree=>cases h
  | dA=>cases hy
  | ref=>cases hy
  | ptr=>cases hy
  | sU=>cases hy
 |
  agg cs ps h ih=>generalize hw:Value.agg ps.toArray=w at h';cases h' with
  | sc _ h'=>subst hw;cases h'
  | any=>cases hy
  |
   agg yF ps' h' =>
   injection hw with hw
   have:ps=ps':=by simpa using hw
   subst this
   rw[ih _ h' hx hy]
  | dS=>cases hw
  | mD=>cases hw
  | tree=>cases hw
  | dA=>cases hy
  | ref=>cases hy
  | ptr=>cases hy
  | sU=>cases hy
 |
  dS cs ps h ih=>generalize hw:Value.tuple ps.toArray=w at h';cases h' with
  | sc _ h'=>subst hw;cases h'
  | any=>cases hy
  |
   dS yF ps' h' =>
   injection hw with hw
   have:ps=ps':=by simpa using hw
   subst this
   rw[ih _ h' hx hy]
  | agg=>cases hw
  | mD=>cases hw
  | tree=>cases hw
  | dA=>cases hy
  | ref=>cases hy
  | ptr=>cases hy
  | sU=>cases hy
 |
  mD k hk =>
  obtain⟨rfl,_⟩:=B9 hx
  generalize hw:Value.slice none 0 0=w at h'
  cases h' with
  | sc _ h'=>subst hw;cases h'
  | any=>cases hy
  | mD k' V4=>obtain⟨rfl,_⟩:=B9 hy;rfl
  | agg=>cases hw
  | dS=>cases hw
  | tree=>cases hw
  | dA=>cases hy
  | ref=>cases hy
  | ptr=>cases hy
  | sU=>cases hy
 |
  tree es k b o c r e p hF hb ho hc he hk hl ih =>
  obtain⟨rfl,hx1,hx2,hx3⟩:=B9 hx
  generalize hw:Value.slice (some ⟨b,o,none⟩) es.length c=w at h'
  cases h' with
  | sc _ h'=>subst hw;cases h'
  | any=>cases hy
  | mD=>cases hw
  | agg=>cases hw
  | dS=>cases hw
  |
   tree lA k' b' o' c' r' e' p' hF' oC ho' hc' YH V4 A7 =>
   obtain⟨rfl,hy1,hy2,hy3⟩:=B9 hy
   injection hw with h1 h2 h3
   injection h1 with h1
   injection h1 with h1 h4
   subst h1 h3 h4
   rw[hb] at oC
   injection oC with oC
   injection oC with g1 g2 g3
   subst g1 g2 g3
   rw[←h2] at A7
   rw[Qp he YH hx3 hy3 h2 (ih _ A7 (K1 hx1) (K1 hy1))]
  | dA=>cases hy
  | ref=>cases hy
  | ptr=>cases hy
  | sU=>cases hy
 | dA=>cases hx
 | ref=>cases hx
 | ptr=>cases hx
 | sU=>cases hx
 | nil=>rename_i h' _ _;cases h';rfl
 |
  cons x v xs vs _ _ ih RP =>
  rename_i ys h' hx hy
  cases h' with
  |
   cons y _ ys _ h' hs' =>
   simp only[oS,Bool.and_eq_true] at hx hy
   rw[ih h' hx.1 hy.1,RP _ hs' hx.2 hy.2]
end
end Go.PM
namespace Go.PM
section
variable {V:View} {lo dV:Nat}
theorem iU {α β:Type} {f:α→Option β} {x:α} {xs:List α} {r:List β} (h:(x::xs).mapM f=some r):∃y ys,f x=some y∧xs.mapM f=some ys∧r=y::ys:=by
 rw[List.mapM_cons] at h
 cases hx:f x with
 | none=>rw[hx] at h;cases h
 |
  some y =>
  rw[hx] at h
  cases hs:xs.mapM f with
  | none=>rw[hs] at h;cases h
  | some ys=>rw[hs] at h;cases h;exact⟨y,ys,rfl,rfl,rfl⟩
theorem mM {α β:Type} {f:α→Option β}:∀ {xs:List α} {r:List β},xs.mapM f=some r→r.length=xs.length
 | [],r,h=>by cases h;rfl
 |
  x::xs,r,h=>by
  obtain⟨y,ys,_,h2,rfl⟩:=iU h
  simp[mM h2]
theorem Sq {d:Nat} {H:aA} {x x':VV} (h:fz d H x=some x'):(∃cs yF,x = .agg cs∧x' = .agg yF∧yF.length=cs.length)∨(aB x=[x]∧aB x'=[x']):=by
 cases d with
 | zero=>cases h
 |
  succ d =>
  unfold fz at h
  split at h
  ·cases h
   cases x with
   | agg cs=>exact .inl ⟨cs,cs,rfl,rfl,rfl⟩
   | _=>exact .inr ⟨rfl,rfl⟩
  ·split at h
   ·obtain⟨yF,h1,rfl⟩:=cC h
    exact .inl ⟨_,_,rfl,rfl,mM h1⟩
   ·obtain⟨yF,h1,rfl⟩:=cC h;exact .inr ⟨rfl,rfl⟩
   ·obtain⟨yF,h1,rfl⟩:=cC h;exact .inr ⟨rfl,rfl⟩
   ·obtain⟨yF,h1,rfl⟩:=cC h;exact .inr ⟨rfl,rfl⟩
   ·split at h
    ·split at h
     ·obtain⟨yF,h1,rfl⟩:=cC h;exact .inr ⟨rfl,rfl⟩
     ·cases h
    ·cases h
   ·split at h
    ·split at h
     ·obtain⟨yF,h1,rfl⟩:=cC h;exact .inr ⟨rfl,rfl⟩
     ·cases h
    ·cases h
   ·obtain⟨yF,h1,rfl⟩:=cC h;exact .inr ⟨rfl,rfl⟩
   ·cases h
theorem MI {d:Nat} {H:aA} {x x':VV} (h:fz d H x=some x'):(aB x').length=(aB x).length:=by
 rcases Sq h with⟨cs,yF,rfl,rfl,h'⟩ | ⟨h1,h2⟩
 ·exact h'
 ·rw[h1,h2];rfl
def LB (V:View) (G:Nat→Prop) (ids:List Nat):Prop:=∀i∈ids,∀g es e w,V.H[i]? = some (.row g es e w)→G (V.m i)
theorem JG (hS:SR V lo dV) {G:Nat→Prop} (hG:∀q,V.F q→G q):∀(d:Nat) (v v':VV) (pv:Value),VR V v pv→fz d V.H v=some v'→LB V G (hJ d V.H v)→VR (bare G V.P) v' pv:=by
 have hFG:∀b,V.F b→(bare G V.P).F b∧(bare G V.P).P[b]? = V.P[b]? := fun b hb=>⟨hG b hb,rfl⟩
 intro d
 induction d with
 | zero=>intro v v' pv _ h;cases h
 |
  succ d ih =>
  have ihL:∀(xs Gm:List VV) (ps:List Value),VL V xs ps→xs.mapM (fz d V.H)=some Gm→LB V G (xs.flatMap (hJ d V.H))→VL (bare G V.P) Gm ps:=by
   intro xs
   induction xs with
   | nil=>intro Gm ps hl h _;cases h;cases hl;exact .nil
   |
    cons x xs ihx =>
    intro Gm ps hl h hi
    obtain⟨y,ys,h1,h2,rfl⟩:=iU h
    cases hl with
    |
     cons _ v _ vs hx NJ =>
     exact .cons _ _ _ _ (ih x y v hx h1 fun i nO=>hi i (by rw[List.flatMap_cons];exact List.mem_append_left _ nO)) (ihx ys vs NJ h2 fun i nO=>hi i (by rw[List.flatMap_cons];exact List.mem_append_right _ nO))
  have ihC:∀(x x':VV) (ps:List Value),VL V (aB x) ps→fz d V.H x=some x'→LB V G (hJ d V.H x)→VL (bare G V.P) (aB x') ps:=by
   intro x x' ps hl h hi
   rcases Sq h with⟨cs,yF,rfl,rfl,lO⟩ | ⟨h1,h2⟩
   ·have:=ih _ _ (.agg ps.toArray) (.agg _ _ hl) h hi
    generalize hw:Value.agg ps.toArray=w at this
    cases this with
    |
     agg _ ps' A7 =>
     injection hw with hw
     have:ps=ps':=by simpa using hw
     subst this
     exact A7
   ·rw[h1] at hl
    rw[h2]
    cases hl with
    |
     cons _ v _ vs hx NJ =>
     cases NJ
     exact .cons _ _ _ _ (ih _ _ _ hx h hi) .nil
  have ihF:∀(xs Gm:List VV) (ps:List Value),VL V (xs.flatMap aB) ps→xs.mapM (fz d V.H)=some Gm→LB V G (xs.flatMap (hJ d V.H))→VL (bare G V.P) (Gm.flatMap aB) ps:=by
   intro xs
   induction xs with
   | nil=>intro Gm ps hl h _;cases h;cases hl;exact .nil
   |
    cons x xs ihx =>
    intro Gm ps hl h hi
    obtain⟨y,ys,h1,h2,rfl⟩:=iU h
    rw[List.flatMap_cons] at hl ⊢
    have hlen:=hl.length
    have a1:=hl.take (aB x).length
    have a2:=hl.drop (aB x).length
    rw[List.take_left] at a1
    rw[List.drop_left] at a2
    rw[←List.take_append_drop (aB x).length ps]
    exact(ihC x y _ a1 h1 fun i nO=>hi i (by rw[List.flatMap_cons];exact List.mem_append_left _ nO)).append (ihx ys _ a2 h2 fun i nO=>hi i (by rw[List.flatMap_cons];exact List.mem_append_right _ nO))
  have amA:∀(xs Gm:List VV) (e:Nat),xs.mapM (fz d V.H)=some Gm→(∀x∈xs,(aB x).length=e)→∀x∈Gm,(aB x).length=e:=by
   intro xs
   induction xs with
   | nil=>intro Gm e h _ x hx;cases h;cases hx
   |
    cons x xs ihx =>
    intro Gm e h he z hz
    obtain⟨y,ys,h1,h2,rfl⟩:=iU h
    rcases List.mem_cons.1 hz with rfl | hz
    ·rw[MI h1];exact he x List.mem_cons_self
    ·exact ihx ys e h2 (fun w hw=>he w (List.mem_cons_of_mem _ hw)) z hz
  intro v v' pv hv h hi
  unfold fz at h
  unfold hJ at hi
  split at h
  ·rename_i hp
   cases h
   exact hv.pure hFG hp
  ·rename_i hp
   rw[if_neg hp] at hi
   split at h
   ·obtain⟨yF,h1,rfl⟩:=cC h
    cases hv with
    | agg cs ps hl=>exact .agg _ _ (ihL _ _ _ hl h1 hi)
   ·obtain⟨yF,h1,rfl⟩:=cC h
    cases hv with
    | dS cs ps hl=>exact .dS _ _ (ihL _ _ _ hl h1 hi)
   ·obtain⟨yF,h1,rfl⟩:=cC h
    cases hv with
    | mD k hk=>cases h1;exact .mD _ (.inl rfl)
    |
     tree es k b o c r e p hF hb ho hc he hk hl =>
     have hlen:=mM h1
     have:=VR.tree (V:=bare G V.P) yF .op b o c r e p (hG b hF) hb (by rw[hlen];exact ho) (by rw[hlen];exact hc) (amA _ _ _ h1 he) trivial (by rw[hlen];exact ihF _ _ _ hl h1 hi)
     rw[hlen] at this
     exact this
   ·obtain⟨x',h1,rfl⟩:=cC h
    cases hv with
    |
     dA x off b o r e p hF hb ho hl =>
     have hlen:=MI h1
     exact .dA x' _ b o r e p (hG b hF) hb (by rw[hlen];exact ho) (by rw[hlen];exact ihC _ _ _ hl h1 hi)
   ·rename_i b g o n c
    split at h
    case h_2=>cases h
    rename_i es e w hr
    simp only[hr] at hi
    rw[cD] at hr
    split at h
    case isFalse=>cases h
    rename_i atF
    obtain⟨hon,Ce⟩:=atF
    obtain⟨lA,h1,rfl⟩:=cC h
    obtain⟨r,p,k1,k2,k3⟩:=hS.row b g es e w hr
    have yE:=k3.length
    rw[jJ k2] at yE
    cases hv with
    |
     ref b g o n c a n' c' aU hg ha hq =>
     obtain⟨rfl,rfl,rfl⟩:=ha _ _ _ hr
     have Yg:∀x∈(es.drop o).take n',(aB x).length=e:=fun x hx=>k2 x (List.mem_of_mem_drop (List.mem_of_mem_take hx))
     have hn2:((es.drop o).take n').length=n':=by simp;omega
     have hlen:=mM h1
     rw[hn2] at hlen
     have hm:(o+n')*e≤es.length*e:=Nat.mul_le_mul_right _ hon
     rw[Nat.add_mul] at hm
     have hl:VL V (((es.drop o).take n').flatMap aB) ((r.drop (o*e)).take (n'*e)):=by
      have h4:=(k3.drop (o*e)).take (n'*e)
      rw[rM k2,rP (fun x hx=>k2 x (List.mem_of_mem_drop hx))] at h4
      exact h4
     have hGb:G (V.m b):=hi b List.mem_cons_self _ _ _ _ hr
     have:=VR.tree (V:=bare G V.P) lA .op (V.m b) (o*e) c' r e p hGb k1 (by rw[hlen];omega) (by rw[hlen];exact Ce) (amA _ _ _ h1 Yg) trivial (by rw[hlen];exact ihF _ _ _ hl h1 fun i nO=>hi i (List.mem_cons_of_mem _ nO))
     rw[hlen] at this
     exact this
   ·rename_i b g j o
    split at h
    case h_2=>cases h
    rename_i es e w hr
    simp only[hr] at hi
    rw[cD] at hr
    split at h
    case h_2=>cases h
    rename_i x hx
    simp only[hx] at hi
    obtain⟨x',h1,rfl⟩:=cC h
    obtain⟨r,p,k1,k2,k3,k4⟩:=JA hS hr hx
    cases hv with
    |
     ptr b g j off a aU hg ha hq =>
     have:=ha _ _ _ hr
     subst this
     have hlen:=MI h1
     exact .dA x' o (V.m b) (j*e) r e p (hi b List.mem_cons_self _ _ _ _ hr) k1 (by rw[hlen];exact k3) (by rw[hlen];exact ihC _ _ _ k4 h1 fun i nO=>hi i (List.mem_cons_of_mem _ nO))
   ·obtain⟨yF,h1,rfl⟩:=cC h
    cases hv with
    | sU f fE ps hl=>exact .sU _ _ _ (ihL _ _ _ hl h1 hi)
   ·cases h
theorem Ct (hS:SR V lo dV) {G:Nat→Prop} (hG:∀q,V.F q→G q) {d:Nat}:∀ {xs Gm:List VV} {ps:List Value},VL V xs ps→xs.mapM (fz d V.H)=some Gm→LB V G (xs.flatMap (hJ d V.H))→VL (bare G V.P) Gm ps
 | [],Gm,ps,hl,h,_=>by cases h;cases hl;exact .nil
 |
  x::xs,Gm,ps,hl,h,hi=>by
  obtain⟨y,ys,h1,h2,rfl⟩:=iU h
  cases hl with
  |
   cons _ v _ vs hx NJ =>
   exact .cons _ _ _ _ (JG hS hG d x y v hx h1 fun i nO=>hi i (by rw[List.flatMap_cons];exact List.mem_append_left _ nO)) (Ct hS hG NJ h2 fun i nO=>hi i (by rw[List.flatMap_cons];exact List.mem_append_right _ nO))
def View.cS (V:View) (ids:List Nat):View:=ids.foldl View.freeze V
theorem sQ:∀(ids:List Nat) {V:View},SR V lo dV→SR (V.cS ids) lo dV∧Dh lo V (V.cS ids)∧(V.cS ids).H=PM.cS V.H ids∧(V.cS ids).P=V.P∧(V.cS ids).m=V.m∧LB V (V.cS ids).F ids
 | [],V,hS=>⟨hS,Dh.refl _ _,rfl,rfl,rfl,fun i hi=>by cases hi⟩
 |
  i::ids,V,hS=>by
  obtain⟨h1,h2,h3⟩:=NC hS i
  obtain⟨g1,g2,g3,g4,g5,g6⟩:=sQ ids h1
  refine⟨g1,h2.trans g2,?_,g4.trans (Xb V i),g5.trans (Pz V i),?_⟩
  ·show ((V.freeze i).cS ids).H=_
   rw[g3,Pv]
   rfl
  ·intro k hk g es e w hr
   show ((V.freeze i).cS ids).F (V.m k)
   rcases List.mem_cons.1 hk with rfl | hk
   ·exact g2.F _ (h3 _ _ _ _ hr)
   ·have D7:∃g es e w,(V.freeze i).H[k]? = some (.row g es e w):=by
     rw[Pv]
     unfold AF
     split
     ·rename_i g' lA e' w' hi
      by_cases hki:k=i
      ·subst hki
       exact⟨g',lA,e',false,List.getElem?_set_self (List.getElem?_eq_some_iff.1 hi).1⟩
      ·exact⟨g,es,e,w,by rw[List.getElem?_set_ne (Ne.symm hki)];exact hr⟩
     ·exact⟨g,es,e,w,hr⟩
    obtain⟨g',lA,e',w',D7⟩:=D7
    have:=g6 k hk _ _ _ _ D7
    rw[Pz] at this
    exact this
end
end Go.PM