/- Texts of a claim, in one: part 4. -/
import Derived.Test.YtodamlihdkalfaaGreatDoorKRc
set_option linter.unusedSimpArgs false
set_option linter.unusedVariables false
namespace Go.PM
structure View where
 m:Nat→Nat
 F:Nat→Prop
 H:aA
 P:aD
 base:Nat
def kindOk (k:TK) (n c e:Nat) (p:Bool):Prop :=
 match k with
 | .op=>True
 | .cl e'=>e'=e∧c=n∧p=false
 | .nil=>False
mutual
inductive VR (V:View):VV→Value→Prop
 | any (v:Value):VR V .any v
 | sc (v:Value) (h:lS v=true):VR V (.sc v) v
 | agg (cs:List VV) (ps:List Value) (h:VL V cs ps):VR V (.agg cs) (.agg ps.toArray)
 | eQ (cs:List VV) (ps:List Value) (h:VL V cs ps):VR V (.eQ cs) (.tuple ps.toArray)
 | nC (k:TK) (hk:k = .op∨k = .nil):VR V (.tree [] k) (.slice none 0 0)
 | tree (es:List VV) (k:TK) (b o c:Nat) (r:List Value) (e:Nat) (p:Bool) (hF:V.F b) (hb:V.P[b]? = some (.row r e p)) (ho:o+es.length*e≤r.length)
  (hc:es.length≤c) (he:∀x∈es,(aB x).length=e) (hk:kindOk k es.length c e p) (hl:VL V (es.flatMap aB) ((r.drop o).take (es.length*e))) :
  VR V (.tree es k) (.slice (some ⟨b,o,none⟩) es.length c)
 | cO (x:VV) (off b o:Nat) (r:List Value) (e:Nat) (p:Bool) (hF:V.F b) (hb:V.P[b]? = some (.row r e p)) (ho:o+(aB x).length≤r.length)
  (hl:VL V (aB x) ((r.drop o).take (aB x).length)):VR V (.cO x off) (.pointer (some ⟨b,o+off,none⟩))
 | ref (b g o n c:Nat) (a:Option Addr) (n' c':Nat) (aX:b<V.H.length) (hg:∀g' es e w,V.H[b]? = some (.row g' es e w)→g≤g')
  (h:∀es e w,V.H[b]? = some (.row g es e w)→a=some ⟨V.m b,o*e,none⟩∧n'=n∧c'=c)
  (hq:∀a0,a=some a0→V.base≤a0.block∧a0.block<V.P.length∧∀b' g' es e w,V.H[b']? = some (.row g' es e w)→b'≠b→V.m b'≠a0.block):VR V (.ref b g o n c) (.slice a n' c')
 | ptr (b g j off:Nat) (a:Option Addr) (aX:b<V.H.length) (hg:∀g' es e w,V.H[b]? = some (.row g' es e w)→g≤g')
  (h:∀es e w,V.H[b]? = some (.row g es e w)→a=some ⟨V.m b,j*e+off,none⟩)
  (hq:∀a0,a=some a0→V.base≤a0.block∧a0.block<V.P.length∧∀b' g' es e w,V.H[b']? = some (.row g' es e w)→b'≠b→V.m b'≠a0.block):VR V (.ptr b g j off) (.pointer a)
 | sY (f:Nat) (fA:List VV) (ps:List Value) (h:VL V fA ps):VR V (.sY f fA) (.func (.func f) #[] ps.toArray)
inductive VL (V:View):List VV→List Value→Prop
 | nil:VL V [] []
 | cons (x:VV) (v:Value) (xs:List VV) (vs:List Value) (h:VR V x v) (hs:VL V xs vs):VL V (x::xs) (v::vs)
end
structure Up (V V':View):Prop where
 F:∀b,V.F b→V'.F b
 P:∀b,V.F b→V'.P[b]? = V.P[b]?
 len:V.H.length≤V'.H.length
 row:∀b g' lD e w',b<V.H.length→V'.H[b]? = some (.row g' lD e w')→∃g es w,V.H[b]? = some (.row g es e w)∧g≤g'∧(g'=g→V'.m b=V.m b)
 JM:V'.base=V.base
 EV:V.P.length≤V'.P.length
 AW:∀b g es e w,V'.H[b]? = some (.row g es e w)→V'.m b<V.P.length→∃g0 es0 w0,V.H[b]? = some (.row g0 es0 e w0)∧V'.m b=V.m b∧(w=true→w0=true)
section
variable {V V' Nh:View}
theorem Up.refl (V:View):Up V V:=⟨fun _ h=>h,fun _ _=>rfl,Nat.le_refl _,fun b g es e w _ h=>⟨g,es,w,h,Nat.le_refl _,fun _=>rfl⟩,rfl,Nat.le_refl _,fun b g es e w h _=>⟨g,es,w,h,rfl,id⟩⟩
theorem Up.trans (h:Up V V') (h':Up V' Nh):Up V Nh :=
 ⟨fun b hb=>h'.F b (h.F b hb),fun b hb=>(h'.P b (h.F b hb)).trans (h.P b hb),Nat.le_trans h.len h'.len,fun b g es e w hb hr=>by
  obtain⟨g1,As,w1,h1,h2,h3⟩:=h'.row b g es e w (Nat.lt_of_lt_of_le hb h.len) hr
  obtain⟨g2,Vc,w2,h4,h5,h6⟩:=h.row b g1 As e w1 hb h1
  exact⟨g2,Vc,w2,h4,Nat.le_trans h5 h2,fun hg=>(h3 (by omega)).trans (h6 (by omega))⟩,h'.JM.trans h.JM,Nat.le_trans h.EV h'.EV,fun b g es e w hb hm=>by
   obtain⟨g1,As,w1,h1,h2,h3⟩:=h'.AW b g es e w hb (Nat.lt_of_lt_of_le hm h.EV)
   obtain⟨g2,Vc,w2,h4,h5,h6⟩:=h.AW b g1 As e w1 h1 (by rw[←h2];exact hm)
   exact⟨g2,Vc,w2,h4,h2.trans h5,fun hw=>h6 (h3 hw)⟩⟩
theorem Up.hq (u:Up V V') {b q:Nat} (h:V.base≤q∧q<V.P.length∧∀b' g' es e w,V.H[b']? = some (.row g' es e w)→b'≠b→V.m b'≠q):V'.base≤q∧q<V'.P.length∧∀b' g' es e w,V'.H[b']? = some (.row g' es e w)→b'≠b→V'.m b'≠q:=by
 refine⟨by rw[u.JM];exact h.1,Nat.lt_of_lt_of_le h.2.1 u.EV,fun b' g' es e w hb eW hm => ?_⟩
 obtain⟨g0,es0,w0,h1,h2,_⟩:=u.AW b' g' es e w hb (by rw[hm];exact h.2.1)
 exact h.2.2 b' _ _ _ _ h1 eW (h2.symm.trans hm)
theorem VR.mono (u:Up V V') {x:VV} {v:Value} (h:VR V x v):VR V' x v:=by
 induction h using VR.rec (motive_2:=fun xs vs _=>VL V' xs vs) with
 | any=>exact .any _
 | sc _ h=>exact .sc _ h
 | agg cs ps _ ih=>exact .agg _ _ ih
 | eQ cs ps _ ih=>exact .eQ _ _ ih
 | nC k hk=>exact .nC k hk
 | tree es k b o c r e p hF hb ho hc he hk _ ih=>exact .tree es k b o c r e p (u.F _ hF) (by rw[u.P _ hF];exact hb) ho hc he hk ih
 | cO x off b o r e p hF hb ho _ ih=>exact .cO x off b o r e p (u.F _ hF) (by rw[u.P _ hF];exact hb) ho ih
 |
  ref b g o n c a n' c' aX hg h hq =>
  refine .ref b g o n c a n' c' (Nat.lt_of_lt_of_le aX u.len) (fun g' es e w hr => ?_) (fun es e w hr => ?_) fun a0 ha=>u.hq (hq a0 ha)
  ·obtain⟨g1,As,w1,h1,h2,_⟩:=u.row b g' es e w aX hr
   exact Nat.le_trans (hg _ _ _ _ h1) h2
  ·obtain⟨g1,As,w1,h1,h2,h3⟩:=u.row b g es e w aX hr
   have h4:=hg _ _ _ _ h1
   have h5:g=g1:=by omega
   subst h5
   rw[h3 rfl]
   exact h _ _ _ h1
 |
  ptr b g j off a aX hg h hq =>
  refine .ptr b g j off a (Nat.lt_of_lt_of_le aX u.len) (fun g' es e w hr => ?_) (fun es e w hr => ?_) fun a0 ha=>u.hq (hq a0 ha)
  ·obtain⟨g1,As,w1,h1,h2,_⟩:=u.row b g' es e w aX hr
   exact Nat.le_trans (hg _ _ _ _ h1) h2
  ·obtain⟨g1,As,w1,h1,h2,h3⟩:=u.row b g es e w aX hr
   have h4:=hg _ _ _ _ h1
   have h5:g=g1:=by omega
   subst h5
   rw[h3 rfl]
   exact h _ _ _ h1
 | sY f fA ps _ ih=>exact .sY _ _ _ ih
 | nil=>exact .nil
 | cons x v xs vs _ _ ih Tu=>exact .cons _ _ _ _ ih Tu
theorem VL.mono (u:Up V V') {xs:List VV} {vs:List Value} (h:VL V xs vs):VL V' xs vs:=by
 induction xs generalizing vs with
 | nil=>cases h;exact .nil
 |
  cons x xs ih=>cases h with
  | cons _ v _ vs h hs=>exact .cons _ _ _ _ (h.mono u) (ih hs)
end
section
variable {V:View} {xs ys:List VV} {vs ws:List Value}
theorem VL.length:∀ {xs:List VV} {vs:List Value},VL V xs vs→vs.length=xs.length
 | _,_,.nil=>rfl
 | _,_,.cons _ _ _ _ _ hs=>by simp[hs.length]
theorem VL.append:∀ {xs:List VV} {vs:List Value},VL V xs vs→VL V ys ws→VL V (xs++ys) (vs++ws)
 | _,_,.nil,h'=>h'
 | _,_,.cons _ _ _ _ h hs,h' => .cons _ _ _ _ h (hs.append h')
theorem VL.take (n:Nat):∀ {xs:List VV} {vs:List Value} ,VL V xs vs→VL V (xs.take n) (vs.take n):=by
 induction n with
 | zero=>intro xs vs _;simp;exact .nil
 |
  succ n ih=>intro xs vs h;cases h with
  | nil=>simp;exact .nil
  | cons x v xs vs h hs=>exact .cons _ _ _ _ h (ih hs)
theorem VL.drop (n:Nat):∀ {xs:List VV} {vs:List Value} ,VL V xs vs→VL V (xs.drop n) (vs.drop n):=by
 induction n with
 | zero=>intro xs vs h;simpa using h
 |
  succ n ih=>intro xs vs h;cases h with
  | nil=>simp;exact .nil
  | cons x v xs vs h hs=>exact ih hs
theorem VL.get (h:VL V xs vs) {i:Nat} {x:VV} (hx:xs[i]? = some x):∃v,vs[i]? = some v∧VR V x v:=by
 induction i generalizing xs vs with
 |
  zero=>cases h with
  | nil=>cases hx
  | cons y v xs vs h hs=>simp at hx;subst hx;exact⟨v,rfl,h⟩
 |
  succ i ih=>cases h with
  | nil=>cases hx
  | cons y v xs vs h hs=>exact ih hs (by simpa using hx)
theorem VL.map {α:Type} {f:α→VV} {g:α→Value}:∀ {l:List α},(∀x∈l,VR V (f x) (g x))→VL V (l.map f) (l.map g)
 | [],_ => .nil
 | x::l,h => .cons _ _ _ _ (h x (by simp)) (VL.map fun y hy=>h y (by simp[hy]))
theorem VL.replicate {x:VV} {v:Value} (h:VR V x v):∀n,VL V (List.replicate n x) (List.replicate n v)
 | 0 => .nil
 | n+1 => .cons _ _ _ _ h (VL.replicate h n)
theorem VL.gX {cs new:List VV} {ps pn:List Value} (h:VL V cs ps) (hn:VL V new pn) (o:Nat):VL V (cL cs o new) (gX ps o pn):=by
 unfold cL PM.gX
 rw[←hn.length]
 exact((h.take o).append hn).append (h.drop _)
theorem VR.iL (v:Value):VR V (iL v) v:=by
 unfold PM.iL
 split
 ·exact .nC _ (.inr rfl)
 ·split
  ·rename_i h;exact .sc _ h
  ·exact .any _
theorem VR.inj (v:Value):VR V (inj v) v:=by
 unfold PM.inj
 split
 ·rename_i cs
  have:(Value.agg cs) = .agg cs.toList.toArray:=by simp
  rw[this]
  refine .agg _ _ ?_
  have:=VL.map (V:=V) (f:=PM.iL) (g:=id) (l:=cs.toList) fun x _=>VR.iL x
  simpa using this
 ·rename_i vs
  split
  ·rename_i h
   have:vs=[].toArray:=by simpa using h
   rw[this]
   exact .eQ _ _ .nil
  ·exact .any _
 ·exact VR.iL _
theorem VL.zero (z:List Value):VL V (z.map PM.iL) z:=by
 have:=VL.map (V:=V) (f:=PM.iL) (g:=id) (l:=z) fun x _=>VR.iL x
 simpa using this
theorem VR.cells {x:VV} {v:Value} (h:VR V x v) (hx:x ≠ .any):VL V (aB x) (aL v):=by
 cases h with
 | any=>exact absurd rfl hx
 |
  sc v h =>
  have:aL v=[v]:=by cases v<;>first | rfl | cases h
  rw[this]
  exact .cons _ _ _ _ (.sc v h) .nil
 | agg cs ps h=>simpa[aB,aL] using h
 | eQ cs ps h=>exact .cons _ _ _ _ (.eQ _ _ h) .nil
 | nC k hk=>exact .cons _ _ _ _ (.nC k hk) .nil
 | tree es k b o c r e p hF hb ho hc he hk hl=>exact .cons _ _ _ _ (.tree es k b o c r e p hF hb ho hc he hk hl) .nil
 | cO x off b o r e p hF hb ho hl=>exact .cons _ _ _ _ (.cO x off b o r e p hF hb ho hl) .nil
 | ref b g o n c a n' c' aX hg h hq=>exact .cons _ _ _ _ (.ref b g o n c a n' c' aX hg h hq) .nil
 | ptr b g j off a aX hg h hq=>exact .cons _ _ _ _ (.ptr b g j off a aX hg h hq) .nil
 | sY f fA ps h=>exact .cons _ _ _ _ (.sY _ _ _ h) .nil
theorem VR.fR {x:VV} {v:Value} (h:VR V x v) (hx:cH x=true):fR v=true:=by
 cases h with
 | sc v h=>cases v<;>first | rfl | cases h
 | any=>cases hx
 | agg=>cases hx
 | eQ=>cases hx
 | _=>rfl
theorem VL.fR:∀ {xs:List VV} {vs:List Value},VL V xs vs→xs.all cH=true→vs.all PM.fR=true
 | _,_,.nil,_=>rfl
 |
  _,_,.cons _ _ _ _ h hs,hx=>by
  rw[List.all_cons,Bool.and_eq_true] at hx ⊢
  exact⟨h.fR hx.1,hs.fR hx.2⟩
theorem QS {x:VV} (h:(aB x).all cH=true):x ≠ .any:=by
 rintro rfl
 cases h
theorem iZ {es:List VV} {e:Nat} (he:∀x∈es,(aB x).length=e):(es.flatMap aB).length=es.length*e:=by
 induction es with
 | nil=>simp
 |
  cons x xs ih =>
  rw[List.flatMap_cons,List.length_append,ih fun y hy=>he y (List.mem_cons_of_mem _ hy),he x List.mem_cons_self,List.length_cons,Nat.succ_mul]
  omega
theorem rG {es:List VV} {e:Nat} (he:∀x∈es,(aB x).length=e) (i:Nat):(es.flatMap aB).drop (i*e)=(es.drop i).flatMap aB:=by
 induction i generalizing es with
 | zero=>simp
 |
  succ i ih =>
  cases es with
  | nil=>simp
  |
   cons x xs =>
   have hx:=he x List.mem_cons_self
   rw[List.flatMap_cons,List.drop_succ_cons,←ih fun y hy=>he y (List.mem_cons_of_mem _ hy),show (i+1)*e=(aB x).length+i*e by rw[hx,Nat.succ_mul];omega,List.drop_append]
   simp
theorem rU {es:List VV} {e:Nat} (he:∀x∈es,(aB x).length=e) (i:Nat):(es.flatMap aB).take (i*e)=(es.take i).flatMap aB:=by
 induction i generalizing es with
 | zero=>simp
 |
  succ i ih =>
  cases es with
  | nil=>simp
  |
   cons x xs =>
   have hx:=he x List.mem_cons_self
   rw[List.flatMap_cons,List.take_succ_cons,List.flatMap_cons,←ih fun y hy=>he y (List.mem_cons_of_mem _ hy),show (i+1)*e=(aB x).length+i*e by rw[hx,Nat.succ_mul];omega,List.take_append]
   simp
   exact List.take_of_length_le (by omega)
theorem IK {es:List VV} {e:Nat} (he:∀x∈es,(aB x).length=e) {j:Nat} {x:VV} (hx:es[j]? = some x):((es.flatMap aB).drop (j*e)).take e=aB x:=by
 obtain⟨aX,Ud⟩:=List.getElem?_eq_some_iff.1 hx
 rw[rG he,List.drop_eq_getElem_cons aX,Ud,List.flatMap_cons,List.take_append,←he x (List.mem_of_getElem? hx)]
 simp
theorem tP {es new:List VV} {e:Nat} (he:∀x∈es,(aB x).length=e) (hn:∀x∈new,(aB x).length=e) (o:Nat):cL (es.flatMap aB) (o*e) (new.flatMap aB)=(cL es o new).flatMap aB:=by
 unfold cL
 rw[rU he,iZ hn,show o*e+new.length*e=(o+new.length)*e by rw[Nat.add_mul],rG he]
 simp
theorem Gm {es:List VV} {j:Nat} {x:VV} (hj:j<es.length):cL es j [x]=es.set j x:=by
 unfold cL
 rw[List.set_eq_take_append_cons_drop,if_pos hj]
 simp
theorem OS {cs new:List VV} {o:Nat} (h:o+new.length≤cs.length):(cL cs o new).length=cs.length:=by
 unfold cL
 simp
 omega
theorem G7 {cs new:List VV} {o:Nat} {x:VV} (h:x∈cL cs o new):x∈cs∨x∈new:=by
 unfold cL at h
 rw[List.mem_append,List.mem_append] at h
 rcases h with(h | h) | h
 ·exact .inl (List.mem_of_mem_take h)
 ·exact .inr h
 ·exact .inl (List.mem_of_mem_drop h)
theorem lJ {cs:List VV} (h:cs.all cH=true):aB (elemOf cs)=cs:=by
 unfold elemOf
 split
 ·rename_i x
  simp only[List.all_cons,List.all_nil,Bool.and_true] at h
  cases x<;>first | rfl | cases h
 ·rfl
theorem cM {H:aA} {b g:Nat} {es:List VV} {e:Nat} {w:Bool}:aQ H b g=some (es,e,w)↔H[b]? = some (.row g es e w):=by
 unfold aQ
 constructor
 ·intro h
  split at h
  ·rename_i hb
   split at h
   ·rename_i hg;subst hg;cases h;exact hb
   ·cases h
  ·cases h
 ·intro h
  rw[h]
  simp
end
structure SR (V:View) (lo dO:Nat):Prop where
 row:∀b g es e w,V.H[b]? = some (.row g es e w)→∃r p,V.P[V.m b]? = some (.row r e p)∧(∀x∈es,(aB x).length=e)∧VL V (es.flatMap aB) r
 wr:∀b g es e,V.H[b]? = some (.row g es e true)→¬V.F (V.m b)∧(lo≤b→dO≤V.m b)
 inj:∀a b g es e w g' lD e' w',V.H[a]? = some (.row g es e w)→V.H[b]? = some (.row g' lD e' w')→V.m a=V.m b→a=b
 fr:∀b,V.F b→b<V.P.length
 QY:dO≤V.P.length
 JM:V.base≤V.P.length
structure CJ (lo:Nat) (V V':View):Prop extends Up V V' where
 eZ:∀q,q<V.P.length→(∀b g es e,V.H[b]? = some (.row g es e true)→lo≤b→V.m b≠q)→V'.P[q]? = V.P[q]?
 Cx:∀q,V'.F q→V.F q∨V.P.length≤q∨∃b g es e w,V.H[b]? = some (.row g es e w)∧V.m b=q
section
variable {V V' Nh:View} {lo:Nat}
theorem CJ.refl (lo:Nat) (V:View):CJ lo V V :=
 { Up.refl V with eZ:=fun _ _ _=>rfl,Cx:=fun _ h => .inl h }
theorem CJ.trans (h:CJ lo V V') (h':CJ lo V' Nh):CJ lo V Nh :=
 { Up.trans h.toUp h'.toUp with
  eZ:=fun q hq hn=>by
   rw[h'.eZ q (Nat.lt_of_lt_of_le hq h.EV) ?_,h.eZ q hq hn]
   intro b g es e hb hl hm
   obtain⟨g1,As,w1,h1,h2,h3⟩:=h.AW b g es e true hb (by rw[hm];exact hq)
   have:=h3 rfl
   subst this
   exact hn b g1 As e h1 hl (h2.symm.trans hm)
  Cx:=fun q hq=>by
   rcases h'.Cx q hq with h1 | h1 | ⟨b,g,es,e,w,h1,h2⟩
   ·exact h.Cx q h1
   ·exact .inr (.inl (Nat.le_trans h.EV h1))
   ·rcases Nat.lt_or_ge q V.P.length with hl | hl
    ·obtain⟨g1,As,w1,h3,h4,_⟩:=h.AW b g es e w h1 (by rw[h2];exact hl)
     exact .inr (.inr ⟨b,g1,As,e,w1,h3,h4.symm.trans h2⟩)
    ·exact .inr (.inl hl) }
end
end Go.PM
namespace Go.PM
def U1 (m:Nat→Nat) (b v:Nat):Nat→Nat:=fun k=>if k=b then v else m k
theorem jW {m:Nat→Nat} {b v:Nat}:U1 m b v b=v:=by simp[U1]
theorem kW {m:Nat→Nat} {b v k:Nat} (h:k≠b):U1 m b v k=m k:=by simp[U1,h]
section
variable {V:View} {lo dO:Nat}
theorem SR.mlt (hS:SR V lo dO) {b g e:Nat} {es:List VV} {w:Bool} (hb:V.H[b]? = some (.row g es e w)):V.m b<V.P.length:=by
 obtain⟨r,p,h,_⟩:=hS.row b g es e w hb
 exact(List.getElem?_eq_some_iff.1 h).1
theorem zS (hS:SR V lo dO) (x:J8):SR { V with P:=V.P++[x],F:=fun q=>V.F q∨q=V.P.length } lo dO∧CJ lo V { V with P:=V.P++[x],F:=fun q=>V.F q∨q=V.P.length }:=by
 have hU:Up V { V with P:=V.P++[x],F:=fun q=>V.F q∨q=V.P.length }:=⟨fun _ h => .inl h,fun b hb=>List.getElem?_append_left (hS.fr b hb),Nat.le_refl _,fun b g es e w _ h=>⟨g,es,w,h,Nat.le_refl _,fun _=>rfl⟩,rfl,by simp,fun b g es e w hb _=>⟨g,es,w,hb,rfl,id⟩⟩
 refine⟨⟨fun b g es e w hb => ?_,fun b g es e hb=>⟨fun hF => ?_,(hS.wr b g es e hb).2⟩,hS.inj,fun b hb => ?_,by have:=hS.QY;simp;omega,by have:=hS.JM;simp;omega⟩,{ hU with eZ:=fun q hq _=>List.getElem?_append_left hq,Cx:=fun q hq => ?_ }⟩
 ·obtain⟨r,p,h1,h2,h3⟩:=hS.row b g es e w hb
  exact⟨r,p,by rw[←h1];exact List.getElem?_append_left (hS.mlt hb),h2,h3.mono hU⟩
 ·rcases hF with hF | hF
  ·exact(hS.wr b g es e hb).1 hF
  ·have h1:V.m b=V.P.length:=hF
   have:=hS.mlt hb
   omega
 ·rcases hb with hb | hb
  ·have:=hS.fr b hb
   simp;omega
  ·subst hb;simp
 ·rcases hq with hq | hq
  ·exact .inl hq
  ·exact .inr (.inl (by omega))
theorem pH (hS:SR V lo dO) {es:List VV} {r:List Value} {e:Nat} (p:Bool) (he:∀x∈es,(aB x).length=e) (hl:VL V (es.flatMap aB) r) :
  SR { V with m:=U1 V.m V.H.length V.P.length,H:=V.H++[.row 0 es e true],P:=V.P++[.row r e p] } lo dO∧CJ lo V { V with m:=U1 V.m V.H.length V.P.length,H:=V.H++[.row 0 es e true],P:=V.P++[.row r e p] }:=by
 have AW:∀b g lD e' w,(V.H++[iY.row 0 es e true])[b]? = some (.row g lD e' w)→(b=V.H.length∧g=0∧lD=es∧e'=e∧w=true)∨(b≠V.H.length∧V.H[b]? = some (.row g lD e' w)):=by
  intro b g lD e' w hb
  rcases Nat.lt_trichotomy b V.H.length with h | h | h
  ·rw[List.getElem?_append_left h] at hb
   exact .inr ⟨by omega,hb⟩
  ·subst h
   rw[List.getElem?_append_right (Nat.le_refl _)] at hb
   simp at hb
   obtain⟨h1,h2,h3,h4⟩:=hb
   exact .inl ⟨rfl,h1.symm,h2.symm,h3.symm,h4⟩
  ·rw[List.getElem?_eq_none (by simp;omega)] at hb
   cases hb
 have hU:Up V { V with m:=U1 V.m V.H.length V.P.length,H:=V.H++[.row 0 es e true],P:=V.P++[.row r e p] } :=
  ⟨fun _ h=>h,fun b hb=>List.getElem?_append_left (hS.fr b hb),by simp,fun b g' lD e' w' aX hb=>by
   rcases AW b g' lD e' w' hb with⟨h,_⟩ | ⟨h,hb⟩
   ·omega
   ·exact⟨g',lD,w',hb,Nat.le_refl _,fun _=>kW h⟩,rfl,by simp,fun b g lD e' w hb hm=>by
   rcases AW b g lD e' w hb with⟨rfl,_⟩ | ⟨h,hb⟩
   ·simp only[jW] at hm
    omega
   ·exact⟨g,lD,w,hb,kW h,id⟩⟩
 refine⟨⟨fun b g lD e' w hb => ?_,fun b g lD e' hb => ?_,fun a b g As e1 w1 g' Vc e2 w2 ha hb hm => ?_,fun b hb=>by have:=hS.fr b hb;simp;omega,by have:=hS.QY;simp;omega,by have:=hS.JM;simp;omega⟩,
  { hU with eZ:=fun q hq _=>List.getElem?_append_left hq,Cx:=fun q hq => .inl hq }⟩
 ·rcases AW b g lD e' w hb with⟨rfl,rfl,rfl,rfl,rfl⟩ | ⟨h,hb⟩
  ·exact⟨r,p,by simp only[jW];simp,he,hl.mono hU⟩
  ·obtain⟨r1,p1,h1,h2,h3⟩:=hS.row b g lD e' w hb
   refine⟨r1,p1,?_,h2,h3.mono hU⟩
   simp only[kW h]
   rw[List.getElem?_append_left (hS.mlt hb)]
   exact h1
 ·rcases AW b g lD e' true hb with⟨rfl,_⟩ | ⟨h,hb⟩
  ·simp only[jW]
   exact⟨fun hF=>by have:=hS.fr _ hF;omega,fun _=>hS.QY⟩
  ·simp only[kW h]
   exact hS.wr b g lD e' hb
 ·rcases AW a g As e1 w1 ha with⟨rfl,_⟩ | ⟨h,ha⟩
  ·rcases AW b g' Vc e2 w2 hb with⟨rfl,_⟩ | ⟨h',hb⟩
   ·rfl
   ·simp only[jW,kW h'] at hm
    have:=hS.mlt hb
    omega
  ·rcases AW b g' Vc e2 w2 hb with⟨rfl,_⟩ | ⟨h',hb⟩
   ·simp only[jW,kW h] at hm
    have:=hS.mlt ha
    omega
   ·simp only[kW h,kW h'] at hm
    exact hS.inj a b _ _ _ _ _ _ _ _ ha hb hm
theorem fG {H:aA} {b:Nat} {x:iY} (hb:b<H.length) {a:Nat} {y:iY} (h:(H.set b x)[a]? = some y):(a=b∧y=x)∨(a≠b∧H[a]? = some y):=by
 by_cases he:a=b
 ·subst he
  rw[List.getElem?_set_self hb] at h
  cases h
  exact .inl ⟨rfl,rfl⟩
 ·rw[List.getElem?_set_ne (Ne.symm he)] at h
  exact .inr ⟨he,h⟩
theorem BH (hS:SR V lo dO) {b g e:Nat} {es lD:List VV} {r':List Value} (hb:V.H[b]? = some (.row g es e true)) (gF:lo≤b) (he:∀x∈lD,(aB x).length=e) (hl:VL V (lD.flatMap aB) r') {r:List Value} {p:Bool} (hp:V.P[V.m b]? = some (.row r e p)) :
  SR { V with H:=V.H.set b (.row g lD e true),P:=V.P.set (V.m b) (.row r' e p) } lo dO∧CJ lo V { V with H:=V.H.set b (.row g lD e true),P:=V.P.set (V.m b) (.row r' e p) }:=by
 have sW:=(List.getElem?_eq_some_iff.1 hb).1
 have JI:=hS.mlt hb
 have hU:Up V { V with H:=V.H.set b (.row g lD e true),P:=V.P.set (V.m b) (.row r' e p) } :=
  ⟨fun _ h=>h,fun q hq=>List.getElem?_set_ne (fun h=>(hS.wr b g es e hb).1 (by rw[h];exact hq)),by simp,fun a g' As e1 w1 aX ha=>by
   rcases fG sW ha with⟨rfl,h⟩ | ⟨_,h⟩
   ·cases h
    exact⟨g,es,true,hb,Nat.le_refl _,fun _=>rfl⟩
   ·exact⟨g',As,w1,h,Nat.le_refl _,fun _=>rfl⟩,rfl,by simp,fun a g1 As e1 w1 ha _=>by
   rcases fG sW ha with⟨rfl,h⟩ | ⟨eW,h⟩
   ·cases h
    exact⟨g,es,true,hb,rfl,fun _=>rfl⟩
   ·exact⟨g1,As,w1,h,rfl,id⟩⟩
 refine⟨⟨fun a g1 As e1 w1 ha => ?_,fun a g1 As e1 ha => ?_,fun a c g1 As e1 w1 g2 Vc e2 w2 ha hc hm => ?_,fun q hq=>by have:=hS.fr q hq;simp;omega,by have:=hS.QY;simp;omega,by have:=hS.JM;simp;omega⟩,
  { hU with eZ:=fun q hq hn=>List.getElem?_set_ne (hn b g es e hb gF),Cx:=fun q hq => .inl hq }⟩
 ·rcases fG sW ha with⟨rfl,h⟩ | ⟨eW,h⟩
  ·cases h
   exact⟨r',p,List.getElem?_set_self JI,he,hl.mono hU⟩
  ·obtain⟨r1,p1,h1,h2,h3⟩:=hS.row a g1 As e1 w1 h
   exact⟨r1,p1,by rw[←h1];exact List.getElem?_set_ne (fun hm=>eW (hS.inj _ _ _ _ _ _ _ _ _ _ h hb hm.symm)),h2,h3.mono hU⟩
 ·rcases fG sW ha with⟨rfl,h⟩ | ⟨eW,h⟩
  ·cases h
   exact hS.wr _ _ _ _ hb
  ·exact hS.wr _ _ _ _ h
 ·rcases fG sW ha with⟨rfl,h⟩ | ⟨eW,h⟩<;>rcases fG sW hc with⟨rfl,h'⟩ | ⟨S0,h'⟩
  ·rfl
  ·exact hS.inj _ _ _ _ _ _ _ _ _ _ hb h' hm
  ·exact hS.inj _ _ _ _ _ _ _ _ _ _ h hb hm
  ·exact hS.inj _ _ _ _ _ _ _ _ _ _ h h' hm
theorem Q3 (hS:SR V lo dO) {b g e:Nat} {es lD:List VV} {r':List Value} (hb:V.H[b]? = some (.row g es e true)) (gF:lo≤b) (he:∀x∈lD,(aB x).length=e) (hl:VL V (lD.flatMap aB) r') {P1:aD} (hP:P1.length=V.P.length) (hk:∀q,q≠V.m b→P1[q]? = V.P[q]?) (p:Bool) :
  SR { V with m:=U1 V.m b V.P.length,H:=V.H.set b (.row (g+1) lD e true),P:=P1++[.row r' e p] } lo dO∧CJ lo V { V with m:=U1 V.m b V.P.length,H:=V.H.set b (.row (g+1) lD e true),P:=P1++[.row r' e p] }:=by
 have sW:=(List.getElem?_eq_some_iff.1 hb).1
 have JI:=hS.mlt hb
 have wP:∀q,q<V.P.length→q≠V.m b→(P1++[J8.row r' e p])[q]? = V.P[q]? := fun q hq hn=>by rw[List.getElem?_append_left (by omega)];exact hk q hn
 have hU:Up V { V with m:=U1 V.m b V.P.length,H:=V.H.set b (.row (g+1) lD e true),P:=P1++[.row r' e p] } :=
  ⟨fun _ h=>h,fun q hq=>wP q (hS.fr q hq) (fun h=>(hS.wr b g es e hb).1 (by rw[←h];exact hq)),by simp,fun a g' As e1 w1 aX ha=>by
   rcases fG sW ha with⟨rfl,h⟩ | ⟨eW,h⟩
   ·cases h
    exact⟨g,es,true,hb,by omega,fun h=>by omega⟩
   ·exact⟨g',As,w1,h,Nat.le_refl _,fun _=>kW eW⟩,rfl,by simp;omega,fun a g1 As e1 w1 ha hm=>by
   rcases fG sW ha with⟨rfl,h⟩ | ⟨eW,h⟩
   ·simp only[jW] at hm
    omega
   ·exact⟨g1,As,w1,h,kW eW,id⟩⟩
 refine⟨⟨fun a g1 As e1 w1 ha => ?_,fun a g1 As e1 ha => ?_,fun a c g1 As e1 w1 g2 Vc e2 w2 ha hc hm => ?_,fun q hq=>by have:=hS.fr q hq;simp;omega,by have:=hS.QY;simp;omega,by have:=hS.JM;simp;omega⟩,
  { hU with eZ:=fun q hq hn=>wP q hq (Ne.symm (hn b g es e hb gF)),Cx:=fun q hq => .inl hq }⟩
 ·rcases fG sW ha with⟨rfl,h⟩ | ⟨eW,h⟩
  ·cases h
   refine⟨r',p,?_,he,hl.mono hU⟩
   simp only[jW]
   rw[←hP]
   simp
  ·obtain⟨r1,p1,h1,h2,h3⟩:=hS.row a g1 As e1 w1 h
   refine⟨r1,p1,?_,h2,h3.mono hU⟩
   simp only[kW eW]
   rw[wP _ (hS.mlt h) (fun hm=>eW (hS.inj _ _ _ _ _ _ _ _ _ _ h hb hm))]
   exact h1
 ·rcases fG sW ha with⟨rfl,h⟩ | ⟨eW,h⟩
  ·cases h
   simp only[jW]
   exact⟨fun hF=>by have:=hS.fr _ hF;omega,fun _=>hS.QY⟩
  ·simp only[kW eW]
   exact hS.wr _ _ _ _ h
 ·rcases fG sW ha with⟨rfl,h⟩ | ⟨eW,h⟩<;>rcases fG sW hc with⟨rfl,h'⟩ | ⟨S0,h'⟩
  ·rfl
  ·simp only[jW,kW S0] at hm
   have:=hS.mlt h'
   omega
  ·simp only[jW,kW eW] at hm
   have:=hS.mlt h
   omega
  ·simp only[kW eW,kW S0] at hm
   exact hS.inj _ _ _ _ _ _ _ _ _ _ h h' hm
def View.freeze (V:View) (b:Nat):View :=
 match V.H[b]? with
 | some (.row _ _ _ _)=>{ V with H:=Ac V.H b,F:=fun q=>V.F q∨q=V.m b }
 | _=>V
theorem Pw (V:View) (b:Nat):(V.freeze b).H=Ac V.H b:=by
 unfold View.freeze Ac
 cases h:V.H[b]? with
 | none=>rfl
 | some x=>cases x<;>rfl
theorem WI (V:View) (b:Nat):(V.freeze b).P=V.P:=by
 unfold View.freeze
 split<;>rfl
theorem O0 (V:View) (b:Nat):(V.freeze b).m=V.m:=by
 unfold View.freeze
 split<;>rfl
theorem Mo (hS:SR V lo dO) (b:Nat):SR (V.freeze b) lo dO∧CJ lo V (V.freeze b)∧(∀g es e w,V.H[b]? = some (.row g es e w)→(V.freeze b).F (V.m b)):=by
 unfold View.freeze
 split
 case h_2 eW=>exact⟨hS,CJ.refl _ _,fun g es e w h=>absurd h (eW _ _ _ _)⟩
 rename_i g es e w hb
 have sW:=(List.getElem?_eq_some_iff.1 hb).1
 have hf:Ac V.H b=V.H.set b (.row g es e false):=by unfold Ac;rw[hb]
 rw[hf]
 have hU:Up V { V with H:=V.H.set b (.row g es e false),F:=fun q=>V.F q∨q=V.m b } :=
  ⟨fun _ h => .inl h,fun _ _=>rfl,by simp,fun a g' As e1 w1 aX ha=>by
   rcases fG sW ha with⟨rfl,h⟩ | ⟨_,h⟩
   ·cases h
    exact⟨g,es,w,hb,Nat.le_refl _,fun _=>rfl⟩
   ·exact⟨g',As,w1,h,Nat.le_refl _,fun _=>rfl⟩,rfl,Nat.le_refl _,fun a g1 As e1 w1 ha hm=>by
   rcases fG sW ha with⟨rfl,h⟩ | ⟨eW,h⟩
   ·cases h
    exact⟨g,es,w,hb,rfl,fun h=>by cases h⟩
   ·exact⟨g1,As,w1,h,rfl,id⟩⟩
 refine⟨⟨fun a g1 As e1 w1 ha => ?_,fun a g1 As e1 ha => ?_,fun a c g1 As e1 w1 g2 Vc e2 w2 ha hc hm => ?_,fun q hq => ?_,hS.QY,hS.JM⟩,
  { hU with eZ:=fun q hq hn=>rfl,Cx:=fun q hq => ?_ },fun _ _ _ _ _ => .inr rfl⟩
 ·rcases fG sW ha with⟨rfl,h⟩ | ⟨eW,h⟩
  ·cases h
   obtain⟨r1,p1,h1,h2,h3⟩:=hS.row _ _ _ _ _ hb
   exact⟨r1,p1,h1,h2,h3.mono hU⟩
  ·obtain⟨r1,p1,h1,h2,h3⟩:=hS.row _ _ _ _ _ h
   exact⟨r1,p1,h1,h2,h3.mono hU⟩
 ·rcases fG sW ha with⟨rfl,h⟩ | ⟨eW,h⟩
  ·cases h
  ·refine⟨fun hF => ?_,(hS.wr _ _ _ _ h).2⟩
   rcases hF with hF | hF
   ·exact(hS.wr _ _ _ _ h).1 hF
   ·exact eW (hS.inj _ _ _ _ _ _ _ _ _ _ h hb hF)
 ·rcases fG sW ha with⟨rfl,h⟩ | ⟨eW,h⟩<;>rcases fG sW hc with⟨rfl,h'⟩ | ⟨S0,h'⟩
  ·rfl
  ·exact hS.inj _ _ _ _ _ _ _ _ _ _ hb h' hm
  ·exact hS.inj _ _ _ _ _ _ _ _ _ _ h hb hm
  ·exact hS.inj _ _ _ _ _ _ _ _ _ _ h h' hm
 ·rcases hq with hq | hq
  ·exact hS.fr q hq
  ·subst hq;exact hS.mlt hb
 ·rcases hq with hq | hq
  ·exact .inl hq
  ·exact .inr (.inr ⟨b,g,es,e,w,hb,hq.symm⟩)
end
end Go.PM
namespace Go.PM
section
variable {V:View} {lo dO:Nat} {ρ:cR} {jE:Env}
def ER (V:View) (ρ:cR) (jE:Env):Prop:=∀t,VR V (ρ t) (jE t)
theorem ER.mono {V':View} (u:Up V V') (h:ER V ρ jE):ER V' ρ jE:=fun t=>(h t).mono u
theorem ER.ev (h:ER V ρ jE) (x:Operand):VR V (dI ρ x) (ev jE x):=by
 cases x with
 | tmp t=>exact h t
 | const v=>exact VR.inj v
 | global g=>exact .any _
 | func f=>exact .sY f [] [] .nil
theorem ER.put {d:Option Nat} {x:VV} {v:Value} (h:ER V ρ jE) (hx:VR V x v):ER V (HA ρ d x) (put jE d v):=by
 cases d with
 | none=>exact h
 |
  some d =>
  intro t
  simp only[HA,PM.put]
  split
  ·exact hx
  ·exact h t
theorem ER.evs (h:ER V ρ jE) (xs:List Operand):VL V (xs.map (dI ρ)) (xs.map (PM.ev jE)):=VL.map fun x _=>h.ev x
def fQ (lo dO:Nat) (V:View) (r:Option (Value×aD)) (v:VV) (H':aA):Prop :=
 ∃pv V',r=some (pv,V'.P)∧V'.H=H'∧SR V' lo dO∧CJ lo V V'∧VR V' v pv
theorem fQ.pure (hS:SR V lo dO) {r:Option Value} {v:VV} {pv:Value} (h:r=some pv) (hv:VR V v pv):fQ lo dO V (r.map (·,V.P)) v V.H :=
 ⟨pv,V,by rw[h];rfl,rfl,hS,CJ.refl _ _,hv⟩
theorem fQ.of {V':View} {pv:Value} {v:VV} (h:SR V' lo dO∧CJ lo V V') (hv:VR V' v pv):fQ lo dO V (some (pv,V'.P)) v V'.H:=⟨pv,V',rfl,rfl,h.1,h.2,hv⟩
theorem fQ.same (hS:SR V lo dO) {v:VV} {pv:Value} (hv:VR V v pv):fQ lo dO V (some (pv,V.P)) v V.H :=
 ⟨pv,V,rfl,rfl,hS,CJ.refl _ _,hv⟩
theorem bZ {α β:Type} {o:Option α} {f:α→β} {b:β} (h:o.map f=some b):∃a,o=some a∧f a=b:=by
 cases o with
 | none=>cases h
 | some a=>cases h;exact⟨a,rfl,rfl⟩
theorem pE {x:VV} {v u:Value} (h:VR V x u) (hx:x = .sc v):u=v∧lS v=true:=by
 subst hx
 cases h with
 | sc v h=>exact⟨rfl,h⟩
theorem XC {op:BinOp} {a b c:Value} (h:cX op a b=some c):lS c=true:=by
 unfold cX at h
 split at h
 ·split at h<;>cases h;rfl
 ·split at h<;>cases h;rfl
 ·split at h
  ·split at h<;>first | (cases h;rfl) | (split at h<;>cases h<;>rfl) | cases h
  ·cases h
 ·split at h<;>first | (cases h;rfl) | (split at h<;>cases h<;>rfl) | cases h
 ·cases h
theorem YI {op:UnOp} {a c:Value} (h:VO op a=some c):lS c=true:=by
 unfold VO at h
 split at h<;>cases h<;>rfl
theorem XW {n:Bool} {a b c:Value} (h:MS n a b=some c):lS c=true:=by
 unfold MS at h
 split at h<;>cases h;rfl
theorem XG {k:IntKind} {a c:Value} (h:Re k a=some c):lS c=true:=by
 unfold Re at h
 split at h<;>cases h;rfl
theorem Vi {a c:Value} (h:SX a=some c):lS c=true:=by
 unfold SX at h
 split at h<;>cases h;rfl
theorem Tt {a c:Value} (h:yD a=some c):lS c=true:=by
 unfold yD at h
 split at h<;>cases h;rfl
theorem Uz {a b c:Value} (h:EI a b=some c):lS c=true:=by
 unfold EI at h
 split at h
 ·split at h<;>cases h;rfl
 ·cases h
theorem Xc {a b c:Value} (h:PL a b=some c):lS c=true:=by
 unfold PL at h
 split at h<;>cases h;rfl
theorem Wg {a b c:Value} (h:PH a b=some c):lS c=true:=by
 unfold PH at h
 split at h<;>cases h;rfl
theorem Cb (hS:SR V lo dO) {f:Value→Option Value} (hf:∀a c,f a=some c→lS c=true) {x v:VV} {u:Value} (hx:VR V x u) (h:Io f x=some v):fQ lo dO V ((f u).map (·,V.P)) v V.H:=by
 unfold Io at h
 split at h
 ·obtain⟨h1,_⟩:=pE hx rfl
  subst h1
  obtain⟨c,hc,rfl⟩:=bZ h
  exact fQ.pure hS hc (.sc _ (hf _ _ hc))
 ·cases h
theorem yH (hS:SR V lo dO) {f:Value→Value→Option Value} (hf:∀a b c,f a b=some c→lS c=true) {x y v:VV} {u w:Value} (hx:VR V x u) (hy:VR V y w) (h:Fv f x y=some v):fQ lo dO V ((f u w).map (·,V.P)) v V.H:=by
 unfold Fv at h
 split at h
 ·obtain⟨h1,_⟩:=pE hx rfl
  obtain⟨h2,_⟩:=pE hy rfl
  subst h1 h2
  obtain⟨c,hc,rfl⟩:=bZ h
  exact fQ.pure hS hc (.sc _ (hf _ _ _ hc))
 ·cases h
theorem Qt {α:Type} (l:List α) {o n a k:Nat} (h:a+k≤n):(((l.drop o).take n).drop a).take k=(l.drop (o+a)).take k:=by
 rw[List.drop_take,List.take_take,List.drop_drop,Nat.min_eq_left (by omega)]
theorem Pd {x v:VV} {agg:Bool} {size off b o e:Nat} {r:List Value} {p:Bool} (hb:V.P[b]? = some (.row r e p)) (ho:o+(aB x).length≤r.length) (hl:VL V (aB x) ((r.drop o).take (aB x).length)) (h:dW agg size x off=some v) :
  ∃u,mC agg size (.pointer (some ⟨b,o+off,none⟩)) V.P=some u∧VR V v u:=by
 unfold dW at h
 cases agg with
 |
  true =>
  simp only[if_true] at h
  split at h
  ·rename_i hs
   cases h
   refine⟨.agg ((r.drop (o+off)).take size).toArray,?_,.agg _ _ ?_⟩
   ·simp only[mC,if_true,yM hb (show o+off+size≤r.length by omega)]
    rfl
   ·have:=(hl.drop off).take size
    rw[Qt _ hs] at this
    exact this
  ·cases h
 |
  false =>
  simp only[Bool.false_eq_true,if_false] at h
  obtain⟨u,hu,hv⟩:=hl.get h
  have adR:=(List.getElem?_eq_some_iff.1 h).1
  rw[List.getElem?_take,if_pos adR,List.getElem?_drop] at hu
  refine⟨u,?_,hv⟩
  have aX:=(List.getElem?_eq_some_iff.1 hu).1
  simp only[mC,Bool.false_eq_true,if_false,yM hb (show o+off+1≤r.length by omega)]
  rw[List.drop_eq_getElem_cons aX]
  simp only[List.take_succ_cons,List.take_zero]
  rw[List.getElem?_eq_getElem aX] at hu
  injection hu with hu
  rw[hu]
theorem Iw (hS:SR V lo dO) {b g e j:Nat} {es:List VV} {w:Bool} {x:VV} (hb:V.H[b]? = some (.row g es e w)) (hx:es[j]? = some x) :
  ∃r p,V.P[V.m b]? = some (.row r e p)∧(aB x).length=e∧j*e+(aB x).length≤r.length∧VL V (aB x) ((r.drop (j*e)).take (aB x).length):=by
 obtain⟨r,p,h1,h2,h3⟩:=hS.row b g es e w hb
 have hxe:=h2 x (List.mem_of_getElem? hx)
 have hj:=(List.getElem?_eq_some_iff.1 hx).1
 have hlen:=h3.length
 rw[iZ h2] at hlen
 have hm:(j+1)*e≤es.length*e:=Nat.mul_le_mul_right _ hj
 rw[Nat.succ_mul] at hm
 refine⟨r,p,h1,hxe,by omega,?_⟩
 have:=(h3.drop (j*e)).take e
 rw[IK h2 hx] at this
 rw[hxe]
 exact this
theorem Ja (hS:SR V lo dO) {p v:VV} {u:Value} {agg:Bool} {size:Nat} (hp:VR V p u) (h:dU agg size p V.H=some v):∃w,mC agg size u V.P=some w∧VR V v w:=by
 unfold dU at h
 split at h
 ·cases hp with
  | cO x off b o r e p hF hb ho hl=>exact Pd hb ho hl h
 ·split at h
  ·rename_i es e w hr
   rw[cM] at hr
   split at h
   ·rename_i x hx
    cases hp with
    |
     ptr b g j off a aX hg ha hq =>
     have:=ha _ _ _ hr
     subst this
     obtain⟨r,p,h1,h2,h3,h4⟩:=Iw hS hr hx
     exact Pd h1 h3 h4 h
   ·cases h
  ·cases h
 ·cases h
theorem NV (hS:SR V lo dO) {x i v:VV} {u k:Value} {size:Nat} (hx:VR V x u) (hi:VR V i k) (h:bE size x i V.H=some v):∃w,LW size u k=some w∧VR V v w:=by
 unfold bE at h
 split at h
 ·rename_i es tk ik i
  obtain⟨rfl,_⟩:=pE hi rfl
  split at h
  ·rename_i h0
   split at h
   ·rename_i y hy
    split at h
    ·rename_i Bc
     cases h
     have aX:=(List.getElem?_eq_some_iff.1 hy).1
     cases hx with
     | nC=>simp at aX
     |
      tree es k b o c r e p hF hb ho hc he hk hl =>
      have hye:=he y (List.mem_of_getElem? hy)
      have J6:e=size:=by omega
      subst J6
      have hm:(i.toNat+1)*e≤es.length*e:=Nat.mul_le_mul_right _ aX
      rw[Nat.succ_mul] at hm
      refine⟨_,ND h0 (by omega),?_⟩
      have h1:=(hl.drop (i.toNat*e)).take e
      rw[IK he hy,Qt _ (by omega)] at h1
      exact .cO y 0 b (o+i.toNat*e) r e p hF hb (by omega) (by rw[hye];exact h1)
    ·cases h
   ·cases h
  ·cases h
 ·rename_i b g o n c ik i
  obtain⟨rfl,_⟩:=pE hi rfl
  split at h
  ·rename_i es e w hr
   rw[cM] at hr
   split at h
   ·rename_i hc
    obtain⟨rfl,h0,h1⟩:=hc
    cases h
    cases hx with
    |
     ref b g o n c a n' c' aX hg ha hq =>
     obtain⟨rfl,rfl,rfl⟩:=ha _ _ _ hr
     refine⟨_,ND h0 h1,.ptr b g (o+i.toNat) 0 _ aX hg (fun lD e' w' Fo => ?_) fun a0 h=>by cases h;exact hq ⟨V.m b,o*e,none⟩ rfl⟩
     rw[hr] at Fo
     cases Fo
     rw[Nat.add_mul,Nat.add_zero]
   ·cases h
  ·cases h
 ·cases h
theorem yL {l:Option Operand} {lv:Option Value} (hE:ER V ρ jE) (h:D5 (l.map (dI ρ))=some lv):l.map (ev jE)=lv:=by
 cases l with
 | none=>cases h;rfl
 |
  some x =>
  simp only[Option.map_some,D5] at h
  split at h
  ·rename_i hv;cases hv
  ·rename_i v hv
   cases h
   injection hv with hv
   obtain⟨h1,_⟩:=pE (hE.ev x) hv
   rw[Option.map_some,h1]
  ·cases h
theorem F5 {v:Option Value} {d:Option Nat} {t x:Nat} (hd:∀y,d=some y→y≤t) (h:dR v d t=some x):x≤t:=by
 unfold dR at h
 split at h
 ·exact hd _ h
 ·split at h
  ·cases h;omega
  ·cases h
 ·cases h
theorem La {v:Option Value} {d d':Option Nat} {t t' x:Nat} (ht:t≤t') (hd:v=none→d=d') (h:dR v d t=some x):dR v d' t'=some x:=by
 unfold dR at h ⊢
 cases v with
 | none=>rw[←hd rfl];exact h
 |
  some v =>
  cases v with
  |
   int k i =>
   simp only at h ⊢
   split at h
   ·rename_i h1;rw[if_pos (by omega)];exact h
   ·cases h
  | _=>simp only at h ⊢;exact h
theorem Lm (hS:SR V lo dO) (size:Nat):fQ lo dO V (some (.slice (some ⟨V.P.length,0,none⟩) 0 0,V.P++[.row [] size false])) (.tree [] (.cl size)) V.H:=by
 exact(fQ.of (zS hS (.row [] size false)) (.tree [] (.cl size) V.P.length 0 0 [] size false (.inr rfl) (by simp) (by simp) (by simp) (fun x hx=>by cases hx) ⟨rfl,rfl,rfl⟩ (by simp;exact .nil)) :)
theorem Ut (hS:SR V lo dO) (hE:ER V ρ jE) {x v:VV} {u:Value} {size:Nat} {l h m:Option Operand} (hx:VR V x u) (hv:Ei size x (l.map (dI ρ)) (h.map (dI ρ)) (m.map (dI ρ)) V.H=some v) :
  fQ lo dO V (AQ size u (l.map (ev jE)) (h.map (ev jE)) (m.map (ev jE)) V.P) v V.H:=by
 unfold Ei at hv
 split at hv
 case h_2=>cases hv
 rename_i lv hhv mv hl hh hm
 rw[yL hE hl,yL hE hh,yL hE hm]
 split at hv
 ·rename_i y ys tk
  split at hv
  case isFalse=>cases hv
  rename_i Bc
  split at hv
  ·cases hv
  rename_i m0 Yg
  split at hv
  ·cases hv
  rename_i h0 hh0
  split at hv
  ·cases hv
  rename_i l0 xX
  cases hx with
  |
   tree es k b o c r e p hF hb ho hc he hk hl =>
   have J6:e=size:=by rw[←he y List.mem_cons_self];exact Bc
   subst J6
   have hlen:(y::ys).length=ys.length+1:=rfl
   rw[hlen] at ho hc
   have b1:m0≤ys.length+1:=F5 (fun z hz=>by injection hz with hz;omega) Yg
   have b2:h0≤m0:=by
    refine F5 (fun z hz => ?_) hh0
    split at hz
    ·cases hz
    ·rename_i hmn
     injection hz with hz
     have:mv=none:=by cases mv<;>simp_all
     subst this
     simp[dR] at Yg
     omega
   have b3:l0≤h0:=F5 (fun z hz=>by injection hz with hz;omega) xX
   have e1:dR mv (some c) c=some (if mv.isSome then m0 else c):=by
    cases mv with
    | none=>rfl
    | some q=>exact La hc (fun hq=>by cases hq) Yg
   have e2:dR hhv (if mv.isSome then none else some (ys.length+1)) (if mv.isSome then m0 else c)=some h0:=by
    cases mv with
    |
     none =>
     simp only[Option.isSome_none,Bool.false_eq_true,if_false] at hh0 ⊢
     exact La (by omega) (fun _=>rfl) hh0
    | some q=>exact hh0
   unfold AQ
   simp only[hb,if_true]
   rw[e1]
   simp only
   rw[hlen,e2]
   simp only
   rw[xX]
   simp only
   by_cases lO:mv.isSome=true∧m0=l0
   ·rw[if_pos lO] at hv
    cases hv
    rw[if_pos ⟨lO.1,by rw[if_pos lO.1];exact lO.2⟩]
    exact Lm hS e
   ·rw[if_neg lO] at hv
    cases hv
    rw[if_neg (fun hh=>lO ⟨hh.1,by have:=hh.2;rw[if_pos hh.1] at this;exact this⟩)]
    have aX:(((y::ys).drop l0).take (h0-l0)).length=h0-l0:=by simp;omega
    have Ms:l0*e+(h0-l0)*e=h0*e:=by rw[←Nat.add_mul];congr 1;omega
    have Ye:h0*e≤(ys.length+1)*e:=Nat.mul_le_mul_right _ (by omega)
    have M8:h0-l0≤(if mv.isSome then m0 else c)-l0:=by split<;>omega
    have:=VR.tree (V:=V) (((y::ys).drop l0).take (h0-l0)) .op b (o+l0*e) ((if mv.isSome then m0 else c)-l0) r e p hF hb (by rw[aX];omega) (by rw[aX];exact M8) (fun z hz=>he z (List.mem_of_mem_drop (List.mem_of_mem_take hz))) trivial (by
     rw[aX]
     have h1:=(hl.drop (l0*e)).take ((h0-l0)*e)
     rw[Qt _ (by rw[hlen];omega),rG he,rU (fun z hz=>he z (List.mem_of_mem_drop hz))] at h1
     exact h1)
    rw[aX] at this
    exact fQ.same hS this
 ·rename_i b g o n c
  split at hv
  case h_2=>cases hv
  rename_i es e w hr
  rw[cM] at hr
  split at hv
  case isFalse=>cases hv
  rename_i Bc
  subst Bc
  split at hv
  ·cases hv
  rename_i m0 Yg
  split at hv
  ·cases hv
  rename_i h0 hh0
  split at hv
  ·cases hv
  rename_i l0 xX
  cases hx with
  |
   ref b g o n c a n' c' aX hg ha hq =>
   obtain⟨rfl,rfl,rfl⟩:=ha _ _ _ hr
   obtain⟨r,p,h1,_⟩:=hS.row b g es e w hr
   unfold AQ
   simp only[h1,if_true]
   rw[Yg]
   simp only
   rw[hh0]
   simp only
   rw[xX]
   simp only
   by_cases lO:mv.isSome=true∧m0=l0
   ·rw[if_pos lO] at hv
    cases hv
    rw[if_pos lO]
    exact Lm hS e
   ·rw[if_neg lO] at hv
    cases hv
    rw[if_neg lO]
    refine fQ.same hS (.ref b g (o+l0) _ _ _ _ _ aX hg (fun lD e' w' Fo => ?_) fun a0 h=>by cases h;exact hq ⟨V.m b,o*e,none⟩ rfl)
    rw[hr] at Fo
    cases Fo
    exact⟨by rw[Nat.add_mul],rfl,rfl⟩
 ·cases hv
theorem yZ {es:List VV} (h:(es.all fun x=>(aB x).all cH)=true):(es.flatMap aB).all cH=true:=by
 rw[List.all_eq_true] at h ⊢
 intro x hx
 obtain⟨y,hy,AI⟩:=List.mem_flatMap.1 hx
 exact List.all_eq_true.1 (h y hy) x AI
theorem tS (hS:SR V lo dO) {y:VV} {u:Value} {size:Nat} {new:List VV} (hy:VR V y u) (h:eX size y V.H=some new) :
  qD u=some new.length∧(∀x∈new,(aB x).length=size)∧(new.flatMap aB).all cH=true∧∀n,n≤new.length→∃pn,iG V.P size n u=some pn∧VL V ((new.take n).flatMap aB) pn:=by
 unfold eX at h
 split at h
 ·rename_i es tk
  split at h
  case isFalse=>cases h
  rename_i kA
  cases h
  have Xo:∀x∈new,(aB x).length=size∧(aB x).all cH=true:=fun x hx=>by
   have:=List.all_eq_true.1 kA x hx
   simpa using this
  refine⟨?_,fun x hx=>(Xo x hx).1,yZ (List.all_eq_true.2 fun x hx=>(Xo x hx).2),fun n hn => ?_⟩
  ·cases hy<;>rfl
  ·cases hy with
   |
    nC k hk =>
    have:n=0:=by simpa using hn
    subst this
    exact⟨[],rfl,by simp;exact .nil⟩
   |
    tree es k b o c r e p hF hb ho hc he hk hl =>
    cases J6:new with
    |
     nil =>
     rw[J6] at hn
     have:n=0:=by simpa using hn
     subst this
     refine⟨[],?_,by simp;exact .nil⟩
     simp only[iG,Nat.zero_mul]
     rw[yM hb (by omega)]
     simp
    |
     cons x xs =>
     have M7:e=size:=by rw[←he x (by rw[J6];exact List.mem_cons_self)];exact(Xo x (by rw[J6];exact List.mem_cons_self)).1
     subst M7
     have hm:n*e≤new.length*e:=Nat.mul_le_mul_right _ hn
     refine⟨_,by simp only[iG];exact yM hb (by omega),?_⟩
     rw[←J6,←rU he]
     have h1:=hl.take (n*e)
     rw[List.take_take,Nat.min_eq_left hm] at h1
     exact h1
 ·rename_i b g o n c
  split at h
  case h_2=>cases h
  rename_i es e w hr
  rw[cM] at hr
  split at h
  case isFalse=>cases h
  rename_i hc
  obtain⟨rfl,hlen,kA⟩:=hc
  cases h
  obtain⟨r,p,h1,h2,h3⟩:=hS.row b g es e w hr
  have ZA:((es.drop o).take n).length=n:=by simp;omega
  have Ha:=h3.length
  rw[iZ h2] at Ha
  cases hy with
  |
   ref b g o n c a n' c' aX hg ha hq =>
   obtain⟨rfl,rfl,rfl⟩:=ha _ _ _ hr
   have Wr:∀x∈(es.drop o).take n',(aB x).length=e:=fun x hx=>h2 x (List.mem_of_mem_drop (List.mem_of_mem_take hx))
   refine⟨by rw[ZA];rfl,Wr,yZ kA,fun k hk => ?_⟩
   rw[ZA] at hk
   have hm:(o+k)*e≤es.length*e:=Nat.mul_le_mul_right _ (by omega)
   rw[Nat.add_mul] at hm
   refine⟨_,by simp only[iG];exact yM h1 (by omega),?_⟩
   rw[List.take_take,Nat.min_eq_left hk]
   have h4:=(h3.drop (o*e)).take (k*e)
   rw[rG h2,rU (fun x hx=>h2 x (List.mem_of_mem_drop hx))] at h4
   exact h4
 ·rename_i s
  split at h
  case isFalse=>cases h
  rename_i hs
  subst hs
  cases h
  obtain⟨rfl,_⟩:=pE hy rfl
  have hlen:(s.data.toList.map fun b=>VV.sc (.int .u8 (b.toNat:Int))).length=s.size:=by simp
  refine⟨by rw[hlen];rfl,fun x hx => ?_,?_,fun n hn => ?_⟩
  ·obtain⟨b,_,rfl⟩:=List.mem_map.1 hx
   rfl
  ·refine yZ (List.all_eq_true.2 fun x hx => ?_)
   obtain⟨b,_,rfl⟩:=List.mem_map.1 hx
   rfl
  ·refine⟨(s.data.toList.take n).map fun b=>Value.int .u8 (b.toNat:Int),by simp only[iG,if_true],?_⟩
   rw[←List.map_take,List.flatMap_map]
   have:((s.data.toList.take n).flatMap fun a=>aB (VV.sc (.int .u8 (a.toNat:Int))))=(s.data.toList.take n).map fun a=>VV.sc (.int .u8 (a.toNat:Int)):=by
    generalize s.data.toList.take n=l
    induction l with
    | nil=>rfl
    | cons a l ih=>rw[List.flatMap_cons,ih];rfl
   rw[this]
   exact VL.map fun b _ => .sc _ rfl
 ·cases h
end
end Go.PM
namespace Go.PM
section
variable {V:View} {lo dO:Nat} {ρ:cR} {jE:Env}
theorem HD (hS:SR V lo dO) {es:List VV} {r:List Value} {e n c:Nat} {p:Bool}:VR { V with m:=U1 V.m V.H.length V.P.length,H:=V.H++[.row 0 es e true],P:=V.P++[.row r e p] } (.ref V.H.length 0 0 n c) (.slice (some ⟨V.P.length,0,none⟩) n c):=by
 refine .ref _ _ _ _ _ _ _ _ (by simp) (fun g' es e w _=>Nat.zero_le _) (fun lD e' w' h=>⟨?_,rfl,rfl⟩) fun a0 ha => ?_
 ·simp only[jW,Nat.zero_mul]
 ·cases ha
  refine⟨hS.JM,by simp,fun b' g' lD e' w' hb eW hm => ?_⟩
  have xJ:(V.H++[iY.row 0 es e true])[b']? = some (.row g' lD e' w'):=hb
  have aX:b'<V.H.length:=by
   have:=(List.getElem?_eq_some_iff.1 xJ).1
   simp at this
   omega
  rw[List.getElem?_append_left aX] at xJ
  have h2:=hS.mlt xJ
  simp only[kW (show b'≠V.H.length by omega)] at hm
  omega
theorem RY (hS:SR V lo dO) {es:List VV} {r:List Value} {e:Nat} {p:Bool}:VR { V with m:=U1 V.m V.H.length V.P.length,H:=V.H++[.row 0 es e true],P:=V.P++[.row r e p] } (.ptr V.H.length 0 0 0) (.pointer (some ⟨V.P.length,0,none⟩)):=by
 refine .ptr _ _ _ _ _ (by simp) (fun g' es e w _=>Nat.zero_le _) (fun lD e' w' h => ?_) fun a0 ha => ?_
 ·simp only[jW,Nat.zero_mul]
 ·cases ha
  refine⟨hS.JM,by simp,fun b' g' lD e' w' hb eW hm => ?_⟩
  have xJ:(V.H++[iY.row 0 es e true])[b']? = some (.row g' lD e' w'):=hb
  have aX:b'<V.H.length:=by
   have:=(List.getElem?_eq_some_iff.1 xJ).1
   simp at this
   omega
  rw[List.getElem?_append_left aX] at xJ
  have h2:=hS.mlt xJ
  simp only[kW (show b'≠V.H.length by omega)] at hm
  omega
theorem D7 (hS:SR V lo dO) {x v:VV} {u:Value} {size bytes:Nat} {nw:List VV} {pn:List Value} {H':aA} (hx:VR V x u) (hn:∀x∈nw,(aB x).length=size) (AY:(nw.flatMap aB).all cH=true) (hl:VL V (nw.flatMap aB) pn) (h:gH lo size bytes x nw V.H=some (v,H')) :
  fQ lo dO V (dK dO size bytes u nw.length pn V.P) v H':=by
 unfold gH at h
 split at h
 case isFalse=>cases h
 rename_i Z1
 have JI:pn.length=nw.length*size:=by rw[hl.length,iZ hn]
 unfold dK
 rw[if_pos ⟨Z1.1,Z1.2,hl.fR AY,JI⟩]
 split at h
 ·cases hx with
  | tree es k b o c r e p hF hb ho hc he hk hl=>exact hk.elim
  |
   nC =>
   simp only[and_self,if_true]
   split at h
   ·rename_i h0
    cases h
    rw[if_pos h0]
    exact fQ.same hS (.nC _ (.inr rfl))
   ·rename_i h0
    split at h
    case isFalse=>cases h
    rename_i h1
    cases h
    rw[if_neg h0,if_pos h1]
    exact(fQ.of (pH hS (es:=nw) (r:=pn) (e:=size) true hn hl) (HD hS) :)
 ·rename_i es e
  split at h
  case isFalse=>cases h
  rename_i J6
  subst J6
  cases hx with
  | nC k hk=>rcases hk with hk | hk<;>cases hk
  |
   tree es k b o c r e' p hF hb ho hc he hk A5 =>
   obtain⟨h1,h2,h3⟩:=hk
   subst h1 h2 h3
   simp only[hb]
   rw[if_pos ⟨trivial,ho⟩]
   split at h
   ·rename_i h0
    cases h
    rw[if_pos (by omega),if_pos h0]
    exact fQ.same hS (.tree es _ b o _ r e false hF hb ho hc he ⟨rfl,rfl,rfl⟩ A5)
   ·rename_i h0
    split at h
    case isFalse=>cases h
    rename_i Bc
    cases h
    rw[if_neg (by omega),if_pos Bc]
    simp only[Bool.false_eq_true,if_false]
    have kA:∀x∈es++nw,(aB x).length=e:=fun x hx=>by
     rcases List.mem_append.1 hx with h | h
     ·exact he x h
     ·exact hn x h
    exact(fQ.of (pH hS (es:=es++nw) (r:=(r.drop o).take (es.length*e)++pn) (e:=e) true kA (by rw[List.flatMap_append];exact A5.append hl)) (HD hS) :)
 ·rename_i b g o n c
  split at h
  case h_2=>cases h
  rename_i es e hr
  rw[cM] at hr
  split at h
  case isFalse=>cases h
  rename_i hc
  obtain⟨rfl,gF,hon⟩:=hc
  obtain⟨r,p,h1,h2,h3⟩:=hS.row b g es e true hr
  have Ha:=h3.length
  rw[iZ h2] at Ha
  have C9:=(hS.wr b g es e hr).2 gF
  cases hx with
  |
   ref b g o n c a n' c' aX hg ha hq =>
   obtain⟨rfl,rfl,rfl⟩:=ha _ _ _ hr
   have hm:(o+n')*e≤es.length*e:=Nat.mul_le_mul_right _ hon
   rw[Nat.add_mul] at hm
   simp only[h1]
   rw[if_pos ⟨trivial,by omega⟩]
   split at h
   ·rename_i U0
    rw[if_pos U0]
    split at h
    ·rename_i h0
     cases h
     rw[if_pos h0]
     exact fQ.same hS (.ref _ _ _ _ _ _ _ _ aX hg ha hq)
    ·rename_i h0
     split at h
     case isFalse=>cases h
     rename_i uL
     cases h
     rw[if_neg h0]
     have Ye:(o+n'+nw.length)*e≤es.length*e:=Nat.mul_le_mul_right _ uL
     rw[Nat.add_mul,Nat.add_mul] at Ye
     have kA:∀x∈cL es (o+n') nw,(aB x).length=e:=fun x hx=>by
      rcases G7 hx with h | h
      ·exact h2 x h
      ·exact hn x h
     have CU:VL V ((cL es (o+n') nw).flatMap aB) (gX r (o*e+n'*e) pn):=by
      rw[←tP h2 hn,Nat.add_mul]
      exact h3.gX hl _
     obtain⟨g1,g2⟩:=BH hS hr gF kA CU h1
     refine⟨.slice (some ⟨V.m b,o*e,none⟩) (n'+nw.length) c',{ V with H:=V.H.set b (.row g (cL es (o+n') nw) e true),P:=V.P.set (V.m b) (.row (gX r (o*e+n'*e) pn) e p) },?_,rfl,g1,g2,?_⟩
     ·unfold aD.write
      simp only[h1]
      rw[if_pos ⟨C9,by omega,hl.fR AY⟩]
      rfl
     ·refine .ref _ _ _ _ _ _ _ _ (by simpa using aX) (fun g' lD e' w' Fo => ?_) (fun lD e' w' Fo => ?_) fun a0 h=>by cases h;exact g2.toUp.hq (hq _ rfl)
      ·rcases fG aX Fo with⟨_,h⟩ | ⟨h,_⟩
       ·cases h;exact Nat.le_refl _
       ·exact absurd rfl h
      ·rcases fG aX Fo with⟨_,h⟩ | ⟨h,_⟩
       ·cases h;exact⟨rfl,rfl,rfl⟩
       ·exact absurd rfl h
   ·rename_i U0
    split at h
    case isFalse=>cases h
    rename_i Bc
    cases h
    rw[if_neg U0,if_pos Bc]
    have kA:∀x∈(es.drop o).take n'++nw,(aB x).length=e:=fun x hx=>by
     rcases List.mem_append.1 hx with h | h
     ·exact h2 x (List.mem_of_mem_drop (List.mem_of_mem_take h))
     ·exact hn x h
    have CU:VL V (((es.drop o).take n'++nw).flatMap aB) ((r.drop (o*e)).take (n'*e)++pn):=by
     rw[List.flatMap_append]
     refine VL.append ?_ hl
     have h4:=(h3.drop (o*e)).take (n'*e)
     rw[rG h2,rU (fun x hx=>h2 x (List.mem_of_mem_drop hx))] at h4
     exact h4
    have fin:∀P1:aD,P1.length=V.P.length→(∀q,q≠V.m b→P1[q]? = V.P[q]?) →
      fQ lo dO V (some (.slice (some ⟨V.P.length,0,none⟩) (n'+nw.length) (n'+nw.length),P1++[.row ((r.drop (o*e)).take (n'*e)++pn) e true])) (.ref b (g+1) 0 (n'+nw.length) (n'+nw.length)) (V.H.set b (.row (g+1) ((es.drop o).take n'++nw) e true)):=by
     intro P1 hP hk
     refine(fQ.of (Q3 hS hr gF kA CU hP hk true) ?_ :)
     refine .ref _ _ _ _ _ _ _ _ (by simpa using aX) (fun g' lD e' w' Fo => ?_) (fun lD e' w' Fo => ?_) fun a0 h => ?_
     ·rcases fG aX Fo with⟨_,h⟩ | ⟨h,_⟩
      ·cases h;exact Nat.le_refl _
      ·exact absurd rfl h
     ·rcases fG aX Fo with⟨_,h⟩ | ⟨h,_⟩
      ·cases h;exact⟨by simp only[jW,Nat.zero_mul],rfl,rfl⟩
      ·exact absurd rfl h
     ·cases h
      refine⟨hS.JM,by simp[hP],fun b' g' lD e' w' hb eW hm => ?_⟩
      rcases fG aX hb with⟨h,_⟩ | ⟨_,h⟩
      ·exact eW h
      ·simp only[kW eW] at hm
       have:=hS.mlt h
       omega
    cases p with
    |
     true =>
     simp only[if_true,C9]
     exact fin (V.P.set (V.m b) .dead) (by simp) fun q hq=>List.getElem?_set_ne (Ne.symm hq)
    |
     false =>
     simp only[Bool.false_eq_true,if_false]
     exact fin V.P rfl fun _ _=>rfl
 ·cases h
theorem OU (hS:SR V lo dO) {p v:VV} {u w:Value} {size:Nat} {H':aA} (hp:VR V p u) (hv:VR V v w) (h:cQ lo size p v V.H=some H'):fQ lo dO V (Db dO size u w V.P) nX H':=by
 unfold cQ at h
 split at h
 case h_2=>cases h
 rename_i b g j o
 split at h
 case h_2=>cases h
 rename_i es e hr
 rw[cM] at hr
 split at h
 case h_2=>cases h
 rename_i x hx
 split at h
 case isFalse=>cases h
 rename_i hc
 obtain⟨Bc,gF,AY⟩:=hc
 obtain⟨r,q,h1,h2,h3⟩:=hS.row b g es e true hr
 have Ha:=h3.length
 rw[iZ h2] at Ha
 have C9:=(hS.wr b g es e hr).2 gF
 have hj:=(List.getElem?_eq_some_iff.1 hx).1
 have hxe:=h2 x (List.mem_of_getElem? hx)
 have hm:(j+1)*e≤es.length*e:=Nat.mul_le_mul_right _ hj
 rw[Nat.succ_mul] at hm
 have lO:=hv.cells (QS AY)
 have hwl:(aL w).length=size:=by rw[lO.length,Bc]
 cases hp with
 |
  ptr b g j off a aX hg ha hq =>
  have:=ha _ _ _ hr
  subst this
  have fin:∀y:VV,(aB y).length=e→o+size≤e→aB y=cL (aB x) o (aB v)→H'=V.H.set b (.row g (es.set j y) e true)→fQ lo dO V (Db dO size (.pointer (some ⟨V.m b,j*e+o,none⟩)) w V.P) nX H':=by
   intro y hy ho hye hH
   subst hH
   have kA:∀z∈es.set j y,(aB z).length=e:=fun z hz=>by
    rcases List.mem_or_eq_of_mem_set hz with h | h
    ·exact h2 z h
    ·subst h;exact hy
   have CU:VL V ((es.set j y).flatMap aB) (gX r (j*e+o) (aL w)):=by
    have e1:(es.set j y).flatMap aB=cL (es.flatMap aB) (j*e+o) (aB v):=by
     rw[←Gm hj,←tP h2 (new:=[y]) (fun z hz=>by rw[List.mem_singleton] at hz;subst hz;exact hy)]
     simp only[List.flatMap_cons,List.flatMap_nil,List.append_nil]
     rw[hye]
     have hx2:=IK h2 hx
     unfold cL
     have t1:(es.flatMap aB).take (j*e+o)=(es.flatMap aB).take (j*e)++(aB x).take o:=by
      rw[List.take_add,←hx2,List.take_take,Nat.min_eq_left (by omega)]
     have t2:(es.flatMap aB).drop (j*e+o+(aB v).length)=(aB x).drop (o+(aB v).length)++(es.flatMap aB).drop (j*e+e):=by
      have t0:(es.flatMap aB).drop (j*e+e)=((es.flatMap aB).drop (j*e+(o+(aB v).length))).drop (e-(o+(aB v).length)):=by
       rw[List.drop_drop]
       congr 1
       omega
      rw[←hx2,List.drop_take,List.drop_drop,t0,List.take_append_drop,Nat.add_assoc]
     rw[t1,t2]
     have t3:(List.take o (aB x)++aB v++List.drop (o+(aB v).length) (aB x)).length=e:=by
      simp;omega
     rw[t3]
     simp only[List.append_assoc]
    rw[e1]
    exact h3.gX lO _
   obtain⟨g1,g2⟩:=BH hS hr gF kA CU h1
   refine⟨undef,{ V with H:=V.H.set b (.row g (es.set j y) e true),P:=V.P.set (V.m b) (.row (gX r (j*e+o) (aL w)) e q) },?_,rfl,g1,g2,.eQ [] [] .nil⟩
   unfold Db
   simp only[hwl,if_true]
   unfold aD.write
   simp only[h1]
   rw[if_pos ⟨C9,by omega,lO.fR AY⟩]
   rfl
  split at h
  ·rename_i ho
   obtain⟨rfl,rfl⟩:=ho
   cases h
   refine fin v Bc (by omega) ?_ rfl
   unfold cL
   rw[Nat.zero_add,List.take_zero,List.nil_append,List.drop_of_length_le (by omega),List.append_nil]
  ·split at h
   case isFalse=>cases h
   rename_i ho
   cases h
   have Ps:(cL (aB x) o (aB v)).length=e:=by rw[OS (by omega)];exact hxe
   exact fin (.agg (cL (aB x) o (aB v))) Ps (by omega) rfl rfl
theorem Bi {z:List Value} (hz:(z.map iL).all cH=true):(aB (elemOf (z.map iL))).length=z.length:=by
 rw[lJ hz,List.length_map]
theorem Ap {z:List Value} (hz:(z.map iL).all cH=true):∀n,VL V ((List.replicate n (elemOf (z.map iL))).flatMap aB) (cI n z):=by
 intro n
 have AY:z.all fR=true:=(VL.zero (V:=V) z).fR hz
 have Vg:cI n z=(List.replicate n ()).flatMap fun _=>z:=by
  rcases Nat.eq_zero_or_pos z.length with h0 | jO
  ·have:z=[]:=List.length_eq_zero_iff.1 h0
   subst this
   simp[cI]
  ·exact NU (enc:=fun(_:Unit)=>z) (eR:=z.length) (x:=()) ⟨fun _=>rfl,fun _=>AY,jO⟩
 rw[Vg]
 clear Vg
 induction n with
 | zero=>exact .nil
 |
  succ n ih =>
  rw[List.replicate_succ,List.replicate_succ,List.flatMap_cons,List.flatMap_cons,lJ hz]
  exact(VL.zero z).append ih
theorem Ql (hS:SR V lo dO) {z:List Value} {bytes:Nat} {l c v:VV} {u w:Value} {H':aA} (hz:(z.map iL).all cH=true) (hl:VR V l u) (hc:VR V c w) (h:yK z bytes l c V.H=some (v,H')):fQ lo dO V (R1 z bytes u w V.P) v H':=by
 unfold yK at h
 split at h
 case h_2=>cases h
 obtain⟨rfl,_⟩:=pE hl rfl
 obtain⟨rfl,_⟩:=pE hc rfl
 split at h
 case isFalse=>cases h
 rename_i OL
 cases h
 unfold R1
 simp only[if_pos OL]
 exact(fQ.of (pH hS (e:=z.length) false (fun x hx=>by rw[List.eq_of_mem_replicate hx];exact Bi hz) (Ap hz _)) (HD hS) :)
theorem UC (hS:SR V lo dO) {z:List Value} (hz:(z.map iL).all cH=true):fQ lo dO V (some (.pointer (some ⟨V.P.length,0,none⟩),V.P++[.row z z.length false])) (.ptr V.H.length 0 0 0) (V.H++[.row 0 [elemOf (z.map iL)] z.length true]):=by
 exact(fQ.of (pH hS (es:=[elemOf (z.map iL)]) (r:=z) (e:=z.length) false (fun x hx=>by rw[List.mem_singleton] at hx;subst hx;exact Bi hz) (by simp only[List.flatMap_cons,List.flatMap_nil,List.append_nil,lJ hz];exact VL.zero z)) (RY hS) :)
theorem T8 (hS:SR V lo dO) {x v:VV} {u:Value} {H':aA} {bf:Bool} (hx:VR V x u) (hs:(aB x).all cH=true) (h:(if bf=true then some (VV.cO x 0,V.H) else some (VV.ptr V.H.length 0 0 0,V.H++[iY.row 0 [x] (aB x).length true]))=some (v,H')) :
  fQ lo dO V (if (aL u).all fR then some (.pointer (some ⟨V.P.length,0,none⟩),V.P++[.row (aL u) (aL u).length false]) else none) v H':=by
 have hc:=hx.cells (QS hs)
 rw[if_pos (hc.fR hs)]
 split at h
 ·cases h
  have g:=zS hS (.row (aL u) (aL u).length false)
  refine(fQ.of g ?_ :)
  have hm:=hc.mono g.2.toUp
  refine .cO x 0 V.P.length 0 (aL u) (aL u).length false (.inr rfl) (by simp) (by rw[hc.length];omega) ?_
  rw[List.drop_zero,List.take_of_length_le (by rw[hc.length];exact Nat.le_refl _)]
  exact hm
 ·cases h
  rw[hc.length]
  exact(fQ.of (pH hS (es:=[x]) (r:=aL u) (e:=(aB x).length) false (fun y hy=>by rw[List.mem_singleton] at hy;subst hy;rfl) (by simpa using hc)) (RY hS) :)
theorem take_set {α:Type} {l:List α} {i:Nat} {x:α} (h:i<l.length):l.set i x=l.take i++x::l.drop (i+1):=by
 rw[List.set_eq_take_append_cons_drop,if_pos h]
inductive Qk (V:View):List (Nat×VV)→List (Nat×Value)→Prop
 | nil:Qk V [] []
 | cons {i:Nat} {x:VV} {v:Value} {xs:List (Nat×VV)} {vs:List (Nat×Value)} (h:VR V x v) (hs:Qk V xs vs):Qk V ((i,x)::xs) ((i,v)::vs)
theorem CX {e n:Nat}:∀ {parts:List (Nat×VV)} {xS:List (Nat×Value)} {es lD:List VV} {r:List Value},es.length=n→(∀x∈es,(aB x).length=e)→VL V (es.flatMap aB) r →
  Qk V parts xS→tX e es parts=some lD→lD.length=n∧(∀x∈lD,(aB x).length=e)∧∃r',tH ((List.range n).map fun i=>(i*e,e)) r xS=some r'∧VL V (lD.flatMap aB) r'
 |
  [],_,es,lD,r,hn,he,hl,.nil,h=>by
  cases h
  exact⟨hn,he,r,rfl,hl⟩
 |
  (i,v)::parts,(_,w)::xS,es,lD,r,hn,he,hl,.cons hv hps,h=>by
  unfold tX at h
  split at h
  case isFalse=>cases h
  rename_i hc
  obtain⟨hi,hve,AY⟩:=hc
  have lO:=hv.cells (QS AY)
  have hwl:(aL w).length=e:=by rw[lO.length,hve]
  have Ha:=hl.length
  rw[iZ he] at Ha
  have hm:(i+1)*e≤es.length*e:=Nat.mul_le_mul_right _ hi
  rw[Nat.succ_mul] at hm
  have kA:∀x∈es.set i v,(aB x).length=e:=fun x hx=>by
   rcases List.mem_or_eq_of_mem_set hx with h | h
   ·exact he x h
   ·subst h;exact hve
  have CU:VL V ((es.set i v).flatMap aB) (r.take (i*e)++aL w++r.drop (i*e+e)):=by
   have h1:=hl.gX lO (i*e)
   have h2:=tP he (new:=[v]) (fun z hz=>by rw[List.mem_singleton] at hz;subst hz;exact hve) i
   simp only[List.flatMap_cons,List.flatMap_nil,List.append_nil] at h2
   rw[h2,Gm hi] at h1
   unfold gX at h1
   rw[hwl] at h1
   exact h1
  obtain⟨g1,g2,r',g3,g4⟩:=CX (n:=n) (by rw[List.length_set];exact hn) kA CU hps h
  refine⟨g1,g2,r',?_,g4⟩
  unfold tH
  have hr:((List.range n).map fun i=>(i*e,e))[i]? = some (i*e,e):=by simp[List.getElem?_range (show i<n by omega)]
  simp only[hr]
  rw[if_pos ⟨hwl,by omega⟩]
  exact g3
theorem Ga (hE:ER V ρ jE):∀parts:List (Nat×Operand),Qk V (parts.map fun(i,x)=>(i,dI ρ x)) (parts.map fun(i,x)=>(i,ev jE x))
 | [] => .nil
 | (i,x)::parts => .cons (hE.ev x) (Ga hE parts)
theorem EP {e:Nat}:∀ {parts:List (Nat×VV)} {es lD:List VV},(es.all fun x=>(aB x).all cH)=true→tX e es parts=some lD→(lD.all fun x=>(aB x).all cH)=true
 | [],es,lD,h,hf=>by cases hf;exact h
 |
  (i,v)::parts,es,lD,h,hf=>by
  unfold tX at hf
  split at hf
  case isFalse=>cases hf
  rename_i hc
  refine EP ?_ hf
  rw[List.all_eq_true] at h ⊢
  intro x hx
  rcases List.mem_or_eq_of_mem_set hx with h1 | h1
  ·exact h x h1
  ·subst h1;exact hc.2.2
theorem S5 (hS:SR V lo dO) {lr:Bool} {z:List Value} {n:Nat} {parts:List (Nat×VV)} {xS:List (Nat×Value)} {v:VV} {H':aA} (hp:Qk V parts xS) (h:rN lr z n parts V.H=some (v,H')):fQ lo dO V (YB z n xS V.P) v H':=by
 unfold rN at h
 split at h
 case h_2=>cases h
 rename_i es J6
 split at h
 case isFalse=>cases h
 rename_i hz
 obtain⟨g1,g2,r',g3,g4⟩:=CX (V:=V) (n:=n) (by simp) (fun x hx=>by rw[List.eq_of_mem_replicate hx];exact Bi hz) (Ap hz n) hp J6
 have AY:=EP (by
  rw[List.all_eq_true]
  intro x hx
  rw[List.eq_of_mem_replicate hx,lJ hz]
  exact hz) J6
 unfold YB
 simp only[g3]
 rw[if_pos (g4.fR (yZ AY))]
 split at h
 ·cases h
  exact(fQ.of (pH hS (e:=z.length) false g2 g4) (HD hS) :)
 ·cases h
  have k:=zS hS (.row r' z.length false)
  refine(fQ.of k ?_ :)
  have hm:=g4.mono k.2.toUp
  have Ha:=g4.length
  rw[iZ g2] at Ha
  subst g1
  refine .tree es _ V.P.length 0 es.length r' z.length false (.inr rfl) (by simp) (by omega) (Nat.le_refl _) g2 ⟨rfl,rfl,rfl⟩ ?_
  rw[List.drop_zero,List.take_of_length_le (by omega)]
  exact hm
theorem Lf (hS:SR V lo dO) {b g e o:Nat} {es nw:List VV} {pn:List Value} (hr:V.H[b]? = some (.row g es e true)) (gF:lo≤b) (uL:o+nw.length≤es.length) (hn:∀x∈nw,(aB x).length=e) (AY:(nw.flatMap aB).all cH=true) (hl:VL V (nw.flatMap aB) pn) :
  ∃V',V.P.write dO (V.m b) (o*e) pn=some V'.P∧V'.H=V.H.set b (.row g (cL es o nw) e true)∧SR V' lo dO∧CJ lo V V':=by
 obtain⟨r,q,h1,h2,h3⟩:=hS.row b g es e true hr
 have Ha:=h3.length
 rw[iZ h2] at Ha
 have C9:=(hS.wr b g es e hr).2 gF
 have JI:=hl.length
 rw[iZ hn] at JI
 have hm:(o+nw.length)*e≤es.length*e:=Nat.mul_le_mul_right _ uL
 rw[Nat.add_mul] at hm
 have kA:∀x∈cL es o nw,(aB x).length=e:=fun x hx=>by
  rcases G7 hx with h | h
  ·exact h2 x h
  ·exact hn x h
 have CU:VL V ((cL es o nw).flatMap aB) (gX r (o*e) pn):=by
  rw[←tP h2 hn]
  exact h3.gX hl _
 obtain⟨g1,g2⟩:=BH hS hr gF kA CU h1
 refine⟨{ V with H:=V.H.set b (.row g (cL es o nw) e true),P:=V.P.set (V.m b) (.row (gX r (o*e) pn) e q) },?_,rfl,g1,g2⟩
 unfold aD.write
 simp only[h1]
 rw[if_pos ⟨C9,by omega,hl.fR AY⟩]
theorem QI (hS:SR V lo dO) {x y v:VV} {u w:Value} {size:Nat} {H':aA} (hx:VR V x u) (hy:VR V y w) (h:Ls lo size x y V.H=some (v,H')):fQ lo dO V (copyV dO size u w V.P) v H':=by
 unfold Ls at h
 split at h
 ·rename_i new hs
  obtain⟨h1,_⟩:=tS hS hy hs
  cases h
  cases hx with
  | tree es k b o c r e p hF hb ho hc he hk hl=>exact hk.elim
  |
   nC =>
   unfold copyV
   simp only[h1]
   exact fQ.same hS (.sc _ rfl)
 ·rename_i b g o d c new hs
  obtain⟨h1,h2,h3,h4⟩:=tS hS hy hs
  split at h
  case h_2=>cases h
  rename_i es e hr
  rw[cM] at hr
  split at h
  case isFalse=>cases h
  rename_i hc
  obtain⟨rfl,gF,uL⟩:=hc
  cases h
  cases hx with
  |
   ref b g o n c a n' c' aX hg ha hq =>
   obtain⟨rfl,rfl,rfl⟩:=ha _ _ _ hr
   have YX:(new.take n').length=Nat.min new.length n':=by rw[List.length_take];exact Nat.min_comm _ _
   obtain⟨pn,h5,h6⟩:=h4 (Nat.min new.length n') (Nat.min_le_left _ _)
   have ht:new.take (Nat.min new.length n')=new.take n':=by
    rw[←YX,List.length_take,←List.take_take,List.take_length]
   rw[ht] at h6
   have Im:∀x∈new.take n',(aB x).length=e:=fun x hx=>h2 x (List.mem_of_mem_take hx)
   have AY:((new.take n').flatMap aB).all cH=true:=by
    rw[List.all_eq_true] at h3 ⊢
    intro x hx
    obtain⟨y,hy,AI⟩:=List.mem_flatMap.1 hx
    exact h3 x (List.mem_flatMap.2 ⟨y,List.mem_of_mem_take hy,AI⟩)
   obtain⟨V',k1,k2,k3,k4⟩:=Lf hS hr gF uL Im AY h6
   refine⟨.int .i64 (Nat.min new.length n'),V',?_,k2,k3,k4,?_⟩
   ·unfold copyV
    simp only[h1,h5,k1]
    rfl
   ·rw[YX]
    exact .sc _ rfl
 ·cases h
theorem OF (hS:SR V lo dO) {x:VV} {u:Value} {z:List Value} {H':aA} (hx:VR V x u) (h:Mq lo z x V.H=some H'):fQ lo dO V (MV dO z u V.P) nX H':=by
 unfold Mq at h
 split at h
 case h_2=>cases h
 rename_i b g o n c
 split at h
 case h_2=>cases h
 rename_i es e hr
 rw[cM] at hr
 cases hx with
 |
  ref b g o n c a n' c' aX hg ha hq =>
  obtain⟨rfl,rfl,rfl⟩:=ha _ _ _ hr
  unfold MV
  simp only
  split at h
  ·rename_i h0
   cases h
   rw[if_pos h0]
   exact fQ.same hS (.eQ [] [] .nil)
  ·rename_i h0
   rw[if_neg h0]
   split at h
   case isFalse=>cases h
   rename_i hc
   obtain⟨rfl,gF,uL,hz⟩:=hc
   cases h
   have Im:∀x∈List.replicate n' (elemOf (z.map iL)),(aB x).length=z.length:=fun x hx=>by rw[List.eq_of_mem_replicate hx];exact Bi hz
   obtain⟨V',k1,k2,k3,k4⟩:=Lf hS hr gF (nw:=List.replicate n' (elemOf (z.map iL))) (by simpa using uL) Im (yZ (by
    rw[List.all_eq_true]
    intro x hx
    rw[List.eq_of_mem_replicate hx,lJ hz]
    exact hz)) (Ap hz n')
   refine⟨undef,V',?_,k2,k3,k4,.eQ [] [] .nil⟩
   rw[k1]
   rfl
end
end Go.PM
namespace Go.PM
section
variable {V:View} {lo dO:Nat} {ρ:cR} {jE:Env}
theorem OX {x v:VV} {u:Value} {neg:Bool} (hx:VR V x u) (h:Dh neg x V.H=some v):∃w,WJ neg u=some w∧VR V v w:=by
 unfold Dh at h
 split at h
 ·cases h
  cases hx with
  | tree es k b o c r e p hF hb ho hc he hk hl=>exact hk.elim
  | nC=>exact⟨_,rfl,.sc _ rfl⟩
 ·cases h
  cases hx with
  | nC k hk=>rcases hk with hk | hk<;>cases hk
  | tree=>exact⟨_,rfl,.sc _ rfl⟩
 ·cases h
  cases hx with
  | tree=>exact⟨_,rfl,.sc _ rfl⟩
 ·obtain⟨⟨es,e,w⟩,hr,rfl⟩:=bZ h
  rw[cM] at hr
  cases hx with
  |
   ref b g o n c a n' c' aX hg ha hq =>
   obtain⟨rfl,rfl,rfl⟩:=ha _ _ _ hr
   exact⟨_,rfl,.sc _ rfl⟩
 ·cases h
theorem Un {x v:VV} {u:Value} (hx:VR V x u) (h:oG x V.H=some v):∃w,ahA u=some w∧VR V v w:=by
 unfold oG at h
 split at h
 ·cases h
  cases hx<;>exact⟨_,rfl,.sc _ rfl⟩
 ·obtain⟨⟨es,e,w⟩,hr,rfl⟩:=bZ h
  rw[cM] at hr
  cases hx with
  |
   ref b g o n c a n' c' aX hg ha hq =>
   obtain⟨rfl,rfl,rfl⟩:=ha _ _ _ hr
   exact⟨_,rfl,.sc _ rfl⟩
 ·cases h
theorem Pl {x v:VV} {u:Value} {off:Nat} (hx:VR V x u) (h:EX off x V.H=some v):∃w,U6 off u=some w∧VR V v w:=by
 unfold EX at h
 split at h
 ·cases h
  cases hx with
  | cO x off b o r e p hF hb ho hl=>exact⟨_,rfl,by rw[Nat.add_assoc];exact .cO _ _ b o r e p hF hb ho hl⟩
 ·obtain⟨⟨es,e,w⟩,hr,rfl⟩:=bZ h
  rw[cM] at hr
  cases hx with
  |
   ptr b g j off a aX hg ha hq =>
   have:=ha _ _ _ hr
   subst this
   refine⟨_,rfl,.ptr _ _ _ _ _ aX hg (fun lD e' w' Fo => ?_) fun a0 h=>by cases h;have:=hq _ rfl;exact this⟩
   rw[hr] at Fo
   cases Fo
   rw[Nat.add_assoc]
 ·cases h
theorem UM {x v:VV} {u:Value} (hx:VR V x u) (h:Uf x V.H=some v):∃w,agN u=some w∧VR V v w:=by
 unfold Uf at h
 split at h
 ·cases h
  cases hx with
  | cO x off b o r e p hF hb ho hl=>exact⟨_,rfl,.cO _ _ b o r e p hF hb ho hl⟩
 ·obtain⟨⟨es,e,w⟩,hr,rfl⟩:=bZ h
  rw[cM] at hr
  cases hx with
  |
   ptr b g j off a aX hg ha hq =>
   have:=ha _ _ _ hr
   subst this
   exact⟨_,rfl,.ptr _ _ _ _ _ aX hg ha hq⟩
 ·cases h
theorem Q6 {c a b v:VV} {u x y:Value} (hc:VR V c u) (ha:VR V a x) (hb:VR V b y) (h:Pf c a b=some v):∃t,u = .bool t∧VR V v (if t then x else y):=by
 unfold Pf at h
 split at h
 ·rename_i t
  cases h
  obtain⟨rfl,_⟩:=pE hc rfl
  refine⟨t,rfl,?_⟩
  cases t
  ·exact hb
  ·exact ha
 ·cases h
theorem T5 {x v:VV} {u:Value} {i:Nat} (hx:VR V x u) (h:Vf i x=some v):∃w,abH i u=some w∧VR V v w:=by
 unfold Vf at h
 split at h
 ·cases hx with
  |
   eQ cs ps hl =>
   obtain⟨w,hw,hv⟩:=hl.get h
   exact⟨w,by simpa[abH] using hw,hv⟩
 ·cases h
theorem Ub {x v:VV} {u:Value} {agg:Bool} {off size:Nat} (hx:VR V x u) (h:Y2 agg off size x=some v):∃w,Zj agg off size u=some w∧VR V v w:=by
 unfold Y2 at h
 split at h
 ·rename_i cs
  cases hx with
  |
   agg cs ps hl =>
   split at h
   ·rename_i ha
    split at h
    ·rename_i hs
     cases h
     refine⟨.agg ((ps.drop off).take size).toArray,?_,.agg _ _ ((hl.drop off).take size)⟩
     unfold Zj
     simp only[ha,if_true]
     rw[if_pos (by simpa[hl.length] using hs)]
     congr 2
     apply Array.ext'
     simp[List.extract_eq_take_drop]
    ·cases h
   ·rename_i ha
    obtain⟨w,hw,hv⟩:=hl.get h
    refine⟨w,?_,hv⟩
    unfold Zj
    simp only[ha]
    simpa using hw
 ·cases h
theorem JL {ks:List CK}:∀ {xs ys:List VV} {us ws:List Value} {t:Bool},VL V xs us→VL V ys ws→oI ks xs ys=some t→nF ks us ws=some t:=by
 induction ks with
 |
  nil =>
  intro xs ys us ws t h1 h2 h
  cases h1 with
  |
   nil=>cases h2 with
   | nil=>exact h
   | cons=>simp[oI] at h
  | cons=>simp[oI] at h
 |
  cons k ks ih =>
  intro xs ys us ws t h1 h2 h
  cases h1 with
  | nil=>simp[oI] at h
  |
   cons x u xs us hx M7=>cases h2 with
   | nil=>cases x<;>simp[oI] at h
   |
    cons y w ys ws hy hys =>
    cases hx with
    |
     sc _ _=>cases hy with
     |
      sc _ _ =>
      simp only[oI] at h
      simp only[nF]
      split at h
      ·rename_i h1
       rw[h1]
       exact ih M7 hys h
      ·rename_i h1
       rw[h1]
       exact h
      ·cases h
     | _=>simp[oI] at h
    | _=>simp[oI] at h
theorem Jo {places:List (Nat×Nat)}:∀ {parts:List (Nat×VV)} {xS:List (Nat×Value)} {cs xW:List VV} {r:List Value},VL V cs r→Qk V parts xS→vH places cs parts=some xW →
  ∃r',tH places r xS=some r'∧VL V xW r'
 | [],_,cs,xW,r,hl,.nil,h=>by cases h;exact⟨r,rfl,hl⟩
 |
  (i,v)::parts,(_,w)::xS,cs,xW,r,hl,.cons hv hps,h=>by
  unfold vH at h
  unfold tH
  split at h
  ·cases h
  ·rename_i off size JI
   simp only[JI]
   split at h
   case isFalse=>cases h
   rename_i hc
   have lO:=hv.cells (fun e=>by subst e;cases hc.2.2)
   rw[if_pos ⟨by rw[lO.length];exact hc.1,by rw[hl.length];exact hc.2.1⟩]
   exact Jo (((hl.take off).append lO).append (hl.drop _)) hps h
theorem Gi:∀ {es:List VV} {r:List Value} {bs:List UInt8},VL V (es.flatMap aB) r→Fh es=some bs→rQ r=some bs
 | [],_,bs,.nil,h=>h
 |
  x::es,r,bs,hl,h=>by
  unfold Fh at h
  split at h
  ·rename_i e;cases e
  ·rename_i n r' e
   cases e
   obtain⟨t,ht,rfl⟩:=bZ h
   rw[List.flatMap_cons] at hl
   cases hl with
   |
    cons _ u _ us hu hus =>
    obtain⟨rfl,_⟩:=pE hu rfl
    unfold rQ
    rw[Gi hus ht]
    rfl
  ·cases h
theorem lift {r:Option VV} {v:VV} {H':aA} {s:Option (Value×aD)} (h:r.map (·,V.H)=some (v,H')) (k:r=some v→fQ lo dO V s v V.H):fQ lo dO V s v H':=by
 obtain⟨a,ha,he⟩:=bZ h
 cases he
 exact k ha
theorem Tq (hS:SR V lo dO) (hE:ER V ρ jE) {fl:Fl} {o:lT} {v:VV} {H':aA} {q:Bool} (h:vop fl lo o ρ V.H=some (v,H')):fQ lo dO V (iV dO q o jE V.P) v H':=by
 cases o<;>simp only[vop] at h
 case mv x=>cases h;rw[Yk];exact fQ.same hS (hE.ev x)
 case pick c a b =>
  refine lift h fun h => ?_
  obtain⟨t,ht,hv⟩:=Q6 (hE.ev c) (hE.ev a) (hE.ev b) h
  rw[TA,ht]
  exact fQ.same hS hv
 case bin op x y=>rw[Wh];exact lift h fun h=>yH (f:=cX op) hS (fun _ _ _=>XC) (hE.ev x) (hE.ev y) h
 case eqb neg x y=>rw[Vh];exact lift h fun h=>yH (f:=MS neg) hS (fun _ _ _=>XW) (hE.ev x) (hE.ev y) h
 case isnil neg x =>
  rw[QW]
  refine lift h fun h => ?_
  obtain⟨w,h1,h2⟩:=OX (hE.ev x) h
  exact fQ.pure hS h1 h2
 case eqagg neg ks x y =>
  rw[Rf]
  refine lift h fun h => ?_
  unfold QD at h
  split at h
  case h_2=>cases h
  rename_i a b hx hy
  obtain⟨t,ht,rfl⟩:=bZ h
  have h1:=hE.ev x
  have h2:=hE.ev y
  rw[hx] at h1
  rw[hy] at h2
  generalize ev jE x=u at h1 ⊢
  generalize ev jE y=w at h2 ⊢
  cases h1 with
  |
   agg cs ps h1=>cases h2 with
   |
    agg xW ps' h2 =>
    refine fQ.pure hS (pv := .bool (t != neg)) ?_ (.sc _ rfl)
    unfold Wo
    simp only
    rw[JL h1 h2 ht]
    rfl
 case un op x=>rw[YF];exact lift h fun h=>Cb (f:=VO op) hS (fun _ _=>YI) (hE.ev x) h
 case cvt k x=>rw[Vy];exact lift h fun h=>Cb (f:=Re k) hS (fun _ _=>XG) (hE.ev x) h
 case cvs x =>
  have e:iV dO q (.cvs x) jE V.P=(SX (ev jE x)).map (·,V.P):=cW rfl
  rw[e];exact lift h fun h=>Cb (f:=SX) hS (fun _ _=>Vi) (hE.ev x) h
 case ext x i =>
  rw[WM]
  refine lift h fun h => ?_
  obtain⟨w,h1,h2⟩:=T5 (hE.ev x) h
  exact fQ.pure hS h1 h2
 case fld agg off size x =>
  rw[Xx]
  refine lift h fun h => ?_
  obtain⟨w,h1,h2⟩:=Ub (hE.ev x) h
  exact fQ.pure hS h1 h2
 case build zero places parts =>
  obtain⟨cs,Lo,he⟩:=bZ h
  cases he
  obtain⟨r,h1,h2⟩:=Jo (VL.zero zero) (Ga hE parts) Lo
  rw[QL,h1]
  exact fQ.same hS (.agg _ _ h2)
 case chk x =>
  rw[Vb]
  refine lift h fun h => ?_
  obtain⟨w,h1,h2⟩:=UM (hE.ev x) h
  exact fQ.pure hS h1 h2
 case faddr off x =>
  rw[Rq]
  refine lift h fun h => ?_
  obtain⟨w,h1,h2⟩:=Pl (hE.ev x) h
  exact fQ.pure hS h1 h2
 case iaddr size x i =>
  rw[Rc]
  refine lift h fun h => ?_
  obtain⟨w,h1,h2⟩:=NV hS (hE.ev x) (hE.ev i) h
  exact fQ.pure hS h1 h2
 case sidx x i =>
  have e:iV dO q (.sidx x i) jE V.P=(EI (ev jE x) (ev jE i)).map (·,V.P):=cW rfl
  rw[e];exact lift h fun h=>yH (f:=EI) hS (fun _ _ _=>Uz) (hE.ev x) (hE.ev i) h
 case ssub x l h' =>
  refine lift h fun h => ?_
  unfold sS at h
  split at h
  case h_2=>cases h
  rename_i s lv hv hx h1 h2
  split at h
  case h_2=>cases h
  rename_i a b DN
  cases h
  obtain⟨e1,_⟩:=pE (hE.ev x) hx
  have e:iV dO q (.ssub x l h') jE V.P=some (.string (s.extract a b),V.P):=by
   rw[cW rfl]
   simp only[gS,e1]
   rw[yL hE h1,yL hE h2,DN]
   rfl
  rw[e]
  exact fQ.same hS (.sc _ rfl)
 case mkfn f fA =>
  cases h
  rw[TT]
  exact fQ.same hS (.sY _ _ _ (hE.evs fA))
 case len x =>
  rw[XT]
  refine lift h fun h => ?_
  obtain⟨w,h1,h2⟩:=Un (hE.ev x) h
  exact fQ.pure hS h1 h2
 case slen x =>
  have e:iV dO q (.slen x) jE V.P=(yD (ev jE x)).map (·,V.P):=cW rfl
  rw[e];exact lift h fun h=>Cb (f:=yD) hS (fun _ _=>Tt) (hE.ev x) h
 case min x y=>rw[XB];exact lift h fun h=>yH (f:=PL) hS (fun _ _ _=>Xc) (hE.ev x) (hE.ev y) h
 case max x y=>rw[Ve];exact lift h fun h=>yH (f:=PH) hS (fun _ _ _=>Wg) (hE.ev x) (hE.ev y) h
 case load agg size p =>
  rw[Tr]
  refine lift h fun h => ?_
  obtain⟨w,h1,h2⟩:=Ja hS (hE.ev p) h
  exact fQ.pure hS h1 h2
 case sub size x l hh m =>
  rw[XX]
  exact lift h fun h=>Ut hS hE (hE.ev x) h
 case b2s x =>
  split at h
  ·cases h
  rename_i y eW
  split at h
  case h_2=>cases h
  rename_i es J6
  obtain⟨bs,Z1,he⟩:=bZ h
  cases he
  obtain⟨h1,h2,h3,h4⟩:=tS hS (hE.ev x) J6
  obtain⟨pn,h5,h6⟩:=h4 es.length (Nat.le_refl _)
  rw[List.take_length] at h6
  have hb:=Gi h6 Z1
  have hx:=hE.ev x
  have e:iV dO q (.b2s x) jE V.P=some (.string ⟨bs.toArray⟩,V.P):=by
   apply nJ
   simp only[pop]
   generalize ev jE x=u at *
   cases u<;>first | (exfalso;simp[qD] at h1;done) | skip
   case string s =>
    generalize dI ρ x=y at *
    cases hx with
    | any=>simp[eX] at J6
    | sc _ _=>exact absurd rfl (eW _)
   case slice a n c =>
    injection h1 with h1
    subst h1
    cases a with
    |
     none =>
     simp only[iG] at h5
     split at h5
     ·cases h5
      cases hb
      rfl
     ·cases h5
    |
     some a =>
     obtain⟨b,o,sp⟩:=a
     cases sp with
     | some s=>simp[iG] at h5
     |
      none =>
      simp only[iG,Nat.mul_one] at h5
      simp only[h5,hb]
      rfl
  rw[e]
  exact fQ.same hS (.sc _ rfl)
 case new zero =>
  split at h
  case isFalse=>cases h
  rename_i hz
  cases h
  rw[Wu]
  exact UC hS hz
 case box x =>
  split at h
  case isFalse=>cases h
  rename_i hs
  rw[XH]
  exact T8 hS (hE.ev x) hs h
 case make zero bytes l c =>
  split at h
  case isFalse=>cases h
  rename_i hz
  rw[Tg]
  exact Ql hS hz (hE.ev l) (hE.ev c) h
 case lit zero n parts =>
  rw[WC]
  exact S5 hS (Ga hE parts) h
 case store size p x =>
  obtain⟨a,ha,he⟩:=bZ h
  cases he
  rw[Qu]
  exact OU hS (hE.ev p) (hE.ev x) ha
 case app size bytes x y =>
  split at h
  case h_2=>cases h
  rename_i new hn
  obtain⟨h1,h2,h3,h4⟩:=tS hS (hE.ev y) hn
  obtain⟨pn,h5,h6⟩:=h4 new.length (Nat.le_refl _)
  rw[List.take_length] at h6
  rw[X0]
  unfold adD
  simp only[h1,h5]
  exact D7 hS (hE.ev x) h2 h3 h6 h
 case appz zero bytes x n =>
  split at h
  case h_2=>cases h
  rename_i k hk
  split at h
  case isFalse=>cases h
  rename_i hc
  obtain⟨e1,_⟩:=pE (hE.ev n) hk
  have Im:∀x∈List.replicate k.toNat (elemOf (zero.map iL)),(aB x).length=zero.length:=fun x hx=>by rw[List.eq_of_mem_replicate hx];exact Bi hc.2.2
  have:=D7 hS (hE.ev x) Im (yZ (by
    rw[List.all_eq_true]
    intro x hx
    rw[List.eq_of_mem_replicate hx,lJ hc.2.2]
    exact hc.2.2)) (Ap hc.2.2 _) h
  rw[List.length_replicate] at this
  rw[Ul]
  unfold Xq
  rw[e1]
  simp only[if_pos (show 0≤k∧k*(bytes:Int)≤140737488355328 from⟨hc.1,hc.2.1⟩)]
  exact this
 case copy size x y =>
  rw[Ty]
  exact QI hS (hE.ev x) (hE.ev y) h
 case clear zero x =>
  obtain⟨a,ha,he⟩:=bZ h
  cases he
  rw[Ra]
  exact OF hS (hE.ev x) ha
 all_goals cases h
end
end Go.PM
namespace Go.PM
def bare (F:Nat→Prop) (P:aD):View:=⟨fun _=>0,F,[],P,0⟩
theorem zG {es:List VV}:aJ es=true↔∀x∈es,aR x=true:=by
 induction es with
 | nil=>simp[aJ]
 | cons x xs ih=>simp[aJ,ih]
theorem A4 {x:VV} (h:aR x=true):aJ (aB x)=true:=by
 unfold aB
 split
 ·simpa[aR] using h
 ·simp[aJ,h]
theorem H8 {es:List VV} (h:aJ es=true):aJ (es.flatMap aB)=true:=by
 rw[zG] at h ⊢
 intro x hx
 obtain⟨y,hy,AI⟩:=List.mem_flatMap.1 hx
 exact zG.1 (A4 (h y hy)) x AI
theorem E6 {es:List VV} {k:TK} (h:aR (.tree es k)=true):k = .op∧aJ es=true∧uni es=true:=by
 simp only[aR,Bool.and_eq_true,decide_eq_true_eq] at h
 exact⟨h.1.1,h.1.2,h.2⟩
theorem Gq {x:VV} (h:aR x=true):x ≠ .any:=by
 rintro rfl
 cases h
theorem YA {es:List VV} (h:uni es=true):∃e,∀x∈es,(aB x).length=e:=by
 cases es with
 | nil=>exact⟨0,fun x hx=>by cases hx⟩
 |
  cons x xs =>
  refine⟨(aB x).length,fun y hy => ?_⟩
  rcases List.mem_cons.1 hy with rfl | hy
  ·rfl
  ·have:=List.all_eq_true.1 h y hy
   simpa using this
section
variable {V V':View}
theorem VR.pure {x:VV} {v:Value} (hF:∀b,V.F b→V'.F b∧V'.P[b]? = V.P[b]?) (h:VR V x v):aR x=true→VR V' x v:=by
 induction h using VR.rec (motive_2:=fun xs vs _=>aJ xs=true→VL V' xs vs) with
 | any=>intro hp;cases hp
 | sc _ h=>intro _;exact .sc _ h
 | agg cs ps _ ih=>intro hp;exact .agg _ _ (ih hp)
 | eQ cs ps _ ih=>intro hp;exact .eQ _ _ (ih hp)
 | nC k hk=>intro _;exact .nC k hk
 | tree es k b o c r e p QA hb ho hc he hk _ ih=>intro hp;exact .tree es k b o c r e p (hF _ QA).1 (by rw[(hF _ QA).2];exact hb) ho hc he hk (ih (H8 (E6 hp).2.1))
 | cO x off b o r e p QA hb ho _ ih=>intro hp;exact .cO x off b o r e p (hF _ QA).1 (by rw[(hF _ QA).2];exact hb) ho (ih (A4 hp))
 | ref=>intro hp;cases hp
 | ptr=>intro hp;cases hp
 | sY f fA ps _ ih=>intro hp;exact .sY _ _ _ (ih hp)
 | nil=>exact .nil
 |
  cons x v xs vs _ _ ih Tu =>
  rename_i hp
  simp only[aJ,Bool.and_eq_true] at hp
  exact .cons _ _ _ _ (ih hp.1) (Tu hp.2)
theorem VL.pure {xs:List VV} {vs:List Value} (hF:∀b,V.F b→V'.F b∧V'.P[b]? = V.P[b]?) (h:VL V xs vs) (hp:aJ xs=true):VL V' xs vs:=by
 induction xs generalizing vs with
 | nil=>cases h;exact .nil
 |
  cons x xs ih=>cases h with
  |
   cons _ v _ vs h hs =>
   simp only[aJ,Bool.and_eq_true] at hp
   exact .cons _ _ _ _ (h.pure hF hp.1) (ih hs hp.2)
theorem VL.flatten {es:List VV} {ps:List Value} (h:VL V es ps) (hp:aJ es=true):VL V (es.flatMap aB) (ps.flatMap aL):=by
 induction es generalizing ps with
 | nil=>cases h;exact .nil
 |
  cons x xs ih =>
  cases h with
  |
   cons _ v _ vs h hs =>
   simp only[aJ,Bool.and_eq_true] at hp
   rw[List.flatMap_cons,List.flatMap_cons]
   exact(h.cells (Gq hp.1)).append (ih hs hp.2)
theorem L3 {P P':aD} (h:P <+: P'):∀b,(bare (· < P.length) P).F b→(bare (· < P'.length) P').F b∧(bare (· < P'.length) P').P[b]? = (bare (· < P.length) P).P[b]? := by
 intro b hb
 obtain⟨L,rfl⟩:=h
 have xJ:b<P.length:=hb
 exact⟨by show b<(P++L).length;simp;omega,List.getElem?_append_left xJ⟩
mutual
theorem real (x:VV) (hp:aR x=true) (P:aD):∃P' pv,P <+: P'∧VR (bare (· < P'.length) P') x pv:=by
 cases x with
 | any=>cases hp
 | sc v=>exact⟨P,v,List.prefix_refl _,.sc v hp⟩
 |
  agg cs =>
  obtain⟨P',ps,h1,h2⟩:=KE cs hp P
  exact⟨P',_,h1,.agg _ _ h2⟩
 |
  eQ cs =>
  obtain⟨P',ps,h1,h2⟩:=KE cs hp P
  exact⟨P',_,h1,.eQ _ _ h2⟩
 |
  tree es k =>
  obtain⟨rfl,h1,h2⟩:=E6 hp
  obtain⟨P',ps,h3,h4⟩:=KE es h1 P
  obtain⟨e,he⟩:=YA h2
  have h5:=h4.flatten h1
  have hl:=h5.length
  rw[iZ he] at hl
  have AS:P' <+: P'++[J8.row (ps.flatMap aL) e false]:=List.prefix_append _ _
  refine⟨_,.slice (some ⟨P'.length,0,none⟩) es.length es.length,h3.trans AS,?_⟩
  refine .tree es .op P'.length 0 es.length (ps.flatMap aL) e false (show P'.length<(P'++[J8.row (ps.flatMap aL) e false]).length by simp) (by show (P'++[J8.row (ps.flatMap aL) e false])[P'.length]? = _;simp) (by omega) (Nat.le_refl _) he trivial ?_
  rw[List.drop_zero,List.take_of_length_le (by omega)]
  exact VL.pure (L3 AS) h5 (H8 h1)
 |
  cO x off =>
  obtain⟨P',pv,h3,h4⟩:=real x hp P
  have h5:=h4.cells (Gq hp)
  have AS:P' <+: P'++[J8.row (aL pv) (aL pv).length false]:=List.prefix_append _ _
  refine⟨_,.pointer (some ⟨P'.length,0+off,none⟩),h3.trans AS,?_⟩
  refine .cO x off P'.length 0 (aL pv) (aL pv).length false (show P'.length<(P'++[J8.row (aL pv) (aL pv).length false]).length by simp) (by show (P'++[J8.row (aL pv) (aL pv).length false])[P'.length]? = _;simp) (by rw[h5.length];omega) ?_
  rw[List.drop_zero,List.take_of_length_le (by rw[h5.length];exact Nat.le_refl _)]
  exact VL.pure (L3 AS) h5 (A4 hp)
 | ref=>cases hp
 | ptr=>cases hp
 |
  sY f fA =>
  obtain⟨P',ps,h1,h2⟩:=KE fA hp P
  exact⟨P',_,h1,.sY _ _ _ h2⟩
theorem KE (xs:List VV) (hp:aJ xs=true) (P:aD):∃P' ps,P <+: P'∧VL (bare (· < P'.length) P') xs ps:=by
 cases xs with
 | nil=>exact⟨P,[],List.prefix_refl _,.nil⟩
 |
  cons x xs =>
  simp only[aJ,Bool.and_eq_true] at hp
  obtain⟨P1,pv,h1,h2⟩:=real x hp.1 P
  obtain⟨P2,ps,h3,h4⟩:=KE xs hp.2 P1
  exact⟨P2,pv::ps,h1.trans h3,.cons _ _ _ _ (h2.pure (L3 h3) hp.1) h4⟩
end
theorem I1 {es:List VV}:pM es=true↔∀x∈es,gO x=true:=by
 induction es with
 | nil=>simp[pM]
 | cons x xs ih=>simp[pM,ih]
theorem BX {es:List VV} {k:TK} (h:gO (.tree es k)=true):k = .op∧pM es=true∧uni es=true∧es.all xR=true:=by
 simp only[gO,Bool.and_eq_true,decide_eq_true_eq] at h
 exact⟨h.1.1.1,h.1.1.2,h.1.2,h.2⟩
theorem QQ {x:VV} (h:gO x=true):pM (aB x)=true:=by
 unfold aB
 split
 ·simpa[gO] using h
 ·simp[pM,h]
theorem Lg {es:List VV} (h:pM es=true):pM (es.flatMap aB)=true:=by
 rw[I1] at h ⊢
 intro x hx
 obtain⟨y,hy,AI⟩:=List.mem_flatMap.1 hx
 exact I1.1 (QQ (h y hy)) x AI
mutual
theorem OJ (x:VV) (h:gO x=true):aR x=true:=by
 cases x with
 | sc v=>exact h
 | agg cs=>exact Cu cs h
 | eQ cs=>exact Cu cs h
 |
  tree es k =>
  obtain⟨h1,h2,h3,_⟩:=BX h
  simp[aR,h1,Cu es h2,h3]
 | any=>cases h
 | cO=>cases h
 | ref=>cases h
 | ptr=>cases h
 | sY=>cases h
theorem Cu (xs:List VV) (h:pM xs=true):aJ xs=true:=by
 cases xs with
 | nil=>rfl
 |
  cons x xs =>
  simp only[pM,Bool.and_eq_true] at h
  simp[aJ,OJ x h.1,Cu xs h.2]
end
theorem Oq {e:Nat}:∀ {es lD:List VV},(∀x∈es,(aB x).length=e)→(∀x∈lD,(aB x).length=e)→es.all xR=true→lD.all xR=true→es.length=lD.length→es.flatMap aB=lD.flatMap aB→es=lD
 | [],[],_,_,_,_,_,_=>rfl
 |
  x::es,y::lD,h1,h2,h3,h4,hl,h=>by
  rw[List.flatMap_cons,List.flatMap_cons] at h
  have hx:=h1 x List.mem_cons_self
  have hy:=h2 y List.mem_cons_self
  obtain⟨e1,e2⟩:=List.append_inj h (by omega)
  simp only[List.all_cons,Bool.and_eq_true] at h3 h4
  have AI:x=y:=by
   have g1:=h3.1
   have g2:=h4.1
   unfold aB at e1
   split at e1<;>split at e1
   ·rw[e1]
   ·rename_i cs _ _
    subst e1
    cases g1
   ·rename_i cs
    subst e1
    cases g2
   ·injection e1
  rw[AI,Oq (fun z hz=>h1 z (List.mem_cons_of_mem _ hz)) (fun z hz=>h2 z (List.mem_cons_of_mem _ hz)) h3.2 h4.2 (by simpa using hl) e2]
theorem VR.uniq {x y:VV} {v:Value} (h:VR V x v) (h':VR V y v) (hx:gO x=true) (hy:gO y=true):x=y:=by
 induction h using VR.rec (motive_2:=fun xs vs _=>∀ys,VL V ys vs→pM xs=true→pM ys=true→xs=ys) generalizing y with
 | any=>cases hx
 |
  sc _ h=>cases h' with
  | sc _ _=>rfl
  | any=>cases hy
  | agg=>cases h
  | eQ=>cases h
  | nC=>cases h
  | tree=>cases h
  | cO=>cases hy
  | ref=>cases hy
  | ptr=>cases hy
  | sY=>cases hy
 |
  agg cs ps h ih=>generalize hw:Value.agg ps.toArray=w at h';cases h' with
  | sc _ h'=>subst hw;cases h'
  | any=>cases hy
  |
   agg xW ps' h' =>
   injection hw with hw
   have:ps=ps':=by simpa using hw
   subst this
   rw[ih _ h' hx hy]
  | eQ=>cases hw
  | nC=>cases hw
  | tree=>cases hw
  | cO=>cases hy
  | ref=>cases hy
  | ptr=>cases hy
  | sY=>cases hy
 |
  eQ cs ps h ih=>generalize hw:Value.tuple ps.toArray=w at h';cases h' with
  | sc _ h'=>subst hw;cases h'
  | any=>cases hy
  |
   eQ xW ps' h' =>
   injection hw with hw
   have:ps=ps':=by simpa using hw
   subst this
   rw[ih _ h' hx hy]
  | agg=>cases hw
  | nC=>cases hw
  | tree=>cases hw
  | cO=>cases hy
  | ref=>cases hy
  | ptr=>cases hy
  | sY=>cases hy
 |
  nC k hk =>
  obtain⟨rfl,_⟩:=BX hx
  generalize hw:Value.slice none 0 0=w at h'
  cases h' with
  | sc _ h'=>subst hw;cases h'
  | any=>cases hy
  | nC k' ZI=>obtain⟨rfl,_⟩:=BX hy;rfl
  | agg=>cases hw
  | eQ=>cases hw
  | tree=>cases hw
  | cO=>cases hy
  | ref=>cases hy
  | ptr=>cases hy
  | sY=>cases hy
 |
  tree es k b o c r e p hF hb ho hc he hk hl ih =>
  obtain⟨rfl,hx1,hx2,hx3⟩:=BX hx
  generalize hw:Value.slice (some ⟨b,o,none⟩) es.length c=w at h'
  cases h' with
  | sc _ h'=>subst hw;cases h'
  | any=>cases hy
  | nC=>cases hw
  | agg=>cases hw
  | eQ=>cases hw
  |
   tree lD k' b' o' c' r' e' p' hF' xJ W5 hc' he' ZI A5 =>
   obtain⟨rfl,hy1,hy2,hy3⟩:=BX hy
   injection hw with h1 h2 h3
   injection h1 with h1
   injection h1 with h1 h4
   subst h1 h3 h4
   rw[hb] at xJ
   injection xJ with xJ
   injection xJ with g1 g2 g3
   subst g1 g2 g3
   rw[←h2] at A5
   rw[Oq he he' hx3 hy3 h2 (ih _ A5 (Lg hx1) (Lg hy1))]
  | cO=>cases hy
  | ref=>cases hy
  | ptr=>cases hy
  | sY=>cases hy
 | cO=>cases hx
 | ref=>cases hx
 | ptr=>cases hx
 | sY=>cases hx
 | nil=>rename_i h' _ _;cases h';rfl
 |
  cons x v xs vs _ _ ih Tu =>
  rename_i ys h' hx hy
  cases h' with
  |
   cons y _ ys _ h' hs' =>
   simp only[pM,Bool.and_eq_true] at hx hy
   rw[ih h' hx.1 hy.1,Tu _ hs' hx.2 hy.2]
end
end Go.PM
namespace Go.PM
section
variable {V:View} {lo dO:Nat}
theorem mQ {α β:Type} {f:α→Option β} {x:α} {xs:List α} {r:List β} (h:(x::xs).mapM f=some r):∃y ys,f x=some y∧xs.mapM f=some ys∧r=y::ys:=by
 rw[List.mapM_cons] at h
 cases hx:f x with
 | none=>rw[hx] at h;cases h
 |
  some y =>
  rw[hx] at h
  cases hs:xs.mapM f with
  | none=>rw[hs] at h;cases h
  | some ys=>rw[hs] at h;cases h;exact⟨y,ys,rfl,rfl,rfl⟩
theorem uO {α β:Type} {f:α→Option β}:∀ {xs:List α} {r:List β},xs.mapM f=some r→r.length=xs.length
 | [],r,h=>by cases h;rfl
 |
  x::xs,r,h=>by
  obtain⟨y,ys,_,h2,rfl⟩:=mQ h
  simp[uO h2]
theorem RX {d:Nat} {H:aA} {x x':VV} (h:fz d H x=some x'):(∃cs xW,x = .agg cs∧x' = .agg xW∧xW.length=cs.length)∨(aB x=[x]∧aB x'=[x']):=by
 cases d with
 | zero=>cases h
 |
  succ d =>
  unfold fz at h
  split at h
  ·cases h
   cases x with
   | agg cs=>exact .inl ⟨cs,cs,rfl,rfl,rfl⟩
   | _=>exact .inr ⟨rfl,rfl⟩
  ·split at h
   ·obtain⟨xW,h1,rfl⟩:=bZ h
    exact .inl ⟨_,_,rfl,rfl,uO h1⟩
   ·obtain⟨xW,h1,rfl⟩:=bZ h;exact .inr ⟨rfl,rfl⟩
   ·obtain⟨xW,h1,rfl⟩:=bZ h;exact .inr ⟨rfl,rfl⟩
   ·obtain⟨xW,h1,rfl⟩:=bZ h;exact .inr ⟨rfl,rfl⟩
   ·split at h
    ·split at h
     ·obtain⟨xW,h1,rfl⟩:=bZ h;exact .inr ⟨rfl,rfl⟩
     ·cases h
    ·cases h
   ·split at h
    ·split at h
     ·obtain⟨xW,h1,rfl⟩:=bZ h;exact .inr ⟨rfl,rfl⟩
     ·cases h
    ·cases h
   ·obtain⟨xW,h1,rfl⟩:=bZ h;exact .inr ⟨rfl,rfl⟩
   ·cases h
theorem LH {d:Nat} {H:aA} {x x':VV} (h:fz d H x=some x'):(aB x').length=(aB x).length:=by
 rcases RX h with⟨cs,xW,rfl,rfl,h'⟩ | ⟨h1,h2⟩
 ·exact h'
 ·rw[h1,h2];rfl
def K1 (V:View) (G:Nat→Prop) (ids:List Nat):Prop:=∀i∈ids,∀g es e w,V.H[i]? = some (.row g es e w)→G (V.m i)
theorem JE (hS:SR V lo dO) {G:Nat→Prop} (hG:∀q,V.F q→G q):∀(d:Nat) (v v':VV) (pv:Value),VR V v pv→fz d V.H v=some v'→K1 V G (iB d V.H v)→VR (bare G V.P) v' pv:=by
 have hFG:∀b,V.F b→(bare G V.P).F b∧(bare G V.P).P[b]? = V.P[b]? := fun b hb=>⟨hG b hb,rfl⟩
 intro d
 induction d with
 | zero=>intro v v' pv _ h;cases h
 |
  succ d ih =>
  have ihL:∀(xs EW:List VV) (ps:List Value),VL V xs ps→xs.mapM (fz d V.H)=some EW→K1 V G (xs.flatMap (iB d V.H))→VL (bare G V.P) EW ps:=by
   intro xs
   induction xs with
   | nil=>intro EW ps hl h _;cases h;cases hl;exact .nil
   |
    cons x xs ihx =>
    intro EW ps hl h hi
    obtain⟨y,ys,h1,h2,rfl⟩:=mQ h
    cases hl with
    |
     cons _ v _ vs hx M7 =>
     exact .cons _ _ _ _ (ih x y v hx h1 fun i AX=>hi i (by rw[List.flatMap_cons];exact List.mem_append_left _ AX)) (ihx ys vs M7 h2 fun i AX=>hi i (by rw[List.flatMap_cons];exact List.mem_append_right _ AX))
  have ihC:∀(x x':VV) (ps:List Value),VL V (aB x) ps→fz d V.H x=some x'→K1 V G (iB d V.H x)→VL (bare G V.P) (aB x') ps:=by
   intro x x' ps hl h hi
   rcases RX h with⟨cs,xW,rfl,rfl,lO⟩ | ⟨h1,h2⟩
   ·have:=ih _ _ (.agg ps.toArray) (.agg _ _ hl) h hi
    generalize hw:Value.agg ps.toArray=w at this
    cases this with
    |
     agg _ ps' A5 =>
     injection hw with hw
     have:ps=ps':=by simpa using hw
     subst this
     exact A5
   ·rw[h1] at hl
    rw[h2]
    cases hl with
    |
     cons _ v _ vs hx M7 =>
     cases M7
     exact .cons _ _ _ _ (ih _ _ _ hx h hi) .nil
  have ihF:∀(xs EW:List VV) (ps:List Value),VL V (xs.flatMap aB) ps→xs.mapM (fz d V.H)=some EW→K1 V G (xs.flatMap (iB d V.H))→VL (bare G V.P) (EW.flatMap aB) ps:=by
   intro xs
   induction xs with
   | nil=>intro EW ps hl h _;cases h;cases hl;exact .nil
   |
    cons x xs ihx =>
    intro EW ps hl h hi
    obtain⟨y,ys,h1,h2,rfl⟩:=mQ h
    rw[List.flatMap_cons] at hl ⊢
    have hlen:=hl.length
    have a1:=hl.take (aB x).length
    have a2:=hl.drop (aB x).length
    rw[List.take_left] at a1
    rw[List.drop_left] at a2
    rw[←List.take_append_drop (aB x).length ps]
    exact(ihC x y _ a1 h1 fun i AX=>hi i (by rw[List.flatMap_cons];exact List.mem_append_left _ AX)).append (ihx ys _ a2 h2 fun i AX=>hi i (by rw[List.flatMap_cons];exact List.mem_append_right _ AX))
  have agC:∀(xs EW:List VV) (e:Nat),xs.mapM (fz d V.H)=some EW→(∀x∈xs,(aB x).length=e)→∀x∈EW,(aB x).length=e:=by
   intro xs
   induction xs with
   | nil=>intro EW e h _ x hx;cases h;cases hx
   |
    cons x xs ihx =>
    intro EW e h he z hz
    obtain⟨y,ys,h1,h2,rfl⟩:=mQ h
    rcases List.mem_cons.1 hz with rfl | hz
    ·rw[LH h1];exact he x List.mem_cons_self
    ·exact ihx ys e h2 (fun w hw=>he w (List.mem_cons_of_mem _ hw)) z hz
  intro v v' pv hv h hi
  unfold fz at h
  unfold iB at hi
  split at h
  ·rename_i hp
   cases h
   exact hv.pure hFG hp
  ·rename_i hp
   rw[if_neg hp] at hi
   split at h
   ·obtain⟨xW,h1,rfl⟩:=bZ h
    cases hv with
    | agg cs ps hl=>exact .agg _ _ (ihL _ _ _ hl h1 hi)
   ·obtain⟨xW,h1,rfl⟩:=bZ h
    cases hv with
    | eQ cs ps hl=>exact .eQ _ _ (ihL _ _ _ hl h1 hi)
   ·obtain⟨xW,h1,rfl⟩:=bZ h
    cases hv with
    | nC k hk=>cases h1;exact .nC _ (.inl rfl)
    |
     tree es k b o c r e p hF hb ho hc he hk hl =>
     have hlen:=uO h1
     have:=VR.tree (V:=bare G V.P) xW .op b o c r e p (hG b hF) hb (by rw[hlen];exact ho) (by rw[hlen];exact hc) (agC _ _ _ h1 he) trivial (by rw[hlen];exact ihF _ _ _ hl h1 hi)
     rw[hlen] at this
     exact this
   ·obtain⟨x',h1,rfl⟩:=bZ h
    cases hv with
    |
     cO x off b o r e p hF hb ho hl =>
     have hlen:=LH h1
     exact .cO x' _ b o r e p (hG b hF) hb (by rw[hlen];exact ho) (by rw[hlen];exact ihC _ _ _ hl h1 hi)
   ·rename_i b g o n c
    split at h
    case h_2=>cases h
    rename_i es e w hr
    simp only[hr] at hi
    rw[cM] at hr
    split at h
    case isFalse=>cases h
    rename_i alV
    obtain⟨hon,Bf⟩:=alV
    obtain⟨lD,h1,rfl⟩:=bZ h
    obtain⟨r,p,k1,k2,k3⟩:=hS.row b g es e w hr
    have Ha:=k3.length
    rw[iZ k2] at Ha
    cases hv with
    |
     ref b g o n c a n' c' aX hg ha hq =>
     obtain⟨rfl,rfl,rfl⟩:=ha _ _ _ hr
     have Wr:∀x∈(es.drop o).take n',(aB x).length=e:=fun x hx=>k2 x (List.mem_of_mem_drop (List.mem_of_mem_take hx))
     have ZA:((es.drop o).take n').length=n':=by simp;omega
     have hlen:=uO h1
     rw[ZA] at hlen
     have hm:(o+n')*e≤es.length*e:=Nat.mul_le_mul_right _ hon
     rw[Nat.add_mul] at hm
     have hl:VL V (((es.drop o).take n').flatMap aB) ((r.drop (o*e)).take (n'*e)):=by
      have h4:=(k3.drop (o*e)).take (n'*e)
      rw[rG k2,rU (fun x hx=>k2 x (List.mem_of_mem_drop hx))] at h4
      exact h4
     have hGb:G (V.m b):=hi b List.mem_cons_self _ _ _ _ hr
     have:=VR.tree (V:=bare G V.P) lD .op (V.m b) (o*e) c' r e p hGb k1 (by rw[hlen];omega) (by rw[hlen];exact Bf) (agC _ _ _ h1 Wr) trivial (by rw[hlen];exact ihF _ _ _ hl h1 fun i AX=>hi i (List.mem_cons_of_mem _ AX))
     rw[hlen] at this
     exact this
   ·rename_i b g j o
    split at h
    case h_2=>cases h
    rename_i es e w hr
    simp only[hr] at hi
    rw[cM] at hr
    split at h
    case h_2=>cases h
    rename_i x hx
    simp only[hx] at hi
    obtain⟨x',h1,rfl⟩:=bZ h
    obtain⟨r,p,k1,k2,k3,k4⟩:=Iw hS hr hx
    cases hv with
    |
     ptr b g j off a aX hg ha hq =>
     have:=ha _ _ _ hr
     subst this
     have hlen:=LH h1
     exact .cO x' o (V.m b) (j*e) r e p (hi b List.mem_cons_self _ _ _ _ hr) k1 (by rw[hlen];exact k3) (by rw[hlen];exact ihC _ _ _ k4 h1 fun i AX=>hi i (List.mem_cons_of_mem _ AX))
   ·obtain⟨xW,h1,rfl⟩:=bZ h
    cases hv with
    | sY f fA ps hl=>exact .sY _ _ _ (ihL _ _ _ hl h1 hi)
   ·cases h
theorem Cs (hS:SR V lo dO) {G:Nat→Prop} (hG:∀q,V.F q→G q) {d:Nat}:∀ {xs EW:List VV} {ps:List Value},VL V xs ps→xs.mapM (fz d V.H)=some EW→K1 V G (xs.flatMap (iB d V.H))→VL (bare G V.P) EW ps
 | [],EW,ps,hl,h,_=>by cases h;cases hl;exact .nil
 |
  x::xs,EW,ps,hl,h,hi=>by
  obtain⟨y,ys,h1,h2,rfl⟩:=mQ h
  cases hl with
  |
   cons _ v _ vs hx M7 =>
   exact .cons _ _ _ _ (JE hS hG d x y v hx h1 fun i AX=>hi i (by rw[List.flatMap_cons];exact List.mem_append_left _ AX)) (Cs hS hG M7 h2 fun i AX=>hi i (by rw[List.flatMap_cons];exact List.mem_append_right _ AX))
def View.cJ (V:View) (ids:List Nat):View:=ids.foldl View.freeze V
theorem tB:∀(ids:List Nat) {V:View},SR V lo dO→SR (V.cJ ids) lo dO∧CJ lo V (V.cJ ids)∧(V.cJ ids).H=PM.cJ V.H ids∧(V.cJ ids).P=V.P∧(V.cJ ids).m=V.m∧K1 V (V.cJ ids).F ids
 | [],V,hS=>⟨hS,CJ.refl _ _,rfl,rfl,rfl,fun i hi=>by cases hi⟩
 |
  i::ids,V,hS=>by
  obtain⟨h1,h2,h3⟩:=Mo hS i
  obtain⟨g1,g2,g3,g4,g5,g6⟩:=tB ids h1
  refine⟨g1,h2.trans g2,?_,g4.trans (WI V i),g5.trans (O0 V i),?_⟩
  ·show ((V.freeze i).cJ ids).H=_
   rw[g3,Pw]
   rfl
  ·intro k hk g es e w hr
   show ((V.freeze i).cJ ids).F (V.m k)
   rcases List.mem_cons.1 hk with rfl | hk
   ·exact g2.F _ (h3 _ _ _ _ hr)
   ·have Fo:∃g es e w,(V.freeze i).H[k]? = some (.row g es e w):=by
     rw[Pw]
     unfold Ac
     split
     ·rename_i g' lD e' w' hi
      by_cases hki:k=i
      ·subst hki
       exact⟨g',lD,e',false,List.getElem?_set_self (List.getElem?_eq_some_iff.1 hi).1⟩
      ·exact⟨g,es,e,w,by rw[List.getElem?_set_ne (Ne.symm hki)];exact hr⟩
     ·exact⟨g,es,e,w,hr⟩
    obtain⟨g',lD,e',w',Fo⟩:=Fo
    have:=g6 k hk _ _ _ _ Fo
    rw[O0] at this
    exact this
end
end Go.PM