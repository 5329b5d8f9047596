/- Texts of a claim, in one: part 4. -/
import Derived.Test.YtodamlihdkalfaaGreatDoorKWc
set_option linter.unusedSimpArgs false
set_option linter.unusedVariables false
namespace Go.PM
structure View where
 m:Nat→Nat
 F:Nat→Prop
 H:aA
 P:aE
 base:Nat
def kindOk (k:TK) (n c e:Nat) (p:Bool):Prop :=
 match k with
 | .op=>True
 | .cl e'=>e'=e∧c=n∧p=false
 | .nil=>False
mutual
inductive VR (V:View):VV→Value→Prop
 | any (v:Value):VR V .any v
 | sc (v:Value) (h:nJ v=true):VR V (.sc v) v
 | agg (cs:List VV) (ps:List Value) (h:VL V cs ps):VR V (.agg cs) (.agg ps.toArray)
 | eG (cs:List VV) (ps:List Value) (h:VL V cs ps):VR V (.eG cs) (.tuple ps.toArray)
 | nK (k:TK) (hk:k = .op∨k = .nil):VR V (.tree [] k) (.slice none 0 0)
 | tree (es:List VV) (k:TK) (b o c:Nat) (r:List Value) (e:Nat) (p:Bool) (hF:V.F b) (hb:V.P[b]? = some (.row r e p)) (ho:o+es.length*e≤r.length)
  (hc:es.length≤c) (he:∀x∈es,(aB x).length=e) (hk:kindOk k es.length c e p) (hl:VL V (es.flatMap aB) ((r.drop o).take (es.length*e))) :
  VR V (.tree es k) (.slice (some ⟨b,o,none⟩) es.length c)
 | cP (x:VV) (off b o:Nat) (r:List Value) (e:Nat) (p:Bool) (hF:V.F b) (hb:V.P[b]? = some (.row r e p)) (ho:o+(aB x).length≤r.length)
  (hl:VL V (aB x) ((r.drop o).take (aB x).length)):VR V (.cP x off) (.pointer (some ⟨b,o+off,none⟩))
 | ref (b g o n c:Nat) (a:Option Addr) (n' c':Nat) (aX:b<V.H.length) (hg:∀g' es e w,V.H[b]? = some (.row g' es e w)→g≤g')
  (h:∀es e w,V.H[b]? = some (.row g es e w)→a=some ⟨V.m b,o*e,none⟩∧n'=n∧c'=c)
  (hq:∀a0,a=some a0→V.base≤a0.block∧a0.block<V.P.length∧∀b' g' es e w,V.H[b']? = some (.row g' es e w)→b'≠b→V.m b'≠a0.block):VR V (.ref b g o n c) (.slice a n' c')
 | ptr (b g j off:Nat) (a:Option Addr) (aX:b<V.H.length) (hg:∀g' es e w,V.H[b]? = some (.row g' es e w)→g≤g')
  (h:∀es e w,V.H[b]? = some (.row g es e w)→a=some ⟨V.m b,j*e+off,none⟩)
  (hq:∀a0,a=some a0→V.base≤a0.block∧a0.block<V.P.length∧∀b' g' es e w,V.H[b']? = some (.row g' es e w)→b'≠b→V.m b'≠a0.block):VR V (.ptr b g j off) (.pointer a)
 | uG (f:Nat) (fR:List VV) (ps:List Value) (h:VL V fR ps):VR V (.uG f fR) (.func (.func f) #[] ps.toArray)
inductive VL (V:View):List VV→List Value→Prop
 | nil:VL V [] []
 | cons (x:VV) (v:Value) (xs:List VV) (vs:List Value) (h:VR V x v) (hs:VL V xs vs):VL V (x::xs) (v::vs)
end
structure Up (V V':View):Prop where
 F:∀b,V.F b→V'.F b
 P:∀b,V.F b→V'.P[b]? = V.P[b]?
 len:V.H.length≤V'.H.length
 row:∀b g' mU e w',b<V.H.length→V'.H[b]? = some (.row g' mU e w')→∃g es w,V.H[b]? = some (.row g es e w)∧g≤g'∧(g'=g→V'.m b=V.m b)
 IU:V'.base=V.base
 DP:V.P.length≤V'.P.length
 A5:∀b g es e w,V'.H[b]? = some (.row g es e w)→V'.m b<V.P.length→∃g0 es0 w0,V.H[b]? = some (.row g0 es0 e w0)∧V'.m b=V.m b∧(w=true→w0=true)
section
variable {V V' QC:View}
theorem Up.refl (V:View):Up V V:=⟨fun _ h=>h,fun _ _=>rfl,Nat.le_refl _,fun b g es e w _ h=>⟨g,es,w,h,Nat.le_refl _,fun _=>rfl⟩,rfl,Nat.le_refl _,fun b g es e w h _=>⟨g,es,w,h,rfl,id⟩⟩
theorem Up.trans (h:Up V V') (h':Up V' QC):Up V QC :=
 ⟨fun b hb=>h'.F b (h.F b hb),fun b hb=>(h'.P b (h.F b hb)).trans (h.P b hb),Nat.le_trans h.len h'.len,fun b g es e w hb hr=>by
  obtain⟨g1,BO,w1,h1,h2,h3⟩:=h'.row b g es e w (Nat.lt_of_lt_of_le hb h.len) hr
  obtain⟨g2,YG,w2,h4,h5,h6⟩:=h.row b g1 BO e w1 hb h1
  exact⟨g2,YG,w2,h4,Nat.le_trans h5 h2,fun hg=>(h3 (by omega)).trans (h6 (by omega))⟩,h'.IU.trans h.IU,Nat.le_trans h.DP h'.DP,fun b g es e w hb hm=>by
   obtain⟨g1,BO,w1,h1,h2,h3⟩:=h'.A5 b g es e w hb (Nat.lt_of_lt_of_le hm h.DP)
   obtain⟨g2,YG,w2,h4,h5,h6⟩:=h.A5 b g1 BO e w1 h1 (by rw[←h2];exact hm)
   exact⟨g2,YG,w2,h4,h2.trans h5,fun hw=>h6 (h3 hw)⟩⟩
theorem Up.hq (u:Up V V') {b q:Nat} (h:V.base≤q∧q<V.P.length∧∀b' g' es e w,V.H[b']? = some (.row g' es e w)→b'≠b→V.m b'≠q):V'.base≤q∧q<V'.P.length∧∀b' g' es e w,V'.H[b']? = some (.row g' es e w)→b'≠b→V'.m b'≠q:=by
 refine⟨by rw[u.IU];exact h.1,Nat.lt_of_lt_of_le h.2.1 u.DP,fun b' g' es e w hb fQ hm => ?_⟩
 obtain⟨g0,es0,w0,h1,h2,_⟩:=u.A5 b' g' es e w hb (by rw[hm];exact h.2.1)
 exact h.2.2 b' _ _ _ _ h1 fQ (h2.symm.trans hm)
theorem VR.mono (u:Up V V') {x:VV} {v:Value} (h:VR V x v):VR V' x v:=by
 induction h using VR.rec (motive_2:=fun xs vs _=>VL V' xs vs) with
 | any=>exact .any _
 | sc _ h=>exact .sc _ h
 | agg cs ps _ ih=>exact .agg _ _ ih
 | eG cs ps _ ih=>exact .eG _ _ ih
 | nK k hk=>exact .nK k hk
 | tree es k b o c r e p hF hb ho hc he hk _ ih=>exact .tree es k b o c r e p (u.F _ hF) (by rw[u.P _ hF];exact hb) ho hc he hk ih
 | cP x off b o r e p hF hb ho _ ih=>exact .cP x off b o r e p (u.F _ hF) (by rw[u.P _ hF];exact hb) ho ih
 |
  ref b g o n c a n' c' aX hg h hq =>
  refine .ref b g o n c a n' c' (Nat.lt_of_lt_of_le aX u.len) (fun g' es e w hr => ?_) (fun es e w hr => ?_) fun a0 ha=>u.hq (hq a0 ha)
  ·obtain⟨g1,BO,w1,h1,h2,_⟩:=u.row b g' es e w aX hr
   exact Nat.le_trans (hg _ _ _ _ h1) h2
  ·obtain⟨g1,BO,w1,h1,h2,h3⟩:=u.row b g es e w aX hr
   have h4:=hg _ _ _ _ h1
   have h5:g=g1:=by omega
   subst h5
   rw[h3 rfl]
   exact h _ _ _ h1
 |
  ptr b g j off a aX hg h hq =>
  refine .ptr b g j off a (Nat.lt_of_lt_of_le aX u.len) (fun g' es e w hr => ?_) (fun es e w hr => ?_) fun a0 ha=>u.hq (hq a0 ha)
  ·obtain⟨g1,BO,w1,h1,h2,_⟩:=u.row b g' es e w aX hr
   exact Nat.le_trans (hg _ _ _ _ h1) h2
  ·obtain⟨g1,BO,w1,h1,h2,h3⟩:=u.row b g es e w aX hr
   have h4:=hg _ _ _ _ h1
   have h5:g=g1:=by omega
   subst h5
   rw[h3 rfl]
   exact h _ _ _ h1
 | uG f fR ps _ ih=>exact .uG _ _ _ ih
 | nil=>exact .nil
 | cons x v xs vs _ _ ih RC=>exact .cons _ _ _ _ ih RC
theorem VL.mono (u:Up V V') {xs:List VV} {vs:List Value} (h:VL V xs vs):VL V' xs vs:=by
 induction xs generalizing vs with
 | nil=>cases h;exact .nil
 |
  cons x xs ih=>cases h with
  | cons _ v _ vs h hs=>exact .cons _ _ _ _ (h.mono u) (ih hs)
end
section
variable {V:View} {xs ys:List VV} {vs ws:List Value}
theorem VL.length:∀ {xs:List VV} {vs:List Value},VL V xs vs→vs.length=xs.length
 | _,_,.nil=>rfl
 | _,_,.cons _ _ _ _ _ hs=>by simp[hs.length]
theorem VL.append:∀ {xs:List VV} {vs:List Value},VL V xs vs→VL V ys ws→VL V (xs++ys) (vs++ws)
 | _,_,.nil,h'=>h'
 | _,_,.cons _ _ _ _ h hs,h' => .cons _ _ _ _ h (hs.append h')
theorem VL.take (n:Nat):∀ {xs:List VV} {vs:List Value} ,VL V xs vs→VL V (xs.take n) (vs.take n):=by
 induction n with
 | zero=>intro xs vs _;simp;exact .nil
 |
  succ n ih=>intro xs vs h;cases h with
  | nil=>simp;exact .nil
  | cons x v xs vs h hs=>exact .cons _ _ _ _ h (ih hs)
theorem VL.drop (n:Nat):∀ {xs:List VV} {vs:List Value} ,VL V xs vs→VL V (xs.drop n) (vs.drop n):=by
 induction n with
 | zero=>intro xs vs h;simpa using h
 |
  succ n ih=>intro xs vs h;cases h with
  | nil=>simp;exact .nil
  | cons x v xs vs h hs=>exact ih hs
theorem VL.get (h:VL V xs vs) {i:Nat} {x:VV} (hx:xs[i]? = some x):∃v,vs[i]? = some v∧VR V x v:=by
 induction i generalizing xs vs with
 |
  zero=>cases h with
  | nil=>cases hx
  | cons y v xs vs h hs=>simp at hx;subst hx;exact⟨v,rfl,h⟩
 |
  succ i ih=>cases h with
  | nil=>cases hx
  | cons y v xs vs h hs=>exact ih hs (by simpa using hx)
theorem VL.map {α:Type} {f:α→VV} {g:α→Value}:∀ {l:List α},(∀x∈l,VR V (f x) (g x))→VL V (l.map f) (l.map g)
 | [],_ => .nil
 | x::l,h => .cons _ _ _ _ (h x (by simp)) (VL.map fun y hy=>h y (by simp[hy]))
theorem VL.replicate {x:VV} {v:Value} (h:VR V x v):∀n,VL V (List.replicate n x) (List.replicate n v)
 | 0 => .nil
 | n+1 => .cons _ _ _ _ h (VL.replicate h n)
theorem VL.iV {cs new:List VV} {ps pn:List Value} (h:VL V cs ps) (hn:VL V new pn) (o:Nat):VL V (cR cs o new) (iV ps o pn):=by
 unfold cR PM.iV
 rw[←hn.length]
 exact((h.take o).append hn).append (h.drop _)
theorem VR.jF (v:Value):VR V (jF v) v:=by
 unfold PM.jF
 split
 ·exact .nK _ (.inr rfl)
 ·split
  ·rename_i h;exact .sc _ h
  ·exact .any _
theorem VR.inj (v:Value):VR V (inj v) v:=by
 unfold PM.inj
 split
 ·rename_i cs
  have:(Value.agg cs) = .agg cs.toList.toArray:=by simp
  rw[this]
  refine .agg _ _ ?_
  have:=VL.map (V:=V) (f:=PM.jF) (g:=id) (l:=cs.toList) fun x _=>VR.jF x
  simpa using this
 ·rename_i vs
  split
  ·rename_i h
   have:vs=[].toArray:=by simpa using h
   rw[this]
   exact .eG _ _ .nil
  ·exact .any _
 ·exact VR.jF _
theorem VL.zero (z:List Value):VL V (z.map PM.jF) z:=by
 have:=VL.map (V:=V) (f:=PM.jF) (g:=id) (l:=z) fun x _=>VR.jF x
 simpa using this
theorem VR.cells {x:VV} {v:Value} (h:VR V x v) (hx:x ≠ .any):VL V (aB x) (aL v):=by
 cases h with
 | any=>exact absurd rfl hx
 |
  sc v h =>
  have:aL v=[v]:=by cases v<;>first | rfl | cases h
  rw[this]
  exact .cons _ _ _ _ (.sc v h) .nil
 | agg cs ps h=>simpa[aB,aL] using h
 | eG cs ps h=>exact .cons _ _ _ _ (.eG _ _ h) .nil
 | nK k hk=>exact .cons _ _ _ _ (.nK k hk) .nil
 | tree es k b o c r e p hF hb ho hc he hk hl=>exact .cons _ _ _ _ (.tree es k b o c r e p hF hb ho hc he hk hl) .nil
 | cP x off b o r e p hF hb ho hl=>exact .cons _ _ _ _ (.cP x off b o r e p hF hb ho hl) .nil
 | ref b g o n c a n' c' aX hg h hq=>exact .cons _ _ _ _ (.ref b g o n c a n' c' aX hg h hq) .nil
 | ptr b g j off a aX hg h hq=>exact .cons _ _ _ _ (.ptr b g j off a aX hg h hq) .nil
 | uG f fR ps h=>exact .cons _ _ _ _ (.uG _ _ _ h) .nil
theorem VR.gO {x:VV} {v:Value} (h:VR V x v) (hx:bU x=true):gO v=true:=by
 cases h with
 | sc v h=>cases v<;>first | rfl | cases h
 | any=>cases hx
 | agg=>cases hx
 | eG=>cases hx
 | _=>rfl
theorem VL.gO:∀ {xs:List VV} {vs:List Value},VL V xs vs→xs.all bU=true→vs.all PM.gO=true
 | _,_,.nil,_=>rfl
 |
  _,_,.cons _ _ _ _ h hs,hx=>by
  rw[List.all_cons,Bool.and_eq_true] at hx ⊢
  exact⟨h.gO hx.1,hs.gO hx.2⟩
theorem RX {x:VV} (h:(aB x).all bU=true):x ≠ .any:=by
 rintro rfl
 cases h
theorem kJ {es:List VV} {e:Nat} (he:∀x∈es,(aB x).length=e):(es.flatMap aB).length=es.length*e:=by
 induction es with
 | nil=>simp
 |
  cons x xs ih =>
  rw[List.flatMap_cons,List.length_append,ih fun y hy=>he y (List.mem_cons_of_mem _ hy),he x List.mem_cons_self,List.length_cons,Nat.succ_mul]
  omega
theorem uA {es:List VV} {e:Nat} (he:∀x∈es,(aB x).length=e) (i:Nat):(es.flatMap aB).drop (i*e)=(es.drop i).flatMap aB:=by
 induction i generalizing es with
 | zero=>simp
 |
  succ i ih =>
  cases es with
  | nil=>simp
  |
   cons x xs =>
   have hx:=he x List.mem_cons_self
   rw[List.flatMap_cons,List.drop_succ_cons,←ih fun y hy=>he y (List.mem_cons_of_mem _ hy),show (i+1)*e=(aB x).length+i*e by rw[hx,Nat.succ_mul];omega,List.drop_append]
   simp
theorem tM {es:List VV} {e:Nat} (he:∀x∈es,(aB x).length=e) (i:Nat):(es.flatMap aB).take (i*e)=(es.take i).flatMap aB:=by
 induction i generalizing es with
 | zero=>simp
 |
  succ i ih =>
  cases es with
  | nil=>simp
  |
   cons x xs =>
   have hx:=he x List.mem_cons_self
   rw[List.flatMap_cons,List.take_succ_cons,List.flatMap_cons,←ih fun y hy=>he y (List.mem_cons_of_mem _ hy),show (i+1)*e=(aB x).length+i*e by rw[hx,Nat.succ_mul];omega,List.take_append]
   simp
   exact List.take_of_length_le (by omega)
theorem I6 {es:List VV} {e:Nat} (he:∀x∈es,(aB x).length=e) {j:Nat} {x:VV} (hx:es[j]? = some x):((es.flatMap aB).drop (j*e)).take e=aB x:=by
 obtain⟨aX,Gk⟩:=List.getElem?_eq_some_iff.1 hx
 rw[uA he,List.drop_eq_getElem_cons aX,Gk,List.flatMap_cons,List.take_append,←he x (List.mem_of_getElem? hx)]
 simp
theorem vW {es new:List VV} {e:Nat} (he:∀x∈es,(aB x).length=e) (hn:∀x∈new,(aB x).length=e) (o:Nat):cR (es.flatMap aB) (o*e) (new.flatMap aB)=(cR es o new).flatMap aB:=by
 unfold cR
 rw[tM he,kJ hn,show o*e+new.length*e=(o+new.length)*e by rw[Nat.add_mul],uA he]
 simp
theorem HF {es:List VV} {j:Nat} {x:VV} (hj:j<es.length):cR es j [x]=es.set j x:=by
 unfold cR
 rw[List.set_eq_take_append_cons_drop,if_pos hj]
 simp
theorem Qj {cs new:List VV} {o:Nat} (h:o+new.length≤cs.length):(cR cs o new).length=cs.length:=by
 unfold cR
 simp
 omega
theorem HH {cs new:List VV} {o:Nat} {x:VV} (h:x∈cR cs o new):x∈cs∨x∈new:=by
 unfold cR at h
 rw[List.mem_append,List.mem_append] at h
 rcases h with(h | h) | h
 ·exact .inl (List.mem_of_mem_take h)
 ·exact .inr h
 ·exact .inl (List.mem_of_mem_drop h)
theorem nD {cs:List VV} (h:cs.all bU=true):aB (elemOf cs)=cs:=by
 unfold elemOf
 split
 ·rename_i x
  simp only[List.all_cons,List.all_nil,Bool.and_true] at h
  cases x<;>first | rfl | cases h
 ·rfl
theorem cO {H:aA} {b g:Nat} {es:List VV} {e:Nat} {w:Bool}:aK H b g=some (es,e,w)↔H[b]? = some (.row g es e w):=by
 unfold aK
 constructor
 ·intro h
  split at h
  ·rename_i hb
   split at h
   ·rename_i hg;subst hg;cases h;exact hb
   ·cases h
  ·cases h
 ·intro h
  rw[h]
  simp
end
structure SR (V:View) (lo dO:Nat):Prop where
 row:∀b g es e w,V.H[b]? = some (.row g es e w)→∃r p,V.P[V.m b]? = some (.row r e p)∧(∀x∈es,(aB x).length=e)∧VL V (es.flatMap aB) r
 wr:∀b g es e,V.H[b]? = some (.row g es e true)→¬V.F (V.m b)∧(lo≤b→dO≤V.m b)
 inj:∀a b g es e w g' mU e' w',V.H[a]? = some (.row g es e w)→V.H[b]? = some (.row g' mU e' w')→V.m a=V.m b→a=b
 fr:∀b,V.F b→b<V.P.length
 QQ:dO≤V.P.length
 IU:V.base≤V.P.length
structure DX (lo:Nat) (V V':View):Prop extends Up V V' where
 cZ:∀q,q<V.P.length→(∀b g es e,V.H[b]? = some (.row g es e true)→lo≤b→V.m b≠q)→V'.P[q]? = V.P[q]?
 B0:∀q,V'.F q→V.F q∨V.P.length≤q∨∃b g es e w,V.H[b]? = some (.row g es e w)∧V.m b=q
section
variable {V V' QC:View} {lo:Nat}
theorem DX.refl (lo:Nat) (V:View):DX lo V V :=
 { Up.refl V with cZ:=fun _ _ _=>rfl,B0:=fun _ h => .inl h }
theorem DX.trans (h:DX lo V V') (h':DX lo V' QC):DX lo V QC :=
 { Up.trans h.toUp h'.toUp with
  cZ:=fun q hq hn=>by
   rw[h'.cZ q (Nat.lt_of_lt_of_le hq h.DP) ?_,h.cZ q hq hn]
   intro b g es e hb hl hm
   obtain⟨g1,BO,w1,h1,h2,h3⟩:=h.A5 b g es e true hb (by rw[hm];exact hq)
   have:=h3 rfl
   subst this
   exact hn b g1 BO e h1 hl (h2.symm.trans hm)
  B0:=fun q hq=>by
   rcases h'.B0 q hq with h1 | h1 | ⟨b,g,es,e,w,h1,h2⟩
   ·exact h.B0 q h1
   ·exact .inr (.inl (Nat.le_trans h.DP h1))
   ·rcases Nat.lt_or_ge q V.P.length with hl | hl
    ·obtain⟨g1,BO,w1,h3,h4,_⟩:=h.A5 b g es e w h1 (by rw[h2];exact hl)
     exact .inr (.inr ⟨b,g1,BO,e,w1,h3,h4.symm.trans h2⟩)
    ·exact .inr (.inl hl) }
end
end Go.PM
namespace Go.PM
def VN (m:Nat→Nat) (b v:Nat):Nat→Nat:=fun k=>if k=b then v else m k
theorem lU {m:Nat→Nat} {b v:Nat}:VN m b v b=v:=by simp[VN]
theorem mB {m:Nat→Nat} {b v k:Nat} (h:k≠b):VN m b v k=m k:=by simp[VN,h]
section
variable {V:View} {lo dO:Nat}
theorem SR.mlt (hS:SR V lo dO) {b g e:Nat} {es:List VV} {w:Bool} (hb:V.H[b]? = some (.row g es e w)):V.m b<V.P.length:=by
 obtain⟨r,p,h,_⟩:=hS.row b g es e w hb
 exact(List.getElem?_eq_some_iff.1 h).1
theorem Bd (hS:SR V lo dO) (x:K1):SR { V with P:=V.P++[x],F:=fun q=>V.F q∨q=V.P.length } lo dO∧DX lo V { V with P:=V.P++[x],F:=fun q=>V.F q∨q=V.P.length }:=by
 have hU:Up V { V with P:=V.P++[x],F:=fun q=>V.F q∨q=V.P.length }:=⟨fun _ h => .inl h,fun b hb=>List.getElem?_append_left (hS.fr b hb),Nat.le_refl _,fun b g es e w _ h=>⟨g,es,w,h,Nat.le_refl _,fun _=>rfl⟩,rfl,by simp,fun b g es e w hb _=>⟨g,es,w,hb,rfl,id⟩⟩
 refine⟨⟨fun b g es e w hb => ?_,fun b g es e hb=>⟨fun hF => ?_,(hS.wr b g es e hb).2⟩,hS.inj,fun b hb => ?_,by have:=hS.QQ;simp;omega,by have:=hS.IU;simp;omega⟩,{ hU with cZ:=fun q hq _=>List.getElem?_append_left hq,B0:=fun q hq => ?_ }⟩
 ·obtain⟨r,p,h1,h2,h3⟩:=hS.row b g es e w hb
  exact⟨r,p,by rw[←h1];exact List.getElem?_append_left (hS.mlt hb),h2,h3.mono hU⟩
 ·rcases hF with hF | hF
  ·exact(hS.wr b g es e hb).1 hF
  ·have h1:V.m b=V.P.length:=hF
   have:=hS.mlt hb
   omega
 ·rcases hb with hb | hb
  ·have:=hS.fr b hb
   simp;omega
  ·subst hb;simp
 ·rcases hq with hq | hq
  ·exact .inl hq
  ·exact .inr (.inl (by omega))
theorem rK (hS:SR V lo dO) {es:List VV} {r:List Value} {e:Nat} (p:Bool) (he:∀x∈es,(aB x).length=e) (hl:VL V (es.flatMap aB) r) :
  SR { V with m:=VN V.m V.H.length V.P.length,H:=V.H++[.row 0 es e true],P:=V.P++[.row r e p] } lo dO∧DX lo V { V with m:=VN V.m V.H.length V.P.length,H:=V.H++[.row 0 es e true],P:=V.P++[.row r e p] }:=by
 have A5:∀b g mU e' w,(V.H++[eR.row 0 es e true])[b]? = some (.row g mU e' w)→(b=V.H.length∧g=0∧mU=es∧e'=e∧w=true)∨(b≠V.H.length∧V.H[b]? = some (.row g mU e' w)):=by
  intro b g mU e' w hb
  rcases Nat.lt_trichotomy b V.H.length with h | h | h
  ·rw[List.getElem?_append_left h] at hb
   exact .inr ⟨by omega,hb⟩
  ·subst h
   rw[List.getElem?_append_right (Nat.le_refl _)] at hb
   simp at hb
   obtain⟨h1,h2,h3,h4⟩:=hb
   exact .inl ⟨rfl,h1.symm,h2.symm,h3.symm,h4⟩
  ·rw[List.getElem?_eq_none (by simp;omega)] at hb
   cases hb
 have hU:Up V { V with m:=VN V.m V.H.length V.P.length,H:=V.H++[.row 0 es e true],P:=V.P++[.row r e p] } :=
  ⟨fun _ h=>h,fun b hb=>List.getElem?_append_left (hS.fr b hb),by simp,fun b g' mU e' w' aX hb=>by
   rcases A5 b g' mU e' w' hb with⟨h,_⟩ | ⟨h,hb⟩
   ·omega
   ·exact⟨g',mU,w',hb,Nat.le_refl _,fun _=>mB h⟩,rfl,by simp,fun b g mU e' w hb hm=>by
   rcases A5 b g mU e' w hb with⟨rfl,_⟩ | ⟨h,hb⟩
   ·simp only[lU] at hm
    omega
   ·exact⟨g,mU,w,hb,mB h,id⟩⟩
 refine⟨⟨fun b g mU e' w hb => ?_,fun b g mU e' hb => ?_,fun a b g BO e1 w1 g' YG e2 w2 ha hb hm => ?_,fun b hb=>by have:=hS.fr b hb;simp;omega,by have:=hS.QQ;simp;omega,by have:=hS.IU;simp;omega⟩,
  { hU with cZ:=fun q hq _=>List.getElem?_append_left hq,B0:=fun q hq => .inl hq }⟩
 ·rcases A5 b g mU e' w hb with⟨rfl,rfl,rfl,rfl,rfl⟩ | ⟨h,hb⟩
  ·exact⟨r,p,by simp only[lU];simp,he,hl.mono hU⟩
  ·obtain⟨r1,p1,h1,h2,h3⟩:=hS.row b g mU e' w hb
   refine⟨r1,p1,?_,h2,h3.mono hU⟩
   simp only[mB h]
   rw[List.getElem?_append_left (hS.mlt hb)]
   exact h1
 ·rcases A5 b g mU e' true hb with⟨rfl,_⟩ | ⟨h,hb⟩
  ·simp only[lU]
   exact⟨fun hF=>by have:=hS.fr _ hF;omega,fun _=>hS.QQ⟩
  ·simp only[mB h]
   exact hS.wr b g mU e' hb
 ·rcases A5 a g BO e1 w1 ha with⟨rfl,_⟩ | ⟨h,ha⟩
  ·rcases A5 b g' YG e2 w2 hb with⟨rfl,_⟩ | ⟨h',hb⟩
   ·rfl
   ·simp only[lU,mB h'] at hm
    have:=hS.mlt hb
    omega
  ·rcases A5 b g' YG e2 w2 hb with⟨rfl,_⟩ | ⟨h',hb⟩
   ·simp only[lU,mB h] at hm
    have:=hS.mlt ha
    omega
   ·simp only[mB h,mB h'] at hm
    exact hS.inj a b _ _ _ _ _ _ _ _ ha hb hm
theorem fZ {H:aA} {b:Nat} {x:eR} (hb:b<H.length) {a:Nat} {y:eR} (h:(H.set b x)[a]? = some y):(a=b∧y=x)∨(a≠b∧H[a]? = some y):=by
 by_cases he:a=b
 ·subst he
  rw[List.getElem?_set_self hb] at h
  cases h
  exact .inl ⟨rfl,rfl⟩
 ·rw[List.getElem?_set_ne (Ne.symm he)] at h
  exact .inr ⟨he,h⟩
theorem B5 (hS:SR V lo dO) {b g e:Nat} {es mU:List VV} {r':List Value} (hb:V.H[b]? = some (.row g es e true)) (iD:lo≤b) (he:∀x∈mU,(aB x).length=e) (hl:VL V (mU.flatMap aB) r') {r:List Value} {p:Bool} (hp:V.P[V.m b]? = some (.row r e p)) :
  SR { V with H:=V.H.set b (.row g mU e true),P:=V.P.set (V.m b) (.row r' e p) } lo dO∧DX lo V { V with H:=V.H.set b (.row g mU e true),P:=V.P.set (V.m b) (.row r' e p) }:=by
 have uR:=(List.getElem?_eq_some_iff.1 hb).1
 have KO:=hS.mlt hb
 have hU:Up V { V with H:=V.H.set b (.row g mU e true),P:=V.P.set (V.m b) (.row r' e p) } :=
  ⟨fun _ h=>h,fun q hq=>List.getElem?_set_ne (fun h=>(hS.wr b g es e hb).1 (by rw[h];exact hq)),by simp,fun a g' BO e1 w1 aX ha=>by
   rcases fZ uR ha with⟨rfl,h⟩ | ⟨_,h⟩
   ·cases h
    exact⟨g,es,true,hb,Nat.le_refl _,fun _=>rfl⟩
   ·exact⟨g',BO,w1,h,Nat.le_refl _,fun _=>rfl⟩,rfl,by simp,fun a g1 BO e1 w1 ha _=>by
   rcases fZ uR ha with⟨rfl,h⟩ | ⟨fQ,h⟩
   ·cases h
    exact⟨g,es,true,hb,rfl,fun _=>rfl⟩
   ·exact⟨g1,BO,w1,h,rfl,id⟩⟩
 refine⟨⟨fun a g1 BO e1 w1 ha => ?_,fun a g1 BO e1 ha => ?_,fun a c g1 BO e1 w1 g2 YG e2 w2 ha hc hm => ?_,fun q hq=>by have:=hS.fr q hq;simp;omega,by have:=hS.QQ;simp;omega,by have:=hS.IU;simp;omega⟩,
  { hU with cZ:=fun q hq hn=>List.getElem?_set_ne (hn b g es e hb iD),B0:=fun q hq => .inl hq }⟩
 ·rcases fZ uR ha with⟨rfl,h⟩ | ⟨fQ,h⟩
  ·cases h
   exact⟨r',p,List.getElem?_set_self KO,he,hl.mono hU⟩
  ·obtain⟨r1,p1,h1,h2,h3⟩:=hS.row a g1 BO e1 w1 h
   exact⟨r1,p1,by rw[←h1];exact List.getElem?_set_ne (fun hm=>fQ (hS.inj _ _ _ _ _ _ _ _ _ _ h hb hm.symm)),h2,h3.mono hU⟩
 ·rcases fZ uR ha with⟨rfl,h⟩ | ⟨fQ,h⟩
  ·cases h
   exact hS.wr _ _ _ _ hb
  ·exact hS.wr _ _ _ _ h
 ·rcases fZ uR ha with⟨rfl,h⟩ | ⟨fQ,h⟩<;>rcases fZ uR hc with⟨rfl,h'⟩ | ⟨Vu,h'⟩
  ·rfl
  ·exact hS.inj _ _ _ _ _ _ _ _ _ _ hb h' hm
  ·exact hS.inj _ _ _ _ _ _ _ _ _ _ h hb hm
  ·exact hS.inj _ _ _ _ _ _ _ _ _ _ h h' hm
theorem Sj (hS:SR V lo dO) {b g e:Nat} {es mU:List VV} {r':List Value} (hb:V.H[b]? = some (.row g es e true)) (iD:lo≤b) (he:∀x∈mU,(aB x).length=e) (hl:VL V (mU.flatMap aB) r') {P1:aE} (hP:P1.length=V.P.length) (hk:∀q,q≠V.m b→P1[q]? = V.P[q]?) (p:Bool) :
  SR { V with m:=VN V.m b V.P.length,H:=V.H.set b (.row (g+1) mU e true),P:=P1++[.row r' e p] } lo dO∧DX lo V { V with m:=VN V.m b V.P.length,H:=V.H.set b (.row (g+1) mU e true),P:=P1++[.row r' e p] }:=by
 have uR:=(List.getElem?_eq_some_iff.1 hb).1
 have KO:=hS.mlt hb
 have yU:∀q,q<V.P.length→q≠V.m b→(P1++[K1.row r' e p])[q]? = V.P[q]? := fun q hq hn=>by rw[List.getElem?_append_left (by omega)];exact hk q hn
 have hU:Up V { V with m:=VN V.m b V.P.length,H:=V.H.set b (.row (g+1) mU e true),P:=P1++[.row r' e p] } :=
  ⟨fun _ h=>h,fun q hq=>yU q (hS.fr q hq) (fun h=>(hS.wr b g es e hb).1 (by rw[←h];exact hq)),by simp,fun a g' BO e1 w1 aX ha=>by
   rcases fZ uR ha with⟨rfl,h⟩ | ⟨fQ,h⟩
   ·cases h
    exact⟨g,es,true,hb,by omega,fun h=>by omega⟩
   ·exact⟨g',BO,w1,h,Nat.le_refl _,fun _=>mB fQ⟩,rfl,by simp;omega,fun a g1 BO e1 w1 ha hm=>by
   rcases fZ uR ha with⟨rfl,h⟩ | ⟨fQ,h⟩
   ·simp only[lU] at hm
    omega
   ·exact⟨g1,BO,w1,h,mB fQ,id⟩⟩
 refine⟨⟨fun a g1 BO e1 w1 ha => ?_,fun a g1 BO e1 ha => ?_,fun a c g1 BO e1 w1 g2 YG e2 w2 ha hc hm => ?_,fun q hq=>by have:=hS.fr q hq;simp;omega,by have:=hS.QQ;simp;omega,by have:=hS.IU;simp;omega⟩,
  { hU with cZ:=fun q hq hn=>yU q hq (Ne.symm (hn b g es e hb iD)),B0:=fun q hq => .inl hq }⟩
 ·rcases fZ uR ha with⟨rfl,h⟩ | ⟨fQ,h⟩
  ·cases h
   refine⟨r',p,?_,he,hl.mono hU⟩
   simp only[lU]
   rw[←hP]
   simp
  ·obtain⟨r1,p1,h1,h2,h3⟩:=hS.row a g1 BO e1 w1 h
   refine⟨r1,p1,?_,h2,h3.mono hU⟩
   simp only[mB fQ]
   rw[yU _ (hS.mlt h) (fun hm=>fQ (hS.inj _ _ _ _ _ _ _ _ _ _ h hb hm))]
   exact h1
 ·rcases fZ uR ha with⟨rfl,h⟩ | ⟨fQ,h⟩
  ·cases h
   simp only[lU]
   exact⟨fun hF=>by have:=hS.fr _ hF;omega,fun _=>hS.QQ⟩
  ·simp only[mB fQ]
   exact hS.wr _ _ _ _ h
 ·rcases fZ uR ha with⟨rfl,h⟩ | ⟨fQ,h⟩<;>rcases fZ uR hc with⟨rfl,h'⟩ | ⟨Vu,h'⟩
  ·rfl
  ·simp only[lU,mB Vu] at hm
   have:=hS.mlt h'
   omega
  ·simp only[lU,mB fQ] at hm
   have:=hS.mlt h
   omega
  ·simp only[mB fQ,mB Vu] at hm
   exact hS.inj _ _ _ _ _ _ _ _ _ _ h h' hm
def View.freeze (V:View) (b:Nat):View :=
 match V.H[b]? with
 | some (.row _ _ _ _)=>{ V with H:=A3 V.H b,F:=fun q=>V.F q∨q=V.m b }
 | _=>V
theorem OA (V:View) (b:Nat):(V.freeze b).H=A3 V.H b:=by
 unfold View.freeze A3
 cases h:V.H[b]? with
 | none=>rfl
 | some x=>cases x<;>rfl
theorem WU (V:View) (b:Nat):(V.freeze b).P=V.P:=by
 unfold View.freeze
 split<;>rfl
theorem QH (V:View) (b:Nat):(V.freeze b).m=V.m:=by
 unfold View.freeze
 split<;>rfl
theorem M1 (hS:SR V lo dO) (b:Nat):SR (V.freeze b) lo dO∧DX lo V (V.freeze b)∧(∀g es e w,V.H[b]? = some (.row g es e w)→(V.freeze b).F (V.m b)):=by
 unfold View.freeze
 split
 case h_2 fQ=>exact⟨hS,DX.refl _ _,fun g es e w h=>absurd h (fQ _ _ _ _)⟩
 rename_i g es e w hb
 have uR:=(List.getElem?_eq_some_iff.1 hb).1
 have hf:A3 V.H b=V.H.set b (.row g es e false):=by unfold A3;rw[hb]
 rw[hf]
 have hU:Up V { V with H:=V.H.set b (.row g es e false),F:=fun q=>V.F q∨q=V.m b } :=
  ⟨fun _ h => .inl h,fun _ _=>rfl,by simp,fun a g' BO e1 w1 aX ha=>by
   rcases fZ uR ha with⟨rfl,h⟩ | ⟨_,h⟩
   ·cases h
    exact⟨g,es,w,hb,Nat.le_refl _,fun _=>rfl⟩
   ·exact⟨g',BO,w1,h,Nat.le_refl _,fun _=>rfl⟩,rfl,Nat.le_refl _,fun a g1 BO e1 w1 ha hm=>by
   rcases fZ uR ha with⟨rfl,h⟩ | ⟨fQ,h⟩
   ·cases h
    exact⟨g,es,w,hb,rfl,fun h=>by cases h⟩
   ·exact⟨g1,BO,w1,h,rfl,id⟩⟩
 refine⟨⟨fun a g1 BO e1 w1 ha => ?_,fun a g1 BO e1 ha => ?_,fun a c g1 BO e1 w1 g2 YG e2 w2 ha hc hm => ?_,fun q hq => ?_,hS.QQ,hS.IU⟩,
  { hU with cZ:=fun q hq hn=>rfl,B0:=fun q hq => ?_ },fun _ _ _ _ _ => .inr rfl⟩
 ·rcases fZ uR ha with⟨rfl,h⟩ | ⟨fQ,h⟩
  ·cases h
   obtain⟨r1,p1,h1,h2,h3⟩:=hS.row _ _ _ _ _ hb
   exact⟨r1,p1,h1,h2,h3.mono hU⟩
  ·obtain⟨r1,p1,h1,h2,h3⟩:=hS.row _ _ _ _ _ h
   exact⟨r1,p1,h1,h2,h3.mono hU⟩
 ·rcases fZ uR ha with⟨rfl,h⟩ | ⟨fQ,h⟩
  ·cases h
  ·refine⟨fun hF => ?_,(hS.wr _ _ _ _ h).2⟩
   rcases hF with hF | hF
   ·exact(hS.wr _ _ _ _ h).1 hF
   ·exact fQ (hS.inj _ _ _ _ _ _ _ _ _ _ h hb hF)
 ·rcases fZ uR ha with⟨rfl,h⟩ | ⟨fQ,h⟩<;>rcases fZ uR hc with⟨rfl,h'⟩ | ⟨Vu,h'⟩
  ·rfl
  ·exact hS.inj _ _ _ _ _ _ _ _ _ _ hb h' hm
  ·exact hS.inj _ _ _ _ _ _ _ _ _ _ h hb hm
  ·exact hS.inj _ _ _ _ _ _ _ _ _ _ h h' hm
 ·rcases hq with hq | hq
  ·exact hS.fr q hq
  ·subst hq;exact hS.mlt hb
 ·rcases hq with hq | hq
  ·exact .inl hq
  ·exact .inr (.inr ⟨b,g,es,e,w,hb,hq.symm⟩)
end
end Go.PM
namespace Go.PM
section
variable {V:View} {lo dO:Nat} {ρ:cG} {kL:Env}
def ER (V:View) (ρ:cG) (kL:Env):Prop:=∀t,VR V (ρ t) (kL t)
theorem ER.mono {V':View} (u:Up V V') (h:ER V ρ kL):ER V' ρ kL:=fun t=>(h t).mono u
theorem ER.ev (h:ER V ρ kL) (x:Operand):VR V (dY ρ x) (ev kL x):=by
 cases x with
 | tmp t=>exact h t
 | const v=>exact VR.inj v
 | global g=>exact .any _
 | func f=>exact .uG f [] [] .nil
theorem ER.put {d:Option Nat} {x:VV} {v:Value} (h:ER V ρ kL) (hx:VR V x v):ER V (Ir ρ d x) (put kL d v):=by
 cases d with
 | none=>exact h
 |
  some d =>
  intro t
  simp only[Ir,PM.put]
  split
  ·exact hx
  ·exact h t
theorem ER.evs (h:ER V ρ kL) (xs:List Operand):VL V (xs.map (dY ρ)) (xs.map (PM.ev kL)):=VL.map fun x _=>h.ev x
def gP (lo dO:Nat) (V:View) (r:Option (Value×aE)) (v:VV) (H':aA):Prop :=
 ∃pv V',r=some (pv,V'.P)∧V'.H=H'∧SR V' lo dO∧DX lo V V'∧VR V' v pv
theorem gP.pure (hS:SR V lo dO) {r:Option Value} {v:VV} {pv:Value} (h:r=some pv) (hv:VR V v pv):gP lo dO V (r.map (·,V.P)) v V.H :=
 ⟨pv,V,by rw[h];rfl,rfl,hS,DX.refl _ _,hv⟩
theorem gP.of {V':View} {pv:Value} {v:VV} (h:SR V' lo dO∧DX lo V V') (hv:VR V' v pv):gP lo dO V (some (pv,V'.P)) v V'.H:=⟨pv,V',rfl,rfl,h.1,h.2,hv⟩
theorem gP.same (hS:SR V lo dO) {v:VV} {pv:Value} (hv:VR V v pv):gP lo dO V (some (pv,V.P)) v V.H :=
 ⟨pv,V,rfl,rfl,hS,DX.refl _ _,hv⟩
theorem cE {α β:Type} {o:Option α} {f:α→β} {b:β} (h:o.map f=some b):∃a,o=some a∧f a=b:=by
 cases o with
 | none=>cases h
 | some a=>cases h;exact⟨a,rfl,rfl⟩
theorem qW {x:VV} {v u:Value} (h:VR V x u) (hx:x = .sc v):u=v∧nJ v=true:=by
 subst hx
 cases h with
 | sc v h=>exact⟨rfl,h⟩
theorem YM {op:BinOp} {a b c:Value} (h:fB op a b=some c):nJ c=true:=by
 unfold fB at h
 split at h
 ·split at h<;>cases h;rfl
 ·split at h<;>cases h;rfl
 ·split at h
  ·split at h<;>first | (cases h;rfl) | (split at h<;>cases h<;>rfl) | cases h
  ·cases h
 ·split at h<;>first | (cases h;rfl) | (split at h<;>cases h<;>rfl) | cases h
 ·cases h
theorem aaW {op:UnOp} {a c:Value} (h:Xf op a=some c):nJ c=true:=by
 unfold Xf at h
 split at h<;>cases h<;>rfl
theorem YX {n:Bool} {a b c:Value} (h:I3 n a b=some c):nJ c=true:=by
 unfold I3 at h
 split at h<;>cases h;rfl
theorem Wr {k:IntKind} {a c:Value} (h:R3 k a=some c):nJ c=true:=by
 unfold R3 at h
 split at h<;>cases h;rfl
theorem WA {a c:Value} (h:Vl a=some c):nJ c=true:=by
 unfold Vl at h
 split at h<;>cases h;rfl
theorem Uz {a c:Value} (h:AW a=some c):nJ c=true:=by
 unfold AW at h
 split at h<;>cases h;rfl
theorem T6 {a b c:Value} (h:FL a b=some c):nJ c=true:=by
 unfold FL at h
 split at h
 ·split at h<;>cases h;rfl
 ·cases h
theorem X8 {a b c:Value} (h:QI a b=some c):nJ c=true:=by
 unfold QI at h
 split at h<;>cases h;rfl
theorem Xh {a b c:Value} (h:PE a b=some c):nJ c=true:=by
 unfold PE at h
 split at h<;>cases h;rfl
theorem Dp (hS:SR V lo dO) {f:Value→Option Value} (hf:∀a c,f a=some c→nJ c=true) {x v:VV} {u:Value} (hx:VR V x u) (h:Jg f x=some v):gP lo dO V ((f u).map (·,V.P)) v V.H:=by
 unfold Jg at h
 split at h
 ·obtain⟨h1,_⟩:=qW hx rfl
  subst h1
  obtain⟨c,hc,rfl⟩:=cE h
  exact gP.pure hS hc (.sc _ (hf _ _ hc))
 ·cases h
theorem AN (hS:SR V lo dO) {f:Value→Value→Option Value} (hf:∀a b c,f a b=some c→nJ c=true) {x y v:VV} {u w:Value} (hx:VR V x u) (hy:VR V y w) (h:GU f x y=some v):gP lo dO V ((f u w).map (·,V.P)) v V.H:=by
 unfold GU at h
 split at h
 ·obtain⟨h1,_⟩:=qW hx rfl
  obtain⟨h2,_⟩:=qW hy rfl
  subst h1 h2
  obtain⟨c,hc,rfl⟩:=cE h
  exact gP.pure hS hc (.sc _ (hf _ _ _ hc))
 ·cases h
theorem Rf {α:Type} (l:List α) {o n a k:Nat} (h:a+k≤n):(((l.drop o).take n).drop a).take k=(l.drop (o+a)).take k:=by
 rw[List.drop_take,List.take_take,List.drop_drop,Nat.min_eq_left (by omega)]
theorem Od {x v:VV} {agg:Bool} {size off b o e:Nat} {r:List Value} {p:Bool} (hb:V.P[b]? = some (.row r e p)) (ho:o+(aB x).length≤r.length) (hl:VL V (aB x) ((r.drop o).take (aB x).length)) (h:dR agg size x off=some v) :
  ∃u,nR agg size (.pointer (some ⟨b,o+off,none⟩)) V.P=some u∧VR V v u:=by
 unfold dR at h
 cases agg with
 |
  true =>
  simp only[if_true] at h
  split at h
  ·rename_i hs
   cases h
   refine⟨.agg ((r.drop (o+off)).take size).toArray,?_,.agg _ _ ?_⟩
   ·simp only[nR,if_true,AP hb (show o+off+size≤r.length by omega)]
    rfl
   ·have:=(hl.drop off).take size
    rw[Rf _ hs] at this
    exact this
  ·cases h
 |
  false =>
  simp only[Bool.false_eq_true,if_false] at h
  obtain⟨u,hu,hv⟩:=hl.get h
  have afW:=(List.getElem?_eq_some_iff.1 h).1
  rw[List.getElem?_take,if_pos afW,List.getElem?_drop] at hu
  refine⟨u,?_,hv⟩
  have aX:=(List.getElem?_eq_some_iff.1 hu).1
  simp only[nR,Bool.false_eq_true,if_false,AP hb (show o+off+1≤r.length by omega)]
  rw[List.drop_eq_getElem_cons aX]
  simp only[List.take_succ_cons,List.take_zero]
  rw[List.getElem?_eq_getElem aX] at hu
  injection hu with hu
  rw[hu]
theorem KL (hS:SR V lo dO) {b g e j:Nat} {es:List VV} {w:Bool} {x:VV} (hb:V.H[b]? = some (.row g es e w)) (hx:es[j]? = some x) :
  ∃r p,V.P[V.m b]? = some (.row r e p)∧(aB x).length=e∧j*e+(aB x).length≤r.length∧VL V (aB x) ((r.drop (j*e)).take (aB x).length):=by
 obtain⟨r,p,h1,h2,h3⟩:=hS.row b g es e w hb
 have hxe:=h2 x (List.mem_of_getElem? hx)
 have hj:=(List.getElem?_eq_some_iff.1 hx).1
 have hlen:=h3.length
 rw[kJ h2] at hlen
 have hm:(j+1)*e≤es.length*e:=Nat.mul_le_mul_right _ hj
 rw[Nat.succ_mul] at hm
 refine⟨r,p,h1,hxe,by omega,?_⟩
 have:=(h3.drop (j*e)).take e
 rw[I6 h2 hx] at this
 rw[hxe]
 exact this
theorem Jv (hS:SR V lo dO) {p v:VV} {u:Value} {agg:Bool} {size:Nat} (hp:VR V p u) (h:cU agg size p V.H=some v):∃w,nR agg size u V.P=some w∧VR V v w:=by
 unfold cU at h
 split at h
 ·cases hp with
  | cP x off b o r e p hF hb ho hl=>exact Od hb ho hl h
 ·split at h
  ·rename_i es e w hr
   rw[cO] at hr
   split at h
   ·rename_i x hx
    cases hp with
    |
     ptr b g j off a aX hg ha hq =>
     have:=ha _ _ _ hr
     subst this
     obtain⟨r,p,h1,h2,h3,h4⟩:=KL hS hr hx
     exact Od h1 h3 h4 h
   ·cases h
  ·cases h
 ·cases h
theorem Pc (hS:SR V lo dO) {x i v:VV} {u k:Value} {size:Nat} (hx:VR V x u) (hi:VR V i k) (h:bF size x i V.H=some v):∃w,MZ size u k=some w∧VR V v w:=by
 unfold bF at h
 split at h
 ·rename_i es tk ik i
  obtain⟨rfl,_⟩:=qW hi rfl
  split at h
  ·rename_i h0
   split at h
   ·rename_i y hy
    split at h
    ·rename_i CO
     cases h
     have aX:=(List.getElem?_eq_some_iff.1 hy).1
     cases hx with
     | nK=>simp at aX
     |
      tree es k b o c r e p hF hb ho hc he hk hl =>
      have hye:=he y (List.mem_of_getElem? hy)
      have N6:e=size:=by omega
      subst N6
      have hm:(i.toNat+1)*e≤es.length*e:=Nat.mul_le_mul_right _ aX
      rw[Nat.succ_mul] at hm
      refine⟨_,Qw h0 (by omega),?_⟩
      have h1:=(hl.drop (i.toNat*e)).take e
      rw[I6 he hy,Rf _ (by omega)] at h1
      exact .cP y 0 b (o+i.toNat*e) r e p hF hb (by omega) (by rw[hye];exact h1)
    ·cases h
   ·cases h
  ·cases h
 ·rename_i b g o n c ik i
  obtain⟨rfl,_⟩:=qW hi rfl
  split at h
  ·rename_i es e w hr
   rw[cO] at hr
   split at h
   ·rename_i hc
    obtain⟨rfl,h0,h1⟩:=hc
    cases h
    cases hx with
    |
     ref b g o n c a n' c' aX hg ha hq =>
     obtain⟨rfl,rfl,rfl⟩:=ha _ _ _ hr
     refine⟨_,Qw h0 h1,.ptr b g (o+i.toNat) 0 _ aX hg (fun mU e' w' Gy => ?_) fun a0 h=>by cases h;exact hq ⟨V.m b,o*e,none⟩ rfl⟩
     rw[hr] at Gy
     cases Gy
     rw[Nat.add_mul,Nat.add_zero]
   ·cases h
  ·cases h
 ·cases h
theorem AR {l:Option Operand} {lv:Option Value} (hE:ER V ρ kL) (h:FH (l.map (dY ρ))=some lv):l.map (ev kL)=lv:=by
 cases l with
 | none=>cases h;rfl
 |
  some x =>
  simp only[Option.map_some,FH] at h
  split at h
  ·rename_i hv;cases hv
  ·rename_i v hv
   cases h
   injection hv with hv
   obtain⟨h1,_⟩:=qW (hE.ev x) hv
   rw[Option.map_some,h1]
  ·cases h
theorem Gc {v:Option Value} {d:Option Nat} {t x:Nat} (hd:∀y,d=some y→y≤t) (h:eI v d t=some x):x≤t:=by
 unfold eI at h
 split at h
 ·exact hd _ h
 ·split at h
  ·cases h;omega
  ·cases h
 ·cases h
theorem Lt {v:Option Value} {d d':Option Nat} {t t' x:Nat} (ht:t≤t') (hd:v=none→d=d') (h:eI v d t=some x):eI v d' t'=some x:=by
 unfold eI at h ⊢
 cases v with
 | none=>rw[←hd rfl];exact h
 |
  some v =>
  cases v with
  |
   int k i =>
   simp only at h ⊢
   split at h
   ·rename_i h1;rw[if_pos (by omega)];exact h
   ·cases h
  | _=>simp only at h ⊢;exact h
theorem Mm (hS:SR V lo dO) (size:Nat):gP lo dO V (some (.slice (some ⟨V.P.length,0,none⟩) 0 0,V.P++[.row [] size false])) (.tree [] (.cl size)) V.H:=by
 exact(gP.of (Bd hS (.row [] size false)) (.tree [] (.cl size) V.P.length 0 0 [] size false (.inr rfl) (by simp) (by simp) (by simp) (fun x hx=>by cases hx) ⟨rfl,rfl,rfl⟩ (by simp;exact .nil)) :)
theorem U4 (hS:SR V lo dO) (hE:ER V ρ kL) {x v:VV} {u:Value} {size:Nat} {l h m:Option Operand} (hx:VR V x u) (hv:EV size x (l.map (dY ρ)) (h.map (dY ρ)) (m.map (dY ρ)) V.H=some v) :
  gP lo dO V (BT size u (l.map (ev kL)) (h.map (ev kL)) (m.map (ev kL)) V.P) v V.H:=by
 unfold EV at hv
 split at hv
 case h_2=>cases hv
 rename_i lv hhv mv hl hh hm
 rw[AR hE hl,AR hE hh,AR hE hm]
 split at hv
 ·rename_i y ys tk
  split at hv
  case isFalse=>cases hv
  rename_i CO
  split at hv
  ·cases hv
  rename_i m0 ZV
  split at hv
  ·cases hv
  rename_i h0 hh0
  split at hv
  ·cases hv
  rename_i l0 zB
  cases hx with
  |
   tree es k b o c r e p hF hb ho hc he hk hl =>
   have N6:e=size:=by rw[←he y List.mem_cons_self];exact CO
   subst N6
   have hlen:(y::ys).length=ys.length+1:=rfl
   rw[hlen] at ho hc
   have b1:m0≤ys.length+1:=Gc (fun z hz=>by injection hz with hz;omega) ZV
   have b2:h0≤m0:=by
    refine Gc (fun z hz => ?_) hh0
    split at hz
    ·cases hz
    ·rename_i hmn
     injection hz with hz
     have:mv=none:=by cases mv<;>simp_all
     subst this
     simp[eI] at ZV
     omega
   have b3:l0≤h0:=Gc (fun z hz=>by injection hz with hz;omega) zB
   have e1:eI mv (some c) c=some (if mv.isSome then m0 else c):=by
    cases mv with
    | none=>rfl
    | some q=>exact Lt hc (fun hq=>by cases hq) ZV
   have e2:eI hhv (if mv.isSome then none else some (ys.length+1)) (if mv.isSome then m0 else c)=some h0:=by
    cases mv with
    |
     none =>
     simp only[Option.isSome_none,Bool.false_eq_true,if_false] at hh0 ⊢
     exact Lt (by omega) (fun _=>rfl) hh0
    | some q=>exact hh0
   unfold BT
   simp only[hb,if_true]
   rw[e1]
   simp only
   rw[hlen,e2]
   simp only
   rw[zB]
   simp only
   by_cases kU:mv.isSome=true∧m0=l0
   ·rw[if_pos kU] at hv
    cases hv
    rw[if_pos ⟨kU.1,by rw[if_pos kU.1];exact kU.2⟩]
    exact Mm hS e
   ·rw[if_neg kU] at hv
    cases hv
    rw[if_neg (fun hh=>kU ⟨hh.1,by have:=hh.2;rw[if_pos hh.1] at this;exact this⟩)]
    have aX:(((y::ys).drop l0).take (h0-l0)).length=h0-l0:=by simp;omega
    have Np:l0*e+(h0-l0)*e=h0*e:=by rw[←Nat.add_mul];congr 1;omega
    have Y8:h0*e≤(ys.length+1)*e:=Nat.mul_le_mul_right _ (by omega)
    have N1:h0-l0≤(if mv.isSome then m0 else c)-l0:=by split<;>omega
    have:=VR.tree (V:=V) (((y::ys).drop l0).take (h0-l0)) .op b (o+l0*e) ((if mv.isSome then m0 else c)-l0) r e p hF hb (by rw[aX];omega) (by rw[aX];exact N1) (fun z hz=>he z (List.mem_of_mem_drop (List.mem_of_mem_take hz))) trivial (by
     rw[aX]
     have h1:=(hl.drop (l0*e)).take ((h0-l0)*e)
     rw[Rf _ (by rw[hlen];omega),uA he,tM (fun z hz=>he z (List.mem_of_mem_drop hz))] at h1
     exact h1)
    rw[aX] at this
    exact gP.same hS this
 ·rename_i b g o n c
  split at hv
  case h_2=>cases hv
  rename_i es e w hr
  rw[cO] at hr
  split at hv
  case isFalse=>cases hv
  rename_i CO
  subst CO
  split at hv
  ·cases hv
  rename_i m0 ZV
  split at hv
  ·cases hv
  rename_i h0 hh0
  split at hv
  ·cases hv
  rename_i l0 zB
  cases hx with
  |
   ref b g o n c a n' c' aX hg ha hq =>
   obtain⟨rfl,rfl,rfl⟩:=ha _ _ _ hr
   obtain⟨r,p,h1,_⟩:=hS.row b g es e w hr
   unfold BT
   simp only[h1,if_true]
   rw[ZV]
   simp only
   rw[hh0]
   simp only
   rw[zB]
   simp only
   by_cases kU:mv.isSome=true∧m0=l0
   ·rw[if_pos kU] at hv
    cases hv
    rw[if_pos kU]
    exact Mm hS e
   ·rw[if_neg kU] at hv
    cases hv
    rw[if_neg kU]
    refine gP.same hS (.ref b g (o+l0) _ _ _ _ _ aX hg (fun mU e' w' Gy => ?_) fun a0 h=>by cases h;exact hq ⟨V.m b,o*e,none⟩ rfl)
    rw[hr] at Gy
    cases Gy
    exact⟨by rw[Nat.add_mul],rfl,rfl⟩
 ·cases hv
theorem As {es:List VV} (h:(es.all fun x=>(aB x).all bU)=true):(es.flatMap aB).all bU=true:=by
 rw[List.all_eq_true] at h ⊢
 intro x hx
 obtain⟨y,hy,Aj⟩:=List.mem_flatMap.1 hx
 exact List.all_eq_true.1 (h y hy) x Aj
theorem vX (hS:SR V lo dO) {y:VV} {u:Value} {size:Nat} {new:List VV} (hy:VR V y u) (h:fF size y V.H=some new) :
  rQ u=some new.length∧(∀x∈new,(aB x).length=size)∧(new.flatMap aB).all bU=true∧∀n,n≤new.length→∃pn,jH V.P size n u=some pn∧VL V ((new.take n).flatMap aB) pn:=by
 unfold fF at h
 split at h
 ·rename_i es tk
  split at h
  case isFalse=>cases h
  rename_i kW
  cases h
  have YQ:∀x∈new,(aB x).length=size∧(aB x).all bU=true:=fun x hx=>by
   have:=List.all_eq_true.1 kW x hx
   simpa using this
  refine⟨?_,fun x hx=>(YQ x hx).1,As (List.all_eq_true.2 fun x hx=>(YQ x hx).2),fun n hn => ?_⟩
  ·cases hy<;>rfl
  ·cases hy with
   |
    nK k hk =>
    have:n=0:=by simpa using hn
    subst this
    exact⟨[],rfl,by simp;exact .nil⟩
   |
    tree es k b o c r e p hF hb ho hc he hk hl =>
    cases N6:new with
    |
     nil =>
     rw[N6] at hn
     have:n=0:=by simpa using hn
     subst this
     refine⟨[],?_,by simp;exact .nil⟩
     simp only[jH,Nat.zero_mul]
     rw[AP hb (by omega)]
     simp
    |
     cons x xs =>
     have N2:e=size:=by rw[←he x (by rw[N6];exact List.mem_cons_self)];exact(YQ x (by rw[N6];exact List.mem_cons_self)).1
     subst N2
     have hm:n*e≤new.length*e:=Nat.mul_le_mul_right _ hn
     refine⟨_,by simp only[jH];exact AP hb (by omega),?_⟩
     rw[←N6,←tM he]
     have h1:=hl.take (n*e)
     rw[List.take_take,Nat.min_eq_left hm] at h1
     exact h1
 ·rename_i b g o n c
  split at h
  case h_2=>cases h
  rename_i es e w hr
  rw[cO] at hr
  split at h
  case isFalse=>cases h
  rename_i hc
  obtain⟨rfl,hlen,kW⟩:=hc
  cases h
  obtain⟨r,p,h1,h2,h3⟩:=hS.row b g es e w hr
  have ZM:((es.drop o).take n).length=n:=by simp;omega
  have D4:=h3.length
  rw[kJ h2] at D4
  cases hy with
  |
   ref b g o n c a n' c' aX hg ha hq =>
   obtain⟨rfl,rfl,rfl⟩:=ha _ _ _ hr
   have YI:∀x∈(es.drop o).take n',(aB x).length=e:=fun x hx=>h2 x (List.mem_of_mem_drop (List.mem_of_mem_take hx))
   refine⟨by rw[ZM];rfl,YI,As kW,fun k hk => ?_⟩
   rw[ZM] at hk
   have hm:(o+k)*e≤es.length*e:=Nat.mul_le_mul_right _ (by omega)
   rw[Nat.add_mul] at hm
   refine⟨_,by simp only[jH];exact AP h1 (by omega),?_⟩
   rw[List.take_take,Nat.min_eq_left hk]
   have h4:=(h3.drop (o*e)).take (k*e)
   rw[uA h2,tM (fun x hx=>h2 x (List.mem_of_mem_drop hx))] at h4
   exact h4
 ·rename_i s
  split at h
  case isFalse=>cases h
  rename_i hs
  subst hs
  cases h
  obtain⟨rfl,_⟩:=qW hy rfl
  have hlen:(s.data.toList.map fun b=>VV.sc (.int .u8 (b.toNat:Int))).length=s.size:=by simp
  refine⟨by rw[hlen];rfl,fun x hx => ?_,?_,fun n hn => ?_⟩
  ·obtain⟨b,_,rfl⟩:=List.mem_map.1 hx
   rfl
  ·refine As (List.all_eq_true.2 fun x hx => ?_)
   obtain⟨b,_,rfl⟩:=List.mem_map.1 hx
   rfl
  ·refine⟨(s.data.toList.take n).map fun b=>Value.int .u8 (b.toNat:Int),by simp only[jH,if_true],?_⟩
   rw[←List.map_take,List.flatMap_map]
   have:((s.data.toList.take n).flatMap fun a=>aB (VV.sc (.int .u8 (a.toNat:Int))))=(s.data.toList.take n).map fun a=>VV.sc (.int .u8 (a.toNat:Int)):=by
    generalize s.data.toList.take n=l
    induction l with
    | nil=>rfl
    | cons a l ih=>rw[List.flatMap_cons,ih];rfl
   rw[this]
   exact VL.map fun b _ => .sc _ rfl
 ·cases h
end
end Go.PM
namespace Go.PM
section
variable {V:View} {lo dO:Nat} {ρ:cG} {kL:Env}
theorem ID (hS:SR V lo dO) {es:List VV} {r:List Value} {e n c:Nat} {p:Bool}:VR { V with m:=VN V.m V.H.length V.P.length,H:=V.H++[.row 0 es e true],P:=V.P++[.row r e p] } (.ref V.H.length 0 0 n c) (.slice (some ⟨V.P.length,0,none⟩) n c):=by
 refine .ref _ _ _ _ _ _ _ _ (by simp) (fun g' es e w _=>Nat.zero_le _) (fun mU e' w' h=>⟨?_,rfl,rfl⟩) fun a0 ha => ?_
 ·simp only[lU,Nat.zero_mul]
 ·cases ha
  refine⟨hS.IU,by simp,fun b' g' mU e' w' hb fQ hm => ?_⟩
  have wK:(V.H++[eR.row 0 es e true])[b']? = some (.row g' mU e' w'):=hb
  have aX:b'<V.H.length:=by
   have:=(List.getElem?_eq_some_iff.1 wK).1
   simp at this
   omega
  rw[List.getElem?_append_left aX] at wK
  have h2:=hS.mlt wK
  simp only[mB (show b'≠V.H.length by omega)] at hm
  omega
theorem Tm (hS:SR V lo dO) {es:List VV} {r:List Value} {e:Nat} {p:Bool}:VR { V with m:=VN V.m V.H.length V.P.length,H:=V.H++[.row 0 es e true],P:=V.P++[.row r e p] } (.ptr V.H.length 0 0 0) (.pointer (some ⟨V.P.length,0,none⟩)):=by
 refine .ptr _ _ _ _ _ (by simp) (fun g' es e w _=>Nat.zero_le _) (fun mU e' w' h => ?_) fun a0 ha => ?_
 ·simp only[lU,Nat.zero_mul]
 ·cases ha
  refine⟨hS.IU,by simp,fun b' g' mU e' w' hb fQ hm => ?_⟩
  have wK:(V.H++[eR.row 0 es e true])[b']? = some (.row g' mU e' w'):=hb
  have aX:b'<V.H.length:=by
   have:=(List.getElem?_eq_some_iff.1 wK).1
   simp at this
   omega
  rw[List.getElem?_append_left aX] at wK
  have h2:=hS.mlt wK
  simp only[mB (show b'≠V.H.length by omega)] at hm
  omega
theorem FE (hS:SR V lo dO) {x v:VV} {u:Value} {size bytes:Nat} {nw:List VV} {pn:List Value} {H':aA} (hx:VR V x u) (hn:∀x∈nw,(aB x).length=size) (B1:(nw.flatMap aB).all bU=true) (hl:VL V (nw.flatMap aB) pn) (h:eJ lo size bytes x nw V.H=some (v,H')) :
  gP lo dO V (dS dO size bytes u nw.length pn V.P) v H':=by
 unfold eJ at h
 split at h
 case isFalse=>cases h
 rename_i hbs
 have KO:pn.length=nw.length*size:=by rw[hl.length,kJ hn]
 unfold dS
 rw[if_pos ⟨hbs.1,hbs.2,hl.gO B1,KO⟩]
 split at h
 ·cases hx with
  | tree es k b o c r e p hF hb ho hc he hk hl=>exact hk.elim
  |
   nK =>
   simp only[and_self,if_true]
   split at h
   ·rename_i h0
    cases h
    rw[if_pos h0]
    exact gP.same hS (.nK _ (.inr rfl))
   ·rename_i h0
    split at h
    case isFalse=>cases h
    rename_i h1
    cases h
    rw[if_neg h0,if_pos h1]
    exact(gP.of (rK hS (es:=nw) (r:=pn) (e:=size) true hn hl) (ID hS) :)
 ·rename_i es e
  split at h
  case isFalse=>cases h
  rename_i N6
  subst N6
  cases hx with
  | nK k hk=>rcases hk with hk | hk<;>cases hk
  |
   tree es k b o c r e' p hF hb ho hc he hk CY =>
   obtain⟨h1,h2,h3⟩:=hk
   subst h1 h2 h3
   simp only[hb]
   rw[if_pos ⟨trivial,ho⟩]
   split at h
   ·rename_i h0
    cases h
    rw[if_pos (by omega),if_pos h0]
    exact gP.same hS (.tree es _ b o _ r e false hF hb ho hc he ⟨rfl,rfl,rfl⟩ CY)
   ·rename_i h0
    split at h
    case isFalse=>cases h
    rename_i CO
    cases h
    rw[if_neg (by omega),if_pos CO]
    simp only[Bool.false_eq_true,if_false]
    have kW:∀x∈es++nw,(aB x).length=e:=fun x hx=>by
     rcases List.mem_append.1 hx with h | h
     ·exact he x h
     ·exact hn x h
    exact(gP.of (rK hS (es:=es++nw) (r:=(r.drop o).take (es.length*e)++pn) (e:=e) true kW (by rw[List.flatMap_append];exact CY.append hl)) (ID hS) :)
 ·rename_i b g o n c
  split at h
  case h_2=>cases h
  rename_i es e hr
  rw[cO] at hr
  split at h
  case isFalse=>cases h
  rename_i hc
  obtain⟨rfl,iD,hon⟩:=hc
  obtain⟨r,p,h1,h2,h3⟩:=hS.row b g es e true hr
  have D4:=h3.length
  rw[kJ h2] at D4
  have DV:=(hS.wr b g es e hr).2 iD
  cases hx with
  |
   ref b g o n c a n' c' aX hg ha hq =>
   obtain⟨rfl,rfl,rfl⟩:=ha _ _ _ hr
   have hm:(o+n')*e≤es.length*e:=Nat.mul_le_mul_right _ hon
   rw[Nat.add_mul] at hm
   simp only[h1]
   rw[if_pos ⟨trivial,by omega⟩]
   split at h
   ·rename_i V6
    rw[if_pos V6]
    split at h
    ·rename_i h0
     cases h
     rw[if_pos h0]
     exact gP.same hS (.ref _ _ _ _ _ _ _ _ aX hg ha hq)
    ·rename_i h0
     split at h
     case isFalse=>cases h
     rename_i wT
     cases h
     rw[if_neg h0]
     have Y8:(o+n'+nw.length)*e≤es.length*e:=Nat.mul_le_mul_right _ wT
     rw[Nat.add_mul,Nat.add_mul] at Y8
     have kW:∀x∈cR es (o+n') nw,(aB x).length=e:=fun x hx=>by
      rcases HH hx with h | h
      ·exact h2 x h
      ·exact hn x h
     have DR:VL V ((cR es (o+n') nw).flatMap aB) (iV r (o*e+n'*e) pn):=by
      rw[←vW h2 hn,Nat.add_mul]
      exact h3.iV hl _
     obtain⟨g1,g2⟩:=B5 hS hr iD kW DR h1
     refine⟨.slice (some ⟨V.m b,o*e,none⟩) (n'+nw.length) c',{ V with H:=V.H.set b (.row g (cR es (o+n') nw) e true),P:=V.P.set (V.m b) (.row (iV r (o*e+n'*e) pn) e p) },?_,rfl,g1,g2,?_⟩
     ·unfold aE.write
      simp only[h1]
      rw[if_pos ⟨DV,by omega,hl.gO B1⟩]
      rfl
     ·refine .ref _ _ _ _ _ _ _ _ (by simpa using aX) (fun g' mU e' w' Gy => ?_) (fun mU e' w' Gy => ?_) fun a0 h=>by cases h;exact g2.toUp.hq (hq _ rfl)
      ·rcases fZ aX Gy with⟨_,h⟩ | ⟨h,_⟩
       ·cases h;exact Nat.le_refl _
       ·exact absurd rfl h
      ·rcases fZ aX Gy with⟨_,h⟩ | ⟨h,_⟩
       ·cases h;exact⟨rfl,rfl,rfl⟩
       ·exact absurd rfl h
   ·rename_i V6
    split at h
    case isFalse=>cases h
    rename_i CO
    cases h
    rw[if_neg V6,if_pos CO]
    have kW:∀x∈(es.drop o).take n'++nw,(aB x).length=e:=fun x hx=>by
     rcases List.mem_append.1 hx with h | h
     ·exact h2 x (List.mem_of_mem_drop (List.mem_of_mem_take h))
     ·exact hn x h
    have DR:VL V (((es.drop o).take n'++nw).flatMap aB) ((r.drop (o*e)).take (n'*e)++pn):=by
     rw[List.flatMap_append]
     refine VL.append ?_ hl
     have h4:=(h3.drop (o*e)).take (n'*e)
     rw[uA h2,tM (fun x hx=>h2 x (List.mem_of_mem_drop hx))] at h4
     exact h4
    have fin:∀P1:aE,P1.length=V.P.length→(∀q,q≠V.m b→P1[q]? = V.P[q]?) →
      gP lo dO V (some (.slice (some ⟨V.P.length,0,none⟩) (n'+nw.length) (n'+nw.length),P1++[.row ((r.drop (o*e)).take (n'*e)++pn) e true])) (.ref b (g+1) 0 (n'+nw.length) (n'+nw.length)) (V.H.set b (.row (g+1) ((es.drop o).take n'++nw) e true)):=by
     intro P1 hP hk
     refine(gP.of (Sj hS hr iD kW DR hP hk true) ?_ :)
     refine .ref _ _ _ _ _ _ _ _ (by simpa using aX) (fun g' mU e' w' Gy => ?_) (fun mU e' w' Gy => ?_) fun a0 h => ?_
     ·rcases fZ aX Gy with⟨_,h⟩ | ⟨h,_⟩
      ·cases h;exact Nat.le_refl _
      ·exact absurd rfl h
     ·rcases fZ aX Gy with⟨_,h⟩ | ⟨h,_⟩
      ·cases h;exact⟨by simp only[lU,Nat.zero_mul],rfl,rfl⟩
      ·exact absurd rfl h
     ·cases h
      refine⟨hS.IU,by simp[hP],fun b' g' mU e' w' hb fQ hm => ?_⟩
      rcases fZ aX hb with⟨h,_⟩ | ⟨_,h⟩
      ·exact fQ h
      ·simp only[mB fQ] at hm
       have:=hS.mlt h
       omega
    cases p with
    |
     true =>
     simp only[if_true,DV]
     exact fin (V.P.set (V.m b) .dead) (by simp) fun q hq=>List.getElem?_set_ne (Ne.symm hq)
    |
     false =>
     simp only[Bool.false_eq_true,if_false]
     exact fin V.P rfl fun _ _=>rfl
 ·cases h
theorem Qf (hS:SR V lo dO) {p v:VV} {u w:Value} {size:Nat} {H':aA} (hp:VR V p u) (hv:VR V v w) (h:cD lo size p v V.H=some H'):gP lo dO V (Er dO size u w V.P) pT H':=by
 unfold cD at h
 split at h
 case h_2=>cases h
 rename_i b g j o
 split at h
 case h_2=>cases h
 rename_i es e hr
 rw[cO] at hr
 split at h
 case h_2=>cases h
 rename_i x hx
 split at h
 case isFalse=>cases h
 rename_i hc
 obtain⟨CO,iD,B1⟩:=hc
 obtain⟨r,q,h1,h2,h3⟩:=hS.row b g es e true hr
 have D4:=h3.length
 rw[kJ h2] at D4
 have DV:=(hS.wr b g es e hr).2 iD
 have hj:=(List.getElem?_eq_some_iff.1 hx).1
 have hxe:=h2 x (List.mem_of_getElem? hx)
 have hm:(j+1)*e≤es.length*e:=Nat.mul_le_mul_right _ hj
 rw[Nat.succ_mul] at hm
 have kU:=hv.cells (RX B1)
 have hwl:(aL w).length=size:=by rw[kU.length,CO]
 cases hp with
 |
  ptr b g j off a aX hg ha hq =>
  have:=ha _ _ _ hr
  subst this
  have fin:∀y:VV,(aB y).length=e→o+size≤e→aB y=cR (aB x) o (aB v)→H'=V.H.set b (.row g (es.set j y) e true)→gP lo dO V (Er dO size (.pointer (some ⟨V.m b,j*e+o,none⟩)) w V.P) pT H':=by
   intro y hy ho hye hH
   subst hH
   have kW:∀z∈es.set j y,(aB z).length=e:=fun z hz=>by
    rcases List.mem_or_eq_of_mem_set hz with h | h
    ·exact h2 z h
    ·subst h;exact hy
   have DR:VL V ((es.set j y).flatMap aB) (iV r (j*e+o) (aL w)):=by
    have e1:(es.set j y).flatMap aB=cR (es.flatMap aB) (j*e+o) (aB v):=by
     rw[←HF hj,←vW h2 (new:=[y]) (fun z hz=>by rw[List.mem_singleton] at hz;subst hz;exact hy)]
     simp only[List.flatMap_cons,List.flatMap_nil,List.append_nil]
     rw[hye]
     have hx2:=I6 h2 hx
     unfold cR
     have t1:(es.flatMap aB).take (j*e+o)=(es.flatMap aB).take (j*e)++(aB x).take o:=by
      rw[List.take_add,←hx2,List.take_take,Nat.min_eq_left (by omega)]
     have t2:(es.flatMap aB).drop (j*e+o+(aB v).length)=(aB x).drop (o+(aB v).length)++(es.flatMap aB).drop (j*e+e):=by
      have t0:(es.flatMap aB).drop (j*e+e)=((es.flatMap aB).drop (j*e+(o+(aB v).length))).drop (e-(o+(aB v).length)):=by
       rw[List.drop_drop]
       congr 1
       omega
      rw[←hx2,List.drop_take,List.drop_drop,t0,List.take_append_drop,Nat.add_assoc]
     rw[t1,t2]
     have t3:(List.take o (aB x)++aB v++List.drop (o+(aB v).length) (aB x)).length=e:=by
      simp;omega
     rw[t3]
     simp only[List.append_assoc]
    rw[e1]
    exact h3.iV kU _
   obtain⟨g1,g2⟩:=B5 hS hr iD kW DR h1
   refine⟨undef,{ V with H:=V.H.set b (.row g (es.set j y) e true),P:=V.P.set (V.m b) (.row (iV r (j*e+o) (aL w)) e q) },?_,rfl,g1,g2,.eG [] [] .nil⟩
   unfold Er
   simp only[hwl,if_true]
   unfold aE.write
   simp only[h1]
   rw[if_pos ⟨DV,by omega,kU.gO B1⟩]
   rfl
  split at h
  ·rename_i ho
   obtain⟨rfl,rfl⟩:=ho
   cases h
   refine fin v CO (by omega) ?_ rfl
   unfold cR
   rw[Nat.zero_add,List.take_zero,List.nil_append,List.drop_of_length_le (by omega),List.append_nil]
  ·split at h
   case isFalse=>cases h
   rename_i ho
   cases h
   have OW:(cR (aB x) o (aB v)).length=e:=by rw[Qj (by omega)];exact hxe
   exact fin (.agg (cR (aB x) o (aB v))) OW (by omega) rfl rfl
theorem Cy {z:List Value} (hz:(z.map jF).all bU=true):(aB (elemOf (z.map jF))).length=z.length:=by
 rw[nD hz,List.length_map]
theorem Bw {z:List Value} (hz:(z.map jF).all bU=true):∀n,VL V ((List.replicate n (elemOf (z.map jF))).flatMap aB) (cM n z):=by
 intro n
 have B1:z.all gO=true:=(VL.zero (V:=V) z).gO hz
 have alG:cM n z=(List.replicate n ()).flatMap fun _=>z:=by
  rcases Nat.eq_zero_or_pos z.length with h0 | kI
  ·have:z=[]:=List.length_eq_zero_iff.1 h0
   subst this
   simp[cM]
  ·exact PY (enc:=fun(_:Unit)=>z) (fM:=z.length) (x:=()) ⟨fun _=>rfl,fun _=>B1,kI⟩
 rw[alG]
 clear alG
 induction n with
 | zero=>exact .nil
 |
  succ n ih =>
  rw[List.replicate_succ,List.replicate_succ,List.flatMap_cons,List.flatMap_cons,nD hz]
  exact(VL.zero z).append ih
theorem R5 (hS:SR V lo dO) {z:List Value} {bytes:Nat} {l c v:VV} {u w:Value} {H':aA} (hz:(z.map jF).all bU=true) (hl:VR V l u) (hc:VR V c w) (h:yP z bytes l c V.H=some (v,H')):gP lo dO V (TA z bytes u w V.P) v H':=by
 unfold yP at h
 split at h
 case h_2=>cases h
 obtain⟨rfl,_⟩:=qW hl rfl
 obtain⟨rfl,_⟩:=qW hc rfl
 split at h
 case isFalse=>cases h
 rename_i Oh
 cases h
 unfold TA
 simp only[if_pos Oh]
 exact(gP.of (rK hS (e:=z.length) false (fun x hx=>by rw[List.eq_of_mem_replicate hx];exact Cy hz) (Bw hz _)) (ID hS) :)
theorem Uo (hS:SR V lo dO) {z:List Value} (hz:(z.map jF).all bU=true):gP lo dO V (some (.pointer (some ⟨V.P.length,0,none⟩),V.P++[.row z z.length false])) (.ptr V.H.length 0 0 0) (V.H++[.row 0 [elemOf (z.map jF)] z.length true]):=by
 exact(gP.of (rK hS (es:=[elemOf (z.map jF)]) (r:=z) (e:=z.length) false (fun x hx=>by rw[List.mem_singleton] at hx;subst hx;exact Cy hz) (by simp only[List.flatMap_cons,List.flatMap_nil,List.append_nil,nD hz];exact VL.zero z)) (Tm hS) :)
theorem UH (hS:SR V lo dO) {x v:VV} {u:Value} {H':aA} {bf:Bool} (hx:VR V x u) (hs:(aB x).all bU=true) (h:(if bf=true then some (VV.cP x 0,V.H) else some (VV.ptr V.H.length 0 0 0,V.H++[eR.row 0 [x] (aB x).length true]))=some (v,H')) :
  gP lo dO V (if (aL u).all gO then some (.pointer (some ⟨V.P.length,0,none⟩),V.P++[.row (aL u) (aL u).length false]) else none) v H':=by
 have hc:=hx.cells (RX hs)
 rw[if_pos (hc.gO hs)]
 split at h
 ·cases h
  have g:=Bd hS (.row (aL u) (aL u).length false)
  refine(gP.of g ?_ :)
  have hm:=hc.mono g.2.toUp
  refine .cP x 0 V.P.length 0 (aL u) (aL u).length false (.inr rfl) (by simp) (by rw[hc.length];omega) ?_
  rw[List.drop_zero,List.take_of_length_le (by rw[hc.length];exact Nat.le_refl _)]
  exact hm
 ·cases h
  rw[hc.length]
  exact(gP.of (rK hS (es:=[x]) (r:=aL u) (e:=(aB x).length) false (fun y hy=>by rw[List.mem_singleton] at hy;subst hy;rfl) (by simpa using hc)) (Tm hS) :)
theorem take_set {α:Type} {l:List α} {i:Nat} {x:α} (h:i<l.length):l.set i x=l.take i++x::l.drop (i+1):=by
 rw[List.set_eq_take_append_cons_drop,if_pos h]
inductive Sq (V:View):List (Nat×VV)→List (Nat×Value)→Prop
 | nil:Sq V [] []
 | cons {i:Nat} {x:VV} {v:Value} {xs:List (Nat×VV)} {vs:List (Nat×Value)} (h:VR V x v) (hs:Sq V xs vs):Sq V ((i,x)::xs) ((i,v)::vs)
theorem Ee {e n:Nat}:∀ {parts:List (Nat×VV)} {zW:List (Nat×Value)} {es mU:List VV} {r:List Value},es.length=n→(∀x∈es,(aB x).length=e)→VL V (es.flatMap aB) r →
  Sq V parts zW→uI e es parts=some mU→mU.length=n∧(∀x∈mU,(aB x).length=e)∧∃r',vP ((List.range n).map fun i=>(i*e,e)) r zW=some r'∧VL V (mU.flatMap aB) r'
 |
  [],_,es,mU,r,hn,he,hl,.nil,h=>by
  cases h
  exact⟨hn,he,r,rfl,hl⟩
 |
  (i,v)::parts,(_,w)::zW,es,mU,r,hn,he,hl,.cons hv hps,h=>by
  unfold uI at h
  split at h
  case isFalse=>cases h
  rename_i hc
  obtain⟨hi,hve,B1⟩:=hc
  have kU:=hv.cells (RX B1)
  have hwl:(aL w).length=e:=by rw[kU.length,hve]
  have D4:=hl.length
  rw[kJ he] at D4
  have hm:(i+1)*e≤es.length*e:=Nat.mul_le_mul_right _ hi
  rw[Nat.succ_mul] at hm
  have kW:∀x∈es.set i v,(aB x).length=e:=fun x hx=>by
   rcases List.mem_or_eq_of_mem_set hx with h | h
   ·exact he x h
   ·subst h;exact hve
  have DR:VL V ((es.set i v).flatMap aB) (r.take (i*e)++aL w++r.drop (i*e+e)):=by
   have h1:=hl.iV kU (i*e)
   have h2:=vW he (new:=[v]) (fun z hz=>by rw[List.mem_singleton] at hz;subst hz;exact hve) i
   simp only[List.flatMap_cons,List.flatMap_nil,List.append_nil] at h2
   rw[h2,HF hi] at h1
   unfold iV at h1
   rw[hwl] at h1
   exact h1
  obtain⟨g1,g2,r',g3,g4⟩:=Ee (n:=n) (by rw[List.length_set];exact hn) kW DR hps h
  refine⟨g1,g2,r',?_,g4⟩
  unfold vP
  have hr:((List.range n).map fun i=>(i*e,e))[i]? = some (i*e,e):=by simp[List.getElem?_range (show i<n by omega)]
  simp only[hr]
  rw[if_pos ⟨hwl,by omega⟩]
  exact g3
theorem Hg (hE:ER V ρ kL):∀parts:List (Nat×Operand),Sq V (parts.map fun(i,x)=>(i,dY ρ x)) (parts.map fun(i,x)=>(i,ev kL x))
 | [] => .nil
 | (i,x)::parts => .cons (hE.ev x) (Hg hE parts)
theorem Fx {e:Nat}:∀ {parts:List (Nat×VV)} {es mU:List VV},(es.all fun x=>(aB x).all bU)=true→uI e es parts=some mU→(mU.all fun x=>(aB x).all bU)=true
 | [],es,mU,h,hf=>by cases hf;exact h
 |
  (i,v)::parts,es,mU,h,hf=>by
  unfold uI at hf
  split at hf
  case isFalse=>cases hf
  rename_i hc
  refine Fx ?_ hf
  rw[List.all_eq_true] at h ⊢
  intro x hx
  rcases List.mem_or_eq_of_mem_set hx with h1 | h1
  ·exact h x h1
  ·subst h1;exact hc.2.2
theorem Vh (hS:SR V lo dO) {lr:Bool} {z:List Value} {n:Nat} {parts:List (Nat×VV)} {zW:List (Nat×Value)} {v:VV} {H':aA} (hp:Sq V parts zW) (h:tY lr z n parts V.H=some (v,H')):gP lo dO V (ZY z n zW V.P) v H':=by
 unfold tY at h
 split at h
 case h_2=>cases h
 rename_i es N6
 split at h
 case isFalse=>cases h
 rename_i hz
 obtain⟨g1,g2,r',g3,g4⟩:=Ee (V:=V) (n:=n) (by simp) (fun x hx=>by rw[List.eq_of_mem_replicate hx];exact Cy hz) (Bw hz n) hp N6
 have B1:=Fx (by
  rw[List.all_eq_true]
  intro x hx
  rw[List.eq_of_mem_replicate hx,nD hz]
  exact hz) N6
 unfold ZY
 simp only[g3]
 rw[if_pos (g4.gO (As B1))]
 split at h
 ·cases h
  exact(gP.of (rK hS (e:=z.length) false g2 g4) (ID hS) :)
 ·cases h
  have k:=Bd hS (.row r' z.length false)
  refine(gP.of k ?_ :)
  have hm:=g4.mono k.2.toUp
  have D4:=g4.length
  rw[kJ g2] at D4
  subst g1
  refine .tree es _ V.P.length 0 es.length r' z.length false (.inr rfl) (by simp) (by omega) (Nat.le_refl _) g2 ⟨rfl,rfl,rfl⟩ ?_
  rw[List.drop_zero,List.take_of_length_le (by omega)]
  exact hm
theorem Ly (hS:SR V lo dO) {b g e o:Nat} {es nw:List VV} {pn:List Value} (hr:V.H[b]? = some (.row g es e true)) (iD:lo≤b) (wT:o+nw.length≤es.length) (hn:∀x∈nw,(aB x).length=e) (B1:(nw.flatMap aB).all bU=true) (hl:VL V (nw.flatMap aB) pn) :
  ∃V',V.P.write dO (V.m b) (o*e) pn=some V'.P∧V'.H=V.H.set b (.row g (cR es o nw) e true)∧SR V' lo dO∧DX lo V V':=by
 obtain⟨r,q,h1,h2,h3⟩:=hS.row b g es e true hr
 have D4:=h3.length
 rw[kJ h2] at D4
 have DV:=(hS.wr b g es e hr).2 iD
 have KO:=hl.length
 rw[kJ hn] at KO
 have hm:(o+nw.length)*e≤es.length*e:=Nat.mul_le_mul_right _ wT
 rw[Nat.add_mul] at hm
 have kW:∀x∈cR es o nw,(aB x).length=e:=fun x hx=>by
  rcases HH hx with h | h
  ·exact h2 x h
  ·exact hn x h
 have DR:VL V ((cR es o nw).flatMap aB) (iV r (o*e) pn):=by
  rw[←vW h2 hn]
  exact h3.iV hl _
 obtain⟨g1,g2⟩:=B5 hS hr iD kW DR h1
 refine⟨{ V with H:=V.H.set b (.row g (cR es o nw) e true),P:=V.P.set (V.m b) (.row (iV r (o*e) pn) e q) },?_,rfl,g1,g2⟩
 unfold aE.write
 simp only[h1]
 rw[if_pos ⟨DV,by omega,hl.gO B1⟩]
theorem RA (hS:SR V lo dO) {x y v:VV} {u w:Value} {size:Nat} {H':aA} (hx:VR V x u) (hy:VR V y w) (h:Ml lo size x y V.H=some (v,H')):gP lo dO V (copyV dO size u w V.P) v H':=by
 unfold Ml at h
 split at h
 ·rename_i new hs
  obtain⟨h1,_⟩:=vX hS hy hs
  cases h
  cases hx with
  | tree es k b o c r e p hF hb ho hc he hk hl=>exact hk.elim
  |
   nK =>
   unfold copyV
   simp only[h1]
   exact gP.same hS (.sc _ rfl)
 ·rename_i b g o d c new hs
  obtain⟨h1,h2,h3,h4⟩:=vX hS hy hs
  split at h
  case h_2=>cases h
  rename_i es e hr
  rw[cO] at hr
  split at h
  case isFalse=>cases h
  rename_i hc
  obtain⟨rfl,iD,wT⟩:=hc
  cases h
  cases hx with
  |
   ref b g o n c a n' c' aX hg ha hq =>
   obtain⟨rfl,rfl,rfl⟩:=ha _ _ _ hr
   have ZH:(new.take n').length=Nat.min new.length n':=by rw[List.length_take];exact Nat.min_comm _ _
   obtain⟨pn,h5,h6⟩:=h4 (Nat.min new.length n') (Nat.min_le_left _ _)
   have ht:new.take (Nat.min new.length n')=new.take n':=by
    rw[←ZH,List.length_take,←List.take_take,List.take_length]
   rw[ht] at h6
   have Kt:∀x∈new.take n',(aB x).length=e:=fun x hx=>h2 x (List.mem_of_mem_take hx)
   have B1:((new.take n').flatMap aB).all bU=true:=by
    rw[List.all_eq_true] at h3 ⊢
    intro x hx
    obtain⟨y,hy,Aj⟩:=List.mem_flatMap.1 hx
    exact h3 x (List.mem_flatMap.2 ⟨y,List.mem_of_mem_take hy,Aj⟩)
   obtain⟨V',k1,k2,k3,k4⟩:=Ly hS hr iD wT Kt B1 h6
   refine⟨.int .i64 (Nat.min new.length n'),V',?_,k2,k3,k4,?_⟩
   ·unfold copyV
    simp only[h1,h5,k1]
    rfl
   ·rw[ZH]
    exact .sc _ rfl
 ·cases h
theorem N7 (hS:SR V lo dO) {x:VV} {u:Value} {z:List Value} {H':aA} (hx:VR V x u) (h:MN lo z x V.H=some H'):gP lo dO V (Nr dO z u V.P) pT H':=by
 unfold MN at h
 split at h
 case h_2=>cases h
 rename_i b g o n c
 split at h
 case h_2=>cases h
 rename_i es e hr
 rw[cO] at hr
 cases hx with
 |
  ref b g o n c a n' c' aX hg ha hq =>
  obtain⟨rfl,rfl,rfl⟩:=ha _ _ _ hr
  unfold Nr
  simp only
  split at h
  ·rename_i h0
   cases h
   rw[if_pos h0]
   exact gP.same hS (.eG [] [] .nil)
  ·rename_i h0
   rw[if_neg h0]
   split at h
   case isFalse=>cases h
   rename_i hc
   obtain⟨rfl,iD,wT,hz⟩:=hc
   cases h
   have Kt:∀x∈List.replicate n' (elemOf (z.map jF)),(aB x).length=z.length:=fun x hx=>by rw[List.eq_of_mem_replicate hx];exact Cy hz
   obtain⟨V',k1,k2,k3,k4⟩:=Ly hS hr iD (nw:=List.replicate n' (elemOf (z.map jF))) (by simpa using wT) Kt (As (by
    rw[List.all_eq_true]
    intro x hx
    rw[List.eq_of_mem_replicate hx,nD hz]
    exact hz)) (Bw hz n')
   refine⟨undef,V',?_,k2,k3,k4,.eG [] [] .nil⟩
   rw[k1]
   rfl
end
end Go.PM
namespace Go.PM
section
variable {V:View} {lo dO:Nat} {ρ:cG} {kL:Env}
theorem Qm {x v:VV} {u:Value} {neg:Bool} (hx:VR V x u) (h:Es neg x V.H=some v):∃w,Yg neg u=some w∧VR V v w:=by
 unfold Es at h
 split at h
 ·cases h
  cases hx with
  | tree es k b o c r e p hF hb ho hc he hk hl=>exact hk.elim
  | nK=>exact⟨_,rfl,.sc _ rfl⟩
 ·cases h
  cases hx with
  | nK k hk=>rcases hk with hk | hk<;>cases hk
  | tree=>exact⟨_,rfl,.sc _ rfl⟩
 ·cases h
  cases hx with
  | tree=>exact⟨_,rfl,.sc _ rfl⟩
 ·obtain⟨⟨es,e,w⟩,hr,rfl⟩:=cE h
  rw[cO] at hr
  cases hx with
  |
   ref b g o n c a n' c' aX hg ha hq =>
   obtain⟨rfl,rfl,rfl⟩:=ha _ _ _ hr
   exact⟨_,rfl,.sc _ rfl⟩
 ·cases h
theorem VF {x v:VV} {u:Value} (hx:VR V x u) (h:pX x V.H=some v):∃w,aeF u=some w∧VR V v w:=by
 unfold pX at h
 split at h
 ·cases h
  cases hx<;>exact⟨_,rfl,.sc _ rfl⟩
 ·obtain⟨⟨es,e,w⟩,hr,rfl⟩:=cE h
  rw[cO] at hr
  cases hx with
  |
   ref b g o n c a n' c' aX hg ha hq =>
   obtain⟨rfl,rfl,rfl⟩:=ha _ _ _ hr
   exact⟨_,rfl,.sc _ rfl⟩
 ·cases h
theorem O9 {x v:VV} {u:Value} {off:Nat} (hx:VR V x u) (h:F9 off x V.H=some v):∃w,Yh off u=some w∧VR V v w:=by
 unfold F9 at h
 split at h
 ·cases h
  cases hx with
  | cP x off b o r e p hF hb ho hl=>exact⟨_,rfl,by rw[Nat.add_assoc];exact .cP _ _ b o r e p hF hb ho hl⟩
 ·obtain⟨⟨es,e,w⟩,hr,rfl⟩:=cE h
  rw[cO] at hr
  cases hx with
  |
   ptr b g j off a aX hg ha hq =>
   have:=ha _ _ _ hr
   subst this
   refine⟨_,rfl,.ptr _ _ _ _ _ aX hg (fun mU e' w' Gy => ?_) fun a0 h=>by cases h;have:=hq _ rfl;exact this⟩
   rw[hr] at Gy
   cases Gy
   rw[Nat.add_assoc]
 ·cases h
theorem UQ {x v:VV} {u:Value} (hx:VR V x u) (h:UO x V.H=some v):∃w,akS u=some w∧VR V v w:=by
 unfold UO at h
 split at h
 ·cases h
  cases hx with
  | cP x off b o r e p hF hb ho hl=>exact⟨_,rfl,.cP _ _ b o r e p hF hb ho hl⟩
 ·obtain⟨⟨es,e,w⟩,hr,rfl⟩:=cE h
  rw[cO] at hr
  cases hx with
  |
   ptr b g j off a aX hg ha hq =>
   have:=ha _ _ _ hr
   subst this
   exact⟨_,rfl,.ptr _ _ _ _ _ aX hg ha hq⟩
 ·cases h
theorem RT {c a b v:VV} {u x y:Value} (hc:VR V c u) (ha:VR V a x) (hb:VR V b y) (h:Oj c a b=some v):∃t,u = .bool t∧VR V v (if t then x else y):=by
 unfold Oj at h
 split at h
 ·rename_i t
  cases h
  obtain⟨rfl,_⟩:=qW hc rfl
  refine⟨t,rfl,?_⟩
  cases t
  ·exact hb
  ·exact ha
 ·cases h
theorem UC {x v:VV} {u:Value} {i:Nat} (hx:VR V x u) (h:Wx i x=some v):∃w,afY i u=some w∧VR V v w:=by
 unfold Wx at h
 split at h
 ·cases hx with
  |
   eG cs ps hl =>
   obtain⟨w,hw,hv⟩:=hl.get h
   exact⟨w,by simpa[afY] using hw,hv⟩
 ·cases h
theorem Vx {x v:VV} {u:Value} {agg:Bool} {off size:Nat} (hx:VR V x u) (h:ZN agg off size x=some v):∃w,Z9 agg off size u=some w∧VR V v w:=by
 unfold ZN at h
 split at h
 ·rename_i cs
  cases hx with
  |
   agg cs ps hl =>
   split at h
   ·rename_i ha
    split at h
    ·rename_i hs
     cases h
     refine⟨.agg ((ps.drop off).take size).toArray,?_,.agg _ _ ((hl.drop off).take size)⟩
     unfold Z9
     simp only[ha,if_true]
     rw[if_pos (by simpa[hl.length] using hs)]
     congr 2
     apply Array.ext'
     simp[List.extract_eq_take_drop]
    ·cases h
   ·rename_i ha
    obtain⟨w,hw,hv⟩:=hl.get h
    refine⟨w,?_,hv⟩
    unfold Z9
    simp only[ha]
    simpa using hw
 ·cases h
theorem KS {ks:List CK}:∀ {xs ys:List VV} {us ws:List Value} {t:Bool},VL V xs us→VL V ys ws→qB ks xs ys=some t→oZ ks us ws=some t:=by
 induction ks with
 |
  nil =>
  intro xs ys us ws t h1 h2 h
  cases h1 with
  |
   nil=>cases h2 with
   | nil=>exact h
   | cons=>simp[qB] at h
  | cons=>simp[qB] at h
 |
  cons k ks ih =>
  intro xs ys us ws t h1 h2 h
  cases h1 with
  | nil=>simp[qB] at h
  |
   cons x u xs us hx N2=>cases h2 with
   | nil=>cases x<;>simp[qB] at h
   |
    cons y w ys ws hy hys =>
    cases hx with
    |
     sc _ _=>cases hy with
     |
      sc _ _ =>
      simp only[qB] at h
      simp only[oZ]
      split at h
      ·rename_i h1
       rw[h1]
       exact ih N2 hys h
      ·rename_i h1
       rw[h1]
       exact h
      ·cases h
     | _=>simp[qB] at h
    | _=>simp[qB] at h
theorem Kr {places:List (Nat×Nat)}:∀ {parts:List (Nat×VV)} {zW:List (Nat×Value)} {cs Ad:List VV} {r:List Value},VL V cs r→Sq V parts zW→xL places cs parts=some Ad →
  ∃r',vP places r zW=some r'∧VL V Ad r'
 | [],_,cs,Ad,r,hl,.nil,h=>by cases h;exact⟨r,rfl,hl⟩
 |
  (i,v)::parts,(_,w)::zW,cs,Ad,r,hl,.cons hv hps,h=>by
  unfold xL at h
  unfold vP
  split at h
  ·cases h
  ·rename_i off size KO
   simp only[KO]
   split at h
   case isFalse=>cases h
   rename_i hc
   have kU:=hv.cells (fun e=>by subst e;cases hc.2.2)
   rw[if_pos ⟨by rw[kU.length];exact hc.1,by rw[hl.length];exact hc.2.1⟩]
   exact Kr (((hl.take off).append kU).append (hl.drop _)) hps h
theorem HI:∀ {es:List VV} {r:List Value} {bs:List UInt8},VL V (es.flatMap aB) r→Gr es=some bs→tI r=some bs
 | [],_,bs,.nil,h=>h
 |
  x::es,r,bs,hl,h=>by
  unfold Gr at h
  split at h
  ·rename_i e;cases e
  ·rename_i n r' e
   cases e
   obtain⟨t,ht,rfl⟩:=cE h
   rw[List.flatMap_cons] at hl
   cases hl with
   |
    cons _ u _ us hu hus =>
    obtain⟨rfl,_⟩:=qW hu rfl
    unfold tI
    rw[HI hus ht]
    rfl
  ·cases h
theorem lift {r:Option VV} {v:VV} {H':aA} {s:Option (Value×aE)} (h:r.map (·,V.H)=some (v,H')) (k:r=some v→gP lo dO V s v V.H):gP lo dO V s v H':=by
 obtain⟨a,ha,he⟩:=cE h
 cases he
 exact k ha
theorem UX (hS:SR V lo dO) (hE:ER V ρ kL) {fl:Fl} {o:nI} {v:VV} {H':aA} {q:Bool} (h:vop fl lo o ρ V.H=some (v,H')):gP lo dO V (jR dO q o kL V.P) v H':=by
 cases o<;>simp only[vop] at h
 case mv x=>cases h;rw[aaY];exact gP.same hS (hE.ev x)
 case pick c a b =>
  refine lift h fun h => ?_
  obtain⟨t,ht,hv⟩:=RT (hE.ev c) (hE.ev a) (hE.ev b) h
  rw[U9,ht]
  exact gP.same hS hv
 case bin op x y=>rw[YA];exact lift h fun h=>AN (f:=fB op) hS (fun _ _ _=>YM) (hE.ev x) (hE.ev y) h
 case eqb neg x y=>rw[Wb];exact lift h fun h=>AN (f:=I3 neg) hS (fun _ _ _=>YX) (hE.ev x) (hE.ev y) h
 case isnil neg x =>
  rw[Q4]
  refine lift h fun h => ?_
  obtain⟨w,h1,h2⟩:=Qm (hE.ev x) h
  exact gP.pure hS h1 h2
 case eqagg neg ks x y =>
  rw[St]
  refine lift h fun h => ?_
  unfold Q7 at h
  split at h
  case h_2=>cases h
  rename_i a b hx hy
  obtain⟨t,ht,rfl⟩:=cE h
  have h1:=hE.ev x
  have h2:=hE.ev y
  rw[hx] at h1
  rw[hy] at h2
  generalize ev kL x=u at h1 ⊢
  generalize ev kL y=w at h2 ⊢
  cases h1 with
  |
   agg cs ps h1=>cases h2 with
   |
    agg Ad ps' h2 =>
    refine gP.pure hS (pv := .bool (t != neg)) ?_ (.sc _ rfl)
    unfold Wy
    simp only
    rw[KS h1 h2 ht]
    rfl
 case un op x=>rw[Z2];exact lift h fun h=>Dp (f:=Xf op) hS (fun _ _=>aaW) (hE.ev x) h
 case cvt k x=>rw[XH];exact lift h fun h=>Dp (f:=R3 k) hS (fun _ _=>Wr) (hE.ev x) h
 case cvs x =>
  have e:jR dO q (.cvs x) kL V.P=(Vl (ev kL x)).map (·,V.P):=dG rfl
  rw[e];exact lift h fun h=>Dp (f:=Vl) hS (fun _ _=>WA) (hE.ev x) h
 case ext x i =>
  rw[Xs]
  refine lift h fun h => ?_
  obtain⟨w,h1,h2⟩:=UC (hE.ev x) h
  exact gP.pure hS h1 h2
 case fld agg off size x =>
  rw[Yx]
  refine lift h fun h => ?_
  obtain⟨w,h1,h2⟩:=Vx (hE.ev x) h
  exact gP.pure hS h1 h2
 case build zero places parts =>
  obtain⟨cs,Kx,he⟩:=cE h
  cases he
  obtain⟨r,h1,h2⟩:=Kr (VL.zero zero) (Hg hE parts) Kx
  rw[Sx,h1]
  exact gP.same hS (.agg _ _ h2)
 case chk x =>
  rw[Yn]
  refine lift h fun h => ?_
  obtain⟨w,h1,h2⟩:=UQ (hE.ev x) h
  exact gP.pure hS h1 h2
 case faddr off x =>
  rw[Se]
  refine lift h fun h => ?_
  obtain⟨w,h1,h2⟩:=O9 (hE.ev x) h
  exact gP.pure hS h1 h2
 case iaddr size x i =>
  rw[Sw]
  refine lift h fun h => ?_
  obtain⟨w,h1,h2⟩:=Pc hS (hE.ev x) (hE.ev i) h
  exact gP.pure hS h1 h2
 case sidx x i =>
  have e:jR dO q (.sidx x i) kL V.P=(FL (ev kL x) (ev kL i)).map (·,V.P):=dG rfl
  rw[e];exact lift h fun h=>AN (f:=FL) hS (fun _ _ _=>T6) (hE.ev x) (hE.ev i) h
 case ssub x l h' =>
  refine lift h fun h => ?_
  unfold vQ at h
  split at h
  case h_2=>cases h
  rename_i s lv hv hx h1 h2
  split at h
  case h_2=>cases h
  rename_i a b Hi
  cases h
  obtain⟨e1,_⟩:=qW (hE.ev x) hx
  have e:jR dO q (.ssub x l h') kL V.P=some (.string (s.extract a b),V.P):=by
   rw[dG rfl]
   simp only[iS,e1]
   rw[AR hE h1,AR hE h2,Hi]
   rfl
  rw[e]
  exact gP.same hS (.sc _ rfl)
 case mkfn f fR =>
  cases h
  rw[UM]
  exact gP.same hS (.uG _ _ _ (hE.evs fR))
 case len x =>
  rw[Wq]
  refine lift h fun h => ?_
  obtain⟨w,h1,h2⟩:=VF (hE.ev x) h
  exact gP.pure hS h1 h2
 case slen x =>
  have e:jR dO q (.slen x) kL V.P=(AW (ev kL x)).map (·,V.P):=dG rfl
  rw[e];exact lift h fun h=>Dp (f:=AW) hS (fun _ _=>Uz) (hE.ev x) h
 case min x y=>rw[W0];exact lift h fun h=>AN (f:=QI) hS (fun _ _ _=>X8) (hE.ev x) (hE.ev y) h
 case max x y=>rw[Wc];exact lift h fun h=>AN (f:=PE) hS (fun _ _ _=>Xh) (hE.ev x) (hE.ev y) h
 case load agg size p =>
  rw[T9]
  refine lift h fun h => ?_
  obtain⟨w,h1,h2⟩:=Jv hS (hE.ev p) h
  exact gP.pure hS h1 h2
 case sub size x l hh m =>
  rw[X3]
  exact lift h fun h=>U4 hS hE (hE.ev x) h
 case b2s x =>
  split at h
  ·cases h
  rename_i y fQ
  split at h
  case h_2=>cases h
  rename_i es N6
  obtain⟨bs,hbs,he⟩:=cE h
  cases he
  obtain⟨h1,h2,h3,h4⟩:=vX hS (hE.ev x) N6
  obtain⟨pn,h5,h6⟩:=h4 es.length (Nat.le_refl _)
  rw[List.take_length] at h6
  have hb:=HI h6 hbs
  have hx:=hE.ev x
  have e:jR dO q (.b2s x) kL V.P=some (.string ⟨bs.toArray⟩,V.P):=by
   apply pC
   simp only[pop]
   generalize ev kL x=u at *
   cases u<;>first | (exfalso;simp[rQ] at h1;done) | skip
   case string s =>
    generalize dY ρ x=y at *
    cases hx with
    | any=>simp[fF] at N6
    | sc _ _=>exact absurd rfl (fQ _)
   case slice a n c =>
    injection h1 with h1
    subst h1
    cases a with
    |
     none =>
     simp only[jH] at h5
     split at h5
     ·cases h5
      cases hb
      rfl
     ·cases h5
    |
     some a =>
     obtain⟨b,o,sp⟩:=a
     cases sp with
     | some s=>simp[jH] at h5
     |
      none =>
      simp only[jH,Nat.mul_one] at h5
      simp only[h5,hb]
      rfl
  rw[e]
  exact gP.same hS (.sc _ rfl)
 case new zero =>
  split at h
  case isFalse=>cases h
  rename_i hz
  cases h
  rw[Ww]
  exact Uo hS hz
 case box x =>
  split at h
  case isFalse=>cases h
  rename_i hs
  rw[Ya]
  exact UH hS (hE.ev x) hs h
 case make zero bytes l c =>
  split at h
  case isFalse=>cases h
  rename_i hz
  rw[Ux]
  exact R5 hS hz (hE.ev l) (hE.ev c) h
 case lit zero n parts =>
  rw[W8]
  exact Vh hS (Hg hE parts) h
 case store size p x =>
  obtain⟨a,ha,he⟩:=cE h
  cases he
  rw[RM]
  exact Qf hS (hE.ev p) (hE.ev x) ha
 case app size bytes x y =>
  split at h
  case h_2=>cases h
  rename_i new hn
  obtain⟨h1,h2,h3,h4⟩:=vX hS (hE.ev y) hn
  obtain⟨pn,h5,h6⟩:=h4 new.length (Nat.le_refl _)
  rw[List.take_length] at h6
  rw[XQ]
  unfold adV
  simp only[h1,h5]
  exact FE hS (hE.ev x) h2 h3 h6 h
 case appz zero bytes x n =>
  split at h
  case h_2=>cases h
  rename_i k hk
  split at h
  case isFalse=>cases h
  rename_i hc
  obtain⟨e1,_⟩:=qW (hE.ev n) hk
  have Kt:∀x∈List.replicate k.toNat (elemOf (zero.map jF)),(aB x).length=zero.length:=fun x hx=>by rw[List.eq_of_mem_replicate hx];exact Cy hc.2.2
  have:=FE hS (hE.ev x) Kt (As (by
    rw[List.all_eq_true]
    intro x hx
    rw[List.eq_of_mem_replicate hx,nD hc.2.2]
    exact hc.2.2)) (Bw hc.2.2 _) h
  rw[List.length_replicate] at this
  rw[UT]
  unfold YF
  rw[e1]
  simp only[if_pos (show 0≤k∧k*(bytes:Int)≤140737488355328 from⟨hc.1,hc.2.1⟩)]
  exact this
 case copy size x y =>
  rw[Ur]
  exact RA hS (hE.ev x) (hE.ev y) h
 case clear zero x =>
  obtain⟨a,ha,he⟩:=cE h
  cases he
  rw[QX]
  exact N7 hS (hE.ev x) ha
 all_goals cases h
end
end Go.PM
namespace Go.PM
def bare (F:Nat→Prop) (P:aE):View:=⟨fun _=>0,F,[],P,0⟩
theorem A1 {es:List VV}:aN es=true↔∀x∈es,aP x=true:=by
 induction es with
 | nil=>simp[aN]
 | cons x xs ih=>simp[aN,ih]
theorem Cw {x:VV} (h:aP x=true):aN (aB x)=true:=by
 unfold aB
 split
 ·simpa[aP] using h
 ·simp[aN,h]
theorem JO {es:List VV} (h:aN es=true):aN (es.flatMap aB)=true:=by
 rw[A1] at h ⊢
 intro x hx
 obtain⟨y,hy,Aj⟩:=List.mem_flatMap.1 hx
 exact A1.1 (Cw (h y hy)) x Aj
theorem Gf {es:List VV} {k:TK} (h:aP (.tree es k)=true):k = .op∧aN es=true∧uni es=true:=by
 simp only[aP,Bool.and_eq_true,decide_eq_true_eq] at h
 exact⟨h.1.1,h.1.2,h.2⟩
theorem HB {x:VV} (h:aP x=true):x ≠ .any:=by
 rintro rfl
 cases h
theorem Zn {es:List VV} (h:uni es=true):∃e,∀x∈es,(aB x).length=e:=by
 cases es with
 | nil=>exact⟨0,fun x hx=>by cases hx⟩
 |
  cons x xs =>
  refine⟨(aB x).length,fun y hy => ?_⟩
  rcases List.mem_cons.1 hy with rfl | hy
  ·rfl
  ·have:=List.all_eq_true.1 h y hy
   simpa using this
section
variable {V V':View}
theorem VR.pure {x:VV} {v:Value} (hF:∀b,V.F b→V'.F b∧V'.P[b]? = V.P[b]?) (h:VR V x v):aP x=true→VR V' x v:=by
 induction h using VR.rec (motive_2:=fun xs vs _=>aN xs=true→VL V' xs vs) with
 | any=>intro hp;cases hp
 | sc _ h=>intro _;exact .sc _ h
 | agg cs ps _ ih=>intro hp;exact .agg _ _ (ih hp)
 | eG cs ps _ ih=>intro hp;exact .eG _ _ (ih hp)
 | nK k hk=>intro _;exact .nK k hk
 | tree es k b o c r e p Rw hb ho hc he hk _ ih=>intro hp;exact .tree es k b o c r e p (hF _ Rw).1 (by rw[(hF _ Rw).2];exact hb) ho hc he hk (ih (JO (Gf hp).2.1))
 | cP x off b o r e p Rw hb ho _ ih=>intro hp;exact .cP x off b o r e p (hF _ Rw).1 (by rw[(hF _ Rw).2];exact hb) ho (ih (Cw hp))
 | ref=>intro hp;cases hp
 | ptr=>intro hp;cases hp
 | uG f fR ps _ ih=>intro hp;exact .uG _ _ _ (ih hp)
 | nil=>exact .nil
 |
  cons x v xs vs _ _ ih RC =>
  rename_i hp
  simp only[aN,Bool.and_eq_true] at hp
  exact .cons _ _ _ _ (ih hp.1) (RC hp.2)
theorem VL.pure {xs:List VV} {vs:List Value} (hF:∀b,V.F b→V'.F b∧V'.P[b]? = V.P[b]?) (h:VL V xs vs) (hp:aN xs=true):VL V' xs vs:=by
 induction xs generalizing vs with
 | nil=>cases h;exact .nil
 |
  cons x xs ih=>cases h with
  |
   cons _ v _ vs h hs =>
   simp only[aN,Bool.and_eq_true] at hp
   exact .cons _ _ _ _ (h.pure hF hp.1) (ih hs hp.2)
theorem VL.flatten {es:List VV} {ps:List Value} (h:VL V es ps) (hp:aN es=true):VL V (es.flatMap aB) (ps.flatMap aL):=by
 induction es generalizing ps with
 | nil=>cases h;exact .nil
 |
  cons x xs ih =>
  cases h with
  |
   cons _ v _ vs h hs =>
   simp only[aN,Bool.and_eq_true] at hp
   rw[List.flatMap_cons,List.flatMap_cons]
   exact(h.cells (HB hp.1)).append (ih hs hp.2)
theorem Na {P P':aE} (h:P <+: P'):∀b,(bare (· < P.length) P).F b→(bare (· < P'.length) P').F b∧(bare (· < P'.length) P').P[b]? = (bare (· < P.length) P).P[b]? := by
 intro b hb
 obtain⟨L,rfl⟩:=h
 have wK:b<P.length:=hb
 exact⟨by show b<(P++L).length;simp;omega,List.getElem?_append_left wK⟩
mutual
theorem real (x:VV) (hp:aP x=true) (P:aE):∃P' pv,P <+: P'∧VR (bare (· < P'.length) P') x pv:=by
 cases x with
 | any=>cases hp
 | sc v=>exact⟨P,v,List.prefix_refl _,.sc v hp⟩
 |
  agg cs =>
  obtain⟨P',ps,h1,h2⟩:=MF cs hp P
  exact⟨P',_,h1,.agg _ _ h2⟩
 |
  eG cs =>
  obtain⟨P',ps,h1,h2⟩:=MF cs hp P
  exact⟨P',_,h1,.eG _ _ h2⟩
 |
  tree es k =>
  obtain⟨rfl,h1,h2⟩:=Gf hp
  obtain⟨P',ps,h3,h4⟩:=MF es h1 P
  obtain⟨e,he⟩:=Zn h2
  have h5:=h4.flatten h1
  have hl:=h5.length
  rw[kJ he] at hl
  have AV:P' <+: P'++[K1.row (ps.flatMap aL) e false]:=List.prefix_append _ _
  refine⟨_,.slice (some ⟨P'.length,0,none⟩) es.length es.length,h3.trans AV,?_⟩
  refine .tree es .op P'.length 0 es.length (ps.flatMap aL) e false (show P'.length<(P'++[K1.row (ps.flatMap aL) e false]).length by simp) (by show (P'++[K1.row (ps.flatMap aL) e false])[P'.length]? = _;simp) (by omega) (Nat.le_refl _) he trivial ?_
  rw[List.drop_zero,List.take_of_length_le (by omega)]
  exact VL.pure (Na AV) h5 (JO h1)
 |
  cP x off =>
  obtain⟨P',pv,h3,h4⟩:=real x hp P
  have h5:=h4.cells (HB hp)
  have AV:P' <+: P'++[K1.row (aL pv) (aL pv).length false]:=List.prefix_append _ _
  refine⟨_,.pointer (some ⟨P'.length,0+off,none⟩),h3.trans AV,?_⟩
  refine .cP x off P'.length 0 (aL pv) (aL pv).length false (show P'.length<(P'++[K1.row (aL pv) (aL pv).length false]).length by simp) (by show (P'++[K1.row (aL pv) (aL pv).length false])[P'.length]? = _;simp) (by rw[h5.length];omega) ?_
  rw[List.drop_zero,List.take_of_length_le (by rw[h5.length];exact Nat.le_refl _)]
  exact VL.pure (Na AV) h5 (Cw hp)
 | ref=>cases hp
 | ptr=>cases hp
 |
  uG f fR =>
  obtain⟨P',ps,h1,h2⟩:=MF fR hp P
  exact⟨P',_,h1,.uG _ _ _ h2⟩
theorem MF (xs:List VV) (hp:aN xs=true) (P:aE):∃P' ps,P <+: P'∧VL (bare (· < P'.length) P') xs ps:=by
 cases xs with
 | nil=>exact⟨P,[],List.prefix_refl _,.nil⟩
 |
  cons x xs =>
  simp only[aN,Bool.and_eq_true] at hp
  obtain⟨P1,pv,h1,h2⟩:=real x hp.1 P
  obtain⟨P2,ps,h3,h4⟩:=MF xs hp.2 P1
  exact⟨P2,pv::ps,h1.trans h3,.cons _ _ _ _ (h2.pure (Na h3) hp.1) h4⟩
end
theorem Kl {es:List VV}:pB es=true↔∀x∈es,gK x=true:=by
 induction es with
 | nil=>simp[pB]
 | cons x xs ih=>simp[pB,ih]
theorem B2 {es:List VV} {k:TK} (h:gK (.tree es k)=true):k = .op∧pB es=true∧uni es=true∧es.all Ah=true:=by
 simp only[gK,Bool.and_eq_true,decide_eq_true_eq] at h
 exact⟨h.1.1.1,h.1.1.2,h.1.2,h.2⟩
theorem Rc {x:VV} (h:gK x=true):pB (aB x)=true:=by
 unfold aB
 split
 ·simpa[gK] using h
 ·simp[pB,h]
theorem MK {es:List VV} (h:pB es=true):pB (es.flatMap aB)=true:=by
 rw[Kl] at h ⊢
 intro x hx
 obtain⟨y,hy,Aj⟩:=List.mem_flatMap.1 hx
 exact Kl.1 (Rc (h y hy)) x Aj
mutual
theorem OV (x:VV) (h:gK x=true):aP x=true:=by
 cases x with
 | sc v=>exact h
 | agg cs=>exact Dr cs h
 | eG cs=>exact Dr cs h
 |
  tree es k =>
  obtain⟨h1,h2,h3,_⟩:=B2 h
  simp[aP,h1,Dr es h2,h3]
 | any=>cases h
 | cP=>cases h
 | ref=>cases h
 | ptr=>cases h
 | uG=>cases h
theorem Dr (xs:List VV) (h:pB xs=true):aN xs=true:=by
 cases xs with
 | nil=>rfl
 |
  cons x xs =>
  simp only[pB,Bool.and_eq_true] at h
  simp[aN,OV x h.1,Dr xs h.2]
end
theorem Pt {e:Nat}:∀ {es mU:List VV},(∀x∈es,(aB x).length=e)→(∀x∈mU,(aB x).length=e)→es.all Ah=true→mU.all Ah=true→es.length=mU.length→es.flatMap aB=mU.flatMap aB→es=mU
 | [],[],_,_,_,_,_,_=>rfl
 |
  x::es,y::mU,h1,h2,h3,h4,hl,h=>by
  rw[List.flatMap_cons,List.flatMap_cons] at h
  have hx:=h1 x List.mem_cons_self
  have hy:=h2 y List.mem_cons_self
  obtain⟨e1,e2⟩:=List.append_inj h (by omega)
  simp only[List.all_cons,Bool.and_eq_true] at h3 h4
  have Aj:x=y:=by
   have g1:=h3.1
   have g2:=h4.1
   unfold aB at e1
   split at e1<;>split at e1
   ·rw[e1]
   ·rename_i cs _ _
    subst e1
    cases g1
   ·rename_i cs
    subst e1
    cases g2
   ·injection e1
  rw[Aj,Pt (fun z hz=>h1 z (List.mem_cons_of_mem _ hz)) (fun z hz=>h2 z (List.mem_cons_of_mem _ hz)) h3.2 h4.2 (by simpa using hl) e2]
theorem VR.uniq {x y:VV} {v:Value} (h:VR V x v) (h':VR V y v) (hx:gK x=true) (hy:gK y=true):x=y:=by
 induction h using VR.rec (motive_2:=fun xs vs _=>∀ys,VL V ys vs→pB xs=true→pB ys=true→xs=ys) generalizing y with
 | any=>cases hx
 |
  sc _ h=>cases h' with
  | sc _ _=>rfl
  | any=>cases hy
  | agg=>cases h
  | eG=>cases h
  | nK=>cases h
  | tree=>cases h
  | cP=>cases hy
  | ref=>cases hy
  | ptr=>cases hy
  | uG=>cases hy
 |
  agg cs ps h ih=>generalize hw:Value.agg ps.toArray=w at h';cases h' with
  | sc _ h'=>subst hw;cases h'
  | any=>cases hy
  |
   agg Ad ps' h' =>
   injection hw with hw
   have:ps=ps':=by simpa using hw
   subst this
   rw[ih _ h' hx hy]
  | eG=>cases hw
  | nK=>cases hw
  | tree=>cases hw
  | cP=>cases hy
  | ref=>cases hy
  | ptr=>cases hy
  | uG=>cases hy
 |
  eG cs ps h ih=>generalize hw:Value.tuple ps.toArray=w at h';cases h' with
  | sc _ h'=>subst hw;cases h'
  | any=>cases hy
  |
   eG Ad ps' h' =>
   injection hw with hw
   have:ps=ps':=by simpa using hw
   subst this
   rw[ih _ h' hx hy]
  | agg=>cases hw
  | nK=>cases hw
  | tree=>cases hw
  | cP=>cases hy
  | ref=>cases hy
  | ptr=>cases hy
  | uG=>cases hy
 |
  nK k hk =>
  obtain⟨rfl,_⟩:=B2 hx
  generalize hw:Value.slice none 0 0=w at h'
  cases h' with
  | sc _ h'=>subst hw;cases h'
  | any=>cases hy
  | nK k' hk'=>obtain⟨rfl,_⟩:=B2 hy;rfl
  | agg=>cases hw
  | eG=>cases hw
  | tree=>cases hw
  | cP=>cases hy
  | ref=>cases hy
  | ptr=>cases hy
  | uG=>cases hy
 |
  tree es k b o c r e p hF hb ho hc he hk hl ih =>
  obtain⟨rfl,hx1,hx2,hx3⟩:=B2 hx
  generalize hw:Value.slice (some ⟨b,o,none⟩) es.length c=w at h'
  cases h' with
  | sc _ h'=>subst hw;cases h'
  | any=>cases hy
  | nK=>cases hw
  | agg=>cases hw
  | eG=>cases hw
  |
   tree mU k' b' o' c' r' e' p' hF' wK ho' hc' he' hk' CY =>
   obtain⟨rfl,hy1,hy2,hy3⟩:=B2 hy
   injection hw with h1 h2 h3
   injection h1 with h1
   injection h1 with h1 h4
   subst h1 h3 h4
   rw[hb] at wK
   injection wK with wK
   injection wK with g1 g2 g3
   subst g1 g2 g3
   rw[←h2] at CY
   rw[Pt he he' hx3 hy3 h2 (ih _ CY (MK hx1) (MK hy1))]
  | cP=>cases hy
  | ref=>cases hy
  | ptr=>cases hy
  | uG=>cases hy
 | cP=>cases hx
 | ref=>cases hx
 | ptr=>cases hx
 | uG=>cases hx
 | nil=>rename_i h' _ _;cases h';rfl
 |
  cons x v xs vs _ _ ih RC =>
  rename_i ys h' hx hy
  cases h' with
  |
   cons y _ ys _ h' hs' =>
   simp only[pB,Bool.and_eq_true] at hx hy
   rw[ih h' hx.1 hy.1,RC _ hs' hx.2 hy.2]
end
end Go.PM
namespace Go.PM
section
variable {V:View} {lo dO:Nat}
theorem oO {α β:Type} {f:α→Option β} {x:α} {xs:List α} {r:List β} (h:(x::xs).mapM f=some r):∃y ys,f x=some y∧xs.mapM f=some ys∧r=y::ys:=by
 rw[List.mapM_cons] at h
 cases hx:f x with
 | none=>rw[hx] at h;cases h
 |
  some y =>
  rw[hx] at h
  cases hs:xs.mapM f with
  | none=>rw[hs] at h;cases h
  | some ys=>rw[hs] at h;cases h;exact⟨y,ys,rfl,rfl,rfl⟩
theorem xO {α β:Type} {f:α→Option β}:∀ {xs:List α} {r:List β},xs.mapM f=some r→r.length=xs.length
 | [],r,h=>by cases h;rfl
 |
  x::xs,r,h=>by
  obtain⟨y,ys,_,h2,rfl⟩:=oO h
  simp[xO h2]
theorem Tv {d:Nat} {H:aA} {x x':VV} (h:fz d H x=some x'):(∃cs Ad,x = .agg cs∧x' = .agg Ad∧Ad.length=cs.length)∨(aB x=[x]∧aB x'=[x']):=by
 cases d with
 | zero=>cases h
 |
  succ d =>
  unfold fz at h
  split at h
  ·cases h
   cases x with
   | agg cs=>exact .inl ⟨cs,cs,rfl,rfl,rfl⟩
   | _=>exact .inr ⟨rfl,rfl⟩
  ·split at h
   ·obtain⟨Ad,h1,rfl⟩:=cE h
    exact .inl ⟨_,_,rfl,rfl,xO h1⟩
   ·obtain⟨Ad,h1,rfl⟩:=cE h;exact .inr ⟨rfl,rfl⟩
   ·obtain⟨Ad,h1,rfl⟩:=cE h;exact .inr ⟨rfl,rfl⟩
   ·obtain⟨Ad,h1,rfl⟩:=cE h;exact .inr ⟨rfl,rfl⟩
   ·split at h
    ·split at h
     ·obtain⟨Ad,h1,rfl⟩:=cE h;exact .inr ⟨rfl,rfl⟩
     ·cases h
    ·cases h
   ·split at h
    ·split at h
     ·obtain⟨Ad,h1,rfl⟩:=cE h;exact .inr ⟨rfl,rfl⟩
     ·cases h
    ·cases h
   ·obtain⟨Ad,h1,rfl⟩:=cE h;exact .inr ⟨rfl,rfl⟩
   ·cases h
theorem NA {d:Nat} {H:aA} {x x':VV} (h:fz d H x=some x'):(aB x').length=(aB x).length:=by
 rcases Tv h with⟨cs,Ad,rfl,rfl,h'⟩ | ⟨h1,h2⟩
 ·exact h'
 ·rw[h1,h2];rfl
def Mv (V:View) (G:Nat→Prop) (ids:List Nat):Prop:=∀i∈ids,∀g es e w,V.H[i]? = some (.row g es e w)→G (V.m i)
theorem Jq (hS:SR V lo dO) {G:Nat→Prop} (hG:∀q,V.F q→G q):∀(d:Nat) (v v':VV) (pv:Value),VR V v pv→fz d V.H v=some v'→Mv V G (iN d V.H v)→VR (bare G V.P) v' pv:=by
 have hFG:∀b,V.F b→(bare G V.P).F b∧(bare G V.P).P[b]? = V.P[b]? := fun b hb=>⟨hG b hb,rfl⟩
 intro d
 induction d with
 | zero=>intro v v' pv _ h;cases h
 |
  succ d ih =>
  have ihL:∀(xs GG:List VV) (ps:List Value),VL V xs ps→xs.mapM (fz d V.H)=some GG→Mv V G (xs.flatMap (iN d V.H))→VL (bare G V.P) GG ps:=by
   intro xs
   induction xs with
   | nil=>intro GG ps hl h _;cases h;cases hl;exact .nil
   |
    cons x xs ihx =>
    intro GG ps hl h hi
    obtain⟨y,ys,h1,h2,rfl⟩:=oO h
    cases hl with
    |
     cons _ v _ vs hx N2 =>
     exact .cons _ _ _ _ (ih x y v hx h1 fun i BP=>hi i (by rw[List.flatMap_cons];exact List.mem_append_left _ BP)) (ihx ys vs N2 h2 fun i BP=>hi i (by rw[List.flatMap_cons];exact List.mem_append_right _ BP))
  have ihC:∀(x x':VV) (ps:List Value),VL V (aB x) ps→fz d V.H x=some x'→Mv V G (iN d V.H x)→VL (bare G V.P) (aB x') ps:=by
   intro x x' ps hl h hi
   rcases Tv h with⟨cs,Ad,rfl,rfl,kU⟩ | ⟨h1,h2⟩
   ·have:=ih _ _ (.agg ps.toArray) (.agg _ _ hl) h hi
    generalize hw:Value.agg ps.toArray=w at this
    cases this with
    |
     agg _ ps' CY =>
     injection hw with hw
     have:ps=ps':=by simpa using hw
     subst this
     exact CY
   ·rw[h1] at hl
    rw[h2]
    cases hl with
    |
     cons _ v _ vs hx N2 =>
     cases N2
     exact .cons _ _ _ _ (ih _ _ _ hx h hi) .nil
  have ihF:∀(xs GG:List VV) (ps:List Value),VL V (xs.flatMap aB) ps→xs.mapM (fz d V.H)=some GG→Mv V G (xs.flatMap (iN d V.H))→VL (bare G V.P) (GG.flatMap aB) ps:=by
   intro xs
   induction xs with
   | nil=>intro GG ps hl h _;cases h;cases hl;exact .nil
   |
    cons x xs ihx =>
    intro GG ps hl h hi
    obtain⟨y,ys,h1,h2,rfl⟩:=oO h
    rw[List.flatMap_cons] at hl ⊢
    have hlen:=hl.length
    have a1:=hl.take (aB x).length
    have a2:=hl.drop (aB x).length
    rw[List.take_left] at a1
    rw[List.drop_left] at a2
    rw[←List.take_append_drop (aB x).length ps]
    exact(ihC x y _ a1 h1 fun i BP=>hi i (by rw[List.flatMap_cons];exact List.mem_append_left _ BP)).append (ihx ys _ a2 h2 fun i BP=>hi i (by rw[List.flatMap_cons];exact List.mem_append_right _ BP))
  have ajJ:∀(xs GG:List VV) (e:Nat),xs.mapM (fz d V.H)=some GG→(∀x∈xs,(aB x).length=e)→∀x∈GG,(aB x).length=e:=by
   intro xs
   induction xs with
   | nil=>intro GG e h _ x hx;cases h;cases hx
   |
    cons x xs ihx =>
    intro GG e h he z hz
    obtain⟨y,ys,h1,h2,rfl⟩:=oO h
    rcases List.mem_cons.1 hz with rfl | hz
    ·rw[NA h1];exact he x List.mem_cons_self
    ·exact ihx ys e h2 (fun w hw=>he w (List.mem_cons_of_mem _ hw)) z hz
  intro v v' pv hv h hi
  unfold fz at h
  unfold iN at hi
  split at h
  ·rename_i hp
   cases h
   exact hv.pure hFG hp
  ·rename_i hp
   rw[if_neg hp] at hi
   split at h
   ·obtain⟨Ad,h1,rfl⟩:=cE h
    cases hv with
    | agg cs ps hl=>exact .agg _ _ (ihL _ _ _ hl h1 hi)
   ·obtain⟨Ad,h1,rfl⟩:=cE h
    cases hv with
    | eG cs ps hl=>exact .eG _ _ (ihL _ _ _ hl h1 hi)
   ·obtain⟨Ad,h1,rfl⟩:=cE h
    cases hv with
    | nK k hk=>cases h1;exact .nK _ (.inl rfl)
    |
     tree es k b o c r e p hF hb ho hc he hk hl =>
     have hlen:=xO h1
     have:=VR.tree (V:=bare G V.P) Ad .op b o c r e p (hG b hF) hb (by rw[hlen];exact ho) (by rw[hlen];exact hc) (ajJ _ _ _ h1 he) trivial (by rw[hlen];exact ihF _ _ _ hl h1 hi)
     rw[hlen] at this
     exact this
   ·obtain⟨x',h1,rfl⟩:=cE h
    cases hv with
    |
     cP x off b o r e p hF hb ho hl =>
     have hlen:=NA h1
     exact .cP x' _ b o r e p (hG b hF) hb (by rw[hlen];exact ho) (by rw[hlen];exact ihC _ _ _ hl h1 hi)
   ·rename_i b g o n c
    split at h
    case h_2=>cases h
    rename_i es e w hr
    simp only[hr] at hi
    rw[cO] at hr
    split at h
    case isFalse=>cases h
    rename_i anX
    obtain⟨hon,EK⟩:=anX
    obtain⟨mU,h1,rfl⟩:=cE h
    obtain⟨r,p,k1,k2,k3⟩:=hS.row b g es e w hr
    have D4:=k3.length
    rw[kJ k2] at D4
    cases hv with
    |
     ref b g o n c a n' c' aX hg ha hq =>
     obtain⟨rfl,rfl,rfl⟩:=ha _ _ _ hr
     have YI:∀x∈(es.drop o).take n',(aB x).length=e:=fun x hx=>k2 x (List.mem_of_mem_drop (List.mem_of_mem_take hx))
     have ZM:((es.drop o).take n').length=n':=by simp;omega
     have hlen:=xO h1
     rw[ZM] at hlen
     have hm:(o+n')*e≤es.length*e:=Nat.mul_le_mul_right _ hon
     rw[Nat.add_mul] at hm
     have hl:VL V (((es.drop o).take n').flatMap aB) ((r.drop (o*e)).take (n'*e)):=by
      have h4:=(k3.drop (o*e)).take (n'*e)
      rw[uA k2,tM (fun x hx=>k2 x (List.mem_of_mem_drop hx))] at h4
      exact h4
     have hGb:G (V.m b):=hi b List.mem_cons_self _ _ _ _ hr
     have:=VR.tree (V:=bare G V.P) mU .op (V.m b) (o*e) c' r e p hGb k1 (by rw[hlen];omega) (by rw[hlen];exact EK) (ajJ _ _ _ h1 YI) trivial (by rw[hlen];exact ihF _ _ _ hl h1 fun i BP=>hi i (List.mem_cons_of_mem _ BP))
     rw[hlen] at this
     exact this
   ·rename_i b g j o
    split at h
    case h_2=>cases h
    rename_i es e w hr
    simp only[hr] at hi
    rw[cO] at hr
    split at h
    case h_2=>cases h
    rename_i x hx
    simp only[hx] at hi
    obtain⟨x',h1,rfl⟩:=cE h
    obtain⟨r,p,k1,k2,k3,k4⟩:=KL hS hr hx
    cases hv with
    |
     ptr b g j off a aX hg ha hq =>
     have:=ha _ _ _ hr
     subst this
     have hlen:=NA h1
     exact .cP x' o (V.m b) (j*e) r e p (hi b List.mem_cons_self _ _ _ _ hr) k1 (by rw[hlen];exact k3) (by rw[hlen];exact ihC _ _ _ k4 h1 fun i BP=>hi i (List.mem_cons_of_mem _ BP))
   ·obtain⟨Ad,h1,rfl⟩:=cE h
    cases hv with
    | uG f fR ps hl=>exact .uG _ _ _ (ihL _ _ _ hl h1 hi)
   ·cases h
theorem Dm (hS:SR V lo dO) {G:Nat→Prop} (hG:∀q,V.F q→G q) {d:Nat}:∀ {xs GG:List VV} {ps:List Value},VL V xs ps→xs.mapM (fz d V.H)=some GG→Mv V G (xs.flatMap (iN d V.H))→VL (bare G V.P) GG ps
 | [],GG,ps,hl,h,_=>by cases h;cases hl;exact .nil
 |
  x::xs,GG,ps,hl,h,hi=>by
  obtain⟨y,ys,h1,h2,rfl⟩:=oO h
  cases hl with
  |
   cons _ v _ vs hx N2 =>
   exact .cons _ _ _ _ (Jq hS hG d x y v hx h1 fun i BP=>hi i (by rw[List.flatMap_cons];exact List.mem_append_left _ BP)) (Dm hS hG N2 h2 fun i BP=>hi i (by rw[List.flatMap_cons];exact List.mem_append_right _ BP))
def View.cJ (V:View) (ids:List Nat):View:=ids.foldl View.freeze V
theorem vG:∀(ids:List Nat) {V:View},SR V lo dO→SR (V.cJ ids) lo dO∧DX lo V (V.cJ ids)∧(V.cJ ids).H=PM.cJ V.H ids∧(V.cJ ids).P=V.P∧(V.cJ ids).m=V.m∧Mv V (V.cJ ids).F ids
 | [],V,hS=>⟨hS,DX.refl _ _,rfl,rfl,rfl,fun i hi=>by cases hi⟩
 |
  i::ids,V,hS=>by
  obtain⟨h1,h2,h3⟩:=M1 hS i
  obtain⟨g1,g2,g3,g4,g5,g6⟩:=vG ids h1
  refine⟨g1,h2.trans g2,?_,g4.trans (WU V i),g5.trans (QH V i),?_⟩
  ·show ((V.freeze i).cJ ids).H=_
   rw[g3,OA]
   rfl
  ·intro k hk g es e w hr
   show ((V.freeze i).cJ ids).F (V.m k)
   rcases List.mem_cons.1 hk with rfl | hk
   ·exact g2.F _ (h3 _ _ _ _ hr)
   ·have Gy:∃g es e w,(V.freeze i).H[k]? = some (.row g es e w):=by
     rw[OA]
     unfold A3
     split
     ·rename_i g' mU e' w' hi
      by_cases hki:k=i
      ·subst hki
       exact⟨g',mU,e',false,List.getElem?_set_self (List.getElem?_eq_some_iff.1 hi).1⟩
      ·exact⟨g,es,e,w,by rw[List.getElem?_set_ne (Ne.symm hki)];exact hr⟩
     ·exact⟨g,es,e,w,hr⟩
    obtain⟨g',mU,e',w',Gy⟩:=Gy
    have:=g6 k hk _ _ _ _ Gy
    rw[QH] at this
    exact this
end
end Go.PM