/- How the pure machine's values and heap stand to the model's: the relation, its laws. -/
import Derived.Test.YtkoiolkkceknhaaPmPrep
import Derived.Laws.Entries
import Derived.Laws.AppendOwn
import Derived.Laws.MakeOwn
import Derived.Laws.Build
import Derived.Laws.Rows
import Derived.Laws.World
import Derived.Laws.Strings
import Derived.Laws.BytesString
namespace Go.PM

/-- Where a block of the pure machine lies: the model's block, the cell at which it begins there, the cells of an element, the cells of the model's block, whether more may lie behind it. -/
structure Loc where
  rb : Nat
  base : Nat
  esz : Nat
  rsz : Nat
  opn : Bool
abbrev PMap := Nat → Option Loc

inductive RV (m : PMap) : Value → Value → Prop
  | bool (b : Bool) : RV m (.bool b) (.bool b)
  | int (k : IntKind) (n : Int) : RV m (.int k n) (.int k n)
  | str (s : ByteArray) : RV m (.string s) (.string s)
  | pnil : RV m (.pointer none) (.pointer none)
  | ptr (b o : Nat) (l : Loc) (h : m b = some l) : RV m (.pointer (some ⟨b, o, none⟩)) (.pointer (some ⟨l.rb, l.base + o, none⟩))
  | snil : RV m (.slice none 0 0) (.slice none 0 0)
  | slice (b o n c : Nat) (l : Loc) (ra : Addr) (rc : Nat) (h : m b = some l) (hn : n ≤ c) (hc : c ≤ rc) (hx : l.opn = false → rc = c)
      (ha : rc = 0 ∨ (ra = ⟨l.rb, l.base + o, none⟩ ∧ l.base + o + rc * l.esz ≤ l.rsz)) : RV m (.slice (some ⟨b, o, none⟩) n c) (.slice (some ra) n rc)
  | nilFunc : RV m .nilFunc .nilFunc
  | nilIface : RV m .nilIface .nilIface
  | func (fn : Fn) (f g c d : Array Value) (h1 : f.size = g.size) (h2 : ∀ i, i < f.size → RV m (f.getD i undef) (g.getD i undef))
      (h3 : c.size = d.size) (h4 : ∀ i, i < c.size → RV m (c.getD i undef) (d.getD i undef)) : RV m (.func fn f c) (.func fn g d)
  | agg (f g : Array Value) (h1 : f.size = g.size) (h2 : ∀ i, i < f.size → RV m (f.getD i undef) (g.getD i undef)) : RV m (.agg f) (.agg g)
  | tuple (f g : Array Value) (h1 : f.size = g.size) (h2 : ∀ i, i < f.size → RV m (f.getD i undef) (g.getD i undef)) : RV m (.tuple f) (.tuple g)

theorem RV.mono {m m' : PMap} (hm : ∀ b l, m b = some l → m' b = some l) {v r : Value} (h : RV m v r) : RV m' v r := by
  induction h with
  | bool b => exact .bool b
  | int k n => exact .int k n
  | str s => exact .str s
  | pnil => exact .pnil
  | ptr b o l h => exact .ptr b o l (hm _ _ h)
  | snil => exact .snil
  | slice b o n c l ra rc h hn hc hx ha => exact .slice b o n c l ra rc (hm _ _ h) hn hc hx ha
  | nilFunc => exact .nilFunc
  | nilIface => exact .nilIface
  | func fn f g c d h1 _ h3 _ i2 i4 => exact .func fn f g c d h1 i2 h3 i4
  | agg f g h1 _ i2 => exact .agg f g h1 i2
  | tuple f g h1 _ i2 => exact .tuple f g h1 i2

theorem RV.undef (m : PMap) : RV m undef undef := .tuple _ _ rfl (fun i hi => absurd hi (by simp))

/-- Lists, place by place. -/
def RL (m : PMap) (xs ys : List Value) : Prop := xs.length = ys.length ∧ ∀ i, i < xs.length → RV m (xs.getD i Go.undef) (ys.getD i Go.undef)
theorem RL.mono {m m' : PMap} (hm : ∀ b l, m b = some l → m' b = some l) {xs ys : List Value} (h : RL m xs ys) : RL m' xs ys :=
  ⟨h.1, fun i hi => (h.2 i hi).mono hm⟩
theorem RL.nil (m : PMap) : RL m [] [] := ⟨rfl, fun i hi => absurd hi (by simp)⟩
theorem RL.cons {m : PMap} {x y : Value} {xs ys : List Value} (h : RV m x y) (hs : RL m xs ys) : RL m (x :: xs) (y :: ys) := by
  refine ⟨by simp [hs.1], fun i hi => ?_⟩
  cases i with
  | zero => simpa using h
  | succ i => simpa using hs.2 i (by simpa using hi)
theorem RL.uncons {m : PMap} {x y : Value} {xs ys : List Value} (h : RL m (x :: xs) (y :: ys)) : RV m x y ∧ RL m xs ys := by
  refine ⟨by simpa using h.2 0 (by simp), by simpa using h.1, fun i hi => ?_⟩
  simpa using h.2 (i + 1) (by simpa using hi)
theorem RL.append {m : PMap} {xs ys us vs : List Value} (h : RL m xs ys) (h' : RL m us vs) : RL m (xs ++ us) (ys ++ vs) := by
  induction xs generalizing ys with
  | nil =>
    cases ys with
    | nil => simpa using h'
    | cons y ys => exact absurd h.1 (by simp)
  | cons x xs ih =>
    cases ys with
    | nil => exact absurd h.1 (by simp)
    | cons y ys => exact RL.cons h.uncons.1 (ih h.uncons.2)
theorem RL.take {m : PMap} {xs ys : List Value} (h : RL m xs ys) (n : Nat) : RL m (xs.take n) (ys.take n) := by
  refine ⟨by simp [h.1], fun i hi => ?_⟩
  simp only [List.length_take] at hi
  have := h.2 i (by omega)
  simpa [List.getD_eq_getElem?_getD, List.getElem?_take, show i < n by omega] using this
theorem RL.drop {m : PMap} {xs ys : List Value} (h : RL m xs ys) (n : Nat) : RL m (xs.drop n) (ys.drop n) := by
  refine ⟨by simp [h.1], fun i hi => ?_⟩
  simp only [List.length_drop] at hi
  have := h.2 (n + i) (by omega)
  simpa [List.getD_eq_getElem?_getD, List.getElem?_drop] using this
theorem getD_toList (a : Array Value) (i : Nat) : a.toList.getD i Go.undef = a.getD i Go.undef := by simp
theorem RL.arr {m : PMap} {f g : Array Value} (h1 : f.size = g.size) (h2 : ∀ i, i < f.size → RV m (f.getD i Go.undef) (g.getD i Go.undef)) : RL m f.toList g.toList :=
  ⟨by simpa using h1, fun i hi => by simpa using h2 i (by simpa using hi)⟩
theorem RL.toAgg {m : PMap} {xs ys : List Value} (h : RL m xs ys) : RV m (.agg xs.toArray) (.agg ys.toArray) :=
  .agg _ _ (by simpa using h.1) (fun i hi => by simpa using h.2 i (by simpa using hi))
theorem RL.toTuple {m : PMap} {xs ys : List Value} (h : RL m xs ys) : RV m (.tuple xs.toArray) (.tuple ys.toArray) :=
  .tuple _ _ (by simpa using h.1) (fun i hi => by simpa using h.2 i (by simpa using hi))
theorem RL.map {m : PMap} {α : Type} {f g : α → Value} : ∀ {l : List α}, (∀ x ∈ l, RV m (f x) (g x)) → RL m (l.map f) (l.map g)
  | [], _ => RL.nil m
  | x :: l, h => RL.cons (h x (by simp)) (RL.map fun y hy => h y (by simp [hy]))
theorem RV.pcells {m : PMap} {v r : Value} (h : RV m v r) : RL m (pcells v) (pcells r) := by
  cases h with
  | agg f g h1 h2 => exact RL.arr h1 h2
  | _ => exact RL.cons (by first | exact .bool _ | exact .int _ _ | exact .str _ | exact .pnil | (exact .ptr _ _ _ (by assumption)) | exact .snil | (exact .slice _ _ _ _ _ _ _ (by assumption) (by assumption) (by assumption) (by assumption) (by assumption)) | exact .nilFunc | exact .nilIface | (exact .func _ _ _ _ _ (by assumption) (by assumption) (by assumption) (by assumption)) | (exact .tuple _ _ (by assumption) (by assumption))) (RL.nil m)
theorem RV.scal {m : PMap} {v r : Value} (h : RV m v r) : scal r = scal v := by cases h <;> rfl
theorem RL.scal {m : PMap} {xs ys : List Value} (h : RL m xs ys) : ys.all PM.scal = xs.all PM.scal := by
  induction xs generalizing ys with
  | nil =>
    cases ys with
    | nil => rfl
    | cons y ys => exact absurd h.1 (by simp)
  | cons x xs ih =>
    cases ys with
    | nil => exact absurd h.1 (by simp)
    | cons y ys => simp [h.uncons.1.scal, ih h.uncons.2]
theorem pcells_toList (v : Value) : v.cells.toList = pcells v := by cases v <;> rfl
theorem pcells_size (v : Value) : v.cells.size = (pcells v).length := by rw [← pcells_toList]; simp
theorem oneCell_scal (v : Value) : v.oneCell' = scal v := by cases v <;> rfl

/-- A constant of a translation stands for itself. -/
theorem RV.const {m : PMap} {v : Value} (h : constOk v = true) : RV m v v := by
  have one : ∀ u : Value, (match u with | .bool _ | .int _ _ | .string _ | .pointer none | .slice none 0 0 | .nilFunc | .nilIface => true | _ => false) = true → RV m u u := by
    intro u hu
    split at hu <;> first | exact .bool _ | exact .int _ _ | exact .str _ | exact .pnil | exact .snil | exact .nilFunc | exact .nilIface | cases hu
  unfold constOk at h
  split at h
  case h_8 cs =>
    refine .agg _ _ rfl fun i hi => one _ ?_
    have := Array.all_eq_true.1 h i hi
    have e : cs.getD i Go.undef = cs[i] := by simp [hi]
    rw [e]
    exact this
  case h_9 vs =>
    have : vs = #[] := by simpa using h
    subst this
    exact RV.undef m
  all_goals first | exact .bool _ | exact .int _ _ | exact .str _ | exact .pnil | exact .snil | exact .nilFunc | exact .nilIface | cases h

theorem ev_rel {m : PMap} {ρ : Env} {a : Act} {x : Operand} (hx : opndOk x = true) (ht : ∀ t, x = .tmp t → RV m (ρ t) (a.tmps.getD t Go.undef)) : RV m (ev ρ x) (a.eval x) := by
  cases x with
  | tmp t => exact ht t rfl
  | const v => exact RV.const hx
  | global g => cases hx
  | func f => exact .func _ _ _ _ _ rfl (fun i hi => absurd hi (by simp)) rfl (fun i hi => absurd hi (by simp))

/-! ### the heap -/
def Live (H : Heap) (b : Nat) : Prop := ∃ cs e p, H[b]? = some (.row cs e p) ∧ (cs ≠ [] ∨ p = true)
theorem Live.lt {H : Heap} {b : Nat} (h : Live H b) : b < H.length := by
  obtain ⟨cs, e, p, h, _⟩ := h
  exact (List.getElem?_eq_some_iff.1 h).1

structure Rel (m : PMap) (L0 : Nat) (H : Heap) (w : World) : Prop where
  valid : ∀ b l, m b = some l → ∃ arr e fz, w.heap[l.rb]? = some (.cells arr e fz) ∧ arr.size = l.rsz ∧ (L0 ≤ b → ∀ j, l.base ≤ j → j < l.rsz → ¬ (fz.1 ≤ j ∧ j < fz.2))
  row : ∀ b l cs e p, m b = some l → H[b]? = some (.row cs e p) → l.esz = e ∧ l.opn = p ∧ l.base + cs.length ≤ l.rsz ∧
    ∀ i, i < cs.length → ∃ rv, w.cell? ⟨l.rb, l.base + i, none⟩ = some rv ∧ RV m (cs.getD i Go.undef) rv ∧ scal (cs.getD i Go.undef) = true
  inj : ∀ b1 b2 l1 l2, L0 ≤ b1 → m b1 = some l1 → m b2 = some l2 → Live H b1 → Live H b2 → l1.rb = l2.rb → b1 = b2

/-- What a step of the pure machine does to its heap, whatever it is: nothing below lo. -/
structure Ext (lo : Nat) (H H' : Heap) : Prop where
  len : H.length ≤ H'.length
  low : ∀ b, b < lo → b < H.length → H'[b]? = H[b]?
  liv : ∀ b, b < H.length → Live H' b → Live H b
theorem Ext.refl (lo : Nat) (H : Heap) : Ext lo H H := ⟨Nat.le_refl _, fun _ _ _ => rfl, fun _ _ h => h⟩
theorem Ext.trans {lo : Nat} {H H1 H2 : Heap} (h : Ext lo H H1) (h' : Ext lo H1 H2) : Ext lo H H2 :=
  ⟨Nat.le_trans h.len h'.len, fun b hb hl => (h'.low b hb (Nat.lt_of_lt_of_le hl h.len)).trans (h.low b hb hl),
   fun b hb hl => h.liv b hb (h'.liv b (Nat.lt_of_lt_of_le hb h.len) hl)⟩
theorem Ext.weaken {lo lo' : Nat} {H H' : Heap} (h : Ext lo' H H') (hl : lo ≤ lo') : Ext lo H H' :=
  ⟨h.len, fun b hb => h.low b (Nat.lt_of_lt_of_le hb hl), h.liv⟩

/-- The model's side of a step. -/
structure Trans (lo : Nat) (m : PMap) (H : Heap) (w : World) (m' : PMap) (H' : Heap) (w' : World) : Prop where
  ext : ∀ b l, m b = some l → m' b = some l
  new : ∀ b l, m' b = some l → m b = none → (H.length ≤ b ∧ b < H'.length) ∧
    (w.heap.size ≤ l.rb ∨ ¬ Live H' b ∨ ∃ b0 l0, lo ≤ b0 ∧ m b0 = some l0 ∧ Live H b0 ∧ l0.rb = l.rb)
  size : w.heap.size ≤ w'.heap.size
  keep : ∀ rb, rb < w.heap.size → (∀ b l, lo ≤ b → m b = some l → Live H b → l.rb ≠ rb) → w'.heap[rb]? = w.heap[rb]?
  same : w'.os = w.os ∧ w'.output = w.output ∧ w'.tape = w.tape

theorem Trans.refl (lo : Nat) (m : PMap) (H : Heap) (w : World) : Trans lo m H w m H w :=
  ⟨fun _ _ h => h, fun b l h h' => (by rw [h] at h'; cases h'), Nat.le_refl _, fun _ _ _ => rfl, rfl, rfl, rfl⟩

theorem Trans.trans {lo : Nat} {m m1 m2 : PMap} {H H1 H2 : Heap} {w w1 w2 : World} (hf : ∀ b, H.length ≤ b → b < H2.length → m b = none)
    (e1 : Ext lo H H1) (e2 : Ext lo H1 H2) (h1 : Trans lo m H w m1 H1 w1) (h2 : Trans lo m1 H1 w1 m2 H2 w2) : Trans lo m H w m2 H2 w2 := by
  have old : ∀ b l, m b = some l → b < H2.length → b < H.length := fun b l hm hb => by
    rcases Nat.lt_or_ge b H.length with h | h
    · exact h
    · rw [hf b h hb] at hm; cases hm
  refine ⟨fun b l h => h2.ext _ _ (h1.ext _ _ h), fun b l h hn => ?_, Nat.le_trans h1.size h2.size, fun rb hrb hk => ?_,
    h2.same.1.trans h1.same.1, h2.same.2.1.trans h1.same.2.1, h2.same.2.2.trans h1.same.2.2⟩
  · cases hm1 : m1 b with
    | some l1 =>
      have : l1 = l := by have := h2.ext _ _ hm1; rw [h] at this; injection this with this; exact this.symm
      subst this
      obtain ⟨⟨ha, hb⟩, hc⟩ := h1.new b l1 hm1 hn
      refine ⟨⟨ha, Nat.lt_of_lt_of_le hb e2.len⟩, ?_⟩
      rcases hc with hc | hc | hc
      · exact .inl hc
      · exact .inr (.inl fun hl => hc (e2.liv b hb hl))
      · exact .inr (.inr hc)
    | none =>
      obtain ⟨⟨ha, hb⟩, hc⟩ := h2.new b l h hm1
      refine ⟨⟨Nat.le_trans e1.len ha, hb⟩, ?_⟩
      rcases hc with hc | hc | ⟨b0, l0, hlo, hm0, hl0, hr0⟩
      · exact .inl (Nat.le_trans h1.size hc)
      · exact .inr (.inl hc)
      · cases hmb : m b0 with
        | some lb =>
          have : lb = l0 := by have := h1.ext _ _ hmb; rw [hm0] at this; injection this with this; exact this.symm
          subst this
          have hlt := old b0 lb hmb (Nat.lt_of_lt_of_le hl0.lt e2.len)
          exact .inr (.inr ⟨b0, lb, hlo, hmb, e1.liv b0 hlt hl0, hr0⟩)
        | none =>
          obtain ⟨_, hd⟩ := h1.new b0 l0 hm0 hmb
          rcases hd with hd | hd | ⟨b1, l1, g1, g2, g3, g4⟩
          · exact .inl (hr0 ▸ hd)
          · exact absurd hl0 hd
          · exact .inr (.inr ⟨b1, l1, g1, g2, g3, g4.trans hr0⟩)
  · rw [h2.keep rb (Nat.lt_of_lt_of_le hrb h1.size) ?_, h1.keep rb hrb hk]
    intro b l hlo hm1 hl hr
    cases hmb : m b with
    | some lb =>
      have : lb = l := by have := h1.ext _ _ hmb; rw [hm1] at this; injection this with this; exact this.symm
      subst this
      have hlt := old b lb hmb (Nat.lt_of_lt_of_le hl.lt e2.len)
      exact hk b lb hlo hmb (e1.liv b hlt hl) hr
    | none =>
      obtain ⟨_, hd⟩ := h1.new b l hm1 hmb
      rcases hd with hd | hd | ⟨b0, l0, g1, g2, g3, g4⟩
      · omega
      · exact hd hl
      · exact hk b0 l0 g1 g2 g3 (g4.trans hr)

end Go.PM
