/- What stands in the heap, and what is read from there. -/
import Derived.Test.YtkoiolkkceknhaaPmRun
namespace Go.PM

abbrev ptr (b o : Nat) : Value := .pointer (some ⟨b, o, none⟩)
abbrev I (n : Int) : Value := .int .i64 n

section
variable {H H' : Heap} {lo b o n size : Nat} {cs r : List Value} {L K : Heap} {v : Value}

theorem get_old (hb : b < H.length) : (H ++ L)[b]? = H[b]? := List.getElem?_append_left hb
theorem get_top {x : Blk} : (H ++ x :: L)[H.length]? = some x := by simp
theorem read_old (hb : b < H.length) : (H ++ L).read b o n = H.read b o n := read_congr (get_old hb)
theorem pload_old {agg : Bool} {o : Nat} (hb : b < H.length) : pload agg size (.pointer (some ⟨b, o, none⟩)) (H ++ L) = pload agg size (.pointer (some ⟨b, o, none⟩)) H := by
  simp only [pload, read_old hb]
theorem read_row {e : Nat} {p : Bool} (h : H[b]? = some (.row r e p)) (hn : o + n ≤ r.length) : H.read b o n = some ((r.drop o).take n) := by
  unfold Heap.read
  rw [h]
  simp only [hn, if_true]
theorem pload_top1 {e : Nat} {p : Bool} {u : Value} (h : r[o]? = some u) : pload false size (.pointer (some ⟨H.length, o, none⟩)) (H ++ .row r e p :: L) = some u := by
  have hlt := (List.getElem?_eq_some_iff.1 h).1
  simp only [pload, read_row get_top (show o + 1 ≤ r.length by omega)]
  have : (r.drop o).take 1 = [u] := by
    rw [List.drop_eq_getElem_cons hlt]
    simp only [List.take_succ_cons, List.take_zero]
    rw [List.getElem?_eq_getElem hlt] at h
    injection h with h
    rw [h]
  rw [this]
  rfl
theorem pload_topA {e : Nat} {p : Bool} (h : r.length = size) : pload true size (.pointer (some ⟨H.length, 0, none⟩)) (H ++ .row r e p :: L) = some (.agg r.toArray) := by
  simp only [pload, if_true, read_row (o := 0) get_top (show 0 + size ≤ r.length by omega)]
  rw [List.drop_zero, List.take_of_length_le (by omega)]
  rfl
theorem store_top {e : Nat} {p : Bool} {u : Value} (hl : lo ≤ H.length) (hu : (pcells u).length = size) (ho : o + size ≤ r.length) (hs : (pcells u).all scal = true) :
    storeV lo size (.pointer (some ⟨H.length, o, none⟩)) u (H ++ [.row r e p]) = some (undef, H ++ [.row (splice r o (pcells u)) e p]) := by
  simp only [storeV, hu, if_true, Heap.write, get_top]
  rw [if_pos ⟨hl, ho, hs⟩]
  simp
theorem store_all {e : Nat} {p : Bool} {u : Value} (hl : lo ≤ H.length) (hu : (pcells u).length = size) (ho : size = r.length) (hs : (pcells u).all scal = true) :
    storeV lo size (.pointer (some ⟨H.length, 0, none⟩)) u (H ++ [.row r e p]) = some (undef, H ++ [.row (pcells u) e p]) := by
  rw [store_top hl hu (by omega) hs]
  have : splice r 0 (pcells u) = pcells u := by
    unfold splice
    simp
    omega
  rw [this]

/-- Cells that stand in a block, from a place on. -/
structure Elem (H : Heap) (b o : Nat) (cs : List Value) : Prop where
  lt : b < H.length
  rd : H.read b o cs.length = some cs
theorem Elem.app (h : Elem H b o cs) : Elem (H ++ L) b o cs := ⟨by have := h.lt; simp; omega, by rw [read_old h.lt]; exact h.rd⟩
theorem Elem.pre (h : Elem H b o cs) (hp : H <+: H') : Elem H' b o cs := by
  obtain ⟨L, rfl⟩ := hp
  exact h.app
theorem Elem.all (h : Elem H b o cs) (hs : cs.length = size) : pload true size (.pointer (some ⟨b, o, none⟩)) H = some (.agg cs.toArray) := by
  subst hs
  simp only [pload, if_true, h.rd]
  rfl
theorem Elem.one {u : Value} (h : Elem H b o [u]) : pload false size (.pointer (some ⟨b, o, none⟩)) H = some u := by
  have := h.rd
  simp only [List.length_cons, List.length_nil] at this
  simp only [pload, this]
  rfl
theorem Elem.sub {k : Nat} {u : Value} (h : Elem H b o cs) (hk : cs[k]? = some u) : Elem H b (o + k) [u] := by
  refine ⟨h.lt, ?_⟩
  have h1 := h.rd
  unfold Heap.read at h1 ⊢
  split at h1
  · rename_i r e p hb
    split at h1
    · rename_i hl
      have hk' := (List.getElem?_eq_some_iff.1 hk).1
      simp only [List.length_cons, List.length_nil]
      rw [if_pos (by simp; omega)]
      injection h1 with h1
      rw [← h1] at hk
      rw [List.getElem?_take, if_pos (by omega), List.getElem?_drop] at hk
      have hlt := (List.getElem?_eq_some_iff.1 hk).1
      rw [List.drop_eq_getElem_cons hlt]
      simp only [List.take_succ_cons, List.take_zero]
      rw [List.getElem?_eq_getElem hlt] at hk
      injection hk with hk
      rw [hk]
    · cases h1
  · cases h1
theorem Elem.fld {k : Nat} {u : Value} (h : Elem H b o cs) (hk : cs[k]? = some u) : pload false size (.pointer (some ⟨b, o + k, none⟩)) H = some u := (h.sub hk).one

theorem iaddr_at {a : Nat} {c : Nat} {i : Int} {k : IntKind} (h0 : 0 ≤ i) (h1 : i < n) : iaddrV size (.slice (some ⟨b, a, none⟩) n c) (.int k i) = some (.pointer (some ⟨b, a + i.toNat * size, none⟩)) := by
  simp only [iaddrV]
  rw [if_pos ⟨h0, h1⟩]
theorem iaddr_nat {a : Nat} {c i : Nat} {k : IntKind} (h1 : i < n) : iaddrV size (.slice (some ⟨b, a, none⟩) n c) (.int k (i : Int)) = some (.pointer (some ⟨b, a + i * size, none⟩)) := iaddr_at (by omega) (by omega)

/-- A slice that shows these elements. -/
structure Arr {α : Type} (enc : α → List Value) (esz : Nat) (H : Heap) (a : Option Addr) (n : Nat) (xs : List α) : Prop where
  len : n = xs.length
  el : ∀ (i : Nat) x, xs[i]? = some x → ∃ b o, a = some ⟨b, o, none⟩ ∧ Elem H b (o + i * esz) (enc x)
theorem Arr.pre {α : Type} {enc : α → List Value} {esz : Nat} {a : Option Addr} {xs : List α} (h : Arr enc esz H a n xs) (hp : H <+: H') : Arr enc esz H' a n xs :=
  ⟨h.len, fun i x hx => by obtain ⟨b, o, h1, h2⟩ := h.el i x hx; exact ⟨b, o, h1, h2.pre hp⟩⟩
end

/-- A customer, as three numbers. -/
structure Cust where
  t : Int
  w : Int
  k : Int
  deriving DecidableEq
def cc (c : Cust) : List Value := [I c.t, I c.w, I c.k]
def ci (n : Int) : List Value := [I n]

end Go.PM
