/- The blocks that a function has made itself, on top of the heap, told by a list. -/
import Derived.Test.YtkoiolkkceknhaaPmArr
namespace Go.PM

def ploadL (agg : Bool) (size k o : Nat) (L : Heap) : Option Value :=
  match L[k]? with
  | some (.row cs _ _) => if agg then (if o + size ≤ cs.length then some (.agg ((cs.drop o).take size).toArray) else none) else cs[o]?
  | _ => none
def storeL (size k o : Nat) (u : Value) (L : Heap) : Option Heap :=
  match L[k]? with
  | some (.row cs e p) => if (pcells u).length = size ∧ o + size ≤ cs.length ∧ (pcells u).all scal = true then some (L.set k (.row (splice cs o (pcells u)) e p)) else none
  | _ => none
def onTop (H : Heap) : Option Heap → Option (Value × Heap)
  | some L => some (undef, H ++ L)
  | none => none
theorem onTop_some {H L : Heap} : onTop H (some L) = some (undef, H ++ L) := rfl

section
variable {H L : Heap} {lo k o size : Nat} {agg : Bool} {u : Value}
theorem get_hi : (H ++ L)[H.length + k]? = L[k]? := by
  rw [List.getElem?_append_right (by omega)]
  congr 1
  omega
theorem pload_hi : pload agg size (.pointer (some ⟨H.length + k, o, none⟩)) (H ++ L) = ploadL agg size k o L := by
  simp only [pload, Heap.read, get_hi, ploadL]
  cases L[k]? with
  | none => cases agg <;> rfl
  | some x =>
    cases x with
    | dead => cases agg <;> rfl
    | row cs e p =>
      cases agg with
      | true =>
        simp only [if_true]
        split <;> rfl
      | false =>
        simp only [Bool.false_eq_true, if_false]
        by_cases h : o + 1 ≤ cs.length
        · rw [if_pos h]
          have hlt : o < cs.length := by omega
          rw [List.drop_eq_getElem_cons hlt, List.getElem?_eq_getElem hlt]
          rfl
        · rw [if_neg h, List.getElem?_eq_none (by omega)]
theorem pload_hi0 : pload agg size (.pointer (some ⟨H.length, o, none⟩)) (H ++ L) = ploadL agg size 0 o L := pload_hi (k := 0)
theorem store_hi (hlo : lo ≤ H.length) : storeV lo size (.pointer (some ⟨H.length + k, o, none⟩)) u (H ++ L) = onTop H (storeL size k o u L) := by
  simp only [storeV, Heap.write, get_hi, storeL]
  cases L[k]? with
  | none => by_cases h : (pcells u).length = size <;> simp [h, onTop]
  | some x =>
    cases x with
    | dead => by_cases h : (pcells u).length = size <;> simp [h, onTop]
    | row cs e p =>
      by_cases h : (pcells u).length = size
      · simp only [h, if_true, true_and]
        by_cases h2 : o + size ≤ cs.length ∧ (pcells u).all scal = true
        · rw [if_pos ⟨by omega, h2⟩, if_pos h2]
          simp only [Option.map_some, onTop_some]
          rw [List.set_append_right _ _ (by omega), show H.length + k - H.length = k by omega]
        · rw [if_neg (fun hh => h2 hh.2), if_neg h2]
          rfl
      · simp only [h, if_false, false_and]
        rfl
theorem store_hi0 (hlo : lo ≤ H.length) : storeV lo size (.pointer (some ⟨H.length, o, none⟩)) u (H ++ L) = onTop H (storeL size 0 o u L) := store_hi (k := 0) hlo
end
end Go.PM
