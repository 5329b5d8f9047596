/- Rows of elements of one size: reading, writing, making, cutting. -/
import Derived.Test.YtkoiolkkceknhaaPmData
namespace Go.PM

/-- Elements are told by so many cells each, none of them an aggregate. -/
structure EncOk {α : Type} (enc : α → List Value) (esz : Nat) : Prop where
  len : ∀ x, (enc x).length = esz
  sc : ∀ x, (enc x).all scal = true
  pos : 1 ≤ esz
theorem cc_ok : EncOk cc 3 := ⟨fun _ => rfl, fun _ => rfl, by decide⟩
theorem ci_ok : EncOk ci 1 := ⟨fun _ => rfl, fun _ => rfl, by decide⟩

section
variable {α : Type} {enc : α → List Value} {esz : Nat} {H H' : Heap} {lo b : Nat} {xs ys : List α} {p : Bool}

theorem flat_len (e : EncOk enc esz) : (xs.flatMap enc).length = xs.length * esz := by
  induction xs with
  | nil => simp
  | cons x xs ih => simp only [List.flatMap_cons, List.length_append, e.len, ih, List.length_cons, Nat.succ_mul]; omega
theorem flat_drop (e : EncOk enc esz) (i : Nat) : (xs.flatMap enc).drop (i * esz) = (xs.drop i).flatMap enc := by
  induction i generalizing xs with
  | zero => simp
  | succ i ih =>
    cases xs with
    | nil => simp
    | cons x xs =>
      rw [List.flatMap_cons, List.drop_succ_cons, ← ih, show (i + 1) * esz = (enc x).length + i * esz by rw [e.len, Nat.succ_mul]; omega, List.drop_append]
      simp
theorem flat_take (e : EncOk enc esz) (i : Nat) : (xs.flatMap enc).take (i * esz) = (xs.take i).flatMap enc := by
  induction i generalizing xs with
  | zero => simp
  | succ i ih =>
    cases xs with
    | nil => simp
    | cons x xs =>
      rw [List.flatMap_cons, List.take_succ_cons, List.flatMap_cons, ← ih, show (i + 1) * esz = (enc x).length + i * esz by rw [e.len, Nat.succ_mul]; omega, List.take_append]
      simp
      exact List.take_of_length_le (by omega)
theorem flat_splice (e : EncOk enc esz) {i : Nat} (x : α) (hi : i < xs.length) : splice (xs.flatMap enc) (i * esz) (enc x) = (xs.set i x).flatMap enc := by
  unfold splice
  rw [flat_take e, e.len, show i * esz + esz = (i + 1) * esz by rw [Nat.succ_mul], flat_drop e, List.set_eq_take_append_cons_drop, if_pos hi]
  simp

/-- A block that holds these elements and no more. -/
def Row (enc : α → List Value) (esz : Nat) (H : Heap) (b : Nat) (p : Bool) (xs : List α) : Prop := H[b]? = some (.row (xs.flatMap enc) esz p)
theorem Row.lt (h : Row enc esz H b p xs) : b < H.length := (List.getElem?_eq_some_iff.1 h).1
theorem Row.pre (h : Row enc esz H b p xs) (hp : H <+: H') : Row enc esz H' b p xs := by
  obtain ⟨L, rfl⟩ := hp
  unfold Row
  rw [get_old h.lt]
  exact h
theorem Row.elem (h : Row enc esz H b p xs) (e : EncOk enc esz) {i : Nat} {x : α} (hx : xs[i]? = some x) : Elem H b (i * esz) (enc x) := by
  refine ⟨h.lt, ?_⟩
  have hi := (List.getElem?_eq_some_iff.1 hx).1
  have hm : (i + 1) * esz ≤ xs.length * esz := Nat.mul_le_mul_right _ hi
  rw [Nat.succ_mul] at hm
  rw [read_row h (by rw [e.len, flat_len e]; omega), flat_drop e, e.len]
  have := flat_take (xs := xs.drop i) e 1
  rw [Nat.one_mul] at this
  rw [this, List.drop_eq_getElem_cons hi]
  rw [List.getElem?_eq_getElem hi] at hx
  injection hx with hx
  simp [hx]
theorem Row.arr (h : Row enc esz H b p xs) (e : EncOk enc esz) {n : Nat} (hn : n ≤ xs.length) : Arr enc esz H (some ⟨b, 0, none⟩) n (xs.take n) := by
  refine ⟨by simp; omega, fun i x hx => ⟨b, 0, rfl, ?_⟩⟩
  rw [Nat.zero_add]
  refine h.elem e ?_
  rw [List.getElem?_take] at hx
  split at hx
  · exact hx
  · cases hx
theorem Row.store (h : Row enc esz H b p xs) (e : EncOk enc esz) {i : Nat} {x : α} {u : Value} (hu : pcells u = enc x) (hi : i < xs.length) (hl : lo ≤ b) : storeV lo esz (.pointer (some ⟨b, i * esz, none⟩)) u H = some (undef, H.set b (.row ((xs.set i x).flatMap enc) esz p)) := by
  simp only [storeV, Heap.write, hu, e.len, if_true]
  have h' : H[b]? = some (.row (xs.flatMap enc) esz p) := h
  have hm : (i + 1) * esz ≤ xs.length * esz := Nat.mul_le_mul_right _ hi
  rw [Nat.succ_mul] at hm
  simp only [h']
  rw [if_pos ⟨hl, by rw [flat_len e]; omega, e.sc x⟩, flat_splice e x hi]
  rfl
theorem Row.set (h : Row enc esz H b p xs) (ys : List α) : Row enc esz (H.set b (.row (ys.flatMap enc) esz p)) b p ys := by
  unfold Row
  rw [List.getElem?_set_self h.lt]
theorem pre_set {x : Blk} (hp : H <+: H') (hb : H.length ≤ b) : H <+: H'.set b x := by
  obtain ⟨L, rfl⟩ := hp
  rw [List.set_append_right _ _ hb]
  exact List.prefix_append _ _
theorem pre_app {L : Heap} (hp : H <+: H') : H <+: H' ++ L := hp.trans (List.prefix_append _ _)

theorem zcells_flat (e : EncOk enc esz) {n : Nat} {x : α} : zcells n (enc x) = (List.replicate n x).flatMap enc := by
  have hpos := e.pos
  have hlen := e.len x
  apply List.ext_getElem?
  intro i
  unfold zcells
  rw [List.getElem?_map, hlen]
  rcases Nat.lt_or_ge i (n * esz) with hi | hi
  · rw [List.getElem?_range hi]
    have hq : i / esz < n := Nat.div_lt_of_lt_mul (by rw [Nat.mul_comm]; exact hi)
    have h1 : ((List.replicate n x).flatMap enc)[i]? = (((List.replicate n x).flatMap enc).drop (i / esz * esz))[i % esz]? := by
      rw [List.getElem?_drop]
      congr 1
      rw [Nat.mul_comm]
      exact (Nat.div_add_mod i esz).symm
    have hr : i % esz < (enc x).length := by rw [hlen]; exact Nat.mod_lt _ (by omega)
    rw [h1, flat_drop e, List.drop_replicate, show n - i / esz = (n - i / esz - 1) + 1 by omega, List.replicate_succ, List.flatMap_cons, List.getElem?_append_left hr]
    simp [List.getD_eq_getElem?_getD, List.getElem?_eq_getElem hr]
  · rw [List.getElem?_eq_none (by simpa using hi), List.getElem?_eq_none (by rw [flat_len e]; simpa using hi)]
    rfl
theorem make_row (e : EncOk enc esz) {z : α} {bytes n : Nat} (hn : n * bytes ≤ 281474976710656) (hm : n ≤ 9223372036854775807) :
    makeV (enc z) bytes (I n) (I n) H = some (.slice (some ⟨H.length, 0, none⟩) n n, H ++ [.row ((List.replicate n z).flatMap enc) esz false]) := by
  simp only [makeV]
  rw [if_pos ⟨by omega, by omega, by omega, by omega⟩]
  simp only [Int.toNat_natCast, zcells_flat e, e.len]
theorem Row.top {K : Heap} : Row enc esz (H ++ .row (xs.flatMap enc) esz p :: K) H.length p xs := get_top

/-- A slice of a row, cut at its front's length or beyond, within what it has. -/
theorem sub_at {H : Heap} {b o n c size h : Nat} {cs : List Value} {p : Bool} (hb : H[b]? = some (.row cs size p)) (hh : h ≤ c) {k : IntKind} : psub size (.slice (some ⟨b, o, none⟩) n c) none (some (.int k (h : Int))) none H = some (.slice (some ⟨b, o, none⟩) h c, H) := by
  simp only [psub, hb, if_true, pbound, Option.isSome_none, Bool.false_eq_true, false_and, if_false]
  have : (0 : Int) ≤ h ∧ (h : Int) ≤ c := by omega
  simp only [this]
  simp

end
end Go.PM
