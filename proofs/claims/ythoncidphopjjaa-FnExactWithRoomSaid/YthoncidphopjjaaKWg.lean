/- Texts of a claim, in one: part 7. -/
import Derived.Test.YthoncidphopjjaaKWf

/- How the statements hand lists over, and look at them: Int64S. -/
set_option linter.unusedSimpArgs false
set_option linter.unusedVariables false
namespace Go.PM
def fillN : Int := -7000000000000000101

theorem numsV_pure (xs : List Int) : pureV (numsV xs) = true := nums_pure xs

end Go.PM

/- Laws' helpers: sizes and marks of customers; rows of longer heaps. -/
namespace Go.PM

theorem vrow_app {H L : VHeap} {b g : Nat} {x : List VV × Nat × Bool} (h : vrow H b g = some x) : vrow (H ++ L) b g = some x := by
  obtain ⟨es, e, w⟩ := x
  rw [vrow_some] at h ⊢
  rw [List.getElem?_append_left (List.getElem?_eq_some_iff.1 h).1]
  exact h
theorem vrow_of_app {H L : VHeap} {i g e : Nat} {es : List VV} {w : Bool} (h : L[i]? = some (.row g es e w)) : vrow (H ++ L) (H.length + i) g = some (es, e, w) := by
  rw [vrow_some, List.getElem?_append_right (Nat.le_add_right _ _), Nat.add_sub_cancel_left]
  exact h
theorem vrow_set_ne {H : VHeap} {b b' g : Nat} {x : VBlk} {y : List VV × Nat × Bool} (hn : b' ≠ b) (h : vrow H b g = some y) : vrow (H.set b' x) b g = some y := by
  obtain ⟨es, e, w⟩ := y
  rw [vrow_some] at h ⊢
  rw [List.getElem?_set_ne hn]
  exact h
theorem vrow_set_eq {H : VHeap} {b g e : Nat} {es : List VV} {w : Bool} {y : List VV × Nat × Bool} {g' : Nat} (h : vrow H b g' = some y) : vrow (H.set b (.row g es e w)) b g = some (es, e, w) := by
  obtain ⟨es', e', w'⟩ := y
  rw [vrow_some] at h ⊢
  rw [List.getElem?_set_self (List.getElem?_eq_some_iff.1 h).1]
theorem vrow_lt {H : VHeap} {b g : Nat} {x : List VV × Nat × Bool} (h : vrow H b g = some x) : b < H.length := by
  obtain ⟨es, e, w⟩ := x
  exact (List.getElem?_eq_some_iff.1 (vrow_some.1 h)).1

theorem laws_szCustomerS_v (xs : List Cust) (left : Int) (hn : xs.length ≤ 140737488355328) (hl : -1000000000000000000 ≤ left ∧ left ≤ 1000000) : TC 5 [custsV xs, VI left] (VI (if left < xs.length then -1 else left - xs.length)) := by
  refine TC.walk ⟨true, false⟩ laws_szCustomerS_t rfl (Nat.le_of_ble_eq_true rfl) (by simp [pureL, custsV_pure]; rfl) rfl ?_
  have w : IntKind.i64.wrap (left - (xs.length : Int)) = left - (xs.length : Int) := wrap64 (by omega) (by omega)
  by_cases h : left - (xs.length : Int) < 0
  · simp only [laws_szCustomerS, laws_szCustomerS_c, w, h, VX, Nat.reduceEqDiff, Nat.reduceAdd]
    rw [if_pos (by omega)]
    exact fz_res rfl
  · simp only [laws_szCustomerS, laws_szCustomerS_c, w, h, VX, Nat.reduceEqDiff, Nat.reduceAdd]
    rw [if_neg (by omega)]
    exact fz_res rfl

theorem laws_markCustomerS_v {lo b n c : Nat} {H : VHeap} (xs : List Cust) (k : Int) (hr : vrow H b 0 = some (xs.map cV, 3, true)) (hn : n ≤ xs.length) (hlo : lo ≤ b) (hk : 0 ≤ k ∧ k ≤ 1000000000) (hn' : n ≤ 1000000000) :
    VRaw 11 [.ref b 0 0 n c, VI k] lo H fun r H' => r = VI (k + 3 * n) ∧ ∃ ys : List Cust, H' = H.set b (.row 0 (ys.map cV) 3 true) := by
  refine VRaw.walk ⟨true, false⟩ laws_markCustomerS_t (Nat.le_of_ble_eq_true rfl) ?_
  have hb : b < H.length := (List.getElem?_eq_some_iff.1 (vrow_some.1 hr)).1
  have h00 : H = H.set b (.row 0 (xs.map cV) 3 true) := by
    have h' := vrow_some.1 hr
    obtain ⟨hlt, hge⟩ := List.getElem?_eq_some_iff.1 h'
    rw [← hge, List.set_getElem_self]
  simp only [laws_markCustomerS, laws_markCustomerS_c, VX, Nat.reduceEqDiff, Nat.reduceAdd]
  refine VW_loop (fun (s : Nat × List Cust) ρ H1 => s.1 ≤ n ∧ s.2.length = xs.length ∧ H1 = H.set b (.row 0 (s.2.map cV) 3 true) ∧ ρ 0 = .ref b 0 0 n c ∧ ρ 1 = VI (k + 3 * s.1) ∧ ρ 5 = VI s.1) (fun s => n - s.1) (0, xs) ⟨Nat.zero_le _, rfl, h00, rfl, by simp only [VX, Nat.reduceEqDiff, Nat.reduceAdd]; simp, rfl⟩ ?_
  rintro ⟨i, ys⟩ ρ H1 ⟨hi, hly, rfl, h0, h1, h5⟩
  simp only at hi hly h1 h5
  have hR : ∀ ys : List Cust, vrow (H.set b (.row 0 (ys.map cV) 3 true)) b 0 = some (ys.map cV, 3, true) := fun ys => vrow_some.2 (List.getElem?_set_self hb)
  have el := fun ys => vlen_ref (o := 0) (n := n) (c := c) (hR ys)
  by_cases hin : (i : Int) < (n : Int)
  · obtain ⟨y, hy⟩ : ∃ y, ys[i]? = some y := ⟨_, List.getElem?_eq_getElem (by omega)⟩
    have e1 := fun ys => viaddr_row (o := 0) (n := n) (c := c) (i := i) (k := .i64) (hR ys) (by omega)
    have e2 := vstore_fld (f := cV) (lo := lo) (o := 0) (v := VI (k + 3 * i)) (y := ⟨k + 3 * i, y.w, y.k⟩) (hR ys) hy (by decide) (by decide) rfl rfl rfl hlo
    have g3 : (ys.set i ⟨k + 3 * i, y.w, y.k⟩)[i]? = some ⟨k + 3 * i, y.w, y.k⟩ := List.getElem?_set_self (by omega)
    have e3 := vstore_fld (f := cV) (lo := lo) (o := 1) (v := VI (k + 3 * i + 1)) (y := ⟨k + 3 * i, k + 3 * i + 1, y.k⟩) (hR _) g3 (by decide) (by decide) rfl rfl rfl hlo
    have g4 : ((ys.set i ⟨k + 3 * i, y.w, y.k⟩).set i ⟨k + 3 * i, k + 3 * i + 1, y.k⟩)[i]? = some ⟨k + 3 * i, k + 3 * i + 1, y.k⟩ := List.getElem?_set_self (by simp; omega)
    have e4 := vstore_fld (f := cV) (lo := lo) (o := 2) (v := VI (k + 3 * i + 1 + 1)) (y := ⟨k + 3 * i, k + 3 * i + 1, k + 3 * i + 1 + 1⟩) (hR _) g4 (by decide) (by decide) rfl rfl rfl hlo
    simp only [List.set_set] at e2 e3 e4
    have w1 : IntKind.i64.wrap (k + 3 * i + 1) = k + 3 * i + 1 := wrap64 (by omega) (by omega)
    have w2 : IntKind.i64.wrap (k + 3 * i + 1 + 1) = k + 3 * i + 1 + 1 := wrap64 (by omega) (by omega)
    have w3 : IntKind.i64.wrap (k + 3 * i + 1 + 1 + 1) = k + 3 * ((i + 1 : Nat) : Int) := by rw [wrap64 (by omega) (by omega)]; omega
    have wi : IntKind.i64.wrap ((i : Int) + 1) = ((i + 1 : Nat) : Int) := wrapN (i + 1) (by omega) (by omega)
    simp only [laws_markCustomerS_b0, h0, h1, h5, hin, el, e1, e2, e3, e4, hR, w1, w2, w3, wi, vfaddr_pdef, Nat.zero_add, VX, Nat.reduceEqDiff, Nat.reduceAdd]
    exact ⟨(i + 1, _), by simp only; omega, by simp only; omega, by simp [hly], rfl, by (repeat' apply And.intro) <;> first | rfl | trivial⟩
  · have hie : i = n := by omega
    subst hie
    simp only [laws_markCustomerS_b0, h0, h1, h5, hin, el, VX, Nat.reduceEqDiff, Nat.reduceAdd]
    exact ⟨_, rfl⟩
end Go.PM
