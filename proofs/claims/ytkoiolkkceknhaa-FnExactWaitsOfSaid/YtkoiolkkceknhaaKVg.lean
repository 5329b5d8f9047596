/- Texts of a claim, in one: part 7. -/
import Derived.Test.YtkoiolkkceknhaaKVf

/- How the statements hand lists over, and look at them: Int64S. -/
set_option linter.unusedSimpArgs false
set_option linter.unusedVariables false
namespace Go.PM
def fillN : Int := -7000000000000000101
set_option maxHeartbeats 1000000 in
theorem laws_toInt64S_v (xs : List Int) (bare : Bool) (hn : xs.length ≤ 1000000000) : FC 23 [numsV xs, .sc (.bool bare)] (ToR nV 1 fillN xs bare) := by
  refine FC.walk ⟨true, false⟩ laws_toInt64S_t (Nat.le_of_ble_eq_true rfl) fun n => ?_
  have hr := room_le xs.length
  by_cases hb : bare = true ∧ (xs.length : Int) = 0
  · obtain ⟨rfl, h0⟩ := hb
    simp only [laws_toInt64S, laws_toInt64S_c, h0, VX, Nat.reduceEqDiff, Nat.reduceAdd]
    refine ⟨[], by simp, rfl, rfl, .inl ⟨rfl, ?_, rfl, rfl⟩⟩
    cases xs with
    | nil => rfl
    | cons x xs => simp at h0; omega
  have hb' : bare = true → ¬ (xs.length : Int) = 0 := fun h h' => hb ⟨h, h'⟩
  clear hb
  have w1 : IntKind.i64.wrap ((xs.length : Int) + (room xs.length : Int)) = ((xs.length + room xs.length : Nat) : Int) := wrapN _ (by omega) (by omega)
  have em := vmake_map (H := List.replicate n VBlk.dead) (z := [.int .i64 0]) (bytes := 8) (n := xs.length + room xs.length) (f := nV) (x := 0) rfl (by omega) (by omega)
  rw [List.length_replicate] at em
  have main : ∀ ρ : VEnv, ρ 0 = numsV xs → ρ 5 = .ref n 0 0 (xs.length + room xs.length) (xs.length + room xs.length) → ρ 6 = VI 0 → ∀ Q : VQ,
      (∀ ρ' : VEnv, ρ' 0 = numsV xs → ρ' 5 = .ref n 0 0 (xs.length + room xs.length) (xs.length + room xs.length) → Q (.exit 0) ρ' (List.replicate n VBlk.dead ++ [.row 0 ((xs ++ List.replicate (room xs.length) (0 : Int)).map nV) 1 true])) →
      VW ⟨true, false⟩ n (.loop laws_toInt64S_b0) Q ρ (List.replicate n VBlk.dead ++ [.row 0 ((List.replicate (xs.length + room xs.length) (0 : Int)).map nV) 1 true]) := by
    intro ρ h0 h5 h6 Q hQ
    refine VW_loop (fun (i : Nat) ρ H => i ≤ xs.length ∧ H = List.replicate n VBlk.dead ++ [.row 0 ((xs.take i ++ List.replicate (xs.length + room xs.length - i) (0 : Int)).map nV) 1 true] ∧ ρ 0 = numsV xs ∧ ρ 5 = .ref n 0 0 (xs.length + room xs.length) (xs.length + room xs.length) ∧ ρ 6 = VI i) (fun i => xs.length - i) 0 ⟨Nat.zero_le _, by simp, h0, h5, h6⟩ ?_
    rintro i ρ H ⟨hi, rfl, h0, h5, h6⟩
    by_cases hin : (i : Int) < (xs.length : Int)
    · obtain ⟨x, hx⟩ : ∃ x, xs[i]? = some x := ⟨_, List.getElem?_eq_getElem (by omega)⟩
      have e1 := viaddr_map (f := nV) (t := .op) (H := List.replicate n VBlk.dead ++ [.row 0 ((xs.take i ++ List.replicate (xs.length + room xs.length - i) (0 : Int)).map nV) 1 true]) (size := 1) (k := .i64) hx rfl
      have e3 := viaddr_row (H := List.replicate n VBlk.dead ++ [.row 0 ((xs.take i ++ List.replicate (xs.length + room xs.length - i) (0 : Int)).map nV) 1 true]) (b := n) (g := 0) (o := 0) (n := xs.length + room xs.length) (c := xs.length + room xs.length) (i := i) (k := .i64) vrow_D (by omega)
      have hlt : (xs.take i).length = i := by simp; omega
      have e4 := vstore_map (H := List.replicate n VBlk.dead ++ [.row 0 ((xs.take i ++ List.replicate (xs.length + room xs.length - i) (0 : Int)).map nV) 1 true]) (f := nV) (e := 1) (x := x) (j := i) (lo := n) (b := n) (g := 0) vrow_D (by simp; omega) (Nat.le_refl _) rfl rfl
      have hst := set_step (xs.take i) (xs.length + room xs.length - (i + 1)) (0 : Int) x
      rw [hlt, show xs.length + room xs.length - (i + 1) + 1 = xs.length + room xs.length - i by omega] at hst
      have htk : xs.take i ++ [x] = xs.take (i + 1) := by rw [List.take_add_one, hx]; rfl
      rw [set_D, hst, htk] at e4
      have wi : IntKind.i64.wrap ((i : Int) + 1) = ((i + 1 : Nat) : Int) := wrapN (i + 1) (by omega) (by omega)
      simp only [laws_toInt64S_b0, h0, h5, h6, hin, e1, e3, e4, wi, VX, Nat.reduceEqDiff, Nat.reduceAdd]
      exact ⟨i + 1, by omega, by omega, by (repeat' apply And.intro) <;> first | rfl | trivial⟩
    · have hie : i = xs.length := by omega
      subst hie
      simp only [laws_toInt64S_b0, h0, h5, h6, hin, VX, Nat.reduceEqDiff, Nat.reduceAdd]
      rw [List.take_length, Nat.add_sub_cancel_left]
      exact hQ _ h0 h5
  have main2 : ∀ ρ : VEnv, ρ 0 = numsV xs → ρ 5 = .ref n 0 0 (xs.length + room xs.length) (xs.length + room xs.length) → ρ 7 = VI xs.length → ∀ Q : VQ,
      (∀ ρ' : VEnv, ρ' 0 = numsV xs → ρ' 5 = .ref n 0 0 (xs.length + room xs.length) (xs.length + room xs.length) → Q (.exit 2) ρ' (List.replicate n VBlk.dead ++ [.row 0 ((filledS fillN xs).map nV) 1 true])) →
      VW ⟨true, false⟩ n (.loop laws_toInt64S_b1) Q ρ (List.replicate n VBlk.dead ++ [.row 0 ((xs ++ List.replicate (room xs.length) (0 : Int)).map nV) 1 true]) := by
    intro ρ h0 h5 h6 Q hQ
    refine VW_loop (fun (j : Nat) ρ H => j ≤ room xs.length ∧ H = List.replicate n VBlk.dead ++ [.row 0 ((xs ++ List.replicate j fillN ++ List.replicate (room xs.length - j) (0 : Int)).map nV) 1 true] ∧ ρ 0 = numsV xs ∧ ρ 5 = .ref n 0 0 (xs.length + room xs.length) (xs.length + room xs.length) ∧ ρ 7 = VI (xs.length + j : Nat)) (fun j => room xs.length - j) 0 ⟨Nat.zero_le _, by simp, h0, h5, h6⟩ ?_
    rintro j ρ H ⟨hi, rfl, h0, h5, h6⟩
    have el := vlen_ref (H := List.replicate n VBlk.dead ++ [.row 0 ((xs ++ List.replicate j fillN ++ List.replicate (room xs.length - j) (0 : Int)).map nV) 1 true]) (b := n) (g := 0) (o := 0) (n := xs.length + room xs.length) (c := xs.length + room xs.length) vrow_D
    by_cases hin : ((xs.length + j : Nat) : Int) < ((xs.length + room xs.length : Nat) : Int)
    · have e3 := viaddr_row (H := List.replicate n VBlk.dead ++ [.row 0 ((xs ++ List.replicate j fillN ++ List.replicate (room xs.length - j) (0 : Int)).map nV) 1 true]) (b := n) (g := 0) (o := 0) (n := xs.length + room xs.length) (c := xs.length + room xs.length) (i := xs.length + j) (k := .i64) vrow_D (by omega)
      have e4 := vstore_map (H := List.replicate n VBlk.dead ++ [.row 0 ((xs ++ List.replicate j fillN ++ List.replicate (room xs.length - j) (0 : Int)).map nV) 1 true]) (f := nV) (e := 1) (x := fillN) (j := xs.length + j) (lo := n) (b := n) (g := 0) vrow_D (by simp; omega) (Nat.le_refl _) rfl rfl
      have hst := set_step (xs ++ List.replicate j fillN) (room xs.length - (j + 1)) (0 : Int) fillN
      rw [show (xs ++ List.replicate j fillN).length = xs.length + j by simp, show room xs.length - (j + 1) + 1 = room xs.length - j by omega, show xs ++ List.replicate j fillN ++ [fillN] = xs ++ List.replicate (j + 1) fillN by rw [List.append_assoc, ← List.replicate_succ']] at hst
      rw [set_D, hst] at e4
      have e4 : vstore n 1 (.ptr n 0 (xs.length + j) 0) (.sc (.int .i64 (-7000000000000000101))) _ = _ := e4
      have wi : IntKind.i64.wrap (((xs.length + j : Nat) : Int) + 1) = ((xs.length + (j + 1) : Nat) : Int) := wrapN _ (by omega) (by omega)
      simp only [laws_toInt64S_b1, h0, h5, h6, hin, el, e3, e4, wi, VX, Nat.reduceEqDiff, Nat.reduceAdd]
      exact ⟨j + 1, by omega, by omega, by (repeat' apply And.intro) <;> first | rfl | trivial⟩
    · have hie : j = room xs.length := by omega
      subst hie
      simp only [laws_toInt64S_b1, h0, h5, h6, hin, el, VX, Nat.reduceEqDiff, Nat.reduceAdd]
      rw [Nat.sub_self, List.replicate_zero, List.append_nil]
      exact hQ _ h0 h5
  have fin : ∀ ρ' : VEnv, vsub 1 (.ref n 0 0 (xs.length + room xs.length) (xs.length + room xs.length)) none (some (VI xs.length)) none (List.replicate n VBlk.dead ++ [.row 0 ((filledS fillN xs).map nV) 1 true]) = some (.ref n 0 0 xs.length (xs.length + room xs.length)) := by
    intro _
    rw [vsub_ref_to vrow_D (by omega)]
  cases bare with
  | true =>
    have hb0 := hb' rfl
    simp only [laws_toInt64S, laws_toInt64S_c, hb0, w1, em, laws_roomBehind_v, VX, Nat.reduceEqDiff, Nat.reduceAdd]
    refine main _ rfl rfl rfl _ fun ρ' h0 h5 => ?_
    simp only [h0, h5, VX, Nat.reduceEqDiff, Nat.reduceAdd]
    refine main2 _ (by exact h0) (by exact h5) rfl _ fun ρ'' h0 h5 => ?_
    simp only [h0, h5, fin ρ'', VX, Nat.reduceEqDiff, Nat.reduceAdd]
    refine ⟨_, rfl, by simp [ownV], by simp [rowsOwn, ownL_map (f := nV) (fun _ => rfl)], .inr ⟨rfl, rfl⟩⟩
  | false =>
    simp only [laws_toInt64S, laws_toInt64S_c, w1, em, laws_roomBehind_v, VX, Nat.reduceEqDiff, Nat.reduceAdd]
    refine main _ rfl rfl rfl _ fun ρ' h0 h5 => ?_
    simp only [h0, h5, VX, Nat.reduceEqDiff, Nat.reduceAdd]
    refine main2 _ (by exact h0) (by exact h5) rfl _ fun ρ'' h0 h5 => ?_
    simp only [h0, h5, fin ρ'', VX, Nat.reduceEqDiff, Nat.reduceAdd]
    refine ⟨_, rfl, by simp [ownV], by simp [rowsOwn, ownL_map (f := nV) (fun _ => rfl)], .inr ⟨rfl, rfl⟩⟩

theorem numsV_pure (xs : List Int) : pureV (numsV xs) = true := nums_pure xs

theorem laws_intactInt64S_v {lo b b' : Nat} {H : VHeap} (xs : List Int) (hn : xs.length ≤ 400000000) (hX : vrow H b 0 = some ((filledS fillN xs).map nV, 1, true)) (hY : vrow H b' 0 = some ((filledS fillN xs).map nV, 1, true)) {K : VV → VHeap → Prop} (hk : K (.sc (.bool true)) H) :
    vcallP 25 [.ref b 0 0 xs.length (xs.length + room xs.length), .ref b' 0 0 xs.length (xs.length + room xs.length)] lo H K := by
  refine vcall_raw rfl (VRaw.walk ⟨true, false⟩ laws_intactInt64S_t (Nat.le_of_ble_eq_true rfl) ?_)
  have hr := room_le xs.length
  have hf := filledS_len fillN xs
  have w1 : IntKind.i64.wrap ((xs.length : Int) + (room xs.length : Int)) = ((xs.length + room xs.length : Nat) : Int) := wrapN _ (by omega) (by omega)
  have l1 := vlen_ref (o := 0) (n := xs.length) (c := xs.length + room xs.length) hX
  have l2 := vlen_ref (o := 0) (n := xs.length) (c := xs.length + room xs.length) hY
  have e1 := vsub_ref_to (o := 0) (n := xs.length) (c := xs.length + room xs.length) (h := xs.length + room xs.length) (k2 := .i64) hX (Nat.le_refl _)
  have e2 := vsub_ref_to (o := 0) (n := xs.length) (c := xs.length + room xs.length) (h := xs.length + room xs.length) (k2 := .i64) hY (Nat.le_refl _)
  have f1 : fz depth H (.ref b 0 0 (xs.length + room xs.length) (xs.length + room xs.length)) = some (numsV (filledS fillN xs)) := fz_row hX (by simp [hf]) (Nat.le_refl _) (pure_map fun _ => rfl)
  have f2 : fz depth H (.ref b' 0 0 (xs.length + room xs.length) (xs.length + room xs.length)) = some (numsV (filledS fillN xs)) := fz_row hY (by simp [hf]) (Nat.le_refl _) (pure_map fun _ => rfl)
  have e3 := (laws_eqInt64S_v (filledS fillN xs) (filledS fillN xs) (by omega)).flat (H := H) rfl (by simp [pureL, numsV_pure]) (fz2 f1 f2) rfl
  simp only [laws_intactInt64S, laws_intactInt64S_c, laws_roomBehind_v, l1, l2, w1, e1, e2, e3, eq_self, VX, Nat.reduceEqDiff, Nat.reduceAdd]
  exact hk
end Go.PM

/- Laws' helpers: sizes and marks of customers; rows of longer heaps. -/
namespace Go.PM

theorem vrow_app {H L : VHeap} {b g : Nat} {x : List VV × Nat × Bool} (h : vrow H b g = some x) : vrow (H ++ L) b g = some x := by
  obtain ⟨es, e, w⟩ := x
  rw [vrow_some] at h ⊢
  rw [List.getElem?_append_left (List.getElem?_eq_some_iff.1 h).1]
  exact h
theorem vrow_of_app {H L : VHeap} {i g e : Nat} {es : List VV} {w : Bool} (h : L[i]? = some (.row g es e w)) : vrow (H ++ L) (H.length + i) g = some (es, e, w) := by
  rw [vrow_some, List.getElem?_append_right (Nat.le_add_right _ _), Nat.add_sub_cancel_left]
  exact h
theorem vrow_set_ne {H : VHeap} {b b' g : Nat} {x : VBlk} {y : List VV × Nat × Bool} (hn : b' ≠ b) (h : vrow H b g = some y) : vrow (H.set b' x) b g = some y := by
  obtain ⟨es, e, w⟩ := y
  rw [vrow_some] at h ⊢
  rw [List.getElem?_set_ne hn]
  exact h
theorem vrow_set_eq {H : VHeap} {b g e : Nat} {es : List VV} {w : Bool} {y : List VV × Nat × Bool} {g' : Nat} (h : vrow H b g' = some y) : vrow (H.set b (.row g es e w)) b g = some (es, e, w) := by
  obtain ⟨es', e', w'⟩ := y
  rw [vrow_some] at h ⊢
  rw [List.getElem?_set_self (List.getElem?_eq_some_iff.1 h).1]
theorem vrow_lt {H : VHeap} {b g : Nat} {x : List VV × Nat × Bool} (h : vrow H b g = some x) : b < H.length := by
  obtain ⟨es, e, w⟩ := x
  exact (List.getElem?_eq_some_iff.1 (vrow_some.1 h)).1

theorem laws_szCustomerS_v (xs : List Cust) (left : Int) (hn : xs.length ≤ 140737488355328) (hl : -1000000000000000000 ≤ left ∧ left ≤ 1000000) : TC 15 [custsV xs, VI left] (VI (if left < xs.length then -1 else left - xs.length)) := by
  refine TC.walk ⟨true, false⟩ laws_szCustomerS_t rfl (Nat.le_of_ble_eq_true rfl) (by simp [pureL, custsV_pure]; rfl) rfl ?_
  have w : IntKind.i64.wrap (left - (xs.length : Int)) = left - (xs.length : Int) := wrap64 (by omega) (by omega)
  by_cases h : left - (xs.length : Int) < 0
  · simp only [laws_szCustomerS, laws_szCustomerS_c, w, h, VX, Nat.reduceEqDiff, Nat.reduceAdd]
    rw [if_pos (by omega)]
    exact fz_res rfl
  · simp only [laws_szCustomerS, laws_szCustomerS_c, w, h, VX, Nat.reduceEqDiff, Nat.reduceAdd]
    rw [if_neg (by omega)]
    exact fz_res rfl

theorem laws_markCustomerS_v {lo b n c : Nat} {H : VHeap} (xs : List Cust) (k : Int) (hr : vrow H b 0 = some (xs.map cV, 3, true)) (hn : n ≤ xs.length) (hlo : lo ≤ b) (hk : 0 ≤ k ∧ k ≤ 1000000000) (hn' : n ≤ 1000000000) :
    VRaw 31 [.ref b 0 0 n c, VI k] lo H fun r H' => r = VI (k + 3 * n) ∧ ∃ ys : List Cust, H' = H.set b (.row 0 (ys.map cV) 3 true) := by
  refine VRaw.walk ⟨true, false⟩ laws_markCustomerS_t (Nat.le_of_ble_eq_true rfl) ?_
  have hb : b < H.length := (List.getElem?_eq_some_iff.1 (vrow_some.1 hr)).1
  have h00 : H = H.set b (.row 0 (xs.map cV) 3 true) := by
    have h' := vrow_some.1 hr
    obtain ⟨hlt, hge⟩ := List.getElem?_eq_some_iff.1 h'
    rw [← hge, List.set_getElem_self]
  simp only [laws_markCustomerS, laws_markCustomerS_c, VX, Nat.reduceEqDiff, Nat.reduceAdd]
  refine VW_loop (fun (s : Nat × List Cust) ρ H1 => s.1 ≤ n ∧ s.2.length = xs.length ∧ H1 = H.set b (.row 0 (s.2.map cV) 3 true) ∧ ρ 0 = .ref b 0 0 n c ∧ ρ 1 = VI (k + 3 * s.1) ∧ ρ 5 = VI s.1) (fun s => n - s.1) (0, xs) ⟨Nat.zero_le _, rfl, h00, rfl, by simp only [VX, Nat.reduceEqDiff, Nat.reduceAdd]; simp, rfl⟩ ?_
  rintro ⟨i, ys⟩ ρ H1 ⟨hi, hly, rfl, h0, h1, h5⟩
  simp only at hi hly h1 h5
  have hR : ∀ ys : List Cust, vrow (H.set b (.row 0 (ys.map cV) 3 true)) b 0 = some (ys.map cV, 3, true) := fun ys => vrow_some.2 (List.getElem?_set_self hb)
  have el := fun ys => vlen_ref (o := 0) (n := n) (c := c) (hR ys)
  by_cases hin : (i : Int) < (n : Int)
  · obtain ⟨y, hy⟩ : ∃ y, ys[i]? = some y := ⟨_, List.getElem?_eq_getElem (by omega)⟩
    have e1 := fun ys => viaddr_row (o := 0) (n := n) (c := c) (i := i) (k := .i64) (hR ys) (by omega)
    have e2 := vstore_fld (f := cV) (lo := lo) (o := 0) (v := VI (k + 3 * i)) (y := ⟨k + 3 * i, y.w, y.k⟩) (hR ys) hy (by decide) (by decide) rfl rfl rfl hlo
    have g3 : (ys.set i ⟨k + 3 * i, y.w, y.k⟩)[i]? = some ⟨k + 3 * i, y.w, y.k⟩ := List.getElem?_set_self (by omega)
    have e3 := vstore_fld (f := cV) (lo := lo) (o := 1) (v := VI (k + 3 * i + 1)) (y := ⟨k + 3 * i, k + 3 * i + 1, y.k⟩) (hR _) g3 (by decide) (by decide) rfl rfl rfl hlo
    have g4 : ((ys.set i ⟨k + 3 * i, y.w, y.k⟩).set i ⟨k + 3 * i, k + 3 * i + 1, y.k⟩)[i]? = some ⟨k + 3 * i, k + 3 * i + 1, y.k⟩ := List.getElem?_set_self (by simp; omega)
    have e4 := vstore_fld (f := cV) (lo := lo) (o := 2) (v := VI (k + 3 * i + 1 + 1)) (y := ⟨k + 3 * i, k + 3 * i + 1, k + 3 * i + 1 + 1⟩) (hR _) g4 (by decide) (by decide) rfl rfl rfl hlo
    simp only [List.set_set] at e2 e3 e4
    have w1 : IntKind.i64.wrap (k + 3 * i + 1) = k + 3 * i + 1 := wrap64 (by omega) (by omega)
    have w2 : IntKind.i64.wrap (k + 3 * i + 1 + 1) = k + 3 * i + 1 + 1 := wrap64 (by omega) (by omega)
    have w3 : IntKind.i64.wrap (k + 3 * i + 1 + 1 + 1) = k + 3 * ((i + 1 : Nat) : Int) := by rw [wrap64 (by omega) (by omega)]; omega
    have wi : IntKind.i64.wrap ((i : Int) + 1) = ((i + 1 : Nat) : Int) := wrapN (i + 1) (by omega) (by omega)
    simp only [laws_markCustomerS_b0, h0, h1, h5, hin, el, e1, e2, e3, e4, hR, w1, w2, w3, wi, vfaddr_pdef, Nat.zero_add, VX, Nat.reduceEqDiff, Nat.reduceAdd]
    exact ⟨(i + 1, _), by simp only; omega, by simp only; omega, by simp [hly], rfl, by (repeat' apply And.intro) <;> first | rfl | trivial⟩
  · have hie : i = n := by omega
    subst hie
    simp only [laws_markCustomerS_b0, h0, h1, h5, hin, el, VX, Nat.reduceEqDiff, Nat.reduceAdd]
    exact ⟨_, rfl⟩
end Go.PM
