/- Texts of a claim, in one: part 12. -/
import Derived.Test.YtkoiolkkceknhaaK05k

/- Lists of lists: compared, marked, held. -/
set_option linter.unusedSimpArgs false
set_option linter.unusedVariables false
namespace Go.PM

abbrev numssV (xs : List (List Int)) : VV := listV numsV xs
theorem numss_pure (xs : List (List Int)) : pureV (numssV xs) = true := pure_list (size := 1) (fun _ => rfl) nums_pure

theorem laws_eqInt64SS_v (xs ys : List (List Int)) (hn : xs.length ≤ 1000000000) (hx' : ∀ x ∈ xs, x.length ≤ 1000000000) : TC 30 [numssV xs, numssV ys] (.sc (.bool (decide (xs = ys)))) := by
  refine TC.walk ⟨true, false⟩ laws_eqInt64SS_t rfl (Nat.le_of_ble_eq_true rfl) (by simp [pureL, numss_pure]) rfl ?_
  by_cases hl : (xs.length : Int) = (ys.length : Int)
  · simp only [laws_eqInt64SS, laws_eqInt64SS_c, hl, VX, Nat.reduceEqDiff, Nat.reduceAdd]
    refine VW_loop (fun (i : Nat) ρ H => i ≤ xs.length ∧ H = [] ∧ xs.take i = ys.take i ∧ ρ 0 = numssV xs ∧ ρ 1 = numssV ys ∧ ρ 5 = VI i) (fun i => xs.length - i) 0 ⟨Nat.zero_le _, rfl, by simp, rfl, rfl, rfl⟩ ?_
    rintro i ρ H ⟨hi, rfl, ht, h0, h1, h5⟩
    by_cases hin : (i : Int) < (xs.length : Int)
    · obtain ⟨x, hx⟩ : ∃ x, xs[i]? = some x := ⟨_, List.getElem?_eq_getElem (by omega)⟩
      obtain ⟨y, hy⟩ : ∃ y, ys[i]? = some y := ⟨_, List.getElem?_eq_getElem (by omega)⟩
      have e1 := viaddr_map (f := numsV) (t := .op) (H := []) (size := 1) (k := .i64) hx rfl
      have e2 := viaddr_map (f := numsV) (t := .op) (H := []) (size := 1) (k := .i64) hy rfl
      have e3 := laws_eqInt64S_v x y (hx' x (List.mem_of_getElem? hx))
      have wi : IntKind.i64.wrap ((i : Int) + 1) = ((i + 1 : Nat) : Int) := wrapN (i + 1) (by omega) (by omega)
      by_cases hxy : x = y
      · subst hxy
        rw [decide_eq_true rfl] at e3
        simp only [laws_eqInt64SS_b0, e3, h0, h1, h5, hin, e1, e2, wi, VX, Nat.reduceEqDiff, Nat.reduceAdd]
        refine ⟨i + 1, by omega, by omega, ?_⟩
        rw [List.take_add_one, List.take_add_one, hx, hy, ht]
        (repeat' apply And.intro) <;> first | rfl | trivial
      · rw [decide_eq_false hxy] at e3
        simp only [laws_eqInt64SS_b0, e3, h0, h1, h5, hin, e1, e2, VX, Nat.reduceEqDiff, Nat.reduceAdd]
        have : ¬ xs = ys := fun h => hxy (by rw [h, hy] at hx; injection hx with hx; exact hx.symm)
        simp only [this, decide_false]
        exact fz_res rfl
    · simp only [laws_eqInt64SS_b0, h0, h1, h5, hin, VX, Nat.reduceEqDiff, Nat.reduceAdd]
      have : xs = ys := by
        rw [List.take_of_length_le (by omega), List.take_of_length_le (by omega)] at ht
        exact ht
      simp only [this, decide_true]
      exact fz_res rfl
  · simp only [laws_eqInt64SS, laws_eqInt64SS_c, hl, VX, Nat.reduceEqDiff, Nat.reduceAdd]
    have : ¬ xs = ys := fun h => hl (by rw [h])
    simp only [this, decide_false]
    exact fz_res rfl

/-- Marks on lists of lists. -/
def marks (k : Int) : List (List Int) → List (List Int)
  | [] => []
  | x :: xs => iota k x.length :: marks (k + x.length) xs
def total (xs : List (List Int)) : Nat := (xs.map List.length).sum
theorem marks_len (xs : List (List Int)) (k : Int) : (marks k xs).length = xs.length := by
  induction xs generalizing k with
  | nil => rfl
  | cons x xs ih => simp [marks, ih]
theorem total_take {xs : List (List Int)} {i : Nat} {x : List Int} (h : xs[i]? = some x) : total (xs.take (i + 1)) = total (xs.take i) + x.length := by
  rw [List.take_add_one, h]
  simp [total]
theorem marks_get {xs : List (List Int)} {i : Nat} {x : List Int} {k : Int} (h : xs[i]? = some x) : (marks k xs)[i]? = some (iota (k + total (xs.take i)) x.length) := by
  induction xs generalizing i k with
  | nil => cases h
  | cons y ys ih =>
    cases i with
    | zero => injection h with h; subst h; simp [marks, total]
    | succ i =>
      simp only [marks, List.getElem?_cons_succ] at h ⊢
      rw [ih h]
      simp only [List.take_succ_cons, total, List.map_cons, List.sum_cons, Int.natCast_add]
      rw [Int.add_assoc]
theorem total_le {xs : List (List Int)} (i : Nat) : total (xs.take i) ≤ total xs := by
  induction xs generalizing i with
  | nil => simp [total]
  | cons x xs ih =>
    cases i with
    | zero => simp [total]
    | succ i =>
      have := ih i
      simp only [List.take_succ_cons, total, List.map_cons, List.sum_cons] at this ⊢
      omega

theorem laws_heldInt64SS_v (k : Int) (xs : List (List Int)) (hk : 0 ≤ k ∧ k ≤ 100000000) (hn : xs.length ≤ 100000000) (ht : total xs ≤ 100000000) : TC 33 [numssV (marks k xs), VI k] (VI (k + total xs)) := by
  refine TC.walk ⟨true, false⟩ laws_heldInt64SS_t rfl (Nat.le_of_ble_eq_true rfl) (by simp [pureL, numss_pure]; rfl) rfl ?_
  simp only [laws_heldInt64SS, laws_heldInt64SS_c, VX, Nat.reduceEqDiff, Nat.reduceAdd]
  refine VW_loop (fun (i : Nat) ρ H => i ≤ xs.length ∧ H = [] ∧ ρ 0 = numssV (marks k xs) ∧ ρ 1 = VI (k + total (xs.take i)) ∧ ρ 5 = VI i) (fun i => xs.length - i) 0 ⟨Nat.zero_le _, rfl, rfl, by simp only [VX, Nat.reduceEqDiff, Nat.reduceAdd]; simp [total], rfl⟩ ?_
  rintro i ρ H ⟨hi, rfl, h0, h1, h5⟩
  have hlen := marks_len xs k
  by_cases hin : (i : Int) < (xs.length : Int)
  · obtain ⟨x, hx⟩ : ∃ x, xs[i]? = some x := ⟨_, List.getElem?_eq_getElem (by omega)⟩
    have e1 := viaddr_map (f := numsV) (t := .op) (H := []) (size := 1) (k := .i64) (marks_get (k := k) hx) rfl
    have l1 := total_take hx
    have l2 := total_le (xs := xs) (i + 1)
    have e3 := laws_heldInt64S_v (k + total (xs.take i)) x.length (by omega) (by omega)
    have hneg : ¬ (k + (total (xs.take i) : Int) + (x.length : Int)) < 0 := by omega
    have wi : IntKind.i64.wrap ((i : Int) + 1) = ((i + 1 : Nat) : Int) := wrapN (i + 1) (by omega) (by omega)
    simp only [laws_heldInt64SS_b0, h0, h1, h5, hin, e1, e3, wi, hlen, hneg, eq_self, VX, Nat.reduceEqDiff, Nat.reduceAdd]
    refine ⟨i + 1, by omega, by omega, ?_⟩
    rw [l1, Int.natCast_add, ← Int.add_assoc]
    (repeat' apply And.intro) <;> first | rfl | trivial
  · have hie : i = xs.length := by omega
    subst hie
    simp only [laws_heldInt64SS_b0, h0, h1, h5, hin, hlen, VX, Nat.reduceEqDiff, Nat.reduceAdd]
    rw [List.take_of_length_le (Nat.le_refl _)]
    exact fz_res rfl

/-! ### seen as trees -/
theorem fz_nums_n {H : VHeap} {b : Nat} {xs : List Int} (d : Nat) (h : vrow H b 0 = some (xs.map nV, 1, true)) : fz (d + 2) H (.ref b 0 0 xs.length xs.length) = some (numsV xs) := by
  have : pureV (.ref b 0 0 xs.length xs.length) = false := rfl
  show fz ((d + 1) + 1) H _ = _
  unfold PM.fz
  simp only [this, h, Bool.false_eq_true, if_false]
  rw [if_pos ⟨by simp, Nat.le_refl _⟩, List.drop_zero, List.take_of_length_le (by simp), mapM_pure (n := d) (nums_pureL xs)]
  rfl
theorem RR.fz {lo hi : Nat} {vals : List (List Int)} {H : VHeap} {v : VV} (h : RR lo hi vals H v) : fz depth H v = some (numssV vals) := by
  rcases h with ⟨rfl, rfl⟩ | ⟨b, g, c, rs, h1, h2, rfl, h4, h5, rfl, h7⟩
  · exact fz_niltree
  · have : pureV (.ref b g 0 (rs.map (·.2)).length c) = false := rfl
    show PM.fz (7 + 1) H _ = _
    unfold PM.fz
    simp only [this, h5, Bool.false_eq_true, if_false]
    rw [if_pos ⟨by simp, h4⟩, List.drop_zero, List.take_of_length_le (by simp), mapM_map (f := rowV) (f' := fun r => numsV r.2) fun r hr => fz_nums_n 5 (h7.row r hr).2.2.2]
    simp [listV, List.map_map]
theorem eq_numss {lo lo1 hi1 lo2 hi2 : Nat} {xs ys : List (List Int)} {H : VHeap} {v w : VV} {K : VV → VHeap → Prop} (hv : RR lo1 hi1 xs H v) (hw : RR lo2 hi2 ys H w) (hn : xs.length ≤ 1000000000) (hx : ∀ x ∈ xs, x.length ≤ 1000000000) :
    vcallP 30 [v, w] lo H K = K (.sc (.bool (decide (xs = ys)))) H :=
  TC.flat (laws_eqInt64SS_v xs ys hn hx) rfl (by simp [pureL, numss_pure]) (fz2 hv.fz hw.fz) rfl _ _
theorem held_numss {lo lo1 hi1 : Nat} {k : Int} {xs : List (List Int)} {H : VHeap} {v : VV} {K : VV → VHeap → Prop} (hv : RR lo1 hi1 (marks k xs) H v) (hk : 0 ≤ k ∧ k ≤ 100000000) (hn : xs.length ≤ 100000000) (ht : total xs ≤ 100000000) :
    vcallP 33 [v, VI k] lo H K = K (VI (k + total xs)) H :=
  TC.flat (laws_heldInt64SS_v k xs hk hn ht) rfl (by simp [pureL, numss_pure]; rfl) (fz2 hv.fz (fz_res rfl)) rfl _ _

theorem nodup_inj {α : Type} {l : List α} (h : l.Nodup) {i j : Nat} {x : α} (hi : l[i]? = some x) (hj : l[j]? = some x) : i = j := by
  obtain ⟨hi, hi'⟩ := List.getElem?_eq_some_iff.1 hi
  obtain ⟨hj, hj'⟩ := List.getElem?_eq_some_iff.1 hj
  have h := List.pairwise_iff_getElem.1 h
  rcases Nat.lt_trichotomy i j with hlt | heq | hgt
  · exact absurd (hi'.trans hj'.symm) (h i j hi hj hlt)
  · exact heq
  · exact absurd (hj'.trans hi'.symm) (h j i hj hi hgt)
/-! ### marks -/
theorem laws_markInt64SS_v {lo b g c : Nat} {H : VHeap} (rs : List (Nat × List Int)) (k : Int) (hr : vrow H b g = some (rs.map rowV, 1, true)) (hR : RRows lo H.length b H rs) (hlo : lo ≤ b) (hk : 0 ≤ k ∧ k ≤ 100000000) (hn : rs.length ≤ 100000000) (ht : total (rs.map (·.2)) ≤ 100000000) :
    VRaw 32 [.ref b g 0 rs.length c, VI k] lo H fun r H' => r = VI (k + total (rs.map (·.2))) ∧ H'.length = H.length ∧ (∀ b' g' x, (∀ r ∈ rs, r.1 ≠ b') → vrow H b' g' = some x → vrow H' b' g' = some x) ∧
      ∀ i r, rs[i]? = some r → vrow H' r.1 0 = some ((iota (k + total ((rs.map (·.2)).take i)) r.2.length).map nV, 1, true) := by
  refine VRaw.walk ⟨true, false⟩ laws_markInt64SS_t (Nat.le_of_ble_eq_true rfl) ?_
  simp only [laws_markInt64SS, laws_markInt64SS_c, VX, Nat.reduceEqDiff, Nat.reduceAdd]
  refine VW_loop (fun (i : Nat) ρ H1 => i ≤ rs.length ∧ H1.length = H.length ∧ (∀ b' g' x, (∀ r ∈ rs, r.1 ≠ b') → vrow H b' g' = some x → vrow H1 b' g' = some x) ∧
      (∀ j r, rs[j]? = some r → vrow H1 r.1 0 = some ((if j < i then iota (k + total ((rs.map (·.2)).take j)) r.2.length else r.2).map nV, 1, true)) ∧ ρ 0 = .ref b g 0 rs.length c ∧ ρ 1 = VI (k + total ((rs.map (·.2)).take i)) ∧ ρ 5 = VI i) (fun i => rs.length - i) 0
    ⟨Nat.zero_le _, rfl, fun _ _ _ _ h => h, fun j r h => by rw [if_neg (by omega)]; exact (hR.row r (List.mem_of_getElem? h)).2.2.2, rfl, by simp only [VX, Nat.reduceEqDiff, Nat.reduceAdd]; simp [total], rfl⟩ ?_
  rintro i ρ H1 ⟨hi, hH1, hold, hrows, h0, h1, h5⟩
  have hR1 := hold b g _ (fun r hr => (hR.row r hr).2.2.1) hr
  have el := vlen_ref (o := 0) (n := rs.length) (c := c) hR1
  by_cases hin : (i : Int) < (rs.length : Int)
  · obtain ⟨r, hri⟩ : ∃ r, rs[i]? = some r := ⟨_, List.getElem?_eq_getElem (by omega)⟩
    have hrm := hR.row r (List.mem_of_getElem? hri)
    have hxi : (rs.map (·.2))[i]? = some r.2 := by simp [hri]
    have l1 := total_take hxi
    have l2 := total_le (xs := rs.map (·.2)) (i + 1)
    have e1 := viaddr_row (o := 0) (n := rs.length) (c := c) (i := i) (k := .i64) hR1 (by omega)
    have e2 : vload false 1 (.ptr b g i 0) H1 = some (rowV r) := by rw [vload_row (f := rowV) hR1 hri]; rfl
    have wi : IntKind.i64.wrap ((i : Int) + 1) = ((i + 1 : Nat) : Int) := wrapN (i + 1) (by omega) (by omega)
    simp only [laws_markInt64SS_b0, h0, h1, h5, hin, el, e1, e2, Nat.zero_add, VX, Nat.reduceEqDiff, Nat.reduceAdd]
    have hrow := hrows i r hri
    rw [if_neg (by omega)] at hrow
    refine vcall_raw rfl ((laws_markInt64S_v r.2 _ hrow (Nat.le_refl _) hrm.1 (by omega) (by omega)).mono ?_)
    rintro v H2 ⟨rfl, rfl⟩
    simp only [h5, wi, VX, Nat.reduceEqDiff, Nat.reduceAdd]
    refine ⟨i + 1, by omega, by omega, by simpa using hH1, fun b' g' x hb' h => vrow_set_ne (hb' r (List.mem_of_getElem? hri)) (hold b' g' x hb' h), fun j r' hj => ?_, h0, ?_, rfl⟩
    · by_cases hji : j = i
      · subst hji
        rw [hri] at hj
        injection hj with hj
        subst hj
        rw [if_pos (by omega), vrow_set_eq hrow, List.drop_length, List.append_nil]
      · have hne : r.1 ≠ r'.1 := fun he => hji (by
          have h1 : (rs.map (·.1))[i]? = some r.1 := by simp [hri]
          have h2 : (rs.map (·.1))[j]? = some r.1 := by simp [hj, he]
          exact nodup_inj hR.nd h2 h1)
        have := vrow_set_ne (x := .row 0 ((iota (k + ↑(total ((rs.map (·.2)).take i))) r.2.length ++ r.2.drop r.2.length).map nV) 1 true) hne (hrows j r' hj)
        rw [this]
        by_cases hlt : j < i
        · rw [if_pos hlt, if_pos (by omega)]
        · rw [if_neg hlt, if_neg (by omega)]
    · rw [l1, Int.natCast_add, ← Int.add_assoc]
  · have hie : i = rs.length := by omega
    subst hie
    simp only [laws_markInt64SS_b0, h0, h1, h5, hin, el, VX, Nat.reduceEqDiff, Nat.reduceAdd]
    rw [List.take_of_length_le (by simp)]
    refine ⟨rfl, hH1, hold, fun j r hj => ?_⟩
    have := hrows j r hj
    rw [if_pos (List.getElem?_eq_some_iff.1 hj).1] at this
    exact this
theorem laws_markInt64SS_nil {lo : Nat} {H : VHeap} (k : Int) : VRaw 32 [.tree [] .nil, VI k] lo H fun r H' => r = VI k ∧ H' = H := by
  refine VRaw.walk ⟨true, false⟩ laws_markInt64SS_t (Nat.le_of_ble_eq_true rfl) ?_
  simp only [laws_markInt64SS, laws_markInt64SS_c, VX, Nat.reduceEqDiff, Nat.reduceAdd]
  refine VW_loop (fun (_ : Unit) ρ H1 => H1 = H ∧ ρ 0 = .tree [] .nil ∧ ρ 1 = VI k ∧ ρ 5 = VI 0) (fun _ => 0) () ⟨rfl, rfl, rfl, rfl⟩ ?_
  rintro _ ρ H1 ⟨rfl, h0, h1, h5⟩
  simp only [laws_markInt64SS_b0, h0, h1, h5, List.length_nil, Int.natCast_zero, Int.lt_irrefl, Int.reduceLT, VX, Nat.reduceEqDiff, Nat.reduceAdd]
theorem mark_RR {lo hi lo' : Nat} {vals : List (List Int)} {H : VHeap} {v : VV} {k : Int} {K : VV → VHeap → Prop} (hv : RR lo hi vals H v) (hlo : lo' ≤ lo) (hk : 0 ≤ k ∧ k ≤ 100000000) (hn : vals.length ≤ 100000000) (ht : total vals ≤ 100000000)
    (hK : ∀ H', H'.length = H.length → RR lo hi (marks k vals) H' v → (∀ b g x, b < lo → vrow H b g = some x → vrow H' b g = some x) → K (VI (k + total vals)) H') :
    vcallP 32 [v, VI k] lo' H K := by
  rcases hv with ⟨rfl, rfl⟩ | ⟨b, g, c, rs, h1, h2, rfl, h4, h5, rfl, h7⟩
  · refine vcall_raw rfl ((laws_markInt64SS_nil k).mono ?_)
    rintro r H' ⟨rfl, rfl⟩
    have := hK H' rfl (.inl ⟨rfl, rfl⟩) fun _ _ _ _ h => h
    simpa [total] using this
  · have h7' : RRows lo' H.length b H rs := ⟨h7.nd, fun r hr => ⟨Nat.le_trans hlo (h7.row r hr).1, vrow_lt (h7.row r hr).2.2.2, (h7.row r hr).2.2⟩⟩
    rw [List.length_map] at h4 hn ⊢
    refine vcall_raw rfl ((laws_markInt64SS_v (lo := lo') (c := c) rs k h5 h7' (Nat.le_trans hlo h1) hk hn ht).mono ?_)
    rintro r H' ⟨rfl, hl, hold, hnew⟩
    refine hK _ hl ?_ fun b' g' x hb' h => hold b' g' x (fun r hr => by have := (h7.row r hr).1; omega) h
    have hri : ∀ i, i < rs.length → ∃ r, rs[i]? = some r := fun i hi => ⟨_, List.getElem?_eq_getElem hi⟩
    let rs' : List (Nat × List Int) := (rs.map (·.1)).zip (marks k (rs.map (·.2)))
    have hml : (marks k (rs.map (·.2))).length = rs.length := by rw [marks_len, List.length_map]
    have hget : ∀ i r, rs[i]? = some r → rs'[i]? = some (r.1, iota (k + total ((rs.map (·.2)).take i)) r.2.length) := fun i r hr => by
      have hm := marks_get (k := k) (xs := rs.map (·.2)) (i := i) (x := r.2) (by simp [hr])
      show ((rs.map (·.1)).zip _)[i]? = _
      rw [List.getElem?_zip_eq_some]
      exact ⟨by simp [hr], hm⟩
    have hl' : rs'.length = rs.length := by simp [rs', hml]
    have hfst : rs'.map (·.1) = rs.map (·.1) := List.map_fst_zip (by rw [hml, List.length_map]; exact Nat.le_refl _)
    have hsnd : rs'.map (·.2) = marks k (rs.map (·.2)) := List.map_snd_zip (by rw [hml, List.length_map]; exact Nat.le_refl _)
    have hcells : rs'.map rowV = rs.map rowV := by
      apply List.ext_getElem?
      intro i
      rcases Nat.lt_or_ge i rs.length with h | h
      · obtain ⟨r, hr⟩ := hri i h
        simp [hget i r hr, hr, rowV, iota_len]
      · rw [List.getElem?_eq_none (by rw [List.length_map, hl']; exact h), List.getElem?_eq_none (by rw [List.length_map]; exact h)]
    refine .inr ⟨b, g, c, rs', h1, h2, by rw [hml, List.length_map], by rw [hml]; exact h4, ?_, hsnd, by rw [hfst]; exact h7.nd, fun r' hr' => ?_⟩
    · rw [hcells]
      exact hold _ _ _ (fun r hr => (h7.row r hr).2.2.1) h5
    · obtain ⟨i, hi⟩ := List.getElem?_of_mem hr'
      obtain ⟨r, hr⟩ := hri i (by rw [← hl']; exact (List.getElem?_eq_some_iff.1 hi).1)
      rw [hget i r hr] at hi
      injection hi with hi
      subst hi
      have hm := h7.row r (List.mem_of_getElem? hr)
      exact ⟨hm.1, hm.2.1, hm.2.2.1, hnew i r hr⟩
end Go.PM

/- When the server works: the program and the reference, walked. -/
namespace Go.PM

def btStep (out : List (Int × Int)) (c : Cust) : List (Int × Int) :=
  match out.getLast? with
  | some p => if c.t ≤ p.2 then out.dropLast ++ [(p.1, p.2 + c.w)] else out ++ [(c.t, c.t + c.w)]
  | none => [(c.t, c.t + c.w)]
theorem btStep_nil {c : Cust} : btStep [] c = [(c.t, c.t + c.w)] := rfl
theorem btStep_snoc {out : List (Int × Int)} {p : Int × Int} {c : Cust} : btStep (out ++ [p]) c = if c.t ≤ p.2 then out ++ [(p.1, p.2 + c.w)] else (out ++ [p]) ++ [(c.t, c.t + c.w)] := by
  simp [btStep]
def prL (p : Int × Int) : List Int := [p.1, p.2]
def btL (cs : List Cust) : List (Int × Int) := cs.foldl btStep []
noncomputable def btV (cs : List Cust) : List (List Int) := if custsOk cs then (btL cs).map prL else []

/-- The rows on the way. -/
structure BT (n : Nat) (cs : List Cust) (i : Nat) (rs : List (Nat × (Int × Int))) (ρ : VEnv) (H : VHeap) : Prop where
  le : i ≤ cs.length
  fold : (cs.drop i).foldl btStep (rs.map (·.2)) = btL cs
  own : OwnH n H
  out : vrow H n rs.length = some (rs.map fun r => .ref r.1 0 0 2 2, 1, true)
  nd : (rs.map (·.1)).Nodup
  row : ∀ r ∈ rs, n < r.1 ∧ vrow H r.1 0 = some ([nV r.2.1, nV r.2.2], 1, true)
  many : rs.length ≤ i
  bnd : ∀ r ∈ rs, 0 ≤ r.2.2 ∧ r.2.2 ≤ 10000 + 1000 * (i : Int)

/-- The end: what is handed back. -/
theorem BT.done {n : Nat} {cs : List Cust} {rs : List (Nat × (Int × Int))} {ρ : VEnv} {H : VHeap} (h : BT n cs cs.length rs ρ H) (hc : custsOk cs) : ∃ L, H = List.replicate n .dead ++ L ∧ rowsOwn n L = true ∧ LRR (btV cs) (decide (custsOk cs)) n (.tup [.ref n rs.length 0 rs.length rs.length, .sc (.bool true)]) L := by
  obtain ⟨L, rfl, hL⟩ := h.own
  refine ⟨L, rfl, hL, _, by rw [decide_eq_true hc], .inr ⟨n, rs.length, rs.length, rs.map fun r => (r.1, prL r.2), Nat.le_refl _, ?_, ?_, ?_, ?_, ?_, ?_, ?_⟩⟩
  · have := vrow_lt h.out
    simpa using this
  all_goals have hf := h.fold
  all_goals rw [List.drop_of_length_le (Nat.le_refl _), List.foldl_nil] at hf
  · unfold btV; rw [if_pos hc, ← hf]; simp
  · unfold btV; rw [if_pos hc, ← hf]; simp
  · rw [h.out]; simp [rowV, prL, Function.comp_def]
  · unfold btV; rw [if_pos hc, ← hf]; simp [Function.comp_def]
  · have := h.nd
    simpa [Function.comp_def] using this
  · intro r hr
    obtain ⟨r0, hr0, rfl⟩ := List.mem_map.1 hr
    have h1 := h.row r0 hr0
    have h2 := vrow_lt h1.2
    exact ⟨Nat.le_of_lt h1.1, by simpa using h2, Nat.ne_of_gt h1.1, h1.2⟩

theorem ownL_map' {α : Type} {f : α → VV} {n : Nat} {xs : List α} (hf : ∀ x ∈ xs, ownV n (f x) = true) : ownL n (xs.map f) = true := by
  rw [ownL_mem]
  intro x hx
  obtain ⟨y, hy, rfl⟩ := List.mem_map.1 hx
  exact hf y hy

theorem BT.new {n : Nat} {cs : List Cust} {i : Nat} {rs : List (Nat × (Int × Int))} {ρ ρ' : VEnv} {H : VHeap} {x : Cust} {a c : VBlk} (hB : BT n cs i rs ρ H) (hx : cs[i]? = some x) (hb : (0 ≤ x.t ∧ x.t ≤ 10000) ∧ (1 ≤ x.w ∧ x.w ≤ 1000)) (hst : btStep (rs.map (·.2)) x = rs.map (·.2) ++ [(x.t, x.t + x.w)])
    (ha : ∃ g es e w, a = .row g es e w ∧ ownL n es = true) (hc : ∃ g es e w, c = .row g es e w ∧ ownL n es = true) :
    BT n cs (i + 1) (rs ++ [(H.length + 1, (x.t, x.t + x.w))]) ρ' ((H ++ [a, .row 0 [nV x.t, nV (x.t + x.w)] 1 true, c]).set n (.row (rs.length + 1) ((rs ++ [(H.length + 1, (x.t, x.t + x.w))]).map fun r => .ref r.1 0 0 2 2) 1 true)) := by
  obtain ⟨g1, es1, z1, w1, rfl, ho1⟩ := ha
  obtain ⟨g2, es2, z2, w2, rfl, ho2⟩ := hc
  have hf := hB.fold
  rw [drop_cons hx, List.foldl_cons] at hf
  have hr1 := fun K => vrow_app (L := K) hB.out
  have hi := (List.getElem?_eq_some_iff.1 hx).1
  have hmany := hB.many
  have hnl := vrow_lt hB.out
  refine ⟨by omega, ?_, ?_, ?_, ?_, ?_, ?_, ?_⟩
  · rw [List.map_append, List.map_cons, List.map_nil, ← hst]
    exact hf
  · have := ((hB.own.app (g := g1) (e := z1) (w := w1) ho1).app (g := 0) (e := 1) (w := true) (es := [nV x.t, nV (x.t + x.w)]) rfl).app (g := g2) (e := z2) (w := w2) ho2
    have := this.set (b := n) (g := rs.length + 1) (e := 1) (w := true) (es := (rs ++ [(H.length + 1, (x.t, x.t + x.w))]).map fun r => .ref r.1 0 0 2 2) (Nat.le_refl _) (ownL_map' fun r hr => by
      rcases List.mem_append.1 hr with h | h
      · have := (hB.row r h).1
        simp [ownV]; omega
      · rw [List.mem_singleton] at h
        subst h
        simp [ownV]; omega)
    simpa only [List.append_assoc, List.cons_append, List.nil_append] using this
  · rw [List.length_append]
    exact vrow_set_eq (hr1 _)
  · rw [List.map_append, List.nodup_append]
    refine ⟨hB.nd, by simp, ?_⟩
    intro a ha b hb
    obtain ⟨r, hr, rfl⟩ := List.mem_map.1 ha
    have := vrow_lt (hB.row r hr).2
    simp only [List.map_cons, List.map_nil, List.mem_singleton] at hb
    omega
  · intro r hr
    rcases List.mem_append.1 hr with h | h
    · have := hB.row r h
      exact ⟨this.1, vrow_set_ne (by omega) (vrow_app this.2)⟩
    · rw [List.mem_singleton] at h
      subst h
      exact ⟨by simp only; omega, vrow_set_ne (by simp only; omega) (by simp only; rw [vrow_Hk, vrow_succ, vrow_zero])⟩
  · rw [List.length_append]
    simp only [List.length_cons, List.length_nil]
    omega
  · intro r hr
    rcases List.mem_append.1 hr with h | h
    · have := hB.bnd r h
      omega
    · rw [List.mem_singleton] at h
      subst h
      simp only
      omega

set_option maxHeartbeats 2000000 in
theorem impl_BusyTimes_v (cs : List Cust) (hn : cs.length ≤ 1000000000) : FC 29 [custsV cs] (LRR (btV cs) (decide (custsOk cs))) := by
  refine FC.walk ⟨true, true⟩ impl_BusyTimes_t (Nat.le_of_ble_eq_true rfl) fun n => ?_
  have eA := impl_AreCustomers_v cs hn
  by_cases hc : custsOk cs
  · have hlen := hc.2
    have e0 := vlit_nil (H := List.replicate n VBlk.dead) (lr := true) (z := [.slice none 0 0]) rfl
    simp only [impl_BusyTimes, impl_BusyTimes_c, eA, hc, e0, VX, Nat.reduceEqDiff, Nat.reduceAdd]
    refine VW_loop (fun (s : Nat × List (Nat × (Int × Int))) ρ H => BT n cs s.1 s.2 ρ H ∧ ρ 12 = custsV cs ∧ ρ 13 = VI cs.length ∧ ρ 14 = VI s.1 ∧ ρ 4 = .ref n s.2.length 0 s.2.length s.2.length) (fun s => cs.length - s.1) (0, []) ⟨⟨Nat.zero_le _, rfl, ⟨_, rfl, rfl⟩, by simp only [List.length_nil]; rw [vrow_D0, vrow_zero]; rfl, List.nodup_nil, fun r hr => (by cases hr), Nat.le_refl _, fun r hr => (by cases hr)⟩, rfl, rfl, rfl, by simp only [VX, Nat.reduceEqDiff, Nat.reduceAdd]; simp⟩ ?_
    rintro ⟨i, rs⟩ ρ H ⟨hB, h12, h13, h14, h4⟩
    simp only at hB h14 h4
    have hi := hB.le
    have hlo := hB.own.len
    have hmany := hB.many
    by_cases hin : (i : Int) < (cs.length : Int)
    · obtain ⟨x, hx⟩ : ∃ x, cs[i]? = some x := ⟨_, List.getElem?_eq_getElem (by omega)⟩
      have hb := hc.at hx
      have e1 := fun H => viaddr_map (f := cV) (t := .op) (H := H) (size := 3) (k := .i64) hx rfl
      have wi : IntKind.i64.wrap ((i : Int) + 1) = ((i + 1 : Nat) : Int) := wrapN (i + 1) (by omega) (by omega)
      have wk : IntKind.i64.wrap ((rs.length : Int) - 1) = (rs.length : Int) - 1 := wrap64 (by omega) (by omega)
      have hf := hB.fold
      rw [drop_cons hx, List.foldl_cons] at hf
      have hr1 := fun K => vrow_app (L := K) hB.out
      have w1 : IntKind.i64.wrap (x.t + x.w) = x.t + x.w := wrap64 (by omega) (by omega)
      -- a new row
      have eL1 : ∀ (v : VV) (K : VHeap), vscal v = true → vcells v = [v] → vlit true [.slice none 0 0] 1 [(0, v)] K = some (.ref K.length 0 0 1 1, K ++ [.row 0 [v] 1 true]) := fun v K h1 h2 => vlit_row1 rfl (by rw [h2]; rfl) (by rw [h2]; simp [h1])
      have eL2 : ∀ (u v : Int) (K : VHeap), vlit true [.int .i64 0] 2 [(0, nV u), (1, nV v)] K = some (.ref K.length 0 0 2 2, K ++ [.row 0 [nV u, nV v] 1 true]) := fun u v K => vlit_row2 rfl rfl rfl rfl rfl
      have eL1' : ∀ b K, vlit true [.slice none 0 0] 1 [(0, .ref b 0 0 2 2)] K = some (.ref K.length 0 0 1 1, K ++ [.row 0 [.ref b 0 0 2 2] 1 true]) := fun b K => eL1 _ K rfl rfl
      have eS : ∀ a b, vsource 1 (.ref (H.length + 2) 0 0 1 1) (H ++ [a, b, .row 0 [.ref (H.length + 1) 0 0 2 2] 1 true]) = some [.ref (H.length + 1) 0 0 2 2] := fun a b => vsource_ref1 (by rw [vrow_Hk, vrow_succ, vrow_succ, vrow_zero]) rfl
      have eP : ∀ K, vappend n 1 24 (.ref n rs.length 0 rs.length rs.length) [.ref (H.length + 1) 0 0 2 2] (H ++ K) = some (.ref n (rs.length + 1) 0 (rs.length + 1) (rs.length + 1), (H ++ K).set n (.row (rs.length + 1) ((rs ++ [(H.length + 1, (x.t, x.t + x.w))]).map fun r => .ref r.1 0 0 2 2) 1 true)) := fun K =>
        vappend_row (f := fun r : Nat × (Int × Int) => .ref r.1 0 0 2 2) (x := (H.length + 1, (x.t, x.t + x.w))) (hr1 K) rfl (Nat.le_refl _) (by decide) (by decide) (by omega)
      rcases List.eq_nil_or_concat rs with hrs | ⟨rs', r, hrs⟩
      rotate_left
      rw [List.concat_eq_append] at hrs
      rotate_left
      · have hm : rs.length = 0 := by rw [hrs]; rfl
        have hge : ¬ (0 : Int) ≤ (rs.length : Int) - 1 := by omega
        simp only [impl_BusyTimes_b0, h12, h13, h14, h4, hin, e1, rd_cV, wi, wk, w1, hlo, hge, hr1, eL2, eL1', eS, eP, cV, VX, Nat.reduceEqDiff, Nat.reduceAdd, vload_pdef, vstore_pdef, viaddr_rdef, vlen_rdef, vfaddr_pdef, vchk_pdef, visnil_rdef, visnil_nil, visnil_cons, vrow_zero, vrow_succ, List.set_cons_zero, List.set_cons_succ, elemOf_one, elemOf_two, vresult, vresAll, vres1, vfill, isAny_sc, isAny_tree, isAny_ref, isAny_agg, isAny_clo, List.take_zero, List.take_succ_cons, List.take_nil, List.drop_zero, List.drop_succ_cons, List.drop_nil, List.append_nil, Nat.reduceLeDiff, Nat.le_refl, vsplice, Nat.reduceLT, Int.toNat_natCast, eq_self, ge_iff_le, Bool.and_eq_true, Nat.reduceSub, vrow_H0, vrow_Hk, set_H0, set_Hk, List.append_assoc, List.cons_append, List.nil_append, List.length_append, List.length_cons, List.length_nil, Nat.zero_add, Nat.reduceAdd]
        exact ⟨(i + 1, rs ++ [(H.length + 1, (x.t, x.t + x.w))]), by simp only; omega, hB.new hx ⟨hb.1, hb.2.1⟩ (by rw [hrs]; rfl) ⟨_, _, _, _, rfl, rfl⟩ ⟨_, _, _, _, rfl, by simp [ownL, ownV]; omega⟩, by simp only [List.length_append, List.length_cons, List.length_nil]; (repeat' apply And.intro) <;> first | rfl | trivial⟩
      · have hk : rs.length = rs'.length + 1 := by rw [hrs]; simp
        have hkk : (rs.length : Int) - 1 = (rs'.length : Nat) := by omega
        have hge : (0 : Int) ≤ ((rs'.length : Nat) : Int) := by omega
        have wk : IntKind.i64.wrap ((rs'.length : Nat) : Int) = ((rs'.length : Nat) : Int) := wrap64 (by omega) (by omega)
        have hgr : rs[rs'.length]? = some r := by rw [hrs]; simp
        have hrow := hB.row r (List.mem_of_getElem? hgr)
        have hr2 := fun K => vrow_app (L := K) hrow.2
        have e2 := fun K => viaddr_row (H := H ++ K) (o := 0) (n := rs.length) (c := rs.length) (i := rs'.length) (k := .i64) (hr1 K) (by omega)
        have e3 : ∀ K, vload false 1 (.ptr n rs.length rs'.length 0) (H ++ K) = some (.ref r.1 0 0 2 2) := fun K => by rw [vload_row (hr1 K) hgr]; rfl
        have e4 : ∀ K, viaddr 1 (.ref r.1 0 0 2 2) (VI 1) (H ++ K) = some (.ptr r.1 0 1 0) := fun K => viaddr_row (i := 1) (hr2 K) (by decide)
        have hmap : rs.map (·.2) = rs'.map (·.2) ++ [r.2] := by rw [hrs, List.map_append]; rfl
        by_cases hle : x.t ≤ r.2.2
        · have w2 : IntKind.i64.wrap (r.2.2 + x.w) = r.2.2 + x.w := wrap64 (by have := hB.bnd r (List.mem_of_getElem? hgr); omega) (by have := hB.bnd r (List.mem_of_getElem? hgr); omega)
          have hlo2 : n ≤ r.1 := Nat.le_of_lt hrow.1
          simp only [impl_BusyTimes_b0, h12, h13, h14, h4, hin, e1, e2, e3, e4, rd_cV, wi, wk, w1, w2, hkk, hlo, hlo2, hge, hr1, hr2, hle, cV, VX, Nat.reduceEqDiff, Nat.reduceAdd, vload_pdef, vstore_pdef, viaddr_rdef, vlen_rdef, vfaddr_pdef, vchk_pdef, visnil_rdef, visnil_nil, visnil_cons, vrow_zero, vrow_succ, List.set_cons_zero, List.set_cons_succ, elemOf_one, elemOf_two, vresult, vresAll, vres1, vfill, isAny_sc, isAny_tree, isAny_ref, isAny_agg, isAny_clo, List.take_zero, List.take_succ_cons, List.take_nil, List.drop_zero, List.drop_succ_cons, List.drop_nil, List.append_nil, Nat.reduceLeDiff, Nat.le_refl, vsplice, Nat.reduceLT, Int.toNat_natCast, eq_self, ge_iff_le, Bool.and_eq_true, Nat.reduceSub, vrow_H0, vrow_Hk, set_H0, set_Hk, List.append_assoc, List.cons_append, List.nil_append, List.length_append, List.length_cons, List.length_nil, Nat.zero_add, Nat.reduceAdd]
          have hbd := hB.bnd r (List.mem_of_getElem? hgr)
          have hnl := vrow_lt hB.out
          refine ⟨(i + 1, rs' ++ [(r.1, (r.2.1, r.2.2 + x.w))]), by simp only; omega, ⟨by simp only; omega, ?_, ?_, ?_, ?_, ?_, ?_, ?_⟩, ?_⟩
          · rw [hmap, btStep_snoc, if_pos hle] at hf
            simp only [List.map_append, List.map_cons, List.map_nil]
            exact hf
          · exact (hB.own.app rfl).set hlo2 rfl
          · have h1 := vrow_set_ne (x := .row 0 [nV r.2.1, nV (r.2.2 + x.w)] 1 true) (b' := r.1) (Nat.ne_of_gt hrow.1) (hr1 [.row 0 [.agg [nV x.t, nV x.w, nV x.k]] 3 true])
            rw [hrs] at h1
            simpa using h1
          · have := hB.nd
            rw [hrs] at this
            simpa using this
          · intro r' hr'
            rcases List.mem_append.1 hr' with h | h
            · have h1 := hB.row r' (by rw [hrs]; exact List.mem_append_left _ h)
              have h2 : r'.1 ≠ r.1 := fun he => by
                have h3 := hB.nd
                rw [hrs, List.map_append, List.nodup_append] at h3
                exact h3.2.2 r'.1 (List.mem_map_of_mem h) r.1 (by simp) he
              exact ⟨h1.1, vrow_set_ne (Ne.symm h2) (vrow_app h1.2)⟩
            · rw [List.mem_singleton] at h
              subst h
              exact ⟨hrow.1, vrow_set_eq (hr2 _)⟩
          · simp only [List.length_append, List.length_cons, List.length_nil]
            omega
          · intro r' hr'
            rcases List.mem_append.1 hr' with h | h
            · have h1 := hB.bnd r' (by rw [hrs]; exact List.mem_append_left _ h)
              simp only
              omega
            · rw [List.mem_singleton] at h
              subst h
              simp only
              omega
          · simp only [List.length_append, List.length_cons, List.length_nil, hk, Nat.zero_add]
            (repeat' apply And.intro) <;> first | rfl | trivial
        · simp only [impl_BusyTimes_b0, h12, h13, h14, h4, hin, e1, e2, e3, e4, rd_cV, wi, wk, w1, hkk, hlo, hge, hr1, hr2, hle, eL2, eL1', eS, eP, cV, VX, Nat.reduceEqDiff, Nat.reduceAdd, vload_pdef, vstore_pdef, viaddr_rdef, vlen_rdef, vfaddr_pdef, vchk_pdef, visnil_rdef, visnil_nil, visnil_cons, vrow_zero, vrow_succ, List.set_cons_zero, List.set_cons_succ, elemOf_one, elemOf_two, vresult, vresAll, vres1, vfill, isAny_sc, isAny_tree, isAny_ref, isAny_agg, isAny_clo, List.take_zero, List.take_succ_cons, List.take_nil, List.drop_zero, List.drop_succ_cons, List.drop_nil, List.append_nil, Nat.reduceLeDiff, Nat.le_refl, vsplice, Nat.reduceLT, Int.toNat_natCast, eq_self, ge_iff_le, Bool.and_eq_true, Nat.reduceSub, vrow_H0, vrow_Hk, set_H0, set_Hk, List.append_assoc, List.cons_append, List.nil_append, List.length_append, List.length_cons, List.length_nil, Nat.zero_add, Nat.reduceAdd]
          exact ⟨(i + 1, rs ++ [(H.length + 1, (x.t, x.t + x.w))]), by simp only; omega, hB.new hx ⟨hb.1, hb.2.1⟩ (by rw [hmap, btStep_snoc, if_neg hle]) ⟨_, _, _, _, rfl, rfl⟩ ⟨_, _, _, _, rfl, by simp [ownL, ownV]; omega⟩, by simp only [List.length_append, List.length_cons, List.length_nil]; (repeat' apply And.intro) <;> first | rfl | trivial⟩
    · have hie : i = cs.length := by omega
      subst hie
      simp only [impl_BusyTimes_b0, h12, h13, h14, h4, hin, VX, Nat.reduceEqDiff, Nat.reduceAdd]
      obtain ⟨L, h1, h2, h3⟩ := hB.done hc
      rw [decide_eq_true hc] at h3
      exact ⟨L, h1, by simp [ownV, ownL, isSc], h2, h3⟩
  · simp only [impl_BusyTimes, impl_BusyTimes_c, eA, hc, VX, Nat.reduceEqDiff, Nat.reduceAdd]
    refine ⟨[], by simp, rfl, rfl, _, rfl, .inl ⟨rfl, ?_⟩⟩
    unfold btV
    rw [if_neg hc]
set_option maxHeartbeats 2000000 in
theorem spec_BusyTimes_v (cs : List Cust) (hn : cs.length ≤ 1000000000) : FC 28 [custsV cs] (LRR (btV cs) (decide (custsOk cs))) := by
  refine FC.walk ⟨true, true⟩ spec_BusyTimes_t (Nat.le_of_ble_eq_true rfl) fun n => ?_
  have eA := spec_l05Are_v cs hn
  by_cases hc : custsOk cs
  · have hlen := hc.2
    have e0 := vlit_nil (H := List.replicate n VBlk.dead) (lr := true) (z := [.slice none 0 0]) rfl
    simp only [spec_BusyTimes, spec_BusyTimes_c, eA, hc, e0, VX, Nat.reduceEqDiff, Nat.reduceAdd]
    refine VW_loop (fun (s : Nat × List (Nat × (Int × Int))) ρ H => BT n cs s.1 s.2 ρ H ∧ ρ 0 = custsV cs ∧ ρ 13 = VI cs.length ∧ ρ 14 = VI s.1 ∧ ρ 4 = .ref n s.2.length 0 s.2.length s.2.length) (fun s => cs.length - s.1) (0, []) ⟨⟨Nat.zero_le _, rfl, ⟨_, rfl, rfl⟩, by simp only [List.length_nil]; rw [vrow_D0, vrow_zero]; rfl, List.nodup_nil, fun r hr => (by cases hr), Nat.le_refl _, fun r hr => (by cases hr)⟩, rfl, rfl, rfl, by simp only [VX, Nat.reduceEqDiff, Nat.reduceAdd]; simp⟩ ?_
    rintro ⟨i, rs⟩ ρ H ⟨hB, h12, h13, h14, h4⟩
    simp only at hB h14 h4
    have hi := hB.le
    have hlo := hB.own.len
    have hmany := hB.many
    by_cases hin : (i : Int) < (cs.length : Int)
    · obtain ⟨x, hx⟩ : ∃ x, cs[i]? = some x := ⟨_, List.getElem?_eq_getElem (by omega)⟩
      have hb := hc.at hx
      have e1 := fun H => viaddr_map (f := cV) (t := .op) (H := H) (size := 3) (k := .i64) hx rfl
      have wi : IntKind.i64.wrap ((i : Int) + 1) = ((i + 1 : Nat) : Int) := wrapN (i + 1) (by omega) (by omega)
      have hf := hB.fold
      rw [drop_cons hx, List.foldl_cons] at hf
      have hr1 := fun K => vrow_app (L := K) hB.out
      have w1 : IntKind.i64.wrap (x.t + x.w) = x.t + x.w := wrap64 (by omega) (by omega)
      -- a new row
      have eL1 : ∀ (v : VV) (K : VHeap), vscal v = true → vcells v = [v] → vlit true [.slice none 0 0] 1 [(0, v)] K = some (.ref K.length 0 0 1 1, K ++ [.row 0 [v] 1 true]) := fun v K h1 h2 => vlit_row1 rfl (by rw [h2]; rfl) (by rw [h2]; simp [h1])
      have eL2 : ∀ (u v : Int) (K : VHeap), vlit true [.int .i64 0] 2 [(0, nV u), (1, nV v)] K = some (.ref K.length 0 0 2 2, K ++ [.row 0 [nV u, nV v] 1 true]) := fun u v K => vlit_row2 rfl rfl rfl rfl rfl
      have eL1' : ∀ b K, vlit true [.slice none 0 0] 1 [(0, .ref b 0 0 2 2)] K = some (.ref K.length 0 0 1 1, K ++ [.row 0 [.ref b 0 0 2 2] 1 true]) := fun b K => eL1 _ K rfl rfl
      have eS : ∀ a b, vsource 1 (.ref (H.length + 2) 0 0 1 1) (H ++ [a, b, .row 0 [.ref (H.length + 1) 0 0 2 2] 1 true]) = some [.ref (H.length + 1) 0 0 2 2] := fun a b => vsource_ref1 (by rw [vrow_Hk, vrow_succ, vrow_succ, vrow_zero]) rfl
      have eP : ∀ K, vappend n 1 24 (.ref n rs.length 0 rs.length rs.length) [.ref (H.length + 1) 0 0 2 2] (H ++ K) = some (.ref n (rs.length + 1) 0 (rs.length + 1) (rs.length + 1), (H ++ K).set n (.row (rs.length + 1) ((rs ++ [(H.length + 1, (x.t, x.t + x.w))]).map fun r => .ref r.1 0 0 2 2) 1 true)) := fun K =>
        vappend_row (f := fun r : Nat × (Int × Int) => .ref r.1 0 0 2 2) (x := (H.length + 1, (x.t, x.t + x.w))) (hr1 K) rfl (Nat.le_refl _) (by decide) (by decide) (by omega)
      rcases List.eq_nil_or_concat rs with hrs | ⟨rs', r, hrs⟩
      rotate_left
      rw [List.concat_eq_append] at hrs
      rotate_left
      · have hm : rs.length = 0 := by rw [hrs]; rfl
        have hge : ¬ (0 : Int) < (rs.length : Int) := by omega
        simp only [spec_BusyTimes_b0, h12, h13, h14, h4, hin, e1, rd_cV, wi, w1, hlo, hge, hr1, eL2, eL1', eS, eP, cV, VX, Nat.reduceEqDiff, Nat.reduceAdd, vload_pdef, vstore_pdef, viaddr_rdef, vlen_rdef, vfaddr_pdef, vchk_pdef, visnil_rdef, visnil_nil, visnil_cons, vrow_zero, vrow_succ, List.set_cons_zero, List.set_cons_succ, elemOf_one, elemOf_two, vresult, vresAll, vres1, vfill, isAny_sc, isAny_tree, isAny_ref, isAny_agg, isAny_clo, List.take_zero, List.take_succ_cons, List.take_nil, List.drop_zero, List.drop_succ_cons, List.drop_nil, List.append_nil, Nat.reduceLeDiff, Nat.le_refl, vsplice, Nat.reduceLT, Int.toNat_natCast, eq_self, ge_iff_le, Bool.and_eq_true, Nat.reduceSub, vrow_H0, vrow_Hk, set_H0, set_Hk, List.append_assoc, List.cons_append, List.nil_append, List.length_append, List.length_cons, List.length_nil, Nat.zero_add, Nat.reduceAdd]
        exact ⟨(i + 1, rs ++ [(H.length + 1, (x.t, x.t + x.w))]), by simp only; omega, hB.new hx ⟨hb.1, hb.2.1⟩ (by rw [hrs]; rfl) ⟨_, _, _, _, rfl, rfl⟩ ⟨_, _, _, _, rfl, by simp [ownL, ownV]; omega⟩, by simp only [List.length_append, List.length_cons, List.length_nil]; (repeat' apply And.intro) <;> first | rfl | trivial⟩
      · have hk : rs.length = rs'.length + 1 := by rw [hrs]; simp
        have hkk : (rs.length : Int) - 1 = (rs'.length : Nat) := by omega
        have hge : (0 : Int) < (rs.length : Int) := by omega
        have wk : IntKind.i64.wrap ((rs'.length : Nat) : Int) = ((rs'.length : Nat) : Int) := wrap64 (by omega) (by omega)
        have hgr : rs[rs'.length]? = some r := by rw [hrs]; simp
        have hrow := hB.row r (List.mem_of_getElem? hgr)
        have hr2 := fun K => vrow_app (L := K) hrow.2
        have e2 := fun K => viaddr_row (H := H ++ K) (o := 0) (n := rs.length) (c := rs.length) (i := rs'.length) (k := .i64) (hr1 K) (by omega)
        have e3 : ∀ K, vload false 1 (.ptr n rs.length rs'.length 0) (H ++ K) = some (.ref r.1 0 0 2 2) := fun K => by rw [vload_row (hr1 K) hgr]; rfl
        have e4 : ∀ K, viaddr 1 (.ref r.1 0 0 2 2) (VI 1) (H ++ K) = some (.ptr r.1 0 1 0) := fun K => viaddr_row (i := 1) (hr2 K) (by decide)
        have hmap : rs.map (·.2) = rs'.map (·.2) ++ [r.2] := by rw [hrs, List.map_append]; rfl
        by_cases hle : x.t ≤ r.2.2
        · have w2 : IntKind.i64.wrap (r.2.2 + x.w) = r.2.2 + x.w := wrap64 (by have := hB.bnd r (List.mem_of_getElem? hgr); omega) (by have := hB.bnd r (List.mem_of_getElem? hgr); omega)
          have e4' : ∀ K, viaddr 1 (.ref r.1 0 0 2 2) (VI 0) (H ++ K) = some (.ptr r.1 0 0 0) := fun K => viaddr_row (i := 0) (hr2 K) (by decide)
          have eW : ∀ K, vstore n 1 (.ptr n rs.length rs'.length 0) (.ref (H.length + 1) 0 0 2 2) (H ++ K) = some ((H ++ K).set n (.row rs.length ((rs.set rs'.length (H.length + 1, (r.2.1, r.2.2 + x.w))).map fun r => .ref r.1 0 0 2 2) 1 true)) := fun K => vstore_map (f := fun r : Nat × (Int × Int) => .ref r.1 0 0 2 2) (x := (H.length + 1, (r.2.1, r.2.2 + x.w))) (hr1 K) (by omega) (Nat.le_refl _) rfl rfl
          have e5 : rs.set rs'.length (H.length + 1, (r.2.1, r.2.2 + x.w)) = rs' ++ [(H.length + 1, (r.2.1, r.2.2 + x.w))] := by rw [hrs, List.set_append_right _ _ (Nat.le_refl _), Nat.sub_self]; rfl
          simp only [spec_BusyTimes_b0, h12, h13, h14, h4, hin, e1, e2, e3, e4, e4', rd_cV, wi, wk, w1, w2, hkk, hlo, hge, hr1, hr2, hle, eL2, eW, e5, cV, VX, Nat.reduceEqDiff, Nat.reduceAdd, vload_pdef, vstore_pdef, viaddr_rdef, vlen_rdef, vfaddr_pdef, vchk_pdef, visnil_rdef, visnil_nil, visnil_cons, vrow_zero, vrow_succ, List.set_cons_zero, List.set_cons_succ, elemOf_one, elemOf_two, vresult, vresAll, vres1, vfill, isAny_sc, isAny_tree, isAny_ref, isAny_agg, isAny_clo, List.take_zero, List.take_succ_cons, List.take_nil, List.drop_zero, List.drop_succ_cons, List.drop_nil, List.append_nil, Nat.reduceLeDiff, Nat.le_refl, vsplice, Nat.reduceLT, Int.toNat_natCast, eq_self, ge_iff_le, Bool.and_eq_true, Nat.reduceSub, vrow_H0, vrow_Hk, set_H0, set_Hk, List.append_assoc, List.cons_append, List.nil_append, List.length_append, List.length_cons, List.length_nil, Nat.zero_add, Nat.reduceAdd]
          have hbd := hB.bnd r (List.mem_of_getElem? hgr)
          have hnl := vrow_lt hB.out
          refine ⟨(i + 1, rs' ++ [(H.length + 1, (r.2.1, r.2.2 + x.w))]), by simp only; omega, ⟨by simp only; omega, ?_, ?_, ?_, ?_, ?_, ?_, ?_⟩, ?_⟩
          · rw [hmap, btStep_snoc, if_pos hle] at hf
            simp only [List.map_append, List.map_cons, List.map_nil]
            exact hf
          · have h1 := (hB.own.app (g := 0) (e := 3) (w := true) (es := [.agg [nV x.t, nV x.w, nV x.k]]) rfl).app (g := 0) (e := 1) (w := true) (es := [nV r.2.1, nV (r.2.2 + x.w)]) rfl
            have h2 := h1.set (b := n) (g := rs.length) (e := 1) (w := true) (es := (rs' ++ [(H.length + 1, (r.2.1, r.2.2 + x.w))]).map fun r => .ref r.1 0 0 2 2) (Nat.le_refl _) (ownL_map' fun r' hr' => by
              rcases List.mem_append.1 hr' with h | h
              · have := (hB.row r' (by rw [hrs]; exact List.mem_append_left _ h)).1
                simp [ownV]; omega
              · rw [List.mem_singleton] at h
                subst h
                simp [ownV]; omega)
            simpa only [List.append_assoc, List.cons_append, List.nil_append] using h2
          · have : (rs' ++ [(H.length + 1, (r.2.1, r.2.2 + x.w))]).length = rs.length := by rw [hk]; simp
            simp only [this]
            exact vrow_set_eq (hr1 _)
          · have h1 := hB.nd
            rw [hrs, List.map_append, List.nodup_append] at h1
            rw [List.map_append, List.nodup_append]
            refine ⟨h1.1, by simp, ?_⟩
            intro a ha b hb
            obtain ⟨r', hr', rfl⟩ := List.mem_map.1 ha
            have := vrow_lt (hB.row r' (by rw [hrs]; exact List.mem_append_left _ hr')).2
            simp only [List.map_cons, List.map_nil, List.mem_singleton] at hb
            omega
          · intro r' hr'
            rcases List.mem_append.1 hr' with h | h
            · have h1 := hB.row r' (by rw [hrs]; exact List.mem_append_left _ h)
              exact ⟨h1.1, vrow_set_ne (Nat.ne_of_lt h1.1) (vrow_app h1.2)⟩
            · rw [List.mem_singleton] at h
              subst h
              exact ⟨by simp only; omega, vrow_set_ne (by simp only; omega) (by simp only; rw [vrow_Hk, vrow_succ, vrow_zero])⟩
          · simp only [List.length_append, List.length_cons, List.length_nil]
            omega
          · intro r' hr'
            rcases List.mem_append.1 hr' with h | h
            · have h1 := hB.bnd r' (by rw [hrs]; exact List.mem_append_left _ h)
              simp only
              omega
            · rw [List.mem_singleton] at h
              subst h
              simp only
              omega
          · simp only [List.length_append, List.length_cons, List.length_nil, hk, Nat.zero_add]
            (repeat' apply And.intro) <;> first | rfl | trivial
        · simp only [spec_BusyTimes_b0, h12, h13, h14, h4, hin, e1, e2, e3, e4, rd_cV, wi, wk, w1, hkk, hlo, hge, hr1, hr2, hle, eL2, eL1', eS, eP, cV, VX, Nat.reduceEqDiff, Nat.reduceAdd, vload_pdef, vstore_pdef, viaddr_rdef, vlen_rdef, vfaddr_pdef, vchk_pdef, visnil_rdef, visnil_nil, visnil_cons, vrow_zero, vrow_succ, List.set_cons_zero, List.set_cons_succ, elemOf_one, elemOf_two, vresult, vresAll, vres1, vfill, isAny_sc, isAny_tree, isAny_ref, isAny_agg, isAny_clo, List.take_zero, List.take_succ_cons, List.take_nil, List.drop_zero, List.drop_succ_cons, List.drop_nil, List.append_nil, Nat.reduceLeDiff, Nat.le_refl, vsplice, Nat.reduceLT, Int.toNat_natCast, eq_self, ge_iff_le, Bool.and_eq_true, Nat.reduceSub, vrow_H0, vrow_Hk, set_H0, set_Hk, List.append_assoc, List.cons_append, List.nil_append, List.length_append, List.length_cons, List.length_nil, Nat.zero_add, Nat.reduceAdd]
          exact ⟨(i + 1, rs ++ [(H.length + 1, (x.t, x.t + x.w))]), by simp only; omega, hB.new hx ⟨hb.1, hb.2.1⟩ (by rw [hmap, btStep_snoc, if_neg hle]) ⟨_, _, _, _, rfl, rfl⟩ ⟨_, _, _, _, rfl, by simp [ownL, ownV]; omega⟩, by simp only [List.length_append, List.length_cons, List.length_nil]; (repeat' apply And.intro) <;> first | rfl | trivial⟩
    · have hie : i = cs.length := by omega
      subst hie
      simp only [spec_BusyTimes_b0, h12, h13, h14, h4, hin, VX, Nat.reduceEqDiff, Nat.reduceAdd]
      obtain ⟨L, h1, h2, h3⟩ := hB.done hc
      rw [decide_eq_true hc] at h3
      exact ⟨L, h1, by simp [ownV, ownL, isSc], h2, h3⟩
  · simp only [spec_BusyTimes, spec_BusyTimes_c, eA, hc, VX, Nat.reduceEqDiff, Nat.reduceAdd]
    refine ⟨[], by simp, rfl, rfl, _, rfl, .inl ⟨rfl, ?_⟩⟩
    unfold btV
    rw [if_neg hc]
theorem btFold_len : ∀ (cs : List Cust) (out : List (Int × Int)), (cs.foldl btStep out).length ≤ out.length + cs.length := by
  intro cs
  induction cs with
  | nil => intro out; simp
  | cons c cs ih =>
    intro out
    have h := ih (btStep out c)
    have h2 : (btStep out c).length ≤ out.length + 1 := by
      rcases List.eq_nil_or_concat out with rfl | ⟨o, p, rfl⟩
      · simp [btStep]
      · rw [List.concat_eq_append, btStep_snoc]
        split <;> simp
    simp only [List.foldl_cons, List.length_cons]
    omega
theorem total_pairs (ps : List (Int × Int)) : total (ps.map prL) = 2 * ps.length := by
  induction ps with
  | nil => rfl
  | cons p ps ih =>
    have : total ((p :: ps).map prL) = 2 + total (ps.map prL) := rfl
    rw [this, ih, List.length_cons]
    omega
theorem btV_facts (cs : List Cust) : (btV cs).length ≤ cs.length ∧ (∀ x ∈ btV cs, x.length ≤ 1000000000) ∧ total (btV cs) ≤ 2 * cs.length := by
  unfold btV
  split
  · have := btFold_len cs []
    refine ⟨by simpa [btL] using this, fun x hx => ?_, ?_⟩
    · obtain ⟨p, _, rfl⟩ := List.mem_map.1 hx
      simp [prL]
    · rw [total_pairs]
      simp only [List.length_nil, Nat.zero_add] at this
      unfold btL
      omega
  · exact ⟨Nat.zero_le _, fun x hx => (by cases hx), Nat.zero_le _⟩
end Go.PM
