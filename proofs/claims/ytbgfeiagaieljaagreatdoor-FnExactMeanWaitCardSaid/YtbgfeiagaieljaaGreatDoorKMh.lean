/- Texts of a claim, in one: part 8. -/
import Derived.Test.YtbgfeiagaieljaaGreatDoorKMg

/- Who starts when: the small functions of both, walked. -/
set_option linter.unusedSimpArgs false
set_option linter.unusedVariables false
namespace Go.PM
theorem math_bits_Mul64_one (n : Nat) (h : n < 4294967296) : TC 170 [VK .u64 1, VK .u64 (n : Int)] (.tup [VK .u64 0, VK .u64 (n : Int)]) := by
  refine TC.walk ⟨true, false⟩ math_bits_Mul64_t rfl (Nat.le_of_ble_eq_true rfl) rfl rfl ?_
  have a1 : pbin .and (.int .u64 1) (.int .u64 4294967295) = some (.int .u64 1) := and_u64 1 (by decide)
  have a2 : pbin .and (.int .u64 (n : Int)) (.int .u64 4294967295) = some (.int .u64 (n : Int)) := by rw [and_u64 n (by omega), Nat.mod_eq_of_lt h]
  have a0 : pbin .and (.int .u64 0) (.int .u64 4294967295) = some (.int .u64 0) := and_u64 0 (by decide)
  have s1 : pbin .shr (.int .u64 1) (.int .u64 32) = some (.int .u64 0) := shr_u64 1 .u64
  have s0 : pbin .shr (.int .u64 0) (.int .u64 32) = some (.int .u64 0) := shr_u64 0 .u64
  have s2 : pbin .shr (.int .u64 (n : Int)) (.int .u64 32) = some (.int .u64 0) := by rw [shr_u64 n .u64, Nat.div_eq_of_lt h]; rfl
  have w0 : IntKind.u64.wrap 0 = 0 := wrapU 0 (by decide)
  have wn : IntKind.u64.wrap (n : Int) = n := wrapU n (by omega)
  simp only [math_bits_Mul64, math_bits_Mul64_c, a0, a1, a2, s0, s1, s2, w0, wn, Int.one_mul, Int.zero_mul, Int.mul_zero, Int.add_zero, VX, Nat.reduceEqDiff, Nat.reduceAdd]
  exact fz_res rfl
theorem math_bits_Mul_one (n : Nat) (h : n < 4294967296) : TC 146 [VK .u64 1, VK .u64 (n : Int)] (.tup [VK .u64 0, VK .u64 (n : Int)]) := by
  refine TC.walk ⟨true, false⟩ math_bits_Mul_t rfl (Nat.le_of_ble_eq_true rfl) rfl rfl ?_
  simp only [math_bits_Mul, math_bits_Mul_c, math_bits_Mul64_one n h, VX, Nat.reduceEqDiff, Nat.reduceAdd]
  exact fz_res rfl
theorem spec_l05Before_v (rule : Int) (cs : List Cust) (i k : Nat) (hr : 0 ≤ rule ∧ rule ≤ 3) (hi : i < cs.length) (hk : k < cs.length) : TC 152 [VI rule, custsV cs, VI i, VI k] (.sc (.bool (befo rule cs i k))) := by
  refine TC.walk ⟨true, false⟩ spec_l05Before_t rfl (Nat.le_of_ble_eq_true rfl) (by simp only [pureL, custsV_pure]; rfl) rfl ?_
  have hx : cs[i]? = some cs[i] := List.getElem?_eq_getElem hi
  have hy : cs[k]? = some cs[k] := List.getElem?_eq_getElem hk
  have wx := wkC_of hx
  have wy := wkC_of hy
  have kx := klC_of hx
  have ky := klC_of hy
  generalize cs[i] = x at *
  generalize cs[k] = y at *
  have e1 := fun H => viaddr_map (f := cV) (t := .op) (H := H) (size := 3) (k := .i64) hx rfl
  have e2 := fun H => viaddr_map (f := cV) (t := .op) (H := H) (size := 3) (k := .i64) hy rfl
  have hq : rule = 0 ∨ rule = 1 ∨ rule = 2 ∨ rule = 3 := by omega
  rcases hq with rfl | rfl | rfl | rfl
  · simp only [spec_l05Before, spec_l05Before_c, befo, e1, e2, rd_cV, Int.reduceEq, eq_self, cV, VX, Nat.reduceEqDiff, Nat.reduceAdd]
    exact fz_res rfl
  · simp only [spec_l05Before, spec_l05Before_c, befo, e1, e2, rd_cV, Int.reduceEq, eq_self, cV, VX, Nat.reduceEqDiff, Nat.reduceAdd]
    exact fz_res rfl
  · simp only [spec_l05Before, spec_l05Before_c, befo, wx, wy, e1, e2, rd_cV, Int.reduceEq, eq_self, cV, VX, Nat.reduceEqDiff, Nat.reduceAdd]
    exact fz_res rfl
  · simp only [spec_l05Before, spec_l05Before_c, befo, kx, ky, e1, e2, rd_cV, Int.reduceEq, eq_self, cV, VX, Nat.reduceEqDiff, Nat.reduceAdd]
    exact fz_res rfl
theorem spec_l05Busy_v (cs : List Cust) (st : List Int) (t : Int) (hc : custsOk cs) (hl : st.length = cs.length) (hs : ∀ i, i < cs.length → stC st i ≤ 34000) : TC 132 [custsV cs, numsV st, VI t] (VI (bz cs st t)) := by
  refine TC.walk ⟨true, false⟩ spec_l05Busy_t rfl (Nat.le_of_ble_eq_true rfl) (by simp [pureL, custsV_pure, nums_pure]; rfl) rfl ?_
  have hlen := hc.2
  simp only [spec_l05Busy, spec_l05Busy_c, VX, Nat.reduceEqDiff, Nat.reduceAdd]
  refine VW_loop (fun (i : Nat) ρ H => i ≤ cs.length ∧ H = [] ∧ ρ 0 = custsV cs ∧ ρ 1 = numsV st ∧ ρ 2 = VI t ∧ ρ 7 = VI ((List.range i).countP (inS cs st t)) ∧ ρ 10 = VI cs.length ∧ ρ 11 = VI i) (fun i => cs.length - i) 0 ⟨Nat.zero_le _, rfl, rfl, rfl, rfl, rfl, rfl, rfl⟩ ?_
  rintro i ρ H ⟨hi, rfl, h0, h1, h2, h7, h10, h11⟩
  by_cases hin : (i : Int) < (cs.length : Int)
  · have hil : i < cs.length := by omega
    have hx : cs[i]? = some cs[i] := List.getElem?_eq_getElem hil
    have hy : st[i]? = some st[i] := List.getElem?_eq_getElem (by omega)
    have hb := hc.bnd hil
    have hsi := hs i hil
    rw [wkC_of hx] at hb
    rw [stC_of hy] at hsi
    have hins : inS cs st t i = (decide (0 ≤ st[i]) && decide (st[i] ≤ t) && decide (t < st[i] + cs[i].w)) := by unfold inS; rw [wkC_of hx, stC_of hy]
    generalize cs[i] = x at *
    generalize st[i] = s at *
    have e1 := fun H => viaddr_map (f := cV) (t := .op) (H := H) (size := 3) (k := .i64) hx rfl
    have e2 := fun H => viaddr_map (f := nV) (t := .op) (H := H) (size := 1) (k := .i64) hy rfl
    have wi : IntKind.i64.wrap ((i : Int) + 1) = ((i + 1 : Nat) : Int) := wrapN (i + 1) (by omega) (by omega)
    have hcl : (List.range i).countP (inS cs st t) ≤ i := by
      have := List.countP_le_length (p := inS cs st t) (l := List.range i)
      simpa using this
    have hstep : (List.range (i + 1)).countP (inS cs st t) = (List.range i).countP (inS cs st t) + if inS cs st t i = true then 1 else 0 := by
      rw [List.range_succ, List.countP_append, List.countP_singleton]
    have wn : IntKind.i64.wrap (((List.range i).countP (inS cs st t) : Int) + 1) = (((List.range i).countP (inS cs st t) + 1 : Nat) : Int) := wrapN _ (by omega) (by omega)
    by_cases q1 : 0 ≤ s
    · have ws : IntKind.i64.wrap (s + x.w) = s + x.w := wrap64 (by omega) (by omega)
      by_cases q2 : s ≤ t
      · by_cases q3 : t < s + x.w
        · rw [if_pos (by rw [hins]; simp [q1, q2, q3])] at hstep
          simp only [spec_l05Busy_b0, h0, h1, h2, h7, h10, h11, hin, e1, e2, rd_cV, q1, q2, q3, ws, wi, wn, ge_iff_le, cV, VX, Nat.reduceEqDiff, Nat.reduceAdd]
          exact ⟨i + 1, by omega, by omega, by rw [hstep]; (repeat' apply And.intro) <;> first | rfl | trivial⟩
        · rw [if_neg (by rw [hins]; simp [q3])] at hstep
          simp only [spec_l05Busy_b0, h0, h1, h2, h7, h10, h11, hin, e1, e2, rd_cV, q1, q2, q3, ws, wi, ge_iff_le, cV, VX, Nat.reduceEqDiff, Nat.reduceAdd]
          exact ⟨i + 1, by omega, by omega, by rw [hstep]; (repeat' apply And.intro) <;> first | rfl | trivial⟩
      · rw [if_neg (by rw [hins]; simp [q2])] at hstep
        simp only [spec_l05Busy_b0, h0, h1, h2, h7, h10, h11, hin, e1, e2, rd_cV, q1, q2, wi, ge_iff_le, cV, VX, Nat.reduceEqDiff, Nat.reduceAdd]
        exact ⟨i + 1, by omega, by omega, by rw [hstep]; (repeat' apply And.intro) <;> first | rfl | trivial⟩
    · rw [if_neg (by rw [hins]; simp [q1])] at hstep
      simp only [spec_l05Busy_b0, h0, h1, h2, h7, h10, h11, hin, e1, e2, rd_cV, q1, wi, ge_iff_le, cV, VX, Nat.reduceEqDiff, Nat.reduceAdd]
      exact ⟨i + 1, by omega, by omega, by rw [hstep]; (repeat' apply And.intro) <;> first | rfl | trivial⟩
  · have hie : i = cs.length := by omega
    subst hie
    simp only [spec_l05Busy_b0, h7, h10, h11, hin, VX, Nat.reduceEqDiff, Nat.reduceAdd]
    exact fz_res rfl
def optV (o : Option Nat) : Int := match o with
  | none => -1
  | some k => k
theorem spec_l05Next_v (rule : Int) (cs : List Cust) (st : List Int) (t : Int) (hr : 0 ≤ rule ∧ rule ≤ 3) (hc : custsOk cs) (hl : st.length = cs.length) : TC 133 [VI rule, custsV cs, numsV st, VI t] (VI (optV (nxt rule cs st t))) := by
  refine TC.walk ⟨true, false⟩ spec_l05Next_t rfl (Nat.le_of_ble_eq_true rfl) (by simp only [pureL, custsV_pure, nums_pure]; rfl) rfl ?_
  have hlen := hc.2
  have hnx : nxt rule cs st t = (List.range cs.length).foldl (fun b i => if isW cs st t i = true then pickW rule cs b i else b) none := by
    unfold nxt wt
    rw [List.foldl_filter]
  have hlt : ∀ n, n ≤ cs.length → ∀ k, (List.range n).foldl (fun b i => if isW cs st t i = true then pickW rule cs b i else b) none = some k → k < cs.length := by
    intro n
    induction n with
    | zero => intro _ k h; cases h
    | succ n ih =>
      intro hn k h
      rw [List.range_succ, List.foldl_append, List.foldl_cons, List.foldl_nil] at h
      split at h
      · revert h
        cases hq : (List.range n).foldl (fun b i => if isW cs st t i = true then pickW rule cs b i else b) none with
        | none =>
          intro h
          injection h with h
          omega
        | some j =>
          intro h
          have := ih (by omega) j hq
          unfold pickW at h
          simp only at h
          split at h
          · injection h with h; omega
          · injection h with h; omega
      · exact ih (by omega) k h
  simp only [spec_l05Next, spec_l05Next_c, VX, Nat.reduceEqDiff, Nat.reduceAdd]
  refine VW_loop (fun (i : Nat) ρ H => i ≤ cs.length ∧ H = [] ∧ ρ 0 = VI rule ∧ ρ 1 = custsV cs ∧ ρ 2 = numsV st ∧ ρ 3 = VI t ∧ ρ 9 = VI (optV ((List.range i).foldl (fun b i => if isW cs st t i = true then pickW rule cs b i else b) none)) ∧ ρ 12 = VI cs.length ∧ ρ 13 = VI i) (fun i => cs.length - i) 0 ⟨Nat.zero_le _, rfl, rfl, rfl, rfl, rfl, rfl, rfl, rfl⟩ ?_
  rintro i ρ H ⟨hi, rfl, h0, h1, h2, h3, h9, h12, h13⟩
  by_cases hin : (i : Int) < (cs.length : Int)
  · have hil : i < cs.length := by omega
    have hx : cs[i]? = some cs[i] := List.getElem?_eq_getElem hil
    have hy : st[i]? = some st[i] := List.getElem?_eq_getElem (by omega)
    have hins : isW cs st t i = (decide (st[i] < 0) && decide (cs[i].t ≤ t)) := by unfold isW; rw [atC_of hx, stC_of hy]
    generalize cs[i] = x at *
    generalize st[i] = s at *
    have e1 := fun H => viaddr_map (f := cV) (t := .op) (H := H) (size := 3) (k := .i64) hx rfl
    have e2 := fun H => viaddr_map (f := nV) (t := .op) (H := H) (size := 1) (k := .i64) hy rfl
    have wi : IntKind.i64.wrap ((i : Int) + 1) = ((i + 1 : Nat) : Int) := wrapN (i + 1) (by omega) (by omega)
    have hstep : (List.range (i + 1)).foldl (fun b i => if isW cs st t i = true then pickW rule cs b i else b) none = if isW cs st t i = true then pickW rule cs ((List.range i).foldl (fun b i => if isW cs st t i = true then pickW rule cs b i else b) none) i else (List.range i).foldl (fun b i => if isW cs st t i = true then pickW rule cs b i else b) none := by
      rw [List.range_succ, List.foldl_append, List.foldl_cons, List.foldl_nil]
    have hlt := hlt i hi
    generalize (List.range i).foldl (fun b i => if isW cs st t i = true then pickW rule cs b i else b) none = b at *
    by_cases q1 : 0 ≤ s
    · rw [if_neg (by rw [hins]; simp; omega)] at hstep
      simp only [spec_l05Next_b0, h0, h1, h2, h3, h9, h12, h13, hin, e1, e2, rd_cV, q1, wi, ge_iff_le, cV, VX, Nat.reduceEqDiff, Nat.reduceAdd]
      exact ⟨i + 1, by omega, by omega, by rw [hstep]; (repeat' apply And.intro) <;> first | rfl | trivial⟩
    · by_cases q2 : t < x.t
      · rw [if_neg (by rw [hins]; simp; omega)] at hstep
        simp only [spec_l05Next_b0, h0, h1, h2, h3, h9, h12, h13, hin, e1, e2, rd_cV, q1, q2, wi, ge_iff_le, cV, VX, Nat.reduceEqDiff, Nat.reduceAdd]
        exact ⟨i + 1, by omega, by omega, by rw [hstep]; (repeat' apply And.intro) <;> first | rfl | trivial⟩
      · rw [if_pos (by rw [hins]; simp; omega)] at hstep
        cases b with
        | none =>
          have q3 : optV none < 0 := by decide
          simp only [spec_l05Next_b0, h0, h1, h2, h3, h9, h12, h13, hin, e1, e2, rd_cV, q1, q2, q3, wi, ge_iff_le, cV, VX, Nat.reduceEqDiff, Nat.reduceAdd]
          exact ⟨i + 1, by omega, by omega, by rw [hstep]; (repeat' apply And.intro) <;> first | rfl | trivial⟩
        | some k =>
          have q3 : ¬ (k : Int) < 0 := by omega
          have h9 : ρ 9 = VI (k : Int) := h9
          have e3 := spec_l05Before_v rule cs i k hr hil (hlt k rfl)
          cases hb : befo rule cs i k with
          | true =>
            rw [hb] at e3
            simp only [spec_l05Next_b0, h0, h1, h2, h3, h9, h12, h13, hin, e1, e2, e3, rd_cV, q1, q2, q3, wi, ge_iff_le, cV, VX, Nat.reduceEqDiff, Nat.reduceAdd]
            refine ⟨i + 1, by omega, by omega, ?_⟩
            rw [hstep]
            simp only [pickW, hb, if_true]
            (repeat' apply And.intro) <;> first | rfl | trivial
          | false =>
            rw [hb] at e3
            simp only [spec_l05Next_b0, h0, h1, h2, h3, h9, h12, h13, hin, e1, e2, e3, rd_cV, q1, q2, q3, wi, ge_iff_le, cV, VX, Nat.reduceEqDiff, Nat.reduceAdd]
            refine ⟨i + 1, by omega, by omega, ?_⟩
            rw [hstep]
            simp only [pickW, hb, Bool.false_eq_true, if_false]
            (repeat' apply And.intro) <;> first | rfl | trivial
  · have hie : i = cs.length := by omega
    subst hie
    simp only [spec_l05Next_b0, h9, h12, h13, hin, VX, Nat.reduceEqDiff, Nat.reduceAdd]
    rw [← hnx]
    exact fz_res rfl
theorem spec_l05Later_v (cs : List Cust) (st : List Int) (t : Int) (hc : custsOk cs) (hl : st.length = cs.length) (hs : ∀ i, i < cs.length → stC st i ≤ 34000) : TC 134 [custsV cs, numsV st, VI t] (VI (later cs st t)) := by
  refine TC.walk ⟨true, false⟩ spec_l05Later_t rfl (Nat.le_of_ble_eq_true rfl) (by simp [pureL, custsV_pure, nums_pure]; rfl) rfl ?_
  have hlen := hc.2
  simp only [spec_l05Later, spec_l05Later_c, VX, Nat.reduceEqDiff, Nat.reduceAdd]
  refine VW_loop (fun (i : Nat) ρ H => i ≤ cs.length ∧ H = [] ∧ ρ 0 = custsV cs ∧ ρ 1 = numsV st ∧ ρ 2 = VI t ∧ ρ 7 = VI ((List.range i).foldl (laterF cs st t) (-1)) ∧ ρ 11 = VI cs.length ∧ ρ 12 = VI i) (fun i => cs.length - i) 0 ⟨Nat.zero_le _, rfl, rfl, rfl, rfl, rfl, rfl, rfl⟩ ?_
  rintro i ρ H ⟨hi, rfl, h0, h1, h2, h7, h11, h12⟩
  by_cases hin : (i : Int) < (cs.length : Int)
  · have hil : i < cs.length := by omega
    have hx : cs[i]? = some cs[i] := List.getElem?_eq_getElem hil
    have hy : st[i]? = some st[i] := List.getElem?_eq_getElem (by omega)
    have hb := hc.bnd hil
    have hsi := hs i hil
    rw [wkC_of hx] at hb
    rw [stC_of hy] at hsi
    have hev : evT cs st i = if 0 ≤ st[i] then st[i] + cs[i].w else cs[i].t := by unfold evT; rw [atC_of hx, wkC_of hx, stC_of hy]
    generalize cs[i] = x at *
    generalize st[i] = s at *
    have e1 := fun H => viaddr_map (f := cV) (t := .op) (H := H) (size := 3) (k := .i64) hx rfl
    have e2 := fun H => viaddr_map (f := nV) (t := .op) (H := H) (size := 1) (k := .i64) hy rfl
    have wi : IntKind.i64.wrap ((i : Int) + 1) = ((i + 1 : Nat) : Int) := wrapN (i + 1) (by omega) (by omega)
    have hstep : (List.range (i + 1)).foldl (laterF cs st t) (-1) = if t < evT cs st i ∧ ((List.range i).foldl (laterF cs st t) (-1) < 0 ∨ evT cs st i < (List.range i).foldl (laterF cs st t) (-1)) then evT cs st i else (List.range i).foldl (laterF cs st t) (-1) := by
      rw [List.range_succ, List.foldl_append, List.foldl_cons, List.foldl_nil]
      rfl
    generalize (List.range i).foldl (laterF cs st t) (-1) = b at *
    rw [hev] at hstep
    by_cases q1 : 0 ≤ s
    · rw [if_pos q1] at hstep
      have ws : IntKind.i64.wrap (s + x.w) = s + x.w := wrap64 (by omega) (by omega)
      by_cases q2 : t < s + x.w
      · by_cases q3 : b < 0
        · rw [if_pos ⟨q2, .inl q3⟩] at hstep
          simp only [spec_l05Later_b0, h0, h1, h2, h7, h11, h12, hin, e1, e2, rd_cV, q1, q2, q3, ws, wi, ge_iff_le, cV, VX, Nat.reduceEqDiff, Nat.reduceAdd]
          exact ⟨i + 1, by omega, by omega, by rw [hstep]; (repeat' apply And.intro) <;> first | rfl | trivial⟩
        · by_cases q4 : s + x.w < b
          · rw [if_pos ⟨q2, .inr q4⟩] at hstep
            simp only [spec_l05Later_b0, h0, h1, h2, h7, h11, h12, hin, e1, e2, rd_cV, q1, q2, q3, q4, ws, wi, ge_iff_le, cV, VX, Nat.reduceEqDiff, Nat.reduceAdd]
            exact ⟨i + 1, by omega, by omega, by rw [hstep]; (repeat' apply And.intro) <;> first | rfl | trivial⟩
          · rw [if_neg (by omega)] at hstep
            simp only [spec_l05Later_b0, h0, h1, h2, h7, h11, h12, hin, e1, e2, rd_cV, q1, q2, q3, q4, ws, wi, ge_iff_le, cV, VX, Nat.reduceEqDiff, Nat.reduceAdd]
            exact ⟨i + 1, by omega, by omega, by rw [hstep]; (repeat' apply And.intro) <;> first | rfl | trivial⟩
      · rw [if_neg (by omega)] at hstep
        simp only [spec_l05Later_b0, h0, h1, h2, h7, h11, h12, hin, e1, e2, rd_cV, q1, q2, ws, wi, ge_iff_le, cV, VX, Nat.reduceEqDiff, Nat.reduceAdd]
        exact ⟨i + 1, by omega, by omega, by rw [hstep]; (repeat' apply And.intro) <;> first | rfl | trivial⟩
    · rw [if_neg q1] at hstep
      by_cases q2 : t < x.t
      · by_cases q3 : b < 0
        · rw [if_pos ⟨q2, .inl q3⟩] at hstep
          simp only [spec_l05Later_b0, h0, h1, h2, h7, h11, h12, hin, e1, e2, rd_cV, q1, q2, q3, wi, ge_iff_le, cV, VX, Nat.reduceEqDiff, Nat.reduceAdd]
          exact ⟨i + 1, by omega, by omega, by rw [hstep]; (repeat' apply And.intro) <;> first | rfl | trivial⟩
        · by_cases q4 : x.t < b
          · rw [if_pos ⟨q2, .inr q4⟩] at hstep
            simp only [spec_l05Later_b0, h0, h1, h2, h7, h11, h12, hin, e1, e2, rd_cV, q1, q2, q3, q4, wi, ge_iff_le, cV, VX, Nat.reduceEqDiff, Nat.reduceAdd]
            exact ⟨i + 1, by omega, by omega, by rw [hstep]; (repeat' apply And.intro) <;> first | rfl | trivial⟩
          · rw [if_neg (by omega)] at hstep
            simp only [spec_l05Later_b0, h0, h1, h2, h7, h11, h12, hin, e1, e2, rd_cV, q1, q2, q3, q4, wi, ge_iff_le, cV, VX, Nat.reduceEqDiff, Nat.reduceAdd]
            exact ⟨i + 1, by omega, by omega, by rw [hstep]; (repeat' apply And.intro) <;> first | rfl | trivial⟩
      · rw [if_neg (by omega)] at hstep
        simp only [spec_l05Later_b0, h0, h1, h2, h7, h11, h12, hin, e1, e2, rd_cV, q1, q2, wi, ge_iff_le, cV, VX, Nat.reduceEqDiff, Nat.reduceAdd]
        exact ⟨i + 1, by omega, by omega, by rw [hstep]; (repeat' apply And.intro) <;> first | rfl | trivial⟩
  · have hie : i = cs.length := by omega
    subst hie
    simp only [spec_l05Later_b0, h7, h11, h12, hin, VX, Nat.reduceEqDiff, Nat.reduceAdd]
    exact fz_res rfl
def nextF (rule : Int) (cs : List Cust) (ws : List Nat) (b k : Nat) : Nat := if befo rule cs (ws.getD k 0) (ws.getD b 0) then k else b
theorem nextF_lt {rule : Int} {cs : List Cust} {ws : List Nat} (hne : 0 < ws.length) : ∀ n, n ≤ ws.length → (List.range n).foldl (nextF rule cs ws) 0 < ws.length := by
  intro n
  induction n with
  | zero => intro _; exact hne
  | succ n ih =>
    intro hn
    rw [List.range_succ, List.foldl_append, List.foldl_cons, List.foldl_nil]
    have := ih (by omega)
    unfold nextF
    split
    · omega
    · exact this
set_option maxHeartbeats 1000000 in
theorem impl_next_loop (r : Int) (cs : List Cust) (ws : List Nat) (hr : r = 2 ∨ r = 3) (hws : ∀ i ∈ ws, i < cs.length) (hne : 0 < ws.length) (hn : ws.length ≤ 1000000) (ρ : VEnv) (g0 : ρ 0 = VI r) (g1 : ρ 1 = idsV ws) (g2 : ρ 2 = custsV cs) (g7 : ρ 7 = VI 0) (g21 : ρ 21 = idsV ws) (g22 : ρ 22 = VI ws.length) (g23 : ρ 23 = VI 0) :
    VW ⟨true, false⟩ 0 (.block 1 (.loop impl_next_b0)) (fun e ρ' H => e = .normal ∧ ρ' 7 = VI ((List.range ws.length).foldl (nextF r cs ws) 0 : Nat) ∧ H = []) ρ [] := by
  rw [VW_block]
  refine VW_loopT (fun (i : Nat) ρ H => i ≤ ws.length ∧ H = [] ∧ ρ 0 = VI r ∧ ρ 1 = idsV ws ∧ ρ 2 = custsV cs ∧ ρ 7 = VI ((List.range i).foldl (nextF r cs ws) 0 : Nat) ∧ ρ 21 = idsV ws ∧ ρ 22 = VI ws.length ∧ ρ 23 = VI i) (fun i => ws.length - i) 0 ⟨Nat.zero_le _, rfl, g0, g1, g2, g7, g21, g22, g23⟩ ?_
  clear g0 g1 g2 g7 g21 g22 g23 ρ
  rintro i ρ H ⟨hi, rfl, h0, h1, h2, h7, h21, h22, h23⟩
  by_cases hin : (i : Int) < (ws.length : Int)
  · have hil : i < ws.length := by omega
    have hbl := nextF_lt (rule := r) (cs := cs) hne i hi
    have hstep : (List.range (i + 1)).foldl (nextF r cs ws) 0 = nextF r cs ws ((List.range i).foldl (nextF r cs ws) 0) i := by rw [List.range_succ, List.foldl_append, List.foldl_cons, List.foldl_nil]
    generalize (List.range i).foldl (nextF r cs ws) 0 = b at *
    obtain ⟨u, hu⟩ : ∃ u, ws[i]? = some u := ⟨_, List.getElem?_eq_getElem hil⟩
    obtain ⟨v, hv⟩ : ∃ v, ws[b]? = some v := ⟨_, List.getElem?_eq_getElem hbl⟩
    obtain ⟨x, hx⟩ : ∃ x, cs[u]? = some x := ⟨_, List.getElem?_eq_getElem (hws u (List.mem_of_getElem? hu))⟩
    obtain ⟨y, hy⟩ : ∃ y, cs[v]? = some y := ⟨_, List.getElem?_eq_getElem (hws v (List.mem_of_getElem? hv))⟩
    have e1 := fun H => viaddr_map (f := kV) (t := .op) (H := H) (size := 1) (k := .i64) hu rfl
    have e2 := fun H => viaddr_map (f := kV) (t := .op) (H := H) (size := 1) (k := .i64) hv rfl
    have e3 := fun H => viaddr_map (f := cV) (t := .op) (H := H) (size := 3) (k := .i64) hx rfl
    have e4 := fun H => viaddr_map (f := cV) (t := .op) (H := H) (size := 3) (k := .i64) hy rfl
    have wi : IntKind.i64.wrap ((i : Int) + 1) = ((i + 1 : Nat) : Int) := wrapN (i + 1) (by omega) (by omega)
    have hF : nextF r cs ws b i = if befo r cs u v then i else b := by simp only [nextF, List.getD_eq_getElem?_getD, hu, hv, Option.getD_some]
    rcases hr with rfl | rfl
    · have hbe : befo 2 cs u v = decide (x.w < y.w) := by simp only [befo, wkC_of hx, wkC_of hy]; rfl
      by_cases q : x.w < y.w
      · rw [hF, hbe, decide_eq_true q, if_pos rfl] at hstep
        simp only [impl_next_b0, h0, h1, h2, h7, h21, h22, h23, hin, e1, e2, e3, e4, rd_cV, wi, q, Int.reduceEq, eq_self, cV, kV, VX, Nat.reduceEqDiff, Nat.reduceAdd, vload_pdef, vstore_pdef, viaddr_rdef, vlen_rdef, vfaddr_pdef, vchk_pdef, visnil_rdef, visnil_nil, visnil_cons, vrow_zero, vrow_succ, List.set_cons_zero, List.set_cons_succ, elemOf_one, elemOf_two, vresult, vresAll, vres1, vfill, isAny_sc, isAny_tree, isAny_ref, isAny_agg, isAny_clo, List.take_zero, List.take_succ_cons, List.take_nil, List.drop_zero, List.drop_succ_cons, List.drop_nil, List.append_nil, Nat.reduceLeDiff, Nat.le_refl, vsplice, Nat.reduceLT, Int.toNat_natCast, eq_self, ge_iff_le, Bool.and_eq_true, Nat.reduceSub, VS_cf, vrow_stale, n_ne_succ, vkeeps, vkoff, vblk, bne_iff_ne, ne_eq, not_false_eq_true, not_true_eq_false]
        refine ⟨i + 1, by omega, rfl, by omega, ?_⟩
        simp only [scrubE_app, h0, h1, h2, h21, h22, hstep, scrub_of (custsV_pure _), scrub_of (ids_pure _), VX, Nat.reduceEqDiff, Nat.reduceAdd, List.take_zero, rowsBelow, List.all_nil, List.length_nil, scrubE_app, scrub_sc, scrub_of]
      · rw [hF, hbe, decide_eq_false q, if_neg (by decide)] at hstep
        simp only [impl_next_b0, h0, h1, h2, h7, h21, h22, h23, hin, e1, e2, e3, e4, rd_cV, wi, q, Int.reduceEq, eq_self, cV, kV, VX, Nat.reduceEqDiff, Nat.reduceAdd, vload_pdef, vstore_pdef, viaddr_rdef, vlen_rdef, vfaddr_pdef, vchk_pdef, visnil_rdef, visnil_nil, visnil_cons, vrow_zero, vrow_succ, List.set_cons_zero, List.set_cons_succ, elemOf_one, elemOf_two, vresult, vresAll, vres1, vfill, isAny_sc, isAny_tree, isAny_ref, isAny_agg, isAny_clo, List.take_zero, List.take_succ_cons, List.take_nil, List.drop_zero, List.drop_succ_cons, List.drop_nil, List.append_nil, Nat.reduceLeDiff, Nat.le_refl, vsplice, Nat.reduceLT, Int.toNat_natCast, eq_self, ge_iff_le, Bool.and_eq_true, Nat.reduceSub, VS_cf, vrow_stale, n_ne_succ, vkeeps, vkoff, vblk, bne_iff_ne, ne_eq, not_false_eq_true, not_true_eq_false]
        refine ⟨i + 1, by omega, rfl, by omega, ?_⟩
        simp only [scrubE_app, h0, h1, h2, h7, h21, h22, hstep, scrub_of (custsV_pure _), scrub_of (ids_pure _), VX, Nat.reduceEqDiff, Nat.reduceAdd, List.take_zero, rowsBelow, List.all_nil, List.length_nil, scrubE_app, scrub_sc, scrub_of]
    · have hbe : befo 3 cs u v = decide (x.k < y.k) := by simp only [befo, klC_of hx, klC_of hy]; rfl
      by_cases q : x.k < y.k
      · rw [hF, hbe, decide_eq_true q, if_pos rfl] at hstep
        simp only [impl_next_b0, h0, h1, h2, h7, h21, h22, h23, hin, e1, e2, e3, e4, rd_cV, wi, q, Int.reduceEq, eq_self, cV, kV, VX, Nat.reduceEqDiff, Nat.reduceAdd, vload_pdef, vstore_pdef, viaddr_rdef, vlen_rdef, vfaddr_pdef, vchk_pdef, visnil_rdef, visnil_nil, visnil_cons, vrow_zero, vrow_succ, List.set_cons_zero, List.set_cons_succ, elemOf_one, elemOf_two, vresult, vresAll, vres1, vfill, isAny_sc, isAny_tree, isAny_ref, isAny_agg, isAny_clo, List.take_zero, List.take_succ_cons, List.take_nil, List.drop_zero, List.drop_succ_cons, List.drop_nil, List.append_nil, Nat.reduceLeDiff, Nat.le_refl, vsplice, Nat.reduceLT, Int.toNat_natCast, eq_self, ge_iff_le, Bool.and_eq_true, Nat.reduceSub, VS_cf, vrow_stale, n_ne_succ, vkeeps, vkoff, vblk, bne_iff_ne, ne_eq, not_false_eq_true, not_true_eq_false]
        refine ⟨i + 1, by omega, rfl, by omega, ?_⟩
        simp only [scrubE_app, h0, h1, h2, h21, h22, hstep, scrub_of (custsV_pure _), scrub_of (ids_pure _), VX, Nat.reduceEqDiff, Nat.reduceAdd, List.take_zero, rowsBelow, List.all_nil, List.length_nil, scrubE_app, scrub_sc, scrub_of]
      · rw [hF, hbe, decide_eq_false q, if_neg (by decide)] at hstep
        simp only [impl_next_b0, h0, h1, h2, h7, h21, h22, h23, hin, e1, e2, e3, e4, rd_cV, wi, q, Int.reduceEq, eq_self, cV, kV, VX, Nat.reduceEqDiff, Nat.reduceAdd, vload_pdef, vstore_pdef, viaddr_rdef, vlen_rdef, vfaddr_pdef, vchk_pdef, visnil_rdef, visnil_nil, visnil_cons, vrow_zero, vrow_succ, List.set_cons_zero, List.set_cons_succ, elemOf_one, elemOf_two, vresult, vresAll, vres1, vfill, isAny_sc, isAny_tree, isAny_ref, isAny_agg, isAny_clo, List.take_zero, List.take_succ_cons, List.take_nil, List.drop_zero, List.drop_succ_cons, List.drop_nil, List.append_nil, Nat.reduceLeDiff, Nat.le_refl, vsplice, Nat.reduceLT, Int.toNat_natCast, eq_self, ge_iff_le, Bool.and_eq_true, Nat.reduceSub, VS_cf, vrow_stale, n_ne_succ, vkeeps, vkoff, vblk, bne_iff_ne, ne_eq, not_false_eq_true, not_true_eq_false]
        refine ⟨i + 1, by omega, rfl, by omega, ?_⟩
        simp only [scrubE_app, h0, h1, h2, h7, h21, h22, hstep, scrub_of (custsV_pure _), scrub_of (ids_pure _), VX, Nat.reduceEqDiff, Nat.reduceAdd, List.take_zero, rowsBelow, List.all_nil, List.length_nil, scrubE_app, scrub_sc, scrub_of]
  · have hie : i = ws.length := by omega
    subst hie
    simp only [impl_next_b0, h7, h22, h23, hin, VX, Nat.reduceEqDiff, Nat.reduceAdd]
theorem impl_next_v (rule : Int) (cs : List Cust) (ws : List Nat) (hr : 0 ≤ rule ∧ rule ≤ 3) (hws : ∀ i ∈ ws, i < cs.length) (hne : 0 < ws.length) (hn : ws.length ≤ 1000000) : TC 124 [VI rule, idsV ws, custsV cs] (VI (nextP rule cs ws)) := by
  refine TC.walk ⟨true, false⟩ impl_next_t rfl (Nat.le_of_ble_eq_true rfl) (by simp only [pureL, custsV_pure, ids_pure]; rfl) rfl ?_
  have hq : rule = 0 ∨ rule = 1 ∨ rule = 2 ∨ rule = 3 := by omega
  rcases hq with rfl | rfl | rfl | rfl
  · simp only [impl_next, impl_next_c, Int.reduceEq, eq_self, VX, Nat.reduceEqDiff, Nat.reduceAdd]
    exact fz_res rfl
  · have w1 : IntKind.i64.wrap ((ws.length : Int) - 1) = ((ws.length - 1 : Nat) : Int) := wrapN _ (by omega) (by omega)
    simp only [impl_next, impl_next_c, w1, Int.reduceEq, eq_self, VX, Nat.reduceEqDiff, Nat.reduceAdd]
    exact fz_res rfl
  · simp only [impl_next, impl_next_c, Int.reduceEq, eq_self, VX, Nat.reduceEqDiff, Nat.reduceAdd]
    refine VW_use (impl_next_loop 2 cs ws (.inl rfl) hws hne hn _ ?_ ?_ ?_ ?_ ?_ ?_ ?_) ?_
    any_goals simp only [VX, Nat.reduceEqDiff, Nat.reduceAdd]
    rintro ρ' H' ⟨h7, rfl⟩
    simp only [h7, VX, Nat.reduceEqDiff, Nat.reduceAdd]
    exact fz_res rfl
  · simp only [impl_next, impl_next_c, Int.reduceEq, eq_self, VX, Nat.reduceEqDiff, Nat.reduceAdd]
    refine VW_use (impl_next_loop 3 cs ws (.inr rfl) hws hne hn _ ?_ ?_ ?_ ?_ ?_ ?_ ?_) ?_
    any_goals simp only [VX, Nat.reduceEqDiff, Nat.reduceAdd]
    rintro ρ' H' ⟨h7, rfl⟩
    simp only [h7, VX, Nat.reduceEqDiff, Nat.reduceAdd]
    exact fz_res rfl
end Go.PM

/- Lists cut, copied and cleared within a row. -/
namespace Go.PM
section
variable {α : Type} {f : α → VV} {H : VHeap} {b g e lo : Nat} {X Y : List α}
theorem set_same {es : List VV} {w : Bool} (h : vrow H b g = some (es, e, w)) : H.set b (.row g es e w) = H := by
  obtain ⟨hlt, hge⟩ := List.getElem?_eq_some_iff.1 (vrow_some.1 h)
  rw [← hge, List.set_getElem_self]
theorem vsplice_map {o : Nat} : vsplice (X.map f) o (Y.map f) = (X.take o ++ Y ++ X.drop (o + Y.length)).map f := by
  simp [vsplice]
theorem vclear_row {zero : List Value} {z : α} {o n cc : Nat} (h : vrow H b g = some (X.map f, zero.length, true)) (hz : elemOf (zero.map inj1) = f z) (hs : (zero.map inj1).all vscal = true) (hlo : lo ≤ b) (ho : o + n ≤ X.length) :
    vclear lo zero (.ref b g o n cc) H = some (H.set b (.row g ((X.take o ++ List.replicate n z ++ X.drop (o + n)).map f) zero.length true)) := by
  simp only [vclear, h]
  by_cases hn : n = 0
  · subst hn
    rw [if_pos rfl]
    have : X.take o ++ List.replicate 0 z ++ X.drop (o + 0) = X := by simp
    rw [this, set_same h]
  · rw [if_neg hn, if_pos ⟨trivial, hlo, by simpa using ho, hs⟩, hz]
    have := vsplice_map (f := f) (X := X) (Y := List.replicate n z) (o := o)
    rw [List.map_replicate, List.length_replicate] at this
    rw [this]
theorem vappend_in {i c bytes : Nat} (h : vrow H b g = some (X.map f, e, true)) (hc : X.length = c) (hlo : lo ≤ b) (he : 1 ≤ e) (hb : 1 ≤ bytes) (hi : i + Y.length ≤ c) :
    vappend lo e bytes (.ref b g 0 i c) (Y.map f) H = some (.ref b g 0 (i + Y.length) c, H.set b (.row g ((X.take i ++ Y ++ X.drop (i + Y.length)).map f) e true)) := by
  simp only [vappend, h, List.length_map]
  rw [if_pos ⟨hb, he⟩, if_pos ⟨trivial, hlo, by omega⟩, if_pos hi]
  by_cases hn : Y.length = 0
  · rw [if_pos hn]
    have hY : Y = [] := List.eq_nil_of_length_eq_zero hn
    subst hY
    have : X.take i ++ [] ++ X.drop (i + ([] : List α).length) = X := by simp
    rw [this, set_same h]
    rfl
  · rw [if_neg hn, if_pos (by omega), Nat.zero_add, vsplice_map]
theorem vcopy_row {o d cc : Nat} {y : VV} (h : vrow H b g = some (X.map f, e, true)) (hy : vsource e y H = some (Y.map f)) (hlo : lo ≤ b) (ho : o + (Y.take d).length ≤ X.length) :
    vcopy lo e (.ref b g o d cc) y H = some (VI (Y.take d).length, H.set b (.row g ((X.take o ++ Y.take d ++ X.drop (o + (Y.take d).length)).map f) e true)) := by
  simp only [vcopy, hy, h]
  rw [← List.map_take, vsplice_map, if_pos ⟨trivial, hlo, by simpa using ho⟩, List.length_map]
theorem vsource_row {o n cc : Nat} (h : vrow H b g = some (X.map f, e, true)) (hs : ∀ x, (vcells (f x)).all vscal = true) (ho : o + n ≤ X.length) : vsource e (.ref b g o n cc) H = some (((X.drop o).take n).map f) := by
  have hall : (((X.map f).drop o).take n).all (fun x => (vcells x).all vscal) = true := by
    rw [List.all_eq_true]
    intro x hx
    have h1 := List.mem_of_mem_drop (List.mem_of_mem_take hx)
    obtain ⟨y, _, rfl⟩ := List.mem_map.1 h1
    exact hs y
  simp only [vsource, h]
  rw [if_pos ⟨trivial, by simpa using ho, hall⟩, List.map_take, List.map_drop]
theorem vsub_ref3 {o n c l h m : Nat} {es : List VV} {w : Bool} (hr : vrow H b g = some (es, e, w)) (hl : l ≤ h) (hh : h ≤ m) (hm : m ≤ c) (hne : m ≠ l) {k1 k2 k3 : IntKind} :
    vsub e (.ref b g o n c) (some (VK k1 l)) (some (VK k2 h)) (some (VK k3 m)) H = some (.ref b g (o + l) (h - l) (m - l)) := by
  have e0 : (0 : Int) ≤ m ∧ (m : Int) ≤ (c : Int) := by omega
  have e1 : (0 : Int) ≤ h ∧ (h : Int) ≤ (m : Int) := by omega
  have e2 : (0 : Int) ≤ l ∧ (l : Int) ≤ (h : Int) := by omega
  simp only [vsub, vnum, hr, if_true, pbound, e0, e1, e2, Int.toNat_natCast, Option.isSome_some, true_and]
  simp [hl, hne]
end
set_option maxHeartbeats 1000000 in
theorem slices_Delete_int_v {lo b g c k i : Nat} {H : VHeap} {all : List Nat} (hb : vrow H b g = some (all.map kV, 1, true)) (hlo : lo ≤ b) (hi : i < k) (hk : k ≤ c) (hc : all.length = c) :
    VRaw 125 [.ref b g 0 k c, VI i, VI ((i + 1 : Nat) : Int)] lo H fun r H' => ∃ all' : List Nat, r = .ref b g 0 (k - 1) c ∧ H' = H.set b (.row g (all'.map kV) 1 true) ∧ all'.length = c ∧ all'.take (k - 1) = (all.take k).eraseIdx i := by
  refine VRaw.walk ⟨true, false⟩ slices_Delete___int_int__t (Nat.le_of_ble_eq_true rfl) ?_
  have hbl : b < H.length := (List.getElem?_eq_some_iff.1 (vrow_some.1 hb)).1
  have hR : ∀ X : List Nat, vrow (H.set b (.row g (X.map kV) 1 true)) b g = some (X.map kV, 1, true) := fun X => vrow_some.2 (List.getElem?_set_self hbl)
  have el := vlen_ref (o := 0) (n := k) (c := c) hb
  have hne : ¬ (i : Int) = ((i + 1 : Nat) : Int) := by omega
  have s1 := vsub_ref3 (o := 0) (n := k) (c := c) (l := i) (h := i + 1) (m := k) (k1 := .i64) (k2 := .i64) (k3 := .i64) hb (by omega) (by omega) hk (by omega)
  have s2 := vsub_ref_to (o := 0) (n := k) (c := c) (h := i) (k2 := .i64) hb (by omega)
  have s3 := vsub_ref_from (o := 0) (n := k) (c := c) (l := i + 1) (k1 := .i64) hb (by omega) hk
  have s4 := vsource_row (f := kV) (o := i + 1) (n := k - (i + 1)) (cc := c - (i + 1)) hb (fun _ => rfl) (by omega)
  have hYl : ((all.drop (i + 1)).take (k - (i + 1))).length = k - (i + 1) := by simp; omega
  have s5 := vappend_in (f := kV) (lo := lo) (bytes := 8) (i := i) (Y := (all.drop (i + 1)).take (k - (i + 1))) hb hc hlo (by decide) (by decide) (by rw [hYl]; omega)
  rw [hYl, show i + (k - (i + 1)) = k - 1 by omega] at s5
  have hXl : (all.take i ++ (all.drop (i + 1)).take (k - (i + 1)) ++ all.drop (k - 1)).length = c := by simp; omega
  have hXt : (all.take i ++ (all.drop (i + 1)).take (k - (i + 1)) ++ all.drop (k - 1)).take (k - 1) = (all.take k).eraseIdx i := by
    rw [List.eraseIdx_eq_take_drop_succ, List.take_append_of_le_length (by simp; omega), List.take_of_length_le (by simp; omega), List.take_take, Nat.min_eq_left (by omega), List.drop_take]
  generalize all.take i ++ (all.drop (i + 1)).take (k - (i + 1)) ++ all.drop (k - 1) = X at *
  have el2 := vlen_ref (o := 0) (n := k - 1) (c := c) (hR X)
  have s6 := vsub_ref (o := 0) (n := k - 1) (c := c) (l := k - 1) (h := k) (k1 := .i64) (k2 := .i64) (hR X) (by omega) hk
  have s7 := vclear_row (f := kV) (zero := [.int .i64 0]) (z := 0) (lo := lo) (o := k - 1) (n := k - (k - 1)) (cc := c - (k - 1)) (hR X) rfl rfl hlo (by omega)
  simp only [slices_Delete___int_int_, slices_Delete___int_int__c, el, el2, hne, s1, s2, s3, s4, s5, s6, s7, List.set_set, VX, Nat.reduceEqDiff, Nat.reduceAdd]
  refine ⟨_, rfl, ?_, ?_⟩
  · simp; omega
  · rw [← hXt, List.append_assoc, List.take_append_of_le_length (by simp; omega), List.take_take, Nat.min_self]
set_option maxHeartbeats 1000000 in
theorem slices_Repeat_i64_v (v : Int) (N : Nat) (hN : N ≤ 1000000) : FC 121 [numsV [v], VI N] fun n r L => r = .ref n 0 0 N N ∧ L = [.row 0 ((List.replicate N v).map nV) 1 true] := by
  refine FC.walk ⟨true, false⟩ slices_Repeat___int64_int64__t (Nat.le_of_ble_eq_true rfl) fun n => ?_
  have eM := math_bits_Mul_one N (by omega)
  have c1 : IntKind.u64.wrap ((1 : Nat) : Int) = 1 := wrapU 1 (by decide)
  have c2 : IntKind.u64.wrap (N : Int) = (N : Int) := wrapU N (by omega)
  have c3 : IntKind.i64.wrap (N : Int) = (N : Int) := wrap64 (by omega) (by omega)
  have g1 : ¬ (N : Int) < 0 := by omega
  have g2 : ¬ (0 : Int) < 0 := by decide
  have g3 : ¬ (9223372036854775807 : Int) < (N : Int) := by omega
  have em := fun H => vmake_map (H := H) (f := nV) (x := 0) (z := [.int .i64 0]) (bytes := 8) (n := N) rfl (by omega) (by omega)
  have s1 := vsource_one (size := 1) (v := nV v) (t := .op) (H := List.replicate n VBlk.dead ++ [.row 0 ((List.replicate N (0 : Int)).map nV) 1 true]) rfl rfl
  have r1 : vrow (List.replicate n VBlk.dead ++ [.row 0 ((List.replicate N (0 : Int)).map nV) 1 true]) n 0 = some ((List.replicate N (0 : Int)).map nV, 1, true) := by rw [vrow_D0, vrow_zero]
  have s2 := vcopy_row (f := nV) (Y := [v]) (lo := n) (o := 0) (d := N) (cc := N) (y := numsV [v]) r1 s1 (Nat.le_refl _) (by simp; omega)
  rw [set_D0] at s2
  simp only [slices_Repeat___int64_int64_, slices_Repeat___int64_int64__c, eM, c1, c2, c3, g1, g2, g3, em, s2, VX, Nat.reduceEqDiff, Nat.reduceAdd, vrow_D0, vrow_Dk, set_D0, set_Dk, len_D, List.append_assoc, Nat.le_add_right, take_Dk, take_D0, List.length_replicate]
  refine VW_loop (fun (i : Nat) ρ H => i ≤ N ∧ (i = 0 → N = 0) ∧ H = List.replicate n VBlk.dead ++ [.row 0 ((List.replicate i v ++ List.replicate (N - i) 0).map nV) 1 true] ∧ ρ 7 = .ref n 0 0 N N ∧ ρ 8 = VI i) (fun i => N - i) (min 1 N) ?_ ?_
  refine ⟨by omega, by omega, ?_, rfl, ?_⟩
  · congr 2
    cases N with
    | zero => rfl
    | succ N =>
      have : min 1 (N + 1) = 1 := by omega
      rw [this]
      simp [List.replicate_succ]
  · cases N with
    | zero => rfl
    | succ N =>
      have : min 1 (N + 1) = 1 := by omega
      simp only [this, VX, Nat.reduceEqDiff, Nat.reduceAdd]
      simp
  rintro i ρ H ⟨hi, h0, rfl, h7, h8⟩
  have hr : vrow (List.replicate n VBlk.dead ++ [.row 0 ((List.replicate i v ++ List.replicate (N - i) 0).map nV) 1 true]) n 0 = some ((List.replicate i v ++ List.replicate (N - i) 0).map nV, 1, true) := by rw [vrow_D0, vrow_zero]
  have el := vlen_ref (o := 0) (n := N) (c := N) hr
  by_cases hin : (i : Int) < (N : Int)
  · have hXl : (List.replicate i v ++ List.replicate (N - i) (0 : Int)).length = N := by simp; omega
    have q1 := vsub_ref_from (o := 0) (n := N) (c := N) (l := i) (k1 := .i64) hr hi (Nat.le_refl _)
    have q2 := vsub_ref_to (o := 0) (n := N) (c := N) (h := i) (k2 := .i64) hr hi
    have q3 := vsource_row (f := nV) (o := 0) (n := i) (cc := N) hr (fun _ => rfl) (by omega)
    have hY : ((List.replicate i v ++ List.replicate (N - i) (0 : Int)).drop 0).take i = List.replicate i v := by
      rw [List.drop_zero, List.take_append_of_le_length (by simp), List.take_of_length_le (by simp)]
    rw [hY] at q3
    have hYd : (List.replicate i v).take (N - i) = List.replicate (min (N - i) i) v := List.take_replicate
    have q4 := vcopy_row (f := nV) (lo := n) (o := i) (d := N - i) (cc := N - i) hr q3 (Nat.le_refl _) (by rw [hYd, hXl]; simp; omega)
    rw [set_D0, hYd, List.length_replicate, List.take_append_of_le_length (by simp), List.take_of_length_le (by simp)] at q4
    have hX' : List.replicate i v ++ List.replicate (min (N - i) i) v ++ (List.replicate i v ++ List.replicate (N - i) (0 : Int)).drop (i + min (N - i) i) = List.replicate (i + min (N - i) i) v ++ List.replicate (N - (i + min (N - i) i)) 0 := by
      rw [List.replicate_append_replicate, List.drop_append, List.drop_of_length_le (by simp), List.nil_append, List.length_replicate, List.drop_replicate]
      congr 2
      omega
    rw [hX'] at q4
    have wi : IntKind.i64.wrap ((i : Int) + ((min (N - i) i : Nat) : Int)) = ((i + min (N - i) i : Nat) : Int) := wrapN _ (by omega) (by omega)
    simp only [slices_Repeat___int64_int64__b0, h7, h8, el, hin, q1, q2, q3, q4, wi, VX, Nat.reduceEqDiff, Nat.reduceAdd]
    exact ⟨i + min (N - i) i, by omega, by omega, by omega, rfl, rfl⟩
  · have hie : i = N := by omega
    subst hie
    simp only [slices_Repeat___int64_int64__b0, h7, h8, el, hin, VX, Nat.reduceEqDiff, Nat.reduceAdd]
    refine ⟨_, rfl, by simp [ownV], ?_, ?_⟩
    · simp only [rowsOwn, List.all_cons, List.all_nil, Bool.and_true]
      exact ownL_map (f := nV) (fun _ => rfl) _
    · rw [Nat.sub_self, List.replicate_zero, List.append_nil]
theorem impl_starts_1_v (x now : Int) : TC 123 [VI x, .tptr (VI now) 0] (.sc (.bool (decide (x ≤ now)))) := by
  refine TC.walk ⟨true, false⟩ impl_starts_1_t rfl (Nat.le_of_ble_eq_true rfl) rfl rfl ?_
  by_cases h : x ≤ now <;> simp only [impl_starts_1, impl_starts_1_c, h, VX, Nat.reduceEqDiff, Nat.reduceAdd] <;> exact fz_res rfl
theorem slices_IndexFunc_caps (xs : List Int) (g : Nat) (cap : VV) (p : Int → Bool) (hcap : pureV cap = true) (hg : ∀ x, TC g [VI x, cap] (.sc (.bool (p x)))) (hn : xs.length ≤ 1000000000) :
    TC 144 [numsV xs, .clo g [cap]] (VI (match xs.findIdx? p with | some i => i | none => -1)) := by
  refine TC.walk ⟨true, false⟩ slices_IndexFunc___int64_int64__t rfl (Nat.le_of_ble_eq_true rfl) (by rw [show pureL [numsV xs, .clo g [cap]] = (pureV (numsV xs) && ((pureV cap && true) && true)) from rfl, nums_pure, hcap]; rfl) rfl ?_
  simp only [slices_IndexFunc___int64_int64_, slices_IndexFunc___int64_int64__c, VX, Nat.reduceEqDiff, Nat.reduceAdd]
  refine VW_loop (fun (i : Nat) ρ H => i ≤ xs.length ∧ H = [] ∧ (∀ j x, j < i → xs[j]? = some x → p x = false) ∧ ρ 0 = numsV xs ∧ ρ 1 = .clo g [cap] ∧ ρ 7 = VI xs.length ∧ ρ 8 = VI i) (fun i => xs.length - i) 0 ⟨Nat.zero_le _, rfl, fun j x h => by omega, rfl, rfl, rfl, rfl⟩ ?_
  rintro i ρ H ⟨hi, rfl, hall, h0, h1, h7, h8⟩
  by_cases hin : (i : Int) < (xs.length : Int)
  · obtain ⟨x, hx⟩ : ∃ x, xs[i]? = some x := ⟨_, List.getElem?_eq_getElem (by omega)⟩
    have e1 := viaddr_map (f := nV) (t := .op) (H := []) (size := 1) (k := .i64) hx rfl
    have wi : IntKind.i64.wrap ((i : Int) + 1) = ((i + 1 : Nat) : Int) := wrapN (i + 1) (by omega) (by omega)
    have e2 := hg x
    cases hp : p x with
    | false =>
      rw [hp] at e2
      simp only [slices_IndexFunc___int64_int64__b0, h0, h1, h7, h8, hin, e1, e2, wi, List.cons_append, List.nil_append, VX, Nat.reduceEqDiff, Nat.reduceAdd]
      refine ⟨i + 1, by omega, by omega, fun j y hj hy => ?_, by (repeat' apply And.intro) <;> first | rfl | trivial⟩
      rcases Nat.lt_or_ge j i with hji | hji
      · exact hall j y hji hy
      · have : j = i := by omega
        subst this
        rw [hx] at hy
        injection hy with hy
        exact hy ▸ hp
    | true =>
      rw [hp] at e2
      simp only [slices_IndexFunc___int64_int64__b0, h0, h1, h7, h8, hin, e1, e2, wi, List.cons_append, List.nil_append, VX, Nat.reduceEqDiff, Nat.reduceAdd]
      have : xs.findIdx? p = some i := by
        rw [List.findIdx?_eq_some_iff_getElem]
        obtain ⟨hlt, hge⟩ := List.getElem?_eq_some_iff.1 hx
        exact ⟨hlt, by rw [hge]; exact hp, fun j hj => by
          have := hall j _ hj (List.getElem?_eq_getElem (by omega))
          simp [this]⟩
      rw [this]
      exact fz_res rfl
  · simp only [slices_IndexFunc___int64_int64__b0, h0, h1, h7, h8, hin, VX, Nat.reduceEqDiff, Nat.reduceAdd]
    have : xs.findIdx? p = none := by
      rw [List.findIdx?_eq_none_iff]
      intro x hx
      obtain ⟨j, hj⟩ := List.getElem?_of_mem hx
      exact hall j x (by have := (List.getElem?_eq_some_iff.1 hj).1; omega) hj
    rw [this]
    exact fz_res rfl
theorem fz_box {H : VHeap} {bx : Nat} {v : VV} {w : Bool} (h : vrow H bx 0 = some ([v], 1, w)) (hp : pureV v = true) : fz depth H (.ptr bx 0 0 0) = some (.tptr v 0) := by
  have h1 : pureV (.ptr bx 0 0 0) = false := rfl
  show fz (7 + 1) H _ = _
  unfold fz
  simp only [h1, h, Bool.false_eq_true, if_false, List.getElem?_cons_zero]
  show (fz (6 + 1) H v).map _ = _
  unfold fz
  rw [if_pos hp]
  rfl
theorem fz_clo1 {H : VHeap} {bx f : Nat} {v : VV} {w : Bool} (h : vrow H bx 0 = some ([v], 1, w)) (hp : pureV v = true) : fz depth H (.clo f [.ptr bx 0 0 0]) = some (.clo f [.tptr v 0]) := by
  have h1 : pureV (.clo f [.ptr bx 0 0 0]) = false := rfl
  have h2 : pureV (.ptr bx 0 0 0) = false := rfl
  have h3 : fz 7 H (.ptr bx 0 0 0) = some (.tptr v 0) := by
    show fz (6 + 1) H _ = _
    unfold fz
    simp only [h2, h, Bool.false_eq_true, if_false, List.getElem?_cons_zero]
    show (fz (5 + 1) H v).map _ = _
    unfold fz
    rw [if_pos hp]
    rfl
  show fz (7 + 1) H _ = _
  unfold fz
  simp only [h1, Bool.false_eq_true, if_false, List.mapM_cons, List.mapM_nil, h3]
  rfl
set_option maxHeartbeats 1000000 in
theorem slices_DeleteFunc_i64_v {lo b g c k bx fc : Nat} {H : VHeap} {all : List Int} {now : Int} {p : Int → Bool} (hb : vrow H b g = some (all.map nV, 1, true)) (hx : vrow H bx 0 = some ([VI now], 1, true)) (hbx : b ≠ bx) (hlo : lo ≤ b) (hk : k ≤ c) (hc : all.length = c) (hn : k ≤ 1000000)
    (hp : ∀ x, TC fc [VI x, .tptr (VI now) 0] (.sc (.bool (p x)))) (hraw : raws.contains fc = false) :
    VRaw 122 [.ref b g 0 k c, .clo fc [.ptr bx 0 0 0]] lo H fun r H' => ∃ all' : List Int, r = .ref b g 0 ((all.take k).filter fun x => !p x).length c ∧ H' = H.set b (.row g (all'.map nV) 1 true) ∧ all'.length = c ∧ all'.take ((all.take k).filter fun x => !p x).length = (all.take k).filter fun x => !p x := by
  refine VRaw.walk ⟨true, false⟩ slices_DeleteFunc___int64_int64__t (Nat.le_of_ble_eq_true rfl) ?_
  have hbl : b < H.length := (List.getElem?_eq_some_iff.1 (vrow_some.1 hb)).1
  have hR : ∀ X : List Int, vrow (H.set b (.row g (X.map nV) 1 true)) b g = some (X.map nV, 1, true) := fun X => vrow_some.2 (List.getElem?_set_self hbl)
  have hX : ∀ X : List Int, vrow (H.set b (.row g (X.map nV) 1 true)) bx 0 = some ([VI now], 1, true) := fun X => vrow_set_ne hbx hx
  have h00 := set_same hb
  have e0 : fz depth H (.ref b g 0 k c) = some (numsV (all.take k)) := by
    rw [fz_rowP hb (by rw [List.length_map]; omega) hk (nums_pureL _), ← List.map_take]
  have eI : ∀ lo K, vcallP 144 [.ref b g 0 k c, .clo fc [.ptr bx 0 0 0]] lo H K = K (VI (match (all.take k).findIdx? p with | some i => i | none => -1)) H := fun lo K =>
    TC.flat (slices_IndexFunc_caps (all.take k) fc (.tptr (VI now) 0) p rfl hp (by simp; omega)) rfl (by rw [show pureL [numsV (all.take k), .clo fc [.tptr (VI now) 0]] = (pureV (numsV (all.take k)) && true) from rfl, nums_pure]; rfl) (fz2 e0 (fz_clo1 hx rfl)) rfl lo K
  have eP : ∀ (X : List Int) (x : Int) lo K, vcallP fc [VI x, .ptr bx 0 0 0] lo (H.set b (.row g (X.map nV) 1 true)) K = K (.sc (.bool (p x))) (H.set b (.row g (X.map nV) 1 true)) := fun X x lo K =>
    TC.flat (hp x) hraw rfl (fz2 (fz_res rfl) (fz_box (hX X) rfl)) rfl lo K
  cases hi : (all.take k).findIdx? p with
  | none =>
    rw [hi] at eI
    have hf : ((all.take k).filter fun x => !p x) = all.take k := by
      rw [List.filter_eq_self]
      intro x hx
      rw [List.findIdx?_eq_none_iff] at hi
      rw [hi x hx]
      rfl
    simp only [slices_DeleteFunc___int64_int64_, slices_DeleteFunc___int64_int64__c, eI, eq_self, VX, Nat.reduceEqDiff, Nat.reduceAdd]
    rw [hf]
    refine ⟨all, ?_, h00.symm, hc, ?_⟩
    · rw [List.length_take, Nat.min_eq_left (by omega)]
    · rw [List.length_take, Nat.min_eq_left (by omega)]
  | some i =>
    rw [hi] at eI
    obtain ⟨hil, hpi, hall⟩ := List.findIdx?_eq_some_iff_getElem.1 hi
    simp only [List.length_take] at hil
    have hne : ¬ (i : Int) = -1 := by omega
    have wi : IntKind.i64.wrap ((i : Int) + 1) = ((i + 1 : Nat) : Int) := wrapN (i + 1) (by omega) (by omega)
    have hfi : (all.take i).filter (fun x => !p x) = all.take i := by
      rw [List.filter_eq_self]
      intro x hx
      obtain ⟨j, hj⟩ := List.getElem?_of_mem hx
      obtain ⟨hj1, hj2⟩ := List.getElem?_eq_some_iff.1 hj
      have hji : j < i := by simp at hj1; omega
      have := hall j hji
      rw [List.getElem_take] at this
      rw [List.getElem_take] at hj2
      rw [hj2] at this
      simpa using this
    have hpi' : p all[i] = true := by rw [List.getElem_take] at hpi; exact hpi
    simp only [slices_DeleteFunc___int64_int64_, slices_DeleteFunc___int64_int64__c, eI, hne, wi, VX, Nat.reduceEqDiff, Nat.reduceAdd]
    refine VW_loop (fun (s : Nat × Nat × List Int) ρ H1 => s.2.1 ≤ k ∧ s.1 ≤ s.2.1 ∧ s.2.2.length = c ∧ s.2.2.take s.1 = (all.take s.2.1).filter (fun x => !p x) ∧ s.2.2.drop s.2.1 = all.drop s.2.1 ∧ H1 = H.set b (.row g (s.2.2.map nV) 1 true) ∧ ρ 0 = .ref b g 0 k c ∧ ρ 1 = .clo fc [.ptr bx 0 0 0] ∧ ρ 5 = VI s.1 ∧ ρ 6 = VI s.2.1) (fun s => k - s.2.1) (i, i + 1, all) ?_ ?_
    · refine ⟨by simp only; omega, by simp only; omega, hc, ?_, rfl, h00.symm, rfl, rfl, rfl, rfl⟩
      simp only
      rw [List.take_add_one, List.filter_append, hfi, List.getElem?_eq_getElem (by omega)]
      simp [hpi']
    rintro ⟨j, m, X⟩ ρ H1 ⟨hm, hjm, hXl, hXt, hXd, rfl, h0, h1, h5, h6⟩
    simp only at hm hjm hXl hXt hXd h5 h6
    have el := vlen_ref (o := 0) (n := k) (c := c) (hR X)
    by_cases hin : (m : Int) < (k : Int)
    · obtain ⟨x, hx1⟩ : ∃ x, X[m]? = some x := ⟨_, List.getElem?_eq_getElem (by omega)⟩
      have hx2 : all[m]? = some x := by
        have := congrArg (fun l => l[0]?) hXd
        simp only [List.getElem?_drop, Nat.add_zero] at this
        rw [← this, hx1]
      have a1 := viaddr_row (o := 0) (n := k) (c := c) (i := m) (k := .i64) (hR X) (by omega)
      have a2 := viaddr_row (o := 0) (n := k) (c := c) (i := j) (k := .i64) (hR X) (by omega)
      have a3 : vload false 1 (.ptr b g (0 + m) 0) (H.set b (.row g (X.map nV) 1 true)) = some (VI x) := by rw [Nat.zero_add, vload_row (hR X) hx1]; rfl
      have a4 := vstore_map (f := nV) (x := x) (lo := lo) (j := 0 + j) (hR X) (by omega) hlo rfl rfl
      rw [Nat.zero_add] at a1 a2 a3 a4
      have wm : IntKind.i64.wrap ((m : Int) + 1) = ((m + 1 : Nat) : Int) := wrapN (m + 1) (by omega) (by omega)
      have wj : IntKind.i64.wrap ((j : Int) + 1) = ((j + 1 : Nat) : Int) := wrapN (j + 1) (by omega) (by omega)
      have hd1 : X.drop (m + 1) = all.drop (m + 1) := by
        have := congrArg (List.drop 1) hXd
        simpa [List.drop_drop] using this
      cases hpx : p x with
      | true =>
        have eP := fun lo K => eP X x lo K
        rw [hpx] at eP
        simp only [slices_DeleteFunc___int64_int64__b0, h0, h1, h5, h6, el, hin, a1, a3, eP, wm, List.cons_append, List.nil_append, VX, Nat.reduceEqDiff, Nat.reduceAdd]
        refine ⟨(j, m + 1, X), by simp only; omega, by simp only; omega, by simp only; omega, hXl, ?_, hd1, rfl, rfl, rfl⟩
        simp only
        rw [hXt, List.take_add_one, hx2, List.filter_append]
        simp [hpx]
      | false =>
        have eP := fun lo K => eP X x lo K
        rw [hpx] at eP
        simp only [slices_DeleteFunc___int64_int64__b0, h0, h1, h5, h6, el, hin, a1, a2, a3, a4, eP, wm, wj, List.set_set, List.cons_append, List.nil_append, VX, Nat.reduceEqDiff, Nat.reduceAdd]
        refine ⟨(j + 1, m + 1, X.set j x), by simp only; omega, by simp only; omega, by simp only; omega, by simp [hXl], ?_, ?_, rfl, rfl, rfl⟩
        · simp only
          rw [List.take_add_one, List.take_set_of_le (Nat.le_refl _), List.getElem?_set_self (by omega), hXt, List.take_add_one, hx2, List.filter_append]
          simp [hpx]
        · simp only
          rw [List.drop_set_of_lt (by omega)]
          exact hd1
    · have hme : m = k := by omega
      subst hme
      have q1 := vsub_ref_from (o := 0) (n := m) (c := c) (l := j) (k1 := .i64) (hR X) hjm hk
      have q2 := vclear_row (f := nV) (zero := [.int .i64 0]) (z := 0) (lo := lo) (o := 0 + j) (n := m - j) (cc := c - j) (hR X) rfl rfl hlo (by omega)
      rw [Nat.zero_add] at q1 q2
      have q3 := fun Y => vsub_ref_to (o := 0) (n := m) (c := c) (h := j) (k2 := .i64) (hR Y) (by omega)
      have hfl : ((all.take m).filter fun x => !p x).length = j := by
        rw [← hXt, List.length_take, Nat.min_eq_left (by omega)]
      simp only [slices_DeleteFunc___int64_int64__b0, h0, h1, h5, h6, el, hin, q1, q2, q3, List.set_set, VX, Nat.reduceEqDiff, Nat.reduceAdd]
      rw [hfl]
      refine ⟨_, rfl, rfl, ?_, ?_⟩
      · simp; omega
      · rw [← hXt, List.append_assoc, List.take_append_of_le_length (by simp; omega), List.take_take, Nat.min_self]
end Go.PM

/- The last come first, with interruptions: plain words. -/
namespace Go.PM
def irOk (N : Nat) (hi : Int) (st : List (Nat × Int)) : Prop := ∀ p ∈ st, p.1 < N ∧ 1 ≤ p.2 ∧ p.2 ≤ hi
theorem irOk.cons {N : Nat} {hi : Int} {p : Nat × Int} {st : List (Nat × Int)} (h : irOk N hi (p :: st)) : (p.1 < N ∧ 1 ≤ p.2 ∧ p.2 ≤ hi) ∧ irOk N hi st := ⟨h p List.mem_cons_self, fun q hq => h q (List.mem_cons_of_mem _ hq)⟩
theorem irOk.of {N : Nat} {hi : Int} {p : Nat × Int} {st : List (Nat × Int)} (hp : p.1 < N ∧ 1 ≤ p.2 ∧ p.2 ≤ hi) (h : irOk N hi st) : irOk N hi (p :: st) := fun q hq => by
  rcases List.mem_cons.1 hq with rfl | hq
  · exact hp
  · exact h q hq
theorem vappend_part {α : Type} {f : α → VV} {all : List α} {x : α} {lo b g k e bytes : Nat} {H : VHeap} (h : vrow H b g = some (all.map f, e, true)) (hk : k ≤ all.length) (hlo : lo ≤ b) (he : 1 ≤ e) (hb : 1 ≤ bytes) (hsz : (k + 1) * bytes ≤ 140737488355328) :
    ∃ (g' : Nat) (all' : List α), vappend lo e bytes (.ref b g 0 k all.length) [f x] H = some (.ref b g' 0 (k + 1) all'.length, H.set b (.row g' (all'.map f) e true)) ∧ k + 1 ≤ all'.length ∧ all'.take (k + 1) = all.take k ++ [x] := by
  simp only [vappend, h, List.length_cons, List.length_nil, Nat.zero_add]
  rw [if_pos ⟨hb, he⟩, if_pos ⟨trivial, hlo, by simpa using hk⟩]
  by_cases hc : k + 1 ≤ all.length
  · rw [if_pos hc, if_neg (by decide), if_pos (by simpa using hc)]
    refine ⟨g, all.set k x, ?_, by simpa using hc, ?_⟩
    · have : vsplice (all.map f) k [f x] = (all.set k x).map f := by
        rw [List.map_set, List.set_eq_take_append_cons_drop, if_pos (by simp; omega)]
        simp [vsplice]
      rw [this, List.length_set]
    · rw [List.take_add_one, List.take_set_of_le (Nat.le_refl _), List.getElem?_set_self (by omega)]
      rfl
  · rw [if_neg hc, if_pos hsz]
    have hke : k = all.length := by omega
    subst hke
    refine ⟨g + 1, all ++ [x], ?_, by simp, by rw [List.take_of_length_le (by simp), List.take_of_length_le (Nat.le_refl _)]⟩
    rw [List.drop_zero, List.take_of_length_le (by simp)]
    simp
end Go.PM

/- Who starts when: the program, walked. -/
namespace Go.PM
structure StSys (rule srv room : Int) (cs : List Cust) where
  I : Nat → Nat → List Nat → List Int → List Int → Prop
  A : Nat → Int → Nat → List Nat → List Int → List Int → Prop
  S : Nat → Int → Nat → List Nat → List Int → List Int → Prop
  bI : ∀ {m come ws ends st}, I m come ws ends st → come ≤ cs.length ∧ st.length = cs.length ∧ ws.length ≤ 24 ∧ ends.length ≤ 24
  bA : ∀ {m now come ws ends st}, A m now come ws ends st → come ≤ cs.length ∧ st.length = cs.length ∧ ws.length ≤ 24 ∧ ends.length ≤ 24
  bS : ∀ {m now come ws ends st}, S m now come ws ends st → come ≤ cs.length ∧ st.length = cs.length ∧ ws.length ≤ 24 ∧ ends.length ≤ 24 ∧ (∀ i ∈ ws, i < cs.length) ∧ (0 ≤ now ∧ now ≤ 100000)
  start : ∃ m, I m 0 [] [] (List.replicate cs.length (-1))
  toA : ∀ {m come ws ends st}, I m come ws ends st → come < cs.length ∨ 0 < ws.length → A m (nowN cs come ws ends) come ws (ends.filter (gtB (nowN cs come ws ends))) st
  stepA : ∀ {m now come ws ends st}, A m now come ws ends st → come < cs.length → atC cs come = now → A m now (come + 1) (if (ws.length : Int) + (ends.length : Int) < room then ws ++ [come] else ws) ends st
  toS : ∀ {m now come ws ends st}, A m now come ws ends st → ¬ (come < cs.length ∧ atC cs come = now) → S m now come ws ends st
  stepS : ∀ {m now come ws ends st}, S m now come ws ends st → (ends.length : Int) < srv → 0 < ws.length → ∃ k, ws[nextP rule cs ws]? = some k ∧ S m now come (ws.eraseIdx (nextP rule cs ws)) (ends ++ [now + wkC cs k]) (st.set k now)
  toI : ∀ {m now come ws ends st}, S m now come ws ends st → ¬ ((ends.length : Int) < srv ∧ 0 < ws.length) → ∃ m', m' < m ∧ I m' come ws ends st
def stH (st : List Int) (g1 : Nat) (wall : List Nat) (g2 : Nat) (eall : List Int) : VHeap :=
  [.row 0 (st.map nV) 1 true, .row g1 (wall.map kV) 1 true, .row g2 (eall.map nV) 1 true]
structure StE (rule srv room : Int) (cs : List Cust) (n g1 k1 c1 g2 k2 c2 come : Nat) (ρ : VEnv) : Prop where
  r0 : ρ 0 = VI rule
  r1 : ρ 1 = VI srv
  r2 : ρ 2 = VI room
  r3 : ρ 3 = custsV cs
  r9 : ρ 9 = .ref n 0 0 cs.length cs.length
  r10 : ρ 10 = .ref (n + 1) g1 0 k1 c1
  r11 : ρ 11 = .ref (n + 2) g2 0 k2 c2
  r12 : ρ 12 = VI come
structure Part {α : Type} (all xs : List α) : Prop where
  le : xs.length ≤ all.length
  tk : all.take xs.length = xs
theorem Part.get {α : Type} {all xs : List α} (h : Part all xs) {i : Nat} {x : α} (hx : xs[i]? = some x) : all[i]? = some x := by
  rw [← h.tk, List.getElem?_take] at hx
  split at hx
  · exact hx
  · cases hx
theorem Part.fz {α : Type} {f : α → VV} {e b g : Nat} {all xs : List α} {w : Bool} {H : VHeap} (h : Part all xs) (hp : ∀ x, pureV (f x) = true) (hr : vrow H b g = some (all.map f, e, w)) : fz depth H (.ref b g 0 xs.length all.length) = some (listV f xs) := by
  rw [fz_rowP hr (by rw [List.length_map]; exact h.le) h.le (pure_map hp), ← List.map_take, h.tk]
set_option maxHeartbeats 1000000 in
theorem impl_starts_b0_w {rule srv room : Int} {cs : List Cust} {n lo g1 g2 come : Nat} {ws wall : List Nat} {ends eall st : List Int} {b : Int} {ρ : VEnv} (hlo : lo ≤ n) (hE : StE rule srv room cs n g1 ws.length wall.length g2 ends.length eall.length come ρ) (h13 : ρ 13 = .ptr (n + 3) 0 0 0)
    (h42 : ρ 42 = .ref (n + 2) g2 0 ends.length eall.length) (h43 : ρ 43 = VI ends.length) (h44 : ρ 44 = VI 0) (he : Part eall ends) (hn : ends.length ≤ 24) :
    VW ⟨true, false⟩ lo (.block 2 (.loop impl_starts_b0)) (fun e ρ' H => e = .normal ∧ (StE rule srv room cs n g1 ws.length wall.length g2 ends.length eall.length come ρ' ∧ ρ' 13 = .ptr (n + 3) 0 0 0) ∧
      H = List.replicate n .dead ++ (stH st g1 wall g2 eall ++ [VBlk.row 0 [VI (ends.foldl (mnF (decide (0 < ws.length))) b)] 1 true])) ρ (List.replicate n .dead ++ (stH st g1 wall g2 eall ++ [VBlk.row 0 [VI b] 1 true])) := by
  rw [VW_block]
  refine VW_loop (fun (i : Nat) ρ' H => i ≤ ends.length ∧ StE rule srv room cs n g1 ws.length wall.length g2 ends.length eall.length come ρ' ∧ ρ' 13 = .ptr (n + 3) 0 0 0 ∧ ρ' 42 = .ref (n + 2) g2 0 ends.length eall.length ∧ ρ' 43 = VI ends.length ∧ ρ' 44 = VI i ∧
    H = List.replicate n .dead ++ (stH st g1 wall g2 eall ++ [VBlk.row 0 [VI ((ends.take i).foldl (mnF (decide (0 < ws.length))) b)] 1 true])) (fun i => ends.length - i) 0 ⟨Nat.zero_le _, hE, h13, h42, h43, h44, by rw [List.take_zero]; rfl⟩ ?_
  clear hE h13 h42 h43 h44 ρ
  rintro i ρ H ⟨hi, ⟨h0, h1, h2, h3, h9, h10, h11, h12⟩, h13, h42, h43, h44, rfl⟩
  by_cases hin : (i : Int) < (ends.length : Int)
  · obtain ⟨x, hx⟩ : ∃ x, ends[i]? = some x := ⟨_, List.getElem?_eq_getElem (by omega)⟩
    have hxa : (eall.map nV)[i]? = some (VI x) := by rw [List.getElem?_map, he.get hx]; rfl
    have hge : (0 : Int) ≤ (i : Int) := by omega
    have wi : IntKind.i64.wrap ((i : Int) + 1) = ((i + 1 : Nat) : Int) := wrapN (i + 1) (by omega) (by omega)
    have hstep : (ends.take (i + 1)).foldl (mnF (decide (0 < ws.length))) b = mnF (decide (0 < ws.length)) ((ends.take i).foldl (mnF (decide (0 < ws.length))) b) x := by
      rw [List.take_add_one, hx, List.foldl_append]
      rfl
    generalize (ends.take i).foldl (mnF (decide (0 < ws.length))) b = y at *
    have rds : ∀ v : Int, rdCells false 1 (VI v) 0 = some (VI v) := fun _ => rfl
    have hlo3 : lo ≤ n + 3 := by omega
    have hm : mnF (decide (0 < ws.length)) y x = if y < 0 ∨ (decide (0 < ws.length) = true ∧ x < y) then x else y := rfl
    rw [hm] at hstep
    by_cases q1 : y < 0
    · rw [if_pos (.inl q1)] at hstep
      simp only [impl_starts_b0, stH, h0, h1, h2, h3, h9, h10, h11, h12, h13, h42, h43, h44, hin, hge, hxa, rds, wi, q1, hlo3, List.cons_append, List.nil_append, List.getElem?_cons_zero, VX, Nat.reduceEqDiff, Nat.reduceAdd, vload_pdef, vstore_pdef, viaddr_rdef, vlen_rdef, vfaddr_pdef, vchk_pdef, visnil_rdef, visnil_nil, visnil_cons, vrow_zero, vrow_succ, List.set_cons_zero, List.set_cons_succ, elemOf_one, elemOf_two, vresult, vresAll, vres1, vfill, isAny_sc, isAny_tree, isAny_ref, isAny_agg, isAny_clo, List.take_zero, List.take_succ_cons, List.take_nil, List.drop_zero, List.drop_succ_cons, List.drop_nil, List.append_nil, Nat.reduceLeDiff, Nat.le_refl, vsplice, Nat.reduceLT, Int.toNat_natCast, eq_self, ge_iff_le, Bool.and_eq_true, Nat.reduceSub, vrow_D0, vrow_Dk, set_D0, set_Dk, len_D, List.append_assoc, Nat.le_add_right, take_Dk, take_D0, List.length_replicate]
      refine ⟨i + 1, by omega, by omega, ⟨?_, ?_, ?_, ?_, ?_, ?_, ?_, ?_⟩, ?_⟩
      all_goals first | (simp only [h0, h1, h2, h3, h9, h10, h11, h12, VX, Nat.reduceEqDiff, Nat.reduceAdd]; done) | skip
      rw [hstep]
      (repeat' apply And.intro) <;> first | rfl | trivial
    · by_cases q2 : (0 : Int) < (ws.length : Int)
      · by_cases q3 : x < y
        · rw [if_pos (.inr ⟨decide_eq_true (by omega), q3⟩)] at hstep
          simp only [impl_starts_b0, stH, h0, h1, h2, h3, h9, h10, h11, h12, h13, h42, h43, h44, hin, hge, hxa, rds, wi, q1, q2, q3, hlo3, List.cons_append, List.nil_append, List.getElem?_cons_zero, VX, Nat.reduceEqDiff, Nat.reduceAdd, vload_pdef, vstore_pdef, viaddr_rdef, vlen_rdef, vfaddr_pdef, vchk_pdef, visnil_rdef, visnil_nil, visnil_cons, vrow_zero, vrow_succ, List.set_cons_zero, List.set_cons_succ, elemOf_one, elemOf_two, vresult, vresAll, vres1, vfill, isAny_sc, isAny_tree, isAny_ref, isAny_agg, isAny_clo, List.take_zero, List.take_succ_cons, List.take_nil, List.drop_zero, List.drop_succ_cons, List.drop_nil, List.append_nil, Nat.reduceLeDiff, Nat.le_refl, vsplice, Nat.reduceLT, Int.toNat_natCast, eq_self, ge_iff_le, Bool.and_eq_true, Nat.reduceSub, vrow_D0, vrow_Dk, set_D0, set_Dk, len_D, List.append_assoc, Nat.le_add_right, take_Dk, take_D0, List.length_replicate]
          refine ⟨i + 1, by omega, by omega, ⟨?_, ?_, ?_, ?_, ?_, ?_, ?_, ?_⟩, ?_⟩
          all_goals first | (simp only [h0, h1, h2, h3, h9, h10, h11, h12, VX, Nat.reduceEqDiff, Nat.reduceAdd]; done) | skip
          rw [hstep]
          (repeat' apply And.intro) <;> first | rfl | trivial
        · rw [if_neg (by omega)] at hstep
          simp only [impl_starts_b0, stH, h0, h1, h2, h3, h9, h10, h11, h12, h13, h42, h43, h44, hin, hge, hxa, rds, wi, q1, q2, q3, hlo3, List.cons_append, List.nil_append, List.getElem?_cons_zero, VX, Nat.reduceEqDiff, Nat.reduceAdd, vload_pdef, vstore_pdef, viaddr_rdef, vlen_rdef, vfaddr_pdef, vchk_pdef, visnil_rdef, visnil_nil, visnil_cons, vrow_zero, vrow_succ, List.set_cons_zero, List.set_cons_succ, elemOf_one, elemOf_two, vresult, vresAll, vres1, vfill, isAny_sc, isAny_tree, isAny_ref, isAny_agg, isAny_clo, List.take_zero, List.take_succ_cons, List.take_nil, List.drop_zero, List.drop_succ_cons, List.drop_nil, List.append_nil, Nat.reduceLeDiff, Nat.le_refl, vsplice, Nat.reduceLT, Int.toNat_natCast, eq_self, ge_iff_le, Bool.and_eq_true, Nat.reduceSub, vrow_D0, vrow_Dk, set_D0, set_Dk, len_D, List.append_assoc, Nat.le_add_right, take_Dk, take_D0, List.length_replicate]
          refine ⟨i + 1, by omega, by omega, ⟨?_, ?_, ?_, ?_, ?_, ?_, ?_, ?_⟩, ?_⟩
          all_goals first | (simp only [h0, h1, h2, h3, h9, h10, h11, h12, VX, Nat.reduceEqDiff, Nat.reduceAdd]; done) | skip
          rw [hstep]
          (repeat' apply And.intro) <;> first | rfl | trivial
      · rw [if_neg (by rw [decide_eq_false (by omega : ¬ 0 < ws.length)]; simp; omega)] at hstep
        simp only [impl_starts_b0, stH, h0, h1, h2, h3, h9, h10, h11, h12, h13, h42, h43, h44, hin, hge, hxa, rds, wi, q1, q2, hlo3, List.cons_append, List.nil_append, List.getElem?_cons_zero, VX, Nat.reduceEqDiff, Nat.reduceAdd, vload_pdef, vstore_pdef, viaddr_rdef, vlen_rdef, vfaddr_pdef, vchk_pdef, visnil_rdef, visnil_nil, visnil_cons, vrow_zero, vrow_succ, List.set_cons_zero, List.set_cons_succ, elemOf_one, elemOf_two, vresult, vresAll, vres1, vfill, isAny_sc, isAny_tree, isAny_ref, isAny_agg, isAny_clo, List.take_zero, List.take_succ_cons, List.take_nil, List.drop_zero, List.drop_succ_cons, List.drop_nil, List.append_nil, Nat.reduceLeDiff, Nat.le_refl, vsplice, Nat.reduceLT, Int.toNat_natCast, eq_self, ge_iff_le, Bool.and_eq_true, Nat.reduceSub, vrow_D0, vrow_Dk, set_D0, set_Dk, len_D, List.append_assoc, Nat.le_add_right, take_Dk, take_D0, List.length_replicate]
        refine ⟨i + 1, by omega, by omega, ⟨?_, ?_, ?_, ?_, ?_, ?_, ?_, ?_⟩, ?_⟩
        all_goals first | (simp only [h0, h1, h2, h3, h9, h10, h11, h12, VX, Nat.reduceEqDiff, Nat.reduceAdd]; done) | skip
        rw [hstep]
        (repeat' apply And.intro) <;> first | rfl | trivial
  · have hie : i = ends.length := by omega
    subst hie
    simp only [impl_starts_b0, h43, h44, hin, VX, Nat.reduceEqDiff, Nat.reduceAdd]
    rw [List.take_of_length_le (Nat.le_refl _)]
    exact ⟨⟨⟨by simp only [h0, VX, Nat.reduceEqDiff, Nat.reduceAdd], by simp only [h1, VX, Nat.reduceEqDiff, Nat.reduceAdd], by simp only [h2, VX, Nat.reduceEqDiff, Nat.reduceAdd], by simp only [h3, VX, Nat.reduceEqDiff, Nat.reduceAdd], by simp only [h9, VX, Nat.reduceEqDiff, Nat.reduceAdd], by simp only [h10, VX, Nat.reduceEqDiff, Nat.reduceAdd], by simp only [h11, VX, Nat.reduceEqDiff, Nat.reduceAdd], by simp only [h12, VX, Nat.reduceEqDiff, Nat.reduceAdd]⟩, by simp only [h13, VX, Nat.reduceEqDiff, Nat.reduceAdd]⟩, rfl⟩
set_option maxHeartbeats 1000000 in
theorem impl_starts_b1_w {rule srv room : Int} {cs : List Cust} (Y : StSys rule srv room cs) (hc : custsOk cs) {n lo m g1 g2 come : Nat} {ws wall : List Nat} {ends eall st : List Int} {now : Int} {ρ : VEnv} (hlo : lo ≤ n) (hA : Y.A m now come ws ends st) (hE : StE rule srv room cs n g1 ws.length wall.length g2 ends.length eall.length come ρ) (h13 : ρ 13 = .ptr (n + 3) 0 0 0) (hw : Part wall ws) :
    VW ⟨true, false⟩ lo (.block 4 (.loop impl_starts_b1)) (fun e ρ' H => e = .normal ∧ ∃ come' ws' g1' wall', Y.S m now come' ws' ends st ∧ Part wall' ws' ∧ StE rule srv room cs n g1' ws'.length wall'.length g2 ends.length eall.length come' ρ' ∧ ρ' 13 = .ptr (n + 3) 0 0 0 ∧
      H = List.replicate n .dead ++ (stH st g1' wall' g2 eall ++ [VBlk.row 0 [VI now] 1 true])) ρ (List.replicate n .dead ++ (stH st g1 wall g2 eall ++ [VBlk.row 0 [VI now] 1 true])) := by
  rw [VW_block]
  refine VW_loop (fun (s : Nat × List Nat × Nat × List Nat) ρ' H => Y.A m now s.1 s.2.1 ends st ∧ Part s.2.2.2 s.2.1 ∧ StE rule srv room cs n s.2.2.1 s.2.1.length s.2.2.2.length g2 ends.length eall.length s.1 ρ' ∧ ρ' 13 = .ptr (n + 3) 0 0 0 ∧
    H = List.replicate n .dead ++ (stH st s.2.2.1 s.2.2.2 g2 eall ++ [VBlk.row 0 [VI now] 1 true])) (fun s => cs.length - s.1) (come, ws, g1, wall) ⟨hA, hw, hE, h13, rfl⟩ ?_
  clear hA hw hE h13 ρ
  rintro ⟨come, ws, g1, wall⟩ ρ H ⟨hA, hw, ⟨h0, h1, h2, h3, h9, h10, h11, h12⟩, h13, rfl⟩
  simp only at hA hw h10 h12
  obtain ⟨hcl, hsl, hwl, hel⟩ := Y.bA hA
  have hlen := hc.2
  by_cases hin : (come : Int) < (cs.length : Int)
  · have hcl' : come < cs.length := by omega
    obtain ⟨x, hx⟩ : ∃ x, cs[come]? = some x := ⟨_, List.getElem?_eq_getElem hcl'⟩
    have e1 := fun H => viaddr_map (f := cV) (t := .op) (H := H) (size := 3) (k := .i64) hx rfl
    have rds : ∀ v : Int, rdCells false 1 (VI v) 0 = some (VI v) := fun _ => rfl
    by_cases hat : x.t = now
    · have hA' := Y.stepA hA hcl' (by rw [atC_of hx]; exact hat)
      have w1 : IntKind.i64.wrap ((ws.length : Int) + (ends.length : Int)) = (ws.length : Int) + (ends.length : Int) := wrap64 (by omega) (by omega)
      have wi : IntKind.i64.wrap ((come : Int) + 1) = ((come + 1 : Nat) : Int) := wrapN (come + 1) (by omega) (by omega)
      by_cases hr : (ws.length : Int) + (ends.length : Int) < room
      · rw [if_pos hr] at hA'
        obtain ⟨g1', wall', eQ, hk2, htk2⟩ := vappend_part (f := kV) (all := wall) (x := come) (lo := lo) (b := n + 1) (g := g1) (k := ws.length) (e := 1) (bytes := 8) (H := List.replicate n .dead ++ (stH st g1 wall g2 eall ++ [VBlk.row 0 [VI now] 1 true]))
          (by rw [vrow_Dk]; simp only [stH, List.cons_append, vrow_succ, vrow_zero]) hw.le (by omega) (by decide) (by decide) (by omega)
        simp only [stH, List.cons_append, List.nil_append, set_Dk, List.set_cons_succ, List.set_cons_zero] at eQ
        have eL : ∀ H, vlit false [.int .i64 0] 1 [(0, VI come)] H = some (.tree [VI come] (.cl 1), H) := fun H => vlit_one rfl rfl rfl
        have eS : ∀ H, vsource 1 (.tree [VI come] (.cl 1)) H = some [VI come] := fun H => vsource_one rfl rfl
        simp only [impl_starts_b1, stH, h0, h1, h2, h3, h9, h10, h11, h12, h13, hin, e1, rd_cV, rds, hat, eq_self, w1, wi, hr, eL, eS, eQ, cV, List.cons_append, List.nil_append, List.getElem?_cons_zero, VX, Nat.reduceEqDiff, Nat.reduceAdd, vload_pdef, vstore_pdef, viaddr_rdef, vlen_rdef, vfaddr_pdef, vchk_pdef, visnil_rdef, visnil_nil, visnil_cons, vrow_zero, vrow_succ, List.set_cons_zero, List.set_cons_succ, elemOf_one, elemOf_two, vresult, vresAll, vres1, vfill, isAny_sc, isAny_tree, isAny_ref, isAny_agg, isAny_clo, List.take_zero, List.take_succ_cons, List.take_nil, List.drop_zero, List.drop_succ_cons, List.drop_nil, List.append_nil, Nat.reduceLeDiff, Nat.le_refl, vsplice, Nat.reduceLT, Int.toNat_natCast, eq_self, ge_iff_le, Bool.and_eq_true, Nat.reduceSub, vrow_D0, vrow_Dk, set_D0, set_Dk, len_D, List.append_assoc, Nat.le_add_right, take_Dk, take_D0, List.length_replicate]
        refine ⟨(come + 1, ws ++ [come], g1', wall'), by simp only; omega, hA', ⟨by simp; omega, by simp only [List.length_append, List.length_cons, List.length_nil, Nat.zero_add]; rw [htk2, hw.tk]⟩, ⟨?_, ?_, ?_, ?_, ?_, ?_, ?_, ?_⟩, ?_⟩
        all_goals first | (simp only [h0, h1, h2, h3, h9, h10, h11, h12, List.length_append, List.length_cons, List.length_nil, Nat.zero_add, VX, Nat.reduceEqDiff, Nat.reduceAdd]; done) | skip
      · rw [if_neg hr] at hA'
        simp only [impl_starts_b1, stH, h0, h1, h2, h3, h9, h10, h11, h12, h13, hin, e1, rd_cV, rds, hat, eq_self, w1, wi, hr, cV, List.cons_append, List.nil_append, List.getElem?_cons_zero, VX, Nat.reduceEqDiff, Nat.reduceAdd, vload_pdef, vstore_pdef, viaddr_rdef, vlen_rdef, vfaddr_pdef, vchk_pdef, visnil_rdef, visnil_nil, visnil_cons, vrow_zero, vrow_succ, List.set_cons_zero, List.set_cons_succ, elemOf_one, elemOf_two, vresult, vresAll, vres1, vfill, isAny_sc, isAny_tree, isAny_ref, isAny_agg, isAny_clo, List.take_zero, List.take_succ_cons, List.take_nil, List.drop_zero, List.drop_succ_cons, List.drop_nil, List.append_nil, Nat.reduceLeDiff, Nat.le_refl, vsplice, Nat.reduceLT, Int.toNat_natCast, eq_self, ge_iff_le, Bool.and_eq_true, Nat.reduceSub, vrow_D0, vrow_Dk, set_D0, set_Dk, len_D, List.append_assoc, Nat.le_add_right, take_Dk, take_D0, List.length_replicate]
        refine ⟨(come + 1, ws, g1, wall), by simp only; omega, hA', hw, ⟨?_, ?_, ?_, ?_, ?_, ?_, ?_, ?_⟩, ?_⟩
        all_goals first | (simp only [h0, h1, h2, h3, h9, h10, h11, h12, VX, Nat.reduceEqDiff, Nat.reduceAdd]; done) | skip
    · have hS := Y.toS hA fun h => hat (by rw [← atC_of hx]; exact h.2)
      simp only [impl_starts_b1, stH, h0, h1, h2, h3, h9, h10, h11, h12, h13, hin, e1, rd_cV, rds, hat, cV, List.cons_append, List.nil_append, List.getElem?_cons_zero, VX, Nat.reduceEqDiff, Nat.reduceAdd, vload_pdef, vstore_pdef, viaddr_rdef, vlen_rdef, vfaddr_pdef, vchk_pdef, visnil_rdef, visnil_nil, visnil_cons, vrow_zero, vrow_succ, List.set_cons_zero, List.set_cons_succ, elemOf_one, elemOf_two, vresult, vresAll, vres1, vfill, isAny_sc, isAny_tree, isAny_ref, isAny_agg, isAny_clo, List.take_zero, List.take_succ_cons, List.take_nil, List.drop_zero, List.drop_succ_cons, List.drop_nil, List.append_nil, Nat.reduceLeDiff, Nat.le_refl, vsplice, Nat.reduceLT, Int.toNat_natCast, eq_self, ge_iff_le, Bool.and_eq_true, Nat.reduceSub, vrow_D0, vrow_Dk, set_D0, set_Dk, len_D, List.append_assoc, Nat.le_add_right, take_Dk, take_D0, List.length_replicate]
      refine ⟨come, ws, g1, wall, hS, hw, ⟨?_, ?_, ?_, ?_, ?_, ?_, ?_, ?_⟩, ?_⟩
      all_goals first | (simp only [h0, h1, h2, h3, h9, h10, h11, h12, VX, Nat.reduceEqDiff, Nat.reduceAdd]; done) | skip
  · have hS := Y.toS hA fun h => by omega
    simp only [impl_starts_b1, stH, h0, h1, h2, h3, h9, h10, h11, h12, h13, hin, List.cons_append, List.nil_append, VX, Nat.reduceEqDiff, Nat.reduceAdd, vload_pdef, vstore_pdef, viaddr_rdef, vlen_rdef, vfaddr_pdef, vchk_pdef, visnil_rdef, visnil_nil, visnil_cons, vrow_zero, vrow_succ, List.set_cons_zero, List.set_cons_succ, elemOf_one, elemOf_two, vresult, vresAll, vres1, vfill, isAny_sc, isAny_tree, isAny_ref, isAny_agg, isAny_clo, List.take_zero, List.take_succ_cons, List.take_nil, List.drop_zero, List.drop_succ_cons, List.drop_nil, List.append_nil, Nat.reduceLeDiff, Nat.le_refl, vsplice, Nat.reduceLT, Int.toNat_natCast, eq_self, ge_iff_le, Bool.and_eq_true, Nat.reduceSub, vrow_D0, vrow_Dk, set_D0, set_Dk, len_D, List.append_assoc, Nat.le_add_right, take_Dk, take_D0, List.length_replicate]
    refine ⟨come, ws, g1, wall, hS, hw, ⟨?_, ?_, ?_, ?_, ?_, ?_, ?_, ?_⟩, ?_⟩
    all_goals first | (simp only [h0, h1, h2, h3, h9, h10, h11, h12, VX, Nat.reduceEqDiff, Nat.reduceAdd]; done) | skip
set_option maxHeartbeats 2000000 in
theorem impl_starts_b2_w {rule srv room : Int} {cs : List Cust} (Y : StSys rule srv room cs) (hc : custsOk cs) (hr : 0 ≤ rule ∧ rule ≤ 3) {n lo m g1 g2 come : Nat} {ws wall : List Nat} {ends eall st : List Int} {now : Int} {ρ : VEnv} (hlo : lo ≤ n) (hS : Y.S m now come ws ends st) (hE : StE rule srv room cs n g1 ws.length wall.length g2 ends.length eall.length come ρ) (h13 : ρ 13 = .ptr (n + 3) 0 0 0) (hw : Part wall ws) (he : Part eall ends) (hsrv : srv ≤ 8) :
    VW ⟨true, false⟩ lo (.block 6 (.loop impl_starts_b2)) (fun e ρ' H => e = .normal ∧ ∃ ws' ends' st' g1' wall' g2' eall' m', m' < m ∧ Y.I m' come ws' ends' st' ∧ Part wall' ws' ∧ Part eall' ends' ∧ StE rule srv room cs n g1' ws'.length wall'.length g2' ends'.length eall'.length come ρ' ∧ ρ' 13 = .ptr (n + 3) 0 0 0 ∧
      H = List.replicate n .dead ++ (stH st' g1' wall' g2' eall' ++ [.row 0 [VI now] 1 true])) ρ (List.replicate n .dead ++ (stH st g1 wall g2 eall ++ [VBlk.row 0 [VI now] 1 true])) := by
  rw [VW_block]
  refine VW_loop (fun (s : List Nat × List Int × List Int × Nat × List Nat × Nat × List Int) ρ' H => Y.S m now come s.1 s.2.1 s.2.2.1 ∧ Part s.2.2.2.2.1 s.1 ∧ Part s.2.2.2.2.2.2 s.2.1 ∧ StE rule srv room cs n s.2.2.2.1 s.1.length s.2.2.2.2.1.length s.2.2.2.2.2.1 s.2.1.length s.2.2.2.2.2.2.length come ρ' ∧ ρ' 13 = .ptr (n + 3) 0 0 0 ∧
    H = List.replicate n .dead ++ (stH s.2.2.1 s.2.2.2.1 s.2.2.2.2.1 s.2.2.2.2.2.1 s.2.2.2.2.2.2 ++ [.row 0 [VI now] 1 true])) (fun s => s.1.length) (ws, ends, st, g1, wall, g2, eall) ⟨hS, hw, he, hE, h13, rfl⟩ ?_
  clear hS hw he hE h13 ρ
  rintro ⟨ws, ends, st, g1, wall, g2, eall⟩ ρ H ⟨hS, hw, he, ⟨h0, h1, h2, h3, h9, h10, h11, h12⟩, h13, rfl⟩
  simp only at hS hw he h10 h11
  obtain ⟨hcl, hsl, hwl, hel, hwi, hnow⟩ := Y.bS hS
  have hlen := hc.2
  by_cases q1 : (ends.length : Int) < srv
  · by_cases q2 : (0 : Int) < (ws.length : Int)
    · obtain ⟨k, hk, hS'⟩ := Y.stepS hS q1 (by omega)
      have hpl := (List.getElem?_eq_some_iff.1 hk).1
      have hkN := hwi k (List.mem_of_getElem? hk)
      obtain ⟨x, hx⟩ : ∃ x, cs[k]? = some x := ⟨_, List.getElem?_eq_getElem hkN⟩
      have hb := hc.at hx
      rw [wkC_of hx] at hS'
      have e1 := fun H => viaddr_map (f := cV) (t := .op) (H := H) (size := 3) (k := .i64) hx rfl
      have rds : ∀ v : Int, rdCells false 1 (VI v) 0 = some (VI v) := fun _ => rfl
      have r1 : vrow (List.replicate n .dead ++ [.row 0 (st.map nV) 1 true, .row g1 (wall.map kV) 1 true, .row g2 (eall.map nV) 1 true, .row 0 [VI now] 1 true]) (n + 1) g1 = some (wall.map kV, 1, true) := by rw [vrow_Dk]; simp only [vrow_succ, vrow_zero]
      have eN : ∀ lo K, vcallP 124 [VI rule, .ref (n + 1) g1 0 ws.length wall.length, custsV cs] lo (List.replicate n .dead ++ [.row 0 (st.map nV) 1 true, .row g1 (wall.map kV) 1 true, .row g2 (eall.map nV) 1 true, .row 0 [VI now] 1 true]) K = K (VI (nextP rule cs ws)) (List.replicate n .dead ++ [.row 0 (st.map nV) 1 true, .row g1 (wall.map kV) 1 true, .row g2 (eall.map nV) 1 true, .row 0 [VI now] 1 true]) := fun lo K =>
        TC.flat (impl_next_v rule cs ws hr hwi (by omega) (by omega)) rfl (by simp only [pureL, custsV_pure, ids_pure]; rfl) (fz3 (fz_res rfl) (hw.fz (fun _ => rfl) r1) (fz_res (custsV_pure _))) rfl lo K
      have hap : (wall.map kV)[nextP rule cs ws]? = some (VI k) := by rw [List.getElem?_map, hw.get hk]; rfl
      have hge : (0 : Int) ≤ (nextP rule cs ws : Int) := by omega
      have hpl' : (nextP rule cs ws : Int) < (ws.length : Int) := by omega
      have wp : IntKind.i64.wrap ((nextP rule cs ws : Int) + 1) = ((nextP rule cs ws + 1 : Nat) : Int) := wrapN _ (by omega) (by omega)
      simp only [impl_starts_b2, stH, h0, h1, h2, h3, h9, h10, h11, h12, h13, q1, q2, eN, hap, hge, hpl', rds, wp, List.cons_append, List.nil_append, List.getElem?_cons_zero, VX, Nat.reduceEqDiff, Nat.reduceAdd, vload_pdef, vstore_pdef, viaddr_rdef, vlen_rdef, vfaddr_pdef, vchk_pdef, visnil_rdef, visnil_nil, visnil_cons, vrow_zero, vrow_succ, List.set_cons_zero, List.set_cons_succ, elemOf_one, elemOf_two, vresult, vresAll, vres1, vfill, isAny_sc, isAny_tree, isAny_ref, isAny_agg, isAny_clo, List.take_zero, List.take_succ_cons, List.take_nil, List.drop_zero, List.drop_succ_cons, List.drop_nil, List.append_nil, Nat.reduceLeDiff, Nat.le_refl, vsplice, Nat.reduceLT, Int.toNat_natCast, eq_self, ge_iff_le, Bool.and_eq_true, Nat.reduceSub, vrow_D0, vrow_Dk, set_D0, set_Dk, len_D, List.append_assoc, Nat.le_add_right, take_Dk, take_D0, List.length_replicate]
      refine vcall_raw rfl ((slices_Delete_int_v (lo := lo) r1 (by omega) hpl hw.le rfl).mono ?_)
      rintro r H' ⟨wall1, rfl, rfl, hl1, ht1⟩
      have hk0 : (0 : Int) ≤ (k : Int) := by omega
      have hkN' : (k : Int) < (cs.length : Int) := by omega
      have wn : IntKind.i64.wrap (now + x.w) = now + x.w := wrap64 (by omega) (by omega)
      have eO : ∀ (B : VHeap) (v : Int), vstore lo 1 (.ptr n 0 k 0) (VI v) (List.replicate n .dead ++ (.row 0 (st.map nV) 1 true :: B)) = some (List.replicate n .dead ++ (.row 0 ((st.set k v).map nV) 1 true :: B)) := fun B v => by
        have := vstore_map (f := nV) (xs := st) (x := v) (e := 1) (g := 0) (j := k) (b := n) (lo := lo) (H := List.replicate n .dead ++ (.row 0 (st.map nV) 1 true :: B)) (by rw [vrow_D0, vrow_zero]) (by omega) hlo rfl rfl
        rw [set_D0] at this
        exact this
      obtain ⟨g2', eall', eQ, hk2, htk2⟩ := vappend_part (f := nV) (all := eall) (x := now + x.w) (lo := lo) (b := n + 2) (g := g2) (k := ends.length) (e := 1) (bytes := 8) (H := List.replicate n .dead ++ [.row 0 ((st.set k now).map nV) 1 true, .row g1 (wall1.map kV) 1 true, .row g2 (eall.map nV) 1 true, .row 0 [VI now] 1 true])
        (by rw [vrow_Dk]; simp only [vrow_succ, vrow_zero]) he.le (by omega) (by decide) (by decide) (by omega)
      simp only [set_Dk, List.set_cons_succ, List.set_cons_zero] at eQ
      have eL : ∀ (v : Int) H, vlit false [.int .i64 0] 1 [(0, VI v)] H = some (.tree [VI v] (.cl 1), H) := fun v H => vlit_one rfl rfl rfl
      have eS : ∀ (v : Int) H, vsource 1 (.tree [VI v] (.cl 1)) H = some [VI v] := fun v H => vsource_one rfl rfl
      have hwle := hw.le
      have hele := he.le
      have hdl : (ws.eraseIdx (nextP rule cs ws)).length = ws.length - 1 := List.length_eraseIdx_of_lt hpl
      simp only [set_Dk, List.set_cons_succ, List.set_cons_zero, h0, h1, h2, h3, h9, h10, h11, h12, h13, hk0, hkN', e1, rd_cV, rds, wn, eO, eL, eS, eQ, cV, List.getElem?_cons_zero, VX, Nat.reduceEqDiff, Nat.reduceAdd, vload_pdef, vstore_pdef, viaddr_rdef, vlen_rdef, vfaddr_pdef, vchk_pdef, visnil_rdef, visnil_nil, visnil_cons, vrow_zero, vrow_succ, List.set_cons_zero, List.set_cons_succ, elemOf_one, elemOf_two, vresult, vresAll, vres1, vfill, isAny_sc, isAny_tree, isAny_ref, isAny_agg, isAny_clo, List.take_zero, List.take_succ_cons, List.take_nil, List.drop_zero, List.drop_succ_cons, List.drop_nil, List.append_nil, Nat.reduceLeDiff, Nat.le_refl, vsplice, Nat.reduceLT, Int.toNat_natCast, eq_self, ge_iff_le, Bool.and_eq_true, Nat.reduceSub, vrow_D0, vrow_Dk, set_D0, set_Dk, len_D, List.append_assoc, Nat.le_add_right, take_Dk, take_D0, List.length_replicate]
      refine ⟨(ws.eraseIdx (nextP rule cs ws), ends ++ [now + x.w], st.set k now, g1, wall1, g2', eall'), by simp only; omega, hS', ⟨by simp only; omega, by simp only; rw [hdl, ht1, hw.tk]⟩, ⟨by simp; omega, by simp only [List.length_append, List.length_cons, List.length_nil, Nat.zero_add]; rw [htk2, he.tk]⟩, ⟨?_, ?_, ?_, ?_, ?_, ?_, ?_, ?_⟩, ?_⟩
      all_goals first | (simp only [h0, h1, h2, h3, h9, h10, h11, h12, hdl, hl1, List.length_append, List.length_cons, List.length_nil, Nat.zero_add, VX, Nat.reduceEqDiff, Nat.reduceAdd]; done) | skip
    · obtain ⟨m', hm, hI⟩ := Y.toI hS fun h => by omega
      simp only [impl_starts_b2, stH, h0, h1, h2, h3, h9, h10, h11, h12, h13, q1, q2, List.cons_append, List.nil_append, VX, Nat.reduceEqDiff, Nat.reduceAdd, vload_pdef, vstore_pdef, viaddr_rdef, vlen_rdef, vfaddr_pdef, vchk_pdef, visnil_rdef, visnil_nil, visnil_cons, vrow_zero, vrow_succ, List.set_cons_zero, List.set_cons_succ, elemOf_one, elemOf_two, vresult, vresAll, vres1, vfill, isAny_sc, isAny_tree, isAny_ref, isAny_agg, isAny_clo, List.take_zero, List.take_succ_cons, List.take_nil, List.drop_zero, List.drop_succ_cons, List.drop_nil, List.append_nil, Nat.reduceLeDiff, Nat.le_refl, vsplice, Nat.reduceLT, Int.toNat_natCast, eq_self, ge_iff_le, Bool.and_eq_true, Nat.reduceSub, vrow_D0, vrow_Dk, set_D0, set_Dk, len_D, List.append_assoc, Nat.le_add_right, take_Dk, take_D0, List.length_replicate]
      refine ⟨ws, ends, st, g1, wall, g2, eall, m', hm, hI, hw, he, ⟨?_, ?_, ?_, ?_, ?_, ?_, ?_, ?_⟩, ?_⟩
      all_goals first | (simp only [h0, h1, h2, h3, h9, h10, h11, h12, VX, Nat.reduceEqDiff, Nat.reduceAdd]; done) | skip
  · obtain ⟨m', hm, hI⟩ := Y.toI hS fun h => q1 h.1
    simp only [impl_starts_b2, stH, h0, h1, h2, h3, h9, h10, h11, h12, h13, q1, List.cons_append, List.nil_append, VX, Nat.reduceEqDiff, Nat.reduceAdd, vload_pdef, vstore_pdef, viaddr_rdef, vlen_rdef, vfaddr_pdef, vchk_pdef, visnil_rdef, visnil_nil, visnil_cons, vrow_zero, vrow_succ, List.set_cons_zero, List.set_cons_succ, elemOf_one, elemOf_two, vresult, vresAll, vres1, vfill, isAny_sc, isAny_tree, isAny_ref, isAny_agg, isAny_clo, List.take_zero, List.take_succ_cons, List.take_nil, List.drop_zero, List.drop_succ_cons, List.drop_nil, List.append_nil, Nat.reduceLeDiff, Nat.le_refl, vsplice, Nat.reduceLT, Int.toNat_natCast, eq_self, ge_iff_le, Bool.and_eq_true, Nat.reduceSub, vrow_D0, vrow_Dk, set_D0, set_Dk, len_D, List.append_assoc, Nat.le_add_right, take_Dk, take_D0, List.length_replicate]
    refine ⟨ws, ends, st, g1, wall, g2, eall, m', hm, hI, hw, he, ⟨?_, ?_, ?_, ?_, ?_, ?_, ?_, ?_⟩, ?_⟩
    all_goals first | (simp only [h0, h1, h2, h3, h9, h10, h11, h12, VX, Nat.reduceEqDiff, Nat.reduceAdd]; done) | skip
def impl_starts_rest : PCode := (.seq (.seq (.reg [⟨(some 42), (.mv (.tmp 11)), none, false, []⟩, ⟨(some 43), (.len (.tmp 42)), none, false, []⟩, ⟨(some 44), (.mv (.const (.int .i64 0))), none, false, []⟩]) (.block 2 (.loop impl_starts_b0))) (.seq (.reg [⟨(some 62), (.mv (.tmp 11)), none, false, []⟩, ⟨(some 63), (.mkfn 123 [(.tmp 13)]), none, false, []⟩, ⟨(some 64), (.call 122 [(.tmp 62), (.tmp 63)]), none, false, []⟩, ⟨(some 11), (.mv (.tmp 64)), none, false, []⟩]) (.seq (.block 4 (.loop impl_starts_b1)) (.block 6 (.loop impl_starts_b2)))))
theorem impl_starts_b3_is : impl_starts_b3 = (.seq (.seq (.reg [⟨(some 24), (.mv (.tmp 12)), none, false, []⟩, ⟨(some 25), (.mv (.tmp 3)), none, false, []⟩, ⟨(some 26), (.len (.tmp 25)), none, false, []⟩, ⟨(some 27), (.bin .lss (.tmp 24) (.tmp 26)), none, false, []⟩, ⟨(some 28), (.mv (.tmp 27)), none, false, []⟩, ⟨(some 29), (.mv (.tmp 10)), (some (28, false)), false, []⟩, ⟨(some 30), (.len (.tmp 29)), (some (28, false)), false, []⟩, ⟨(some 31), (.bin .gtr (.tmp 30) (.const (.int .i64 0))), (some (28, false)), false, []⟩, ⟨(some 32), (.pick (.tmp 28) (.const (.bool true)) (.tmp 31)), none, false, []⟩]) (.cond (.tmp 32) .skip (.exit 0))) (.block 1 (.seq (.reg [⟨(some 13), (.new [(.int .i64 0)]), none, false, []⟩, ⟨none, (.store 1 (.tmp 13) (.const (.int .i64 (-1)))), none, false, []⟩]) (.seq (.seq (.reg [⟨(some 33), (.mv (.tmp 12)), none, false, []⟩, ⟨(some 34), (.mv (.tmp 3)), none, false, []⟩, ⟨(some 35), (.len (.tmp 34)), none, false, []⟩, ⟨(some 36), (.bin .lss (.tmp 33) (.tmp 35)), none, false, []⟩]) (.cond (.tmp 36) (.reg [⟨(some 37), (.mv (.tmp 3)), none, false, []⟩, ⟨(some 38), (.mv (.tmp 12)), none, false, []⟩, ⟨(some 39), (.iaddr 3 (.tmp 37) (.tmp 38)), none, false, []⟩, ⟨(some 40), (.faddr 0 (.tmp 39)), none, false, []⟩, ⟨(some 41), (.load false 1 (.tmp 40)), none, false, []⟩, ⟨none, (.store 1 (.tmp 13) (.tmp 41)), none, false, []⟩]) .skip)) impl_starts_rest)))) := rfl
theorem take_stH {n g1 g2 : Nat} {st eall : List Int} {wall : List Nat} {b : VBlk} : (List.replicate n VBlk.dead ++ (stH st g1 wall g2 eall ++ [b])).take (n + 3) = List.replicate n VBlk.dead ++ stH st g1 wall g2 eall := by
  rw [take_Dk]
  rfl
theorem below_stH {n g1 g2 : Nat} {st eall : List Int} {wall : List Nat} : rowsBelow (n + 3) (List.replicate n VBlk.dead ++ stH st g1 wall g2 eall) = true := by
  rw [below_D]
  unfold stH
  rw [below_row (below_pureL _ (nums_pureL _)), below_row (below_pureL _ (pure_map (f := kV) fun _ => rfl)), below_row (below_pureL _ (nums_pureL _)), below_nil]
theorem StE.scrub {rule srv room : Int} {cs : List Cust} {n g1 k1 c1 g2 k2 c2 come : Nat} {ρ : VEnv} (h : StE rule srv room cs n g1 k1 c1 g2 k2 c2 come ρ) : StE rule srv room cs n g1 k1 c1 g2 k2 c2 come (scrubE (n + 3) ρ) := by
  obtain ⟨h0, h1, h2, h3, h9, h10, h11, h12⟩ := h
  refine ⟨?_, ?_, ?_, ?_, ?_, ?_, ?_, ?_⟩
  · rw [scrubE_app, h0]; rfl
  · rw [scrubE_app, h1]; rfl
  · rw [scrubE_app, h2]; rfl
  · rw [scrubE_app, h3, scrub_of (custsV_pure _)]
  · rw [scrubE_app, h9, scrub_ref (by omega)]
  · rw [scrubE_app, h10, scrub_ref (by omega)]
  · rw [scrubE_app, h11, scrub_ref (by omega)]
  · rw [scrubE_app, h12]; rfl
set_option maxHeartbeats 2000000 in
theorem impl_starts_w {rule srv room : Int} {cs : List Cust} (Y : StSys rule srv room cs) (hc : custsOk cs) (hr : 0 ≤ rule ∧ rule ≤ 3) (hsrv : srv ≤ 8) :
    FC 81 [VI rule, VI srv, VI room, custsV cs] fun n r L => ∃ m come ws ends st, Y.I m come ws ends st ∧ ¬ come < cs.length ∧ ¬ 0 < ws.length ∧ r = .ref n 0 0 cs.length cs.length ∧ L[0]? = some (.row 0 (st.map nV) 1 true) := by
  refine FC.walk ⟨true, false⟩ impl_starts_t (Nat.le_of_ble_eq_true rfl) fun n => ?_
  have hlen := hc.2
  have eL : ∀ H, vlit false [.int .i64 0] 1 [(0, VI (-1))] H = some (.tree [VI (-1)] (.cl 1), H) := fun H => vlit_one rfl rfl rfl
  have e0 := fun H => vlit_nil (H := H) (lr := false) (z := [.int .i64 0]) rfl
  simp only [impl_starts, impl_starts_c, eL, VX, Nat.reduceEqDiff, Nat.reduceAdd, vrow_D0, vrow_Dk, set_D0, set_Dk, len_D, List.append_assoc, Nat.le_add_right, take_Dk, take_D0, List.length_replicate]
  refine FC.call (slices_Repeat_i64_v (-1) cs.length (by omega)) rfl (fz2 (fz_cl rfl) (fz_res rfl)) ?_
  rintro r L ⟨rfl, rfl⟩
  rw [List.length_replicate]
  simp only [e0, List.cons_append, List.nil_append, List.length_cons, List.length_nil, VX, Nat.reduceEqDiff, Nat.reduceAdd, vrow_D0, vrow_Dk, set_D0, set_Dk, len_D, List.append_assoc, Nat.le_add_right, take_Dk, take_D0, List.length_replicate]
  obtain ⟨m0, hI0⟩ := Y.start
  refine VW_loopT (fun (m : Nat) ρ H => ∃ come ws ends st g1 wall g2 eall, Y.I m come ws ends st ∧ Part wall ws ∧ Part eall ends ∧ StE rule srv room cs n g1 ws.length wall.length g2 ends.length eall.length come ρ ∧ H = List.replicate n VBlk.dead ++ stH st g1 wall g2 eall) (fun m => m) m0 ?_ ?_
  · refine ⟨0, [], [], List.replicate cs.length (-1), 0, [], 0, [], hI0, ⟨Nat.le_refl _, rfl⟩, ⟨Nat.le_refl _, rfl⟩, ⟨?_, ?_, ?_, ?_, ?_, ?_, ?_, ?_⟩, rfl⟩
    all_goals simp only [VX, Nat.reduceEqDiff, Nat.reduceAdd]
    all_goals rfl
  rintro m ρ H ⟨come, ws, ends, st, g1, wall, g2, eall, hI, hw, he, ⟨h0, h1, h2, h3, h9, h10, h11, h12⟩, rfl⟩
  obtain ⟨hcl, hsl, hwl, hel⟩ := Y.bI hI
  have r2 : ∀ b, vrow (List.replicate n .dead ++ (stH st g1 wall g2 eall ++ [VBlk.row 0 [VI b] 1 true])) (n + 2) g2 = some (eall.map nV, 1, true) := fun b => by rw [vrow_Dk]; simp only [stH, List.cons_append, vrow_succ, vrow_zero]
  have r3 : ∀ b, vrow (List.replicate n .dead ++ (stH st g1 wall g2 eall ++ [VBlk.row 0 [VI b] 1 true])) (n + 3) 0 = some ([VI b], 1, true) := fun b => by rw [vrow_Dk]; simp only [stH, List.cons_append, List.nil_append, vrow_succ, vrow_zero]
  -- what follows once the tick is looked for
  have rest : ∀ ρ', StE rule srv room cs n g1 ws.length wall.length g2 ends.length eall.length come ρ' → ρ' 13 = .ptr (n + 3) 0 0 0 → (come < cs.length ∨ 0 < ws.length) →
      VW ⟨true, false⟩ n impl_starts_rest
        (fun e ρ' H => e = .normal ∧ ∃ m', m' < m ∧ ∃ come ws ends st g1 wall g2 eall now, Y.I m' come ws ends st ∧ Part wall ws ∧ Part eall ends ∧ StE rule srv room cs n g1 ws.length wall.length g2 ends.length eall.length come ρ' ∧ H = List.replicate n VBlk.dead ++ (stH st g1 wall g2 eall ++ [VBlk.row 0 [VI now] 1 true])) ρ' (List.replicate n .dead ++ (stH st g1 wall g2 eall ++ [VBlk.row 0 [VI (now0 cs come)] 1 true])) := by
    clear h0 h1 h2 h3 h9 h10 h11 h12
    intro ρ' hE h13 hg
    have hA := Y.toA hI hg
    obtain ⟨h0, h1, h2, h3, h9, h10, h11, h12⟩ := hE
    have el := vlen_ref (o := 0) (n := ends.length) (c := eall.length) (r2 (now0 cs come))
    simp only [impl_starts_rest, h11, el, VX, Nat.reduceEqDiff, Nat.reduceAdd]
    refine VW_use (impl_starts_b0_w (ws := ws) (wall := wall) (st := st) (rule := rule) (srv := srv) (room := room) (cs := cs) (come := come) (Nat.le_refl n) ⟨?_, ?_, ?_, ?_, ?_, ?_, ?_, ?_⟩ ?_ ?_ ?_ ?_ he hel) ?_
    all_goals first | (simp only [h0, h1, h2, h3, h9, h10, h11, h12, h13, VX, Nat.reduceEqDiff, Nat.reduceAdd]; done) | skip
    clear h0 h1 h2 h3 h9 h10 h11 h12 h13
    rintro ρ1 H1 ⟨⟨⟨h0, h1, h2, h3, h9, h10, h11, h12⟩, h13⟩, rfl⟩
    change Y.A m (ends.foldl (mnF (decide (0 < ws.length))) (now0 cs come)) come ws (ends.filter (gtB (ends.foldl (mnF (decide (0 < ws.length))) (now0 cs come)))) st at hA
    generalize ends.foldl (mnF (decide (0 < ws.length))) (now0 cs come) = now at *
    simp only [h11, h13, VX, Nat.reduceEqDiff, Nat.reduceAdd]
    refine vcall_raw rfl ((slices_DeleteFunc_i64_v (p := fun x => decide (x ≤ now)) (r2 now) (r3 now) (by omega) (by omega) he.le rfl (by omega) (fun x => impl_starts_1_v x now) rfl).mono ?_)
    rintro r H' ⟨eall1, rfl, rfl, hl1, ht1⟩
    have hfe : (ends.filter fun x => !decide (x ≤ now)) = ends.filter (gtB now) := by
      refine List.filter_congr fun x _ => ?_
      rw [Bool.eq_iff_iff]
      simp [gtB]
    rw [he.tk, hfe] at ht1
    rw [he.tk, hfe]
    have he1 : Part eall1 (ends.filter (gtB now)) := ⟨by
      have := List.length_filter_le (gtB now) ends
      have := he.le
      omega, ht1⟩
    have hH : (List.replicate n VBlk.dead ++ (stH st g1 wall g2 eall ++ [VBlk.row 0 [VI now] 1 true])).set (n + 2) (.row g2 (eall1.map nV) 1 true) = List.replicate n VBlk.dead ++ (stH st g1 wall g2 eall1 ++ [.row 0 [VI now] 1 true]) := by
      rw [set_Dk]
      rfl
    rw [hH]
    simp only [VX, Nat.reduceEqDiff, Nat.reduceAdd]
    refine VW_use (impl_starts_b1_w Y hc (g1 := g1) (wall := wall) (eall := eall1) (Nat.le_refl n) hA ⟨?_, ?_, ?_, ?_, ?_, ?_, ?_, ?_⟩ ?_ hw) ?_
    all_goals first | (simp only [h0, h1, h2, h3, h9, h10, h11, h12, h13, hl1, VX, Nat.reduceEqDiff, Nat.reduceAdd]; done) | skip
    clear h0 h1 h2 h3 h9 h10 h11 h12 h13
    rintro ρ2 H2 ⟨come2, ws2, g12, wall2, hS, hw2, hE2, h13, rfl⟩
    simp only [VX, Nat.reduceEqDiff, Nat.reduceAdd]
    refine VW_use (impl_starts_b2_w Y hc hr (Nat.le_refl n) hS hE2 h13 hw2 he1 hsrv) ?_
    rintro ρ3 H3 ⟨ws3, ends3, st3, g13, wall3, g23, eall3, m', hm, hI3, hw3, he3, hE3, _, rfl⟩
    exact ⟨rfl, m', hm, come2, ws3, ends3, st3, g13, wall3, g23, eall3, now, hI3, hw3, he3, hE3, rfl⟩
  have fin : ∀ ρ', StE rule srv room cs n g1 ws.length wall.length g2 ends.length eall.length come ρ' → ρ' 13 = .ptr (n + 3) 0 0 0 → (come < cs.length ∨ 0 < ws.length) → ∀ (Q : VQ), (∀ ρ' H, (∃ m', m' < m ∧ ∃ come ws ends st g1 wall g2 eall now, Y.I m' come ws ends st ∧ Part wall ws ∧ Part eall ends ∧ StE rule srv room cs n g1 ws.length wall.length g2 ends.length eall.length come ρ' ∧ H = List.replicate n VBlk.dead ++ (stH st g1 wall g2 eall ++ [VBlk.row 0 [VI now] 1 true])) → Q .normal ρ' H) →
      VW ⟨true, false⟩ n impl_starts_rest Q ρ' (List.replicate n .dead ++ (stH st g1 wall g2 eall ++ [VBlk.row 0 [VI (now0 cs come)] 1 true])) := fun ρ' hE h13 hg Q hQ =>
    VW_mono (fun x ρ H h => by obtain ⟨rfl, h⟩ := h; exact hQ ρ H h) (rest ρ' hE h13 hg)
  have hlo3 : n ≤ n + 3 := by omega
  by_cases hin : (come : Int) < (cs.length : Int)
  · have hcl' : come < cs.length := by omega
    obtain ⟨x, hx⟩ : ∃ x, cs[come]? = some x := ⟨_, List.getElem?_eq_getElem hcl'⟩
    have e1 := fun H => viaddr_map (f := cV) (t := .op) (H := H) (size := 3) (k := .i64) hx rfl
    have hn0 : now0 cs come = x.t := by unfold now0; rw [if_pos hcl', atC_of hx]
    simp only [impl_starts_b3_is, stH, h0, h1, h2, h3, h9, h10, h11, h12, hin, e1, rd_cV, cV, hlo3, List.cons_append, List.nil_append, List.length_cons, List.length_nil, List.getElem?_cons_zero, VX, Nat.reduceEqDiff, Nat.reduceAdd, vload_pdef, vstore_pdef, viaddr_rdef, vlen_rdef, vfaddr_pdef, vchk_pdef, visnil_rdef, visnil_nil, visnil_cons, vrow_zero, vrow_succ, List.set_cons_zero, List.set_cons_succ, elemOf_one, elemOf_two, vresult, vresAll, vres1, vfill, isAny_sc, isAny_tree, isAny_ref, isAny_agg, isAny_clo, List.take_zero, List.take_succ_cons, List.take_nil, List.drop_zero, List.drop_succ_cons, List.drop_nil, List.append_nil, Nat.reduceLeDiff, Nat.le_refl, vsplice, Nat.reduceLT, Int.toNat_natCast, eq_self, ge_iff_le, Bool.and_eq_true, Nat.reduceSub, vrow_D0, vrow_Dk, set_D0, set_Dk, len_D, List.append_assoc, Nat.le_add_right, take_Dk, take_D0, List.length_replicate]
    have fin' := fin
    rw [hn0] at fin'
    refine fin' _ ⟨?_, ?_, ?_, ?_, ?_, ?_, ?_, ?_⟩ ?_ (.inl hcl') _ ?_
    all_goals first | (simp only [h0, h1, h2, h3, h9, h10, h11, h12, VX, Nat.reduceEqDiff, Nat.reduceAdd]; done) | skip
    rintro ρ' H ⟨m', hm, come', ws', ends', st', g1', wall', g2', eall', now', hI', hw', he', hE', rfl⟩
    simp only [VX, Nat.reduceEqDiff, Nat.reduceAdd]
    exact ⟨m', hm, by rw [take_stH]; exact below_stH, come', ws', ends', st', g1', wall', g2', eall', hI', hw', he', hE'.scrub, take_stH⟩
  · by_cases hws : (0 : Int) < (ws.length : Int)
    · have hn0 : now0 cs come = -1 := by unfold now0; rw [if_neg (by omega)]
      simp only [impl_starts_b3_is, stH, h0, h1, h2, h3, h9, h10, h11, h12, hin, hws, hlo3, List.cons_append, List.nil_append, List.length_cons, List.length_nil, List.getElem?_cons_zero, VX, Nat.reduceEqDiff, Nat.reduceAdd, vload_pdef, vstore_pdef, viaddr_rdef, vlen_rdef, vfaddr_pdef, vchk_pdef, visnil_rdef, visnil_nil, visnil_cons, vrow_zero, vrow_succ, List.set_cons_zero, List.set_cons_succ, elemOf_one, elemOf_two, vresult, vresAll, vres1, vfill, isAny_sc, isAny_tree, isAny_ref, isAny_agg, isAny_clo, List.take_zero, List.take_succ_cons, List.take_nil, List.drop_zero, List.drop_succ_cons, List.drop_nil, List.append_nil, Nat.reduceLeDiff, Nat.le_refl, vsplice, Nat.reduceLT, Int.toNat_natCast, eq_self, ge_iff_le, Bool.and_eq_true, Nat.reduceSub, vrow_D0, vrow_Dk, set_D0, set_Dk, len_D, List.append_assoc, Nat.le_add_right, take_Dk, take_D0, List.length_replicate]
      have fin' := fin
      rw [hn0] at fin'
      refine fin' _ ⟨?_, ?_, ?_, ?_, ?_, ?_, ?_, ?_⟩ ?_ (.inr (by omega)) _ ?_
      all_goals first | (simp only [h0, h1, h2, h3, h9, h10, h11, h12, VX, Nat.reduceEqDiff, Nat.reduceAdd]; done) | skip
      rintro ρ' H ⟨m', hm, come', ws', ends', st', g1', wall', g2', eall', now', hI', hw', he', hE', rfl⟩
      simp only [VX, Nat.reduceEqDiff, Nat.reduceAdd]
      exact ⟨m', hm, by rw [take_stH]; exact below_stH, come', ws', ends', st', g1', wall', g2', eall', hI', hw', he', hE'.scrub, take_stH⟩
    · simp only [impl_starts_b3_is, stH, h0, h1, h2, h3, h9, h10, h11, h12, hin, hws, List.cons_append, List.nil_append, VX, Nat.reduceEqDiff, Nat.reduceAdd, vload_pdef, vstore_pdef, viaddr_rdef, vlen_rdef, vfaddr_pdef, vchk_pdef, visnil_rdef, visnil_nil, visnil_cons, vrow_zero, vrow_succ, List.set_cons_zero, List.set_cons_succ, elemOf_one, elemOf_two, vresult, vresAll, vres1, vfill, isAny_sc, isAny_tree, isAny_ref, isAny_agg, isAny_clo, List.take_zero, List.take_succ_cons, List.take_nil, List.drop_zero, List.drop_succ_cons, List.drop_nil, List.append_nil, Nat.reduceLeDiff, Nat.le_refl, vsplice, Nat.reduceLT, Int.toNat_natCast, eq_self, ge_iff_le, Bool.and_eq_true, Nat.reduceSub, vrow_D0, vrow_Dk, set_D0, set_Dk, len_D, List.append_assoc, Nat.le_add_right, take_Dk, take_D0, List.length_replicate]
      refine ⟨_, rfl, by simp [ownV], ?_, m, come, ws, ends, st, hI, by omega, by omega, rfl⟩
      simp only [rowsOwn, List.all_cons, List.all_nil, Bool.and_true, Bool.and_eq_true]
      exact ⟨ownL_map (f := nV) (fun _ => rfl) _, ownL_map (f := kV) (fun _ => rfl) _, ownL_map (f := nV) (fun _ => rfl) _⟩
end Go.PM

/- Who starts when: with room for all; the reference, walked. -/
namespace Go.PM
theorem fz4 {H : VHeap} {v v' u u' w w' z z' : VV} (h : fz depth H v = some v') (hu : fz depth H u = some u') (hw : fz depth H w = some w') (hz : fz depth H z = some z') : [v, u, w, z].mapM (fz depth H) = some [v', u', w', z'] := by rw [List.mapM_cons, h, fz3 hu hw hz]; rfl
theorem filt_len {p : Nat → Bool} {a b : Nat} (h : a ≤ b) : ((List.range b).filter p).length ≤ ((List.range a).filter p).length + (b - a) := by
  obtain ⟨d, rfl⟩ : ∃ d, b = a + d := ⟨b - a, by omega⟩
  rw [List.range_add, List.filter_append, List.length_append]
  have := List.length_filter_le p ((List.range d).map fun x => a + x)
  simp only [List.length_map, List.length_range] at this
  omega
structure StA (rule srv : Int) (cs : List Cust) (m : Nat) (now : Int) (come : Nat) (ws : List Nat) (ends st : List Int) (t : Int) (come0 : Nat) (ws0 : List Nat) (ends0 : List Int) : Prop where
  imp : ImpI rule srv cs st t come0 ws0 ends0
  gd : come0 < cs.length ∨ 0 < ws0.length
  ms : m = 2 * (cs.length - come0) + ws0.length
  nw : now = nowN cs come0 ws0 ends0
  c0 : come0 ≤ come
  c1 : come ≤ cs.length
  eq : ∀ i, come0 ≤ i → i < come → atC cs i = now
  wsq : ws = (List.range come).filter (below0 st)
  enq : ends = ends0.filter (gtB now)
theorem StA.bnd {rule srv : Int} {cs : List Cust} {m : Nat} {now : Int} {come : Nat} {ws : List Nat} {ends st : List Int} {t : Int} {come0 : Nat} {ws0 : List Nat} {ends0 : List Int} (h : StA rule srv cs m now come ws ends st t come0 ws0 ends0) : ws.length + ends.length ≤ come ∧ ws.length ≤ ws0.length + (come - come0) ∧ ends.length ≤ ends0.length := by
  have h1 := filt_len (p := below0 st) h.c0
  have h2 := wt_come (st := st) h.imp.cle h.imp.past fun i h3 h4 => (h.imp.fut i h3 h4).1
  rw [← h2, ← h.imp.wsq, ← h.wsq] at h1
  have h3 := List.length_filter_le (gtB now) ends0
  rw [← h.enq] at h3
  have h4 := h.imp.room
  have h5 := h.c0
  omega
structure StS (rule srv : Int) (cs : List Cust) (m : Nat) (now : Int) (come : Nat) (ws : List Nat) (ends st : List Int) (st0 : List Int) (w2 e2 : Nat) : Prop where
  ph : Ph4 rule srv cs st0 now come (w2 + e2) st ws ends
  c1 : come ≤ cs.length
  tc : w2 + e2 ≤ come
  run : runT rule srv cs now (100000 - now).toNat st0 = stL rule srv cs
  wle : ws.length ≤ w2
  ms : 2 * (cs.length - come) + w2 < m ∨ (2 * (cs.length - come) + w2 = m ∧ 0 < w2 ∧ (e2 : Int) < srv)
def stSys {rule srv room : Int} {cs : List Cust} (hc : custsOk cs) (hr : 0 ≤ rule ∧ rule ≤ 3) (hs : 1 ≤ srv) (hroom : 24 ≤ room) : StSys rule srv room cs where
  I m come ws ends st := m = 2 * (cs.length - come) + ws.length ∧ ∃ t, ImpI rule srv cs st t come ws ends
  A m now come ws ends st := ∃ t come0 ws0 ends0, StA rule srv cs m now come ws ends st t come0 ws0 ends0
  S m now come ws ends st := ∃ st0 w2 e2, StS rule srv cs m now come ws ends st st0 w2 e2
  bI := by
    rintro m come ws ends st ⟨_, t, h⟩
    have := hc.2
    have := h.room
    have := h.cle
    exact ⟨h.cle, h.len, by omega, by omega⟩
  bA := by
    rintro m now come ws ends st ⟨t, come0, ws0, ends0, h⟩
    have := hc.2
    have := h.bnd
    have := h.c1
    exact ⟨h.c1, h.imp.len, by omega, by omega⟩
  bS := by
    rintro m now come ws ends st ⟨st0, w2, e2, h⟩
    have := hc.2
    have := h.tc
    have := h.c1
    have := h.ph.tot
    have h1 := h.ph.way.le hc
    have h2 := h.ph.way.tm
    refine ⟨h.c1, h.ph.way.len, by omega, by omega, fun i hi => ?_, h2.1, by omega⟩
    rw [h.ph.wsq] at hi
    exact (wt_mem.1 hi).1
  start := ⟨_, rfl, -1, ImpI.start hc hs⟩
  toA := by
    rintro m come ws ends st ⟨hm, t, h⟩ hg
    refine ⟨t, come, ws, ends, h, hg, hm, rfl, Nat.le_refl _, h.cle, fun i h1 h2 => by omega, ?_, rfl⟩
    rw [← wt_come (st := st) h.cle h.past fun i h3 h4 => (h.fut i h3 h4).1]
    exact h.wsq
  stepA := by
    rintro m now come ws ends st ⟨t, come0, ws0, ends0, h⟩ hlt hat
    have h24 := hc.2
    have hb := h.bnd
    rw [if_pos (by omega)]
    refine ⟨t, come0, ws0, ends0, h.imp, h.gd, h.ms, h.nw, by have := h.c0; omega, by omega, fun i h1 h2 => ?_, ?_, h.enq⟩
    · rcases Nat.lt_or_ge i come with h3 | h3
      · exact h.eq i h1 h3
      · have : i = come := by omega
        subst this
        exact hat
    · rw [List.range_succ, List.filter_append, ← h.wsq]
      have := (h.imp.fut come h.c0 hlt).2
      simp [below0, this]
  toS := by
    rintro m now come ws ends st ⟨t, come0, ws0, ends0, h⟩ hng
    have hb := h.bnd
    obtain ⟨⟨t1, t2⟩, t3, t4, t5⟩ := h.imp.time hc hs h.gd
    rw [← h.nw] at t1 t2 t3 t4 t5
    have later : ∀ i, come ≤ i → i < cs.length → now < atC cs i := fun i h1 h2 => by
      have h3 := hc.sorted h1 h2
      have h4 := t3 come h.c0 (by omega)
      have h5 : atC cs come ≠ now := fun he => hng ⟨by omega, he⟩
      omega
    have hp := h.imp.ph4 hc t1 t2 h.c0 h.c1 h.eq later
    rw [← h.wsq, ← h.enq] at hp
    refine ⟨st, ws.length, ends.length, hp, h.c1, hb.1, t5, Nat.le_refl _, ?_⟩
    have hms := h.ms
    have hc0 := h.c0
    have hc1 := h.c1
    by_cases he : come0 = come
    · subst he
      rcases t4 with ⟨h1, h2⟩ | ⟨h1, h2⟩
      · exact absurd ⟨h1, h2⟩ hng
      · right
        have hw : ws = ws0 := by
          rw [h.wsq, h.imp.wsq, wt_come (st := st) h.imp.cle h.imp.past fun i h3 h4 => (h.imp.fut i h3 h4).1]
        have hlt : (ends0.filter (gtB now)).length < ends0.length := by
          rcases Nat.lt_or_ge (ends0.filter (gtB now)).length ends0.length with h3 | h3
          · exact h3
          · have h4 := List.length_filter_le (gtB now) ends0
            have h5 := (List.length_filter_eq_length_iff (p := gtB now) (l := ends0)).1 (by omega) now h2
            simp [gtB] at h5
        have := h.imp.es
        rw [hw, h.enq]
        exact ⟨by omega, h1, by omega⟩
    · left
      omega
  stepS := by
    rintro m now come ws ends st ⟨st0, w2, e2, h⟩ hb hne
    obtain ⟨k, h1, _, h2, _, h3⟩ := h.ph.step hc hr hb hne
    refine ⟨k, h1, st0, w2, e2, h3, h.c1, h.tc, h.run, ?_, h.ms⟩
    rw [List.length_eraseIdx_of_lt h2]
    have := h.wle
    omega
  toI := by
    rintro m now come ws ends st ⟨st0, w2, e2, h⟩ hng
    have htot := h.ph.tot
    have hwle := h.wle
    refine ⟨2 * (cs.length - come) + ws.length, ?_, rfl, now, h.ph.done hc h.c1 h.tc ?_ h.run⟩
    · rcases h.ms with h1 | ⟨h1, h2, h3⟩
      · omega
      · by_cases hw : 0 < ws.length
        · have : ¬ (ends.length : Int) < srv := fun he => hng ⟨he, hw⟩
          omega
        · omega
    · by_cases hw : 0 < ws.length
      · exact .inl (by have : ¬ (ends.length : Int) < srv := fun he => hng ⟨he, hw⟩; omega)
      · exact .inr (List.eq_nil_of_length_eq_zero (by omega))
theorem stL_len {rule srv : Int} {cs : List Cust} : (stL rule srv cs).length = cs.length := by
  have h1 : ∀ (n : Nat) (t : Int) (st : List Int), (fill rule srv cs t n st).length = st.length := by
    intro n
    induction n with
    | zero => intro t st; rfl
    | succ n ih =>
      intro t st
      rw [fill]
      split
      · split
        · rfl
        · rw [ih, List.length_set]
      · rfl
  have h2 : ∀ (n : Nat) (t : Int) (st : List Int), (runT rule srv cs t n st).length = st.length := by
    intro n
    induction n with
    | zero => intro t st; rfl
    | succ n ih => intro t st; rw [runT, ih, h1]
  unfold stL
  rw [h2, List.length_replicate]
def stR (vals : List Int) (n : Nat) (r : VV) (L : VHeap) : Prop := r = .ref n 0 0 vals.length vals.length ∧ L[0]? = some (.row 0 (vals.map nV) 1 true)
def stR1 (vals : List Int) (n : Nat) (r : VV) (L : VHeap) : Prop := r = .ref n 0 0 vals.length vals.length ∧ L = [.row 0 (vals.map nV) 1 true]
theorem stR1.to {vals : List Int} {n : Nat} {r : VV} {L : VHeap} (h : stR1 vals n r L) : stR vals n r L := ⟨h.1, by rw [h.2]; rfl⟩
set_option maxHeartbeats 1000000 in
theorem spec_l05Starts_b1_w {rule srv : Int} {cs : List Cust} (hc : custsOk cs) (hr : 0 ≤ rule ∧ rule ≤ 3) {n lo : Nat} {st : List Int} {now : Int} {ρ : VEnv} (hlo : lo ≤ n) (hW : Way cs st now) (h0 : ρ 0 = VI rule) (h1 : ρ 1 = VI srv) (h2 : ρ 2 = custsV cs) (h7 : ρ 7 = .ref n 0 0 cs.length cs.length) (h9 : ρ 9 = VI now) :
    VW ⟨true, false⟩ lo (.block 4 (.loop spec_l05Starts_b1)) (fun e ρ' H => e = .normal ∧ ∃ st', Way cs st' now ∧ full rule srv cs st' now ∧ fill rule srv cs now cs.length st = st' ∧ ρ' 0 = VI rule ∧ ρ' 1 = VI srv ∧ ρ' 2 = custsV cs ∧ ρ' 7 = .ref n 0 0 cs.length cs.length ∧ ρ' 9 = VI now ∧
      H = List.replicate n .dead ++ [.row 0 (st'.map nV) 1 true]) ρ (List.replicate n .dead ++ [.row 0 (st.map nV) 1 true]) := by
  rw [VW_block]
  refine VW_loop (fun (s : List Int) ρ' H => Way cs s now ∧ fill rule srv cs now cs.length s = fill rule srv cs now cs.length st ∧ ρ' 0 = VI rule ∧ ρ' 1 = VI srv ∧ ρ' 2 = custsV cs ∧ ρ' 7 = .ref n 0 0 cs.length cs.length ∧ ρ' 9 = VI now ∧
    H = List.replicate n .dead ++ [.row 0 (s.map nV) 1 true]) (fun s => unst s) st ⟨hW, rfl, h0, h1, h2, h7, h9, rfl⟩ ?_
  clear h0 h1 h2 h7 h9 ρ hW
  rintro s ρ H ⟨hW, hf, h0, h1, h2, h7, h9, rfl⟩
  have hl := hW.len
  have hle := hW.le hc
  have htm := hW.tm
  have hlen := hc.2
  have r1 : vrow (List.replicate n .dead ++ [.row 0 (s.map nV) 1 true]) n 0 = some (s.map nV, 1, true) := by rw [vrow_D0, vrow_zero]
  have fzs : fz depth (List.replicate n .dead ++ [.row 0 (s.map nV) 1 true]) (.ref n 0 0 cs.length cs.length) = some (numsV s) := by
    have := fz_live (f := nV) (xs := s) (c := cs.length) (fun _ => rfl) r1 (by omega)
    rw [hl] at this
    exact this
  have eB : ∀ lo K, vcallP 132 [custsV cs, .ref n 0 0 cs.length cs.length, VI now] lo (List.replicate n .dead ++ [.row 0 (s.map nV) 1 true]) K = K (VI (bz cs s now)) (List.replicate n .dead ++ [.row 0 (s.map nV) 1 true]) := fun lo K =>
    TC.flat (spec_l05Busy_v cs s now hc hl hle.2) rfl (by simp only [pureL, custsV_pure, nums_pure]; rfl) (fz3 (fz_res (custsV_pure _)) fzs (fz_res rfl)) rfl lo K
  have eN : ∀ lo K, vcallP 133 [VI rule, custsV cs, .ref n 0 0 cs.length cs.length, VI now] lo (List.replicate n .dead ++ [.row 0 (s.map nV) 1 true]) K = K (VI (optV (nxt rule cs s now))) (List.replicate n .dead ++ [.row 0 (s.map nV) 1 true]) := fun lo K =>
    TC.flat (spec_l05Next_v rule cs s now hr hc hl) rfl (by simp only [pureL, custsV_pure, nums_pure]; rfl) (fz4 (fz_res rfl) (fz_res (custsV_pure _)) fzs (fz_res rfl)) rfl lo K
  by_cases q1 : (bz cs s now : Int) < srv
  · cases hn : nxt rule cs s now with
    | none =>
      rw [hn] at eN
      have q2 : optV none < 0 := by decide
      have hfull : full rule srv cs s now := .inr hn
      simp only [spec_l05Starts_b1, h0, h1, h2, h7, h9, eB, eN, q1, q2, VX, Nat.reduceEqDiff, Nat.reduceAdd]
      refine ⟨s, hW, hfull, by rw [← hf, fill_full hfull], ?_⟩
      simp only [h0, h1, h2, h7, h9, VX, Nat.reduceEqDiff, Nat.reduceAdd]
    | some k =>
      rw [hn] at eN
      obtain ⟨m1, m2, m3⟩ := wt_mem.1 (nxt_mem hn)
      have q2 : ¬ optV (some k) < 0 := by simp only [optV]; omega
      have hk0 : (0 : Int) ≤ optV (some k) := by simp only [optV]; omega
      have hkN : optV (some k) < (cs.length : Int) := by simp only [optV]; omega
      have hkt : (optV (some k)).toNat = k := by simp only [optV]; omega
      have hst := vstore_map (f := nV) (xs := s) (x := now) (e := 1) (g := 0) (j := k) (b := n) (lo := lo) r1 (by omega) hlo rfl rfl
      rw [set_D0] at hst
      have hus := unst_set (t := now) (by omega : k < s.length) m2 htm.1
      simp only [spec_l05Starts_b1, h0, h1, h2, h7, h9, eB, eN, q1, q2, hk0, hkN, hkt, hst, VX, Nat.reduceEqDiff, Nat.reduceAdd, vload_pdef, vstore_pdef, viaddr_rdef, vlen_rdef, vfaddr_pdef, vchk_pdef, visnil_rdef, visnil_nil, visnil_cons, vrow_zero, vrow_succ, List.set_cons_zero, List.set_cons_succ, elemOf_one, elemOf_two, vresult, vresAll, vres1, vfill, isAny_sc, isAny_tree, isAny_ref, isAny_agg, isAny_clo, List.take_zero, List.take_succ_cons, List.take_nil, List.drop_zero, List.drop_succ_cons, List.drop_nil, List.append_nil, Nat.reduceLeDiff, Nat.le_refl, vsplice, Nat.reduceLT, Int.toNat_natCast, eq_self, ge_iff_le, Bool.and_eq_true, Nat.reduceSub, vrow_D0, vrow_Dk, set_D0, set_Dk, len_D, List.append_assoc, Nat.le_add_right, take_Dk, take_D0, List.length_replicate]
      refine ⟨s.set k now, by omega, hW.set m1 m2, by rw [fill_step hl htm.1 q1 hn, hf], ?_⟩
      (repeat' apply And.intro) <;> first | rfl | trivial
  · have hfull : full rule srv cs s now := .inl (by omega)
    simp only [spec_l05Starts_b1, h0, h1, h2, h7, h9, eB, q1, VX, Nat.reduceEqDiff, Nat.reduceAdd]
    refine ⟨s, hW, hfull, by rw [← hf, fill_full hfull], ?_⟩
    simp only [h0, h1, h2, h7, h9, VX, Nat.reduceEqDiff, Nat.reduceAdd]
set_option maxHeartbeats 1000000 in
theorem spec_l05Starts_v {rule srv : Int} {cs : List Cust} (hc : custsOk cs) (hr : 0 ≤ rule ∧ rule ≤ 3) : FC 95 [VI rule, VI srv, custsV cs] (stR1 (stL rule srv cs)) := by
  refine FC.walk ⟨true, false⟩ spec_l05Starts_t (Nat.le_of_ble_eq_true rfl) fun n => ?_
  have hlen := hc.2
  have em := fun H => vmake_map (H := H) (f := nV) (x := 0) (z := [.int .i64 0]) (bytes := 8) (n := cs.length) rfl (by omega) (by omega)
  simp only [spec_l05Starts, spec_l05Starts_c, em, VX, Nat.reduceEqDiff, Nat.reduceAdd, vrow_D0, vrow_Dk, set_D0, set_Dk, len_D, List.append_assoc, Nat.le_add_right, take_Dk, take_D0, List.length_replicate, vload_pdef, vstore_pdef, viaddr_rdef, vlen_rdef, vfaddr_pdef, vchk_pdef, visnil_rdef, visnil_nil, visnil_cons, vrow_zero, vrow_succ, List.set_cons_zero, List.set_cons_succ, elemOf_one, elemOf_two, vresult, vresAll, vres1, vfill, isAny_sc, isAny_tree, isAny_ref, isAny_agg, isAny_clo, List.take_zero, List.take_succ_cons, List.take_nil, List.drop_zero, List.drop_succ_cons, List.drop_nil, List.append_nil, Nat.reduceLeDiff, Nat.le_refl, vsplice, Nat.reduceLT, Int.toNat_natCast, eq_self, ge_iff_le, Bool.and_eq_true, Nat.reduceSub]
  refine VW_loop (fun (i : Nat) ρ H => i ≤ cs.length ∧ ρ 0 = VI rule ∧ ρ 1 = VI srv ∧ ρ 2 = custsV cs ∧ ρ 7 = .ref n 0 0 cs.length cs.length ∧ ρ 15 = VI cs.length ∧ ρ 16 = VI i ∧ H = List.replicate n VBlk.dead ++ [.row 0 ((List.replicate i (-1) ++ List.replicate (cs.length - i) 0).map nV) 1 true]) (fun i => cs.length - i) 0 ⟨Nat.zero_le _, rfl, rfl, rfl, rfl, rfl, rfl, rfl⟩ ?_
  rintro i ρ H ⟨hi, h0, h1, h2, h7, h15, h16, rfl⟩
  by_cases hin : (i : Int) < (cs.length : Int)
  · have wi : IntKind.i64.wrap ((i : Int) + 1) = ((i + 1 : Nat) : Int) := wrapN (i + 1) (by omega) (by omega)
    have hge : (0 : Int) ≤ (i : Int) := by omega
    have hst := vstore_map (f := nV) (xs := List.replicate i (-1) ++ List.replicate (cs.length - i) (0 : Int)) (x := -1) (e := 1) (g := 0) (j := i) (b := n) (lo := n) (H := List.replicate n VBlk.dead ++ [.row 0 ((List.replicate i (-1) ++ List.replicate (cs.length - i) (0 : Int)).map nV) 1 true]) (by rw [vrow_D0, vrow_zero]) (by simp; omega) (Nat.le_refl _) rfl rfl
    have hX : (List.replicate i (-1) ++ List.replicate (cs.length - i) (0 : Int)).set i (-1) = List.replicate (i + 1) (-1) ++ List.replicate (cs.length - (i + 1)) 0 := by
      rw [List.set_append_right _ _ (by simp), List.length_replicate, Nat.sub_self, show cs.length - i = (cs.length - (i + 1)) + 1 by omega, List.replicate_succ, List.set_cons_zero, List.replicate_succ', List.append_assoc]
      rfl
    rw [set_D0, hX] at hst
    simp only [spec_l05Starts_b0, h0, h1, h2, h7, h15, h16, hin, hge, wi, hst, VX, Nat.reduceEqDiff, Nat.reduceAdd, vload_pdef, vstore_pdef, viaddr_rdef, vlen_rdef, vfaddr_pdef, vchk_pdef, visnil_rdef, visnil_nil, visnil_cons, vrow_zero, vrow_succ, List.set_cons_zero, List.set_cons_succ, elemOf_one, elemOf_two, vresult, vresAll, vres1, vfill, isAny_sc, isAny_tree, isAny_ref, isAny_agg, isAny_clo, List.take_zero, List.take_succ_cons, List.take_nil, List.drop_zero, List.drop_succ_cons, List.drop_nil, List.append_nil, Nat.reduceLeDiff, Nat.le_refl, vsplice, Nat.reduceLT, Int.toNat_natCast, eq_self, ge_iff_le, Bool.and_eq_true, Nat.reduceSub, vrow_D0, vrow_Dk, set_D0, set_Dk, len_D, List.append_assoc, Nat.le_add_right, take_Dk, take_D0, List.length_replicate]
    exact ⟨i + 1, by omega, by omega, by (repeat' apply And.intro) <;> first | rfl | trivial⟩
  · have hie : i = cs.length := by omega
    subst hie
    simp only [spec_l05Starts_b0, h15, h16, hin, VX, Nat.reduceEqDiff, Nat.reduceAdd]
    rw [Nat.sub_self, List.replicate_zero, List.append_nil]
    refine VW_loop (fun (s : List Int × Int) ρ H => ((Way cs s.1 s.2 ∧ runT rule srv cs s.2 (100000 - s.2).toNat s.1 = stL rule srv cs) ∨ (s.2 = -1 ∧ s.1 = stL rule srv cs)) ∧ ρ 0 = VI rule ∧ ρ 1 = VI srv ∧ ρ 2 = custsV cs ∧ ρ 7 = .ref n 0 0 cs.length cs.length ∧ ρ 9 = VI s.2 ∧ H = List.replicate n VBlk.dead ++ [.row 0 (s.1.map nV) 1 true]) (fun s => if s.2 < 0 then 0 else (100001 - s.2).toNat) (List.replicate cs.length (-1), 0)
      ⟨.inl ⟨?_, rfl⟩, by simp only [h0, VX, Nat.reduceEqDiff, Nat.reduceAdd], by simp only [h1, VX, Nat.reduceEqDiff, Nat.reduceAdd], by simp only [h2, VX, Nat.reduceEqDiff, Nat.reduceAdd], by simp only [h7, VX, Nat.reduceEqDiff, Nat.reduceAdd], rfl, rfl⟩ ?_
    · have hu : unst (List.replicate cs.length (-1)) = cs.length := by simp [unst, List.countP_replicate]
      exact ⟨by simp, fun i hi => by rw [stC_rep hi]; exact Int.le_refl _, fun i hi => by rw [stC_rep hi]; simp, fun i hi => by rw [stC_rep hi, hu]; omega, Int.le_refl _, by rw [hu]; simp only; omega⟩
    clear h0 h1 h2 h7 h15 h16 hin hi ρ
    rintro ⟨s, now⟩ ρ H ⟨hI, h0, h1, h2, h7, h9, rfl⟩
    simp only at hI h9
    rcases hI with ⟨hW, hrun⟩ | ⟨hn1, hs1⟩
    · have htm := hW.tm
      have hle := hW.le hc
      have hge : (0 : Int) ≤ now := htm.1
      simp only [spec_l05Starts_b2, h0, h1, h2, h7, h9, hge, ge_iff_le, VX, Nat.reduceEqDiff, Nat.reduceAdd]
      refine VW_use (spec_l05Starts_b1_w (srv := srv) hc hr (Nat.le_refl n) hW ?_ ?_ ?_ ?_ ?_) ?_
      all_goals first | (simp only [h0, h1, h2, h7, h9, VX, Nat.reduceEqDiff, Nat.reduceAdd]; done) | skip
      clear h0 h1 h2 h7 h9
      rintro ρ1 H1 ⟨st1, hW1, hf1, hfl, h0, h1, h2, h7, h9, rfl⟩
      rw [runT_one hge (by omega), hfl] at hrun
      have hl := hW1.len
      have hle1 := hW1.le hc
      have r1 : vrow (List.replicate n .dead ++ [.row 0 (st1.map nV) 1 true]) n 0 = some (st1.map nV, 1, true) := by rw [vrow_D0, vrow_zero]
      have fzs : fz depth (List.replicate n .dead ++ [.row 0 (st1.map nV) 1 true]) (.ref n 0 0 cs.length cs.length) = some (numsV st1) := by
        have := fz_live (f := nV) (xs := st1) (c := cs.length) (fun _ => rfl) r1 (by omega)
        rw [hl] at this
        exact this
      have eB : ∀ lo K, vcallP 134 [custsV cs, .ref n 0 0 cs.length cs.length, VI now] lo (List.replicate n .dead ++ [.row 0 (st1.map nV) 1 true]) K = K (VI (later cs st1 now)) (List.replicate n .dead ++ [.row 0 (st1.map nV) 1 true]) := fun lo K =>
        TC.flat (spec_l05Later_v cs st1 now hc hl hle1.2) rfl (by simp only [pureL, custsV_pure, nums_pure]; rfl) (fz3 (fz_res (custsV_pure _)) fzs (fz_res rfl)) rfl lo K
      simp only [h0, h1, h2, h7, h9, eB, VX, Nat.reduceEqDiff, Nat.reduceAdd]
      rcases later_next hc hW1 hf1 hrun with ⟨g1, g2⟩ | ⟨g1, g2, g3⟩
      · refine ⟨(st1, -1), ?_, .inr ⟨rfl, g2⟩, by rw [g1]; (repeat' apply And.intro) <;> first | rfl | trivial⟩
        simp only
        rw [if_pos (by decide), if_neg (by omega)]
        omega
      · refine ⟨(st1, later cs st1 now), ?_, .inl ⟨g2, g3⟩, by (repeat' apply And.intro) <;> first | rfl | trivial⟩
        simp only
        rw [if_neg (by omega), if_neg (by omega)]
        omega
    · have hge : ¬ (0 : Int) ≤ now := by omega
      simp only [spec_l05Starts_b2, h7, h9, hge, ge_iff_le, VX, Nat.reduceEqDiff, Nat.reduceAdd]
      refine ⟨_, rfl, by simp [ownV], ?_, ?_, by rw [hs1]⟩
      · simp only [rowsOwn, List.all_cons, List.all_nil, Bool.and_true]
        exact ownL_map (f := nV) (fun _ => rfl) _
      · rw [stL_len]
end Go.PM

/- Words and small functions of those that ask for a right path. -/
namespace Go.PM
def stOk (rule srv : Int) (cs : List Cust) : Prop := (0 ≤ rule ∧ rule ≤ 3) ∧ (1 ≤ srv ∧ srv ≤ 8) ∧ custsOk cs
noncomputable instance (rule srv : Int) (cs : List Cust) : Decidable (stOk rule srv cs) := Classical.propDecidable _
theorem stL_mem {rule srv : Int} {cs : List Cust} : ∀ s ∈ stL rule srv cs, -1 ≤ s ∧ s ≤ 100000 := by
  have h1 : ∀ (n : Nat) (t : Int) (st : List Int), 0 ≤ t ∧ t ≤ 100000 → (∀ s ∈ st, -1 ≤ s ∧ s ≤ 100000) → ∀ s ∈ fill rule srv cs t n st, -1 ≤ s ∧ s ≤ 100000 := by
    intro n
    induction n with
    | zero => intro t st _ h; exact h
    | succ n ih =>
      intro t st ht h
      rw [fill]
      split
      · split
        · exact h
        · refine ih t _ ht fun s hs => ?_
          rcases List.mem_or_eq_of_mem_set hs with hs | rfl
          · exact h s hs
          · omega
      · exact h
  have h2 : ∀ (n : Nat) (t : Int) (st : List Int), 0 ≤ t → t + n ≤ 100000 → (∀ s ∈ st, -1 ≤ s ∧ s ≤ 100000) → ∀ s ∈ runT rule srv cs t n st, -1 ≤ s ∧ s ≤ 100000 := by
    intro n
    induction n with
    | zero => intro t st _ _ h; exact h
    | succ n ih =>
      intro t st ht hn h
      rw [runT]
      exact ih (t + 1) _ (by omega) (by omega) (h1 _ t st ⟨ht, by omega⟩ h)
  exact h2 _ _ _ (Int.le_refl _) (by simp) fun s hs => by
    have := List.eq_of_mem_replicate hs
    omega
theorem impl_pathOk_v (rule srv : Int) (cs : List Cust) (hn : cs.length ≤ 1000000000) : TC 80 [VI rule, VI srv, custsV cs] (.sc (.bool (decide (stOk rule srv cs)))) := by
  refine TC.walk ⟨true, false⟩ impl_pathOk_t rfl (Nat.le_of_ble_eq_true rfl) (by simp only [pureL, custsV_pure]; rfl) rfl ?_
  have eA := impl_AreCustomers_v cs hn
  unfold stOk
  by_cases h1 : 0 ≤ rule ∧ rule ≤ 3
  · by_cases h2 : 1 ≤ srv ∧ srv ≤ 8
    · by_cases h3 : custsOk cs <;> simp only [impl_pathOk, impl_pathOk_c, impl_in_v, eA, h1, h2, h3, VX, Nat.reduceEqDiff, Nat.reduceAdd] <;> exact fz_res rfl
    · simp only [impl_pathOk, impl_pathOk_c, impl_in_v, h1, h2, VX, Nat.reduceEqDiff, Nat.reduceAdd]
      exact fz_res rfl
  · simp only [impl_pathOk, impl_pathOk_c, impl_in_v, h1, VX, Nat.reduceEqDiff, Nat.reduceAdd]
    exact fz_res rfl
theorem spec_l05Fits_v (rule srv : Int) (cs : List Cust) (hn : cs.length ≤ 1000000000) : TC 39 [VI rule, VI srv, custsV cs] (.sc (.bool (decide (stOk rule srv cs)))) := by
  refine TC.walk ⟨true, false⟩ spec_l05Fits_t rfl (Nat.le_of_ble_eq_true rfl) (by simp only [pureL, custsV_pure]; rfl) rfl ?_
  have eA := spec_l05Are_v cs hn
  unfold stOk
  by_cases h1 : 0 ≤ rule ∧ rule ≤ 3
  · by_cases h2 : 1 ≤ srv ∧ srv ≤ 8
    · by_cases h3 : custsOk cs <;> simp only [spec_l05Fits, spec_l05Fits_c, spec_l00In_v, eA, h1, h2, h3, VX, Nat.reduceEqDiff, Nat.reduceAdd] <;> exact fz_res rfl
    · simp only [spec_l05Fits, spec_l05Fits_c, spec_l00In_v, h1, h2, VX, Nat.reduceEqDiff, Nat.reduceAdd]
      exact fz_res rfl
  · simp only [spec_l05Fits, spec_l05Fits_c, spec_l00In_v, h1, VX, Nat.reduceEqDiff, Nat.reduceAdd]
    exact fz_res rfl
theorem custsOk.mem {cs : List Cust} (h : custsOk cs) {c : Cust} (hc : c ∈ cs) : (0 ≤ c.t ∧ c.t ≤ 10000) ∧ (1 ≤ c.w ∧ c.w ≤ 1000) ∧ (0 ≤ c.k ∧ c.k ≤ 9) := by
  obtain ⟨i, hi⟩ := List.getElem?_of_mem hc
  exact h.at hi
theorem FC.mono {f : Nat} {args : List VV} {R R' : Nat → VV → VHeap → Prop} (h : FC f args R) (hR : ∀ n r L, R n r L → R' n r L) : FC f args R' := fun n => (h n).mono fun _ _ ⟨L, h1, h2, h3, h4⟩ => ⟨L, h1, h2, h3, hR _ _ _ h4⟩
theorem ImpI.all {rule srv : Int} {cs : List Cust} {st : List Int} {t : Int} {come : Nat} {ws : List Nat} {ends : List Int} (h : ImpI rule srv cs st t come ws ends) (hcome : ¬ come < cs.length) (hw : ¬ 0 < ws.length) : ∀ i, i < cs.length → 0 ≤ stC st i := by
  intro i hi
  have hcl := h.cle
  rcases Int.lt_or_le (stC st i) 0 with h1 | h1
  · have h2 : i ∈ wt cs st t := wt_mem.2 ⟨hi, h1, h.past i (by omega)⟩
    rw [← h.wsq, List.eq_nil_of_length_eq_zero (by omega : ws.length = 0)] at h2
    cases h2
  · exact h1
end Go.PM

/- Starts, leaves and waits: the program and the reference, walked. -/
namespace Go.PM
noncomputable def stV (rule srv : Int) (cs : List Cust) : List Int := if stOk rule srv cs then stL rule srv cs else []
theorem impl_starts_pos {rule srv : Int} {cs : List Cust} (hc : custsOk cs) (hr : 0 ≤ rule ∧ rule ≤ 3) (hs : 1 ≤ srv ∧ srv ≤ 8) : FC 81 [VI rule, VI srv, VI 24, custsV cs] fun n r L => stR (stL rule srv cs) n r L ∧ ∀ s ∈ stL rule srv cs, 0 ≤ s := by
  intro n
  refine (impl_starts_w (stSys hc hr hs.1 (Int.le_refl 24)) hc hr hs.2 n).mono ?_
  rintro r H ⟨L, h1, h2, h3, m, come, ws, ends, st, ⟨_, t, hI⟩, hcome, hw, h4, h5⟩
  have h6 := hI.done hcome hw
  refine ⟨L, h1, h2, h3, ⟨?_, ?_⟩, fun s hs => ?_⟩
  · rw [h4, stL_len]
  · rw [h5, h6]
  · rw [← h6] at hs
    obtain ⟨i, hi⟩ := List.getElem?_of_mem hs
    have hil := (List.getElem?_eq_some_iff.1 hi).1
    have := hI.all hcome hw i (by rw [← hI.len]; exact hil)
    rw [stC_of hi] at this
    exact this
theorem LR.of {vals : List Int} {ok : Bool} {n : Nat} {r : VV} {L : VHeap} (h : stR vals n r L) : LR vals ok n (.tup [r, .sc (.bool ok)]) L := ⟨r, rfl, .inr ⟨0, 0, vals.length, h.1, Nat.le_refl _, h.2⟩⟩
theorem impl_StartsOf_w (rule srv : Int) (cs : List Cust) (hn : cs.length ≤ 1000000000) : FC 26 [VI rule, VI srv, custsV cs] fun n r L => LR (stV rule srv cs) (decide (stOk rule srv cs)) n r L ∧ ∀ s ∈ stV rule srv cs, 0 ≤ s := by
  refine FC.walk ⟨true, false⟩ impl_StartsOf_t (Nat.le_of_ble_eq_true rfl) fun n => ?_
  have eA := impl_pathOk_v rule srv cs hn
  by_cases hok : stOk rule srv cs
  · simp only [impl_StartsOf, impl_StartsOf_c, eA, hok, VX, Nat.reduceEqDiff, Nat.reduceAdd]
    refine FC.callO (impl_starts_pos hok.2.2 hok.1 hok.2.1) rfl (fz4 (fz_res rfl) (fz_res rfl) (fz_res rfl) (fz_res (custsV_pure _))) ?_
    rw [List.length_replicate]
    rintro r L ⟨hR, hpos⟩ ho hL
    have hv : stV rule srv cs = stL rule srv cs := if_pos hok
    simp only [VX, Nat.reduceEqDiff, Nat.reduceAdd]
    refine ⟨L, rfl, by simp only [ownV, ownL, ho, isSc, Bool.and_self], hL, ?_, ?_⟩
    · rw [hv]
      exact LR.of hR
    · rw [hv]
      exact hpos
  · simp only [impl_StartsOf, impl_StartsOf_c, eA, hok, VX, Nat.reduceEqDiff, Nat.reduceAdd]
    have hv : stV rule srv cs = [] := if_neg hok
    refine ⟨[], by simp, rfl, rfl, ⟨_, rfl, .inl ⟨rfl, hv⟩⟩, ?_⟩
    rw [hv]
    intro s hs
    cases hs
end Go.PM
