/- Texts of a claim, in one: part 15. -/
import Derived.Test.YthoncidphopjjaaKLn

/- Limits: the statement's small functions and rounds, walked. -/
set_option linter.unusedSimpArgs false
set_option linter.unusedVariables false
namespace Go.PM

/-! ### numbers by bytes -/
def b10v (code : List Nat) (i n : Nat) : Nat := if i < code.length then (code[i]?).getD 0 % n else (i * 37 + 11) % n
theorem b10v_lt {code : List Nat} {i n : Nat} (hn : 0 < n) : b10v code i n < n := by
  unfold b10v
  split <;> exact Nat.mod_lt _ hn
theorem laws_b10At_v (code : List Nat) (i n : Nat) (hc : bytOk code) (hi : i ≤ 1000) (hn : 2 ≤ n ∧ n ≤ 200) : TC 16 [bytV code, VI i, VI n] (VI (b10v code i n)) := by
  refine TC.walk ⟨true, false⟩ laws_b10At_t rfl (Nat.le_of_ble_eq_true rfl) (by simp only [pureL, byt_pure]; rfl) rfl ?_
  have h1 : ¬ (n : Int) ≤ 1 := by omega
  by_cases hin : (i : Int) < (code.length : Int)
  · obtain ⟨x, hx⟩ : ∃ x, code[i]? = some x := ⟨_, List.getElem?_eq_getElem (by omega)⟩
    have hxb := hc.1 x (List.mem_of_getElem? hx)
    have e1 := viaddr_map (f := u8V) (t := .op) (H := []) (size := 1) (k := .i64) hx rfl
    have rdu : rdCells false 1 (u8V x) 0 = some (VK .u8 x) := rfl
    have c1 : IntKind.i64.wrap (x : Int) = (x : Int) := wrap64 (by omega) (by omega)
    have q := rem_i64 x n (by omega)
    have hv : b10v code i n = x % n := by unfold b10v; rw [if_pos (by omega), hx]; rfl
    simp only [laws_b10At, laws_b10At_c, h1, hin, e1, rdu, c1, q, VX, Nat.reduceEqDiff, Nat.reduceAdd]
    rw [hv]
    exact fz_res rfl
  · have w1 : IntKind.i64.wrap ((i : Int) * 37) = ((i * 37 : Nat) : Int) := wrapN _ (by omega) (by omega)
    have w2 : IntKind.i64.wrap (((i * 37 : Nat) : Int) + 11) = ((i * 37 + 11 : Nat) : Int) := wrapN _ (by omega) (by omega)
    have q := rem_i64 (i * 37 + 11) n (by omega)
    have hv : b10v code i n = (i * 37 + 11) % n := by unfold b10v; rw [if_neg (by omega)]
    simp only [laws_b10At, laws_b10At_c, h1, hin, w1, w2, q, VX, Nat.reduceEqDiff, Nat.reduceAdd]
    rw [hv]
    exact fz_res rfl
theorem laws_b10Nums_v (xs ys : List Int) (hn : xs.length ≤ 1000000000) : TC 18 [numsV xs, numsV ys] (.sc (.bool (decide (xs = ys)))) := by
  refine TC.walk ⟨true, false⟩ laws_b10Nums_t rfl (Nat.le_of_ble_eq_true rfl) (by simp [pureL, nums_pure]) rfl ?_
  by_cases hl : (xs.length : Int) = (ys.length : Int)
  · simp only [laws_b10Nums, laws_b10Nums_c, hl, VX, Nat.reduceEqDiff, Nat.reduceAdd]
    refine VW_loop (fun (i : Nat) ρ H => i ≤ xs.length ∧ H = [] ∧ xs.take i = ys.take i ∧ ρ 0 = numsV xs ∧ ρ 1 = numsV ys ∧ ρ 5 = VI i) (fun i => xs.length - i) 0 ⟨Nat.zero_le _, rfl, by simp, rfl, rfl, rfl⟩ ?_
    rintro i ρ H ⟨hi, rfl, ht, h0, h1, h5⟩
    by_cases hin : (i : Int) < (xs.length : Int)
    · obtain ⟨x, hx⟩ : ∃ x, xs[i]? = some x := ⟨_, List.getElem?_eq_getElem (by omega)⟩
      obtain ⟨y, hy⟩ : ∃ y, ys[i]? = some y := ⟨_, List.getElem?_eq_getElem (by omega)⟩
      have e1 := viaddr_map (f := nV) (t := .op) (H := []) (size := 1) (k := .i64) hx rfl
      have e2 := viaddr_map (f := nV) (t := .op) (H := []) (size := 1) (k := .i64) hy rfl
      have wi : IntKind.i64.wrap ((i : Int) + 1) = ((i + 1 : Nat) : Int) := wrapN (i + 1) (by omega) (by omega)
      have rds : ∀ v : Int, rdCells false 1 (nV v) 0 = some (VI v) := fun _ => rfl
      by_cases hxy : x = y
      · subst hxy
        simp only [laws_b10Nums_b0, h0, h1, h5, hin, e1, e2, rds, wi, eq_self, VX, Nat.reduceEqDiff, Nat.reduceAdd]
        refine ⟨i + 1, by omega, by omega, ?_⟩
        rw [List.take_add_one, List.take_add_one, hx, hy, ht]
        (repeat' apply And.intro) <;> first | rfl | trivial
      · simp only [laws_b10Nums_b0, h0, h1, h5, hin, e1, e2, rds, hxy, VX, Nat.reduceEqDiff, Nat.reduceAdd]
        have : ¬ xs = ys := fun h => hxy (by rw [h, hy] at hx; injection hx with hx; exact hx.symm)
        simp only [this, decide_false]
        exact fz_res rfl
    · simp only [laws_b10Nums_b0, h0, h1, h5, hin, VX, Nat.reduceEqDiff, Nat.reduceAdd]
      have : xs = ys := by
        rw [List.take_of_length_le (by omega), List.take_of_length_le (by omega)] at ht
        exact ht
      simp only [this, decide_true]
      exact fz_res rfl
  · simp only [laws_b10Nums, laws_b10Nums_c, hl, VX, Nat.reduceEqDiff, Nat.reduceAdd]
    have : ¬ xs = ys := fun h => hl (by rw [h])
    simp only [this, decide_false]
    exact fz_res rfl
theorem laws_b10Has_v (ws : List Nat) (k : Nat) (hn : ws.length ≤ 1000000) : TC 19 [numsV (ws.map fun i : Nat => (i : Int)), VI k] (.sc (.bool (decide (k ∈ ws)))) := by
  refine TC.walk ⟨true, false⟩ laws_b10Has_t rfl (Nat.le_of_ble_eq_true rfl) (by simp only [pureL, nums_pure]; rfl) rfl ?_
  have hl : (ws.map fun i : Nat => (i : Int)).length = ws.length := List.length_map _
  simp only [laws_b10Has, laws_b10Has_c, hl, VX, Nat.reduceEqDiff, Nat.reduceAdd]
  refine VW_loop (fun (i : Nat) ρ H => i ≤ ws.length ∧ H = [] ∧ (∀ j x, j < i → ws[j]? = some x → x ≠ k) ∧ ρ 0 = numsV (ws.map fun i : Nat => (i : Int)) ∧ ρ 1 = VI k ∧ ρ 7 = VI ws.length ∧ ρ 8 = VI i) (fun i => ws.length - i) 0 ⟨Nat.zero_le _, rfl, fun j x h => by omega, rfl, rfl, by simp only [VX, Nat.reduceEqDiff, Nat.reduceAdd], rfl⟩ ?_
  rintro i ρ H ⟨hi, rfl, hall, h0, h1, h7, h8⟩
  by_cases hin : (i : Int) < (ws.length : Int)
  · obtain ⟨x, hx⟩ : ∃ x, ws[i]? = some x := ⟨_, List.getElem?_eq_getElem (by omega)⟩
    have hx' : (ws.map fun i : Nat => (i : Int))[i]? = some (x : Int) := by rw [List.getElem?_map, hx]; rfl
    have e1 := viaddr_map (f := nV) (t := .op) (H := []) (size := 1) (k := .i64) hx' rfl
    have rds : ∀ v : Int, rdCells false 1 (nV v) 0 = some (VI v) := fun _ => rfl
    have wi : IntKind.i64.wrap ((i : Int) + 1) = ((i + 1 : Nat) : Int) := wrapN (i + 1) (by omega) (by omega)
    by_cases hk : x = k
    · have hk' : ((x : Nat) : Int) = (k : Int) := by rw [hk]
      simp only [laws_b10Has_b0, h0, h1, h7, h8, hin, e1, rds, hk', VX, Nat.reduceEqDiff, Nat.reduceAdd]
      rw [decide_eq_true (hk ▸ List.mem_of_getElem? hx)]
      exact fz_res rfl
    · have hk' : ¬ ((x : Nat) : Int) = (k : Int) := by omega
      simp only [laws_b10Has_b0, h0, h1, h7, h8, hin, e1, rds, hk', wi, VX, Nat.reduceEqDiff, Nat.reduceAdd]
      refine ⟨i + 1, by omega, by omega, fun j y hj hy => ?_, by (repeat' apply And.intro) <;> first | rfl | trivial⟩
      rcases Nat.lt_or_ge j i with hji | hji
      · exact hall j y hji hy
      · have : j = i := by omega
        subst this
        rw [hx] at hy
        injection hy with hy
        exact hy ▸ hk
  · simp only [laws_b10Has_b0, h0, h1, h7, h8, hin, VX, Nat.reduceEqDiff, Nat.reduceAdd]
    have : ¬ k ∈ ws := fun hm => by
      obtain ⟨j, hj⟩ := List.getElem?_of_mem hm
      exact hall j k (by have := (List.getElem?_eq_some_iff.1 hj).1; omega) hj rfl
    rw [decide_eq_false this]
    exact fz_res rfl

/-! ### lists that were handed back, looked at -/
theorem LV.len {lo hi : Nat} {vals : List Int} {H : VHeap} {v : VV} (h : LV lo hi vals H v) : vlen v H = some (VI vals.length) := by
  rcases h with ⟨rfl, rfl⟩ | ⟨b, g, c, h1, h2, rfl, h4, h5⟩
  · rfl
  · exact vlen_ref h5
theorem LV.get {lo hi : Nat} {vals : List Int} {H : VHeap} {v : VV} (h : LV lo hi vals H v) {i : Nat} {x : Int} (hx : vals[i]? = some x) : ∃ p, viaddr 1 v (VI i) H = some p ∧ vload false 1 p H = some (VI x) := by
  rcases h with ⟨rfl, rfl⟩ | ⟨b, g, c, h1, h2, rfl, h4, h5⟩
  · simp at hx
  · refine ⟨_, viaddr_row h5 (List.getElem?_eq_some_iff.1 hx).1, ?_⟩
    rw [Nat.zero_add, vload_row h5 hx]
    rfl
/-- A customer of a row: its fields. -/
theorem row_cust {H : VHeap} {b g n : Nat} {cs : List Cust} (h : vrow H b g = some (cs.map cV, 3, true)) {i : Nat} {c : Cust} (hc : cs[i]? = some c) (hn : i < n) :
    viaddr 3 (.ref b g 0 n n) (VI i) H = some (.ptr b g i 0) ∧ vfaddr 0 (.ptr b g i 0) H = some (.ptr b g i 0) ∧ vfaddr 1 (.ptr b g i 0) H = some (.ptr b g i 1) ∧ vload false 1 (.ptr b g i 0) H = some (VI c.t) ∧ vload false 1 (.ptr b g i 1) H = some (VI c.w) := by
  refine ⟨?_, vfaddr_p h, vfaddr_p h, ?_, ?_⟩
  · have := viaddr_row (o := 0) (n := n) (c := n) (i := i) (k := .i64) h hn
    rw [Nat.zero_add] at this
    exact this
  · rw [vload_row h hc]; rfl
  · rw [vload_row h hc]; rfl

set_option maxHeartbeats 1000000 in
theorem laws_FnLimits_b0_w {srv room : Int} {cs : List Cust} (hc : custsOk cs) (hs : 1 ≤ srv) {H : VHeap} {b g lo1 hi1 lo2 hi2 lo : Nat} {v w : VV} {ρ : VEnv} {Q : VQ} (hL : vrow H b g = some (cs.map cV, 3, true)) (hv : LV lo1 hi1 (rmLv srv room cs) H v) (hw : LV lo2 hi2 ((rmLo srv room cs cs.length).map fun i : Nat => (i : Int)) H w)
    (h5 : ρ 5 = .ref b g 0 cs.length cs.length) (h8 : ρ 8 = v) (h9 : ρ 9 = w) (h93 : ρ 93 = VI cs.length) (h94 : ρ 94 = VI 0) (hQ : ∀ ρ', (∀ t, t < 16 → ρ' t = ρ t) → Q .normal ρ' H) : VW ⟨true, false⟩ lo (.loop laws_FnLimits_b0) (onExit 0 Q) ρ H := by
  have hlen := hc.2
  refine VW_loop (fun (i : Nat) ρ' H' => i ≤ cs.length ∧ H' = H ∧ (∀ t, t < 16 → ρ' t = ρ t) ∧ ρ' 93 = VI cs.length ∧ ρ' 94 = VI i) (fun i => cs.length - i) 0 ⟨Nat.zero_le _, rfl, fun _ _ => rfl, h93, h94⟩ ?_
  rintro i ρ' H' ⟨hi, rfl, hk, g93, g94⟩
  have g5 := (hk 5 (by decide)).trans h5
  have g8 := (hk 8 (by decide)).trans h8
  have g9 := (hk 9 (by decide)).trans h9
  by_cases hin : (i : Int) < (cs.length : Int)
  · have hil : i < cs.length := by omega
    obtain ⟨c, hci⟩ : ∃ c, cs[i]? = some c := ⟨_, List.getElem?_eq_getElem hil⟩
    have hx : (rmLv srv room cs)[i]? = some (rmAt srv room cs i) := by rw [rmLv, List.getElem?_map, List.getElem?_range hil]; rfl
    obtain ⟨p, p1, p2⟩ := hv.get hx
    obtain ⟨r1, r2, r3, r4, r5⟩ := row_cust hL hci hil
    obtain ⟨f1, f2⟩ := rmAt_is (room := room) hc hs hil
    rw [atC_of hci, wkC_of hci] at f2
    have hcb := hc.mem (List.mem_of_getElem? hci)
    have hll := rmLo_len (srv := srv) (room := room) (cs := cs) cs.length
    have eH := fun lo K => TC.flat (laws_b10Has_v (rmLo srv room cs cs.length) i (by omega)) rfl (by simp only [pureL, nums_pure]; rfl) (fz2 hw.fz (fz_res rfl)) rfl lo K
    have hmem := rmLo_mem (srv := srv) (room := room) (cs := cs) hil
    have wi : IntKind.i64.wrap ((i : Int) + 1) = ((i + 1 : Nat) : Int) := wrapN (i + 1) (by omega) (by omega)
    have ww : IntKind.i64.wrap (c.t + c.w) = c.t + c.w := wrap64 (by omega) (by omega)
    by_cases hkp : keptB srv room cs i = true
    · rw [decide_eq_false (fun h => hmem.1 h hkp)] at eH
      have q1 : ¬ rmAt srv room cs i < 0 := fun h => f1.1 h hkp
      have q2 : 0 ≤ rmAt srv room cs i := by omega
      have q3 : ¬ rmAt srv room cs i < c.t + c.w := by have := f2 q2; omega
      simp only [laws_FnLimits_b0, g5, g8, g9, g93, g94, hin, p1, p2, r1, r2, r3, r4, r5, eH, wi, ww, q1, q2, q3, eqb_self, ge_iff_le, VX, Nat.reduceEqDiff, Nat.reduceAdd]
      refine ⟨i + 1, by omega, by omega, fun t ht => ?_, rfl⟩
      try simp only [vput_app]
      repeat rw [if_neg (by omega)]
      exact hk t ht
    · rw [decide_eq_true (hmem.2 hkp)] at eH
      have q1 : rmAt srv room cs i < 0 := f1.2 hkp
      have q2 : ¬ 0 ≤ rmAt srv room cs i := by omega
      simp only [laws_FnLimits_b0, g5, g8, g9, g93, g94, hin, p1, p2, eH, wi, q1, q2, eqb_self, ge_iff_le, VX, Nat.reduceEqDiff, Nat.reduceAdd]
      refine ⟨i + 1, by omega, by omega, fun t ht => ?_, rfl⟩
      try simp only [vput_app]
      repeat rw [if_neg (by omega)]
      exact hk t ht
  · simp only [laws_FnLimits_b0, g93, g94, hin, VX, Nat.reduceEqDiff, Nat.reduceAdd]
    refine hQ _ fun t ht => ?_
    try simp only [vput_app]
    repeat rw [if_neg (by omega)]
    exact hk t ht

set_option maxHeartbeats 1000000 in
theorem laws_FnLimits_b1_w {srv room : Int} {cs : List Cust} (hc : custsOk cs) {H : VHeap} {b g lo1 hi1 lo : Nat} {v : VV} {ρ : VEnv} {Q : VQ} {t : Int} (hL : vrow H b g = some (cs.map cV, 3, true)) (hv : LV lo1 hi1 (rmLv srv room cs) H v)
    (h5 : ρ 5 = .ref b g 0 cs.length cs.length) (h8 : ρ 8 = v) (h17 : ρ 17 = VI t) (h18 : ρ 18 = VI 0) (h137 : ρ 137 = VI cs.length) (h138 : ρ 138 = VI 0) (hQ : ∀ ρ', (∀ t, t < 18 → ρ' t = ρ t) → ρ' 18 = VI ((List.range cs.length).countP (inRm srv room cs t)) → Q .normal ρ' H) : VW ⟨true, false⟩ lo (.loop laws_FnLimits_b1) (onExit 4 Q) ρ H := by
  have hlen := hc.2
  refine VW_loop (fun (i : Nat) ρ' H' => i ≤ cs.length ∧ H' = H ∧ (∀ t, t < 18 → ρ' t = ρ t) ∧ ρ' 18 = VI ((List.range i).countP (inRm srv room cs t)) ∧ ρ' 137 = VI cs.length ∧ ρ' 138 = VI i) (fun i => cs.length - i) 0 ⟨Nat.zero_le _, rfl, fun _ _ => rfl, h18, h137, h138⟩ ?_
  rintro i ρ' H' ⟨hi, rfl, hk, g18, g137, g138⟩
  have g5 := (hk 5 (by decide)).trans h5
  have g8 := (hk 8 (by decide)).trans h8
  have g17 := (hk 17 (by decide)).trans h17
  by_cases hin : (i : Int) < (cs.length : Int)
  · have hil : i < cs.length := by omega
    obtain ⟨c, hci⟩ : ∃ c, cs[i]? = some c := ⟨_, List.getElem?_eq_getElem hil⟩
    have hx : (rmLv srv room cs)[i]? = some (rmAt srv room cs i) := by rw [rmLv, List.getElem?_map, List.getElem?_range hil]; rfl
    obtain ⟨p, p1, p2⟩ := hv.get hx
    obtain ⟨r1, r2, r3, r4, r5⟩ := row_cust hL hci hil
    have wi : IntKind.i64.wrap ((i : Int) + 1) = ((i + 1 : Nat) : Int) := wrapN (i + 1) (by omega) (by omega)
    have hstep : (List.range (i + 1)).countP (inRm srv room cs t) = (List.range i).countP (inRm srv room cs t) + if inRm srv room cs t i = true then 1 else 0 := by rw [List.range_succ, List.countP_append, List.countP_singleton]
    have hins : inRm srv room cs t i = (decide (c.t ≤ t) && decide (t < rmAt srv room cs i)) := by unfold inRm; rw [atC_of hci]
    have hcl : (List.range i).countP (inRm srv room cs t) ≤ i := by
      have := List.countP_le_length (p := inRm srv room cs t) (l := List.range i)
      simpa using this
    have wn : IntKind.i64.wrap (((List.range i).countP (inRm srv room cs t) : Int) + 1) = (((List.range i).countP (inRm srv room cs t) + 1 : Nat) : Int) := wrapN _ (by omega) (by omega)
    by_cases q1 : c.t ≤ t
    · by_cases q2 : t < rmAt srv room cs i
      · rw [if_pos (by rw [hins]; simp [q1, q2])] at hstep
        simp only [laws_FnLimits_b1, g5, g8, g17, g18, g137, g138, hin, p1, p2, r1, r2, r4, wi, wn, q1, q2, VX, Nat.reduceEqDiff, Nat.reduceAdd]
        refine ⟨i + 1, by omega, by omega, fun t ht => ?_, by rw [hstep], rfl⟩
        try simp only [vput_app]
        repeat rw [if_neg (by omega)]
        exact hk t ht
      · rw [if_neg (by rw [hins]; simp [q2])] at hstep
        simp only [laws_FnLimits_b1, g5, g8, g17, g18, g137, g138, hin, p1, p2, r1, r2, r4, wi, q1, q2, VX, Nat.reduceEqDiff, Nat.reduceAdd]
        refine ⟨i + 1, by omega, by omega, fun t ht => ?_, by rw [hstep]; rfl, rfl⟩
        try simp only [vput_app]
        repeat rw [if_neg (by omega)]
        exact hk t ht
    · rw [if_neg (by rw [hins]; simp [q1])] at hstep
      simp only [laws_FnLimits_b1, g5, g8, g17, g18, g137, g138, hin, r1, r2, r4, wi, q1, VX, Nat.reduceEqDiff, Nat.reduceAdd]
      refine ⟨i + 1, by omega, by omega, fun t ht => ?_, by rw [hstep]; rfl, rfl⟩
      try simp only [vput_app]
      repeat rw [if_neg (by omega)]
      exact hk t ht
  · have hie : i = cs.length := by omega
    subst hie
    simp only [laws_FnLimits_b1, g137, g138, hin, VX, Nat.reduceEqDiff, Nat.reduceAdd]
    refine hQ _ (fun t ht => ?_) ?_
    · try simp only [vput_app]
      repeat rw [if_neg (by omega)]
      exact hk t ht
    · simp only [g18, VX, Nat.reduceEqDiff, Nat.reduceAdd]
theorem laws_FnLimits_b2_w {srv room : Int} {cs : List Cust} (hc : custsOk cs) (hs : 1 ≤ srv) (hroom : 0 ≤ room) {H : VHeap} {b g lo1 hi1 lo : Nat} {v : VV} {ρ : VEnv} {Q : VQ} (hL : vrow H b g = some (cs.map cV, 3, true)) (hv : LV lo1 hi1 (rmLv srv room cs) H v)
    (h5 : ρ 5 = .ref b g 0 cs.length cs.length) (h7 : ρ 7 = VI room) (h8 : ρ 8 = v) (h17 : ρ 17 = VI 0) (hQ : ∀ ρ', (∀ t, t < 17 → ρ' t = ρ t) → Q .normal ρ' H) : VW ⟨true, false⟩ lo (.loop laws_FnLimits_b2) (onExit 2 Q) ρ H := by
  refine VW_loop (fun (i : Nat) ρ' H' => i ≤ 130 ∧ H' = H ∧ (∀ t, t < 17 → ρ' t = ρ t) ∧ ρ' 17 = VI i) (fun i => 130 - i) 0 ⟨Nat.zero_le _, rfl, fun _ _ => rfl, h17⟩ ?_
  rintro i ρ' H' ⟨hi, rfl, hk, g17⟩
  have g5 := (hk 5 (by decide)).trans h5
  have g7 := (hk 7 (by decide)).trans h7
  have g8 := (hk 8 (by decide)).trans h8
  by_cases hin : (i : Int) < 130
  · have el := vlen_ref (o := 0) (n := cs.length) (c := cs.length) hL
    simp only [laws_FnLimits_b2, g5, g17, hin, el, VX, Nat.reduceEqDiff, Nat.reduceAdd]
    refine laws_FnLimits_b1_w (srv := srv) (room := room) hc hL hv ?_ ?_ ?_ ?_ ?_ ?_ (t := (i : Int)) fun ρ1 k1 q18 => ?_
    all_goals first | (simp only [g5, g8, g17, VX, Nat.reduceEqDiff, Nat.reduceAdd]; done) | skip
    have wi : IntKind.i64.wrap ((i : Int) + 1) = ((i + 1 : Nat) : Int) := wrapN (i + 1) (by omega) (by omega)
    have g7' : ρ1 7 = VI room := by rw [k1 7 (by decide)]; simp only [g7, VX, Nat.reduceEqDiff, Nat.reduceAdd]
    have g17' : ρ1 17 = VI i := by rw [k1 17 (by decide)]; simp only [g17, VX, Nat.reduceEqDiff, Nat.reduceAdd]
    have hle := in_room (srv := srv) (room := room) hc hs hroom (t := (i : Int)) (by omega) cs.length (Nat.le_refl _)
    have hng : ¬ room < ((List.range cs.length).countP (inRm srv room cs (i : Int)) : Int) := by omega
    simp only [g7', g17', q18, hng, wi, VX, Nat.reduceEqDiff, Nat.reduceAdd]
    refine ⟨i + 1, by omega, by omega, fun t ht => ?_, rfl⟩
    try simp only [vput_app]
    repeat rw [if_neg (by omega)]
    rw [k1 t (by omega)]
    try simp only [vput_app]
    repeat rw [if_neg (by omega)]
    exact hk t ht
  · simp only [laws_FnLimits_b2, g17, hin, VX, Nat.reduceEqDiff, Nat.reduceAdd]
    refine hQ _ fun t ht => ?_
    try simp only [vput_app]
    repeat rw [if_neg (by omega)]
    exact hk t ht
theorem laws_FnLimits_b3_w {N : Nat} (hN : N ≤ 24) {H : VHeap} {lo : Nat} {ρ : VEnv} {Q : VQ} (hlo : lo ≤ H.length) (h20 : ρ 20 = .ref H.length 0 0 0 0) (h164 : ρ 164 = VI N) (h165 : ρ 165 = VI 0) (hQ : ∀ ρ', (∀ t, t < 20 → ρ' t = ρ t) → ρ' 20 = .ref H.length N 0 N N → Q .normal ρ' (H ++ [.row N ((List.replicate N (10000 : Int)).map nV) 1 true])) :
    VW ⟨true, false⟩ lo (.loop laws_FnLimits_b3) (onExit 6 Q) ρ (H ++ [.row 0 [] 1 true]) := by
  refine VW_loop (fun (i : Nat) ρ' H' => i ≤ N ∧ H' = H ++ [.row i ((List.replicate i (10000 : Int)).map nV) 1 true] ∧ (∀ t, t < 20 → ρ' t = ρ t) ∧ ρ' 20 = .ref H.length i 0 i i ∧ ρ' 164 = VI N ∧ ρ' 165 = VI i) (fun i => N - i) 0 ⟨Nat.zero_le _, rfl, fun _ _ => rfl, h20, h164, h165⟩ ?_
  rintro i ρ' H' ⟨hi, rfl, hk, g20, g164, g165⟩
  by_cases hin : (i : Int) < (N : Int)
  · have wi : IntKind.i64.wrap ((i : Int) + 1) = ((i + 1 : Nat) : Int) := wrapN (i + 1) (by omega) (by omega)
    have eL : ∀ (v : Int) H, vlit false [.int .i64 0] 1 [(0, VI v)] H = some (.tree [VI v] (.cl 1), H) := fun v H => vlit_one rfl rfl rfl
    have eS : ∀ (v : Int) H, vsource 1 (.tree [VI v] (.cl 1)) H = some [VI v] := fun v H => vsource_one rfl rfl
    have eP := vappend_row (f := nV) (xs := List.replicate i (10000 : Int)) (x := 10000) (lo := lo) (b := H.length) (g := i) (n := i) (e := 1) (bytes := 8) (H := H ++ [.row i ((List.replicate i (10000 : Int)).map nV) 1 true]) (by rw [vrow_H0, vrow_zero]) (by simp) hlo (by decide) (by decide) (by omega)
    rw [set_last, show List.replicate i (10000 : Int) ++ [10000] = List.replicate (i + 1) 10000 by rw [List.replicate_succ']] at eP
    simp only [laws_FnLimits_b3, g20, g164, g165, hin, eL, eS, eP, wi, VX, Nat.reduceEqDiff, Nat.reduceAdd]
    refine ⟨i + 1, by omega, by omega, rfl, fun t ht => ?_, rfl, rfl⟩
    try simp only [vput_app]
    repeat rw [if_neg (by omega)]
    exact hk t ht
  · have hie : i = N := by omega
    subst hie
    simp only [laws_FnLimits_b3, g164, g165, hin, VX, Nat.reduceEqDiff, Nat.reduceAdd]
    refine hQ _ (fun t ht => ?_) ?_
    · try simp only [vput_app]
      repeat rw [if_neg (by omega)]
      exact hk t ht
    · simp only [g20, VX, Nat.reduceEqDiff, Nat.reduceAdd]
def newP (code : List Nat) (N : Nat) : List Int := (List.range N).map fun i => ((b10v code (i + 2) 8 : Nat) : Int)
theorem newP_get {code : List Nat} {N i : Nat} (h : i < N) : (newP code N)[i]? = some ((b10v code (i + 2) 8 : Nat) : Int) := by unfold newP; rw [List.getElem?_map, List.getElem?_range h]; rfl
theorem laws_FnLimits_b4_w {code : List Nat} (hcode : bytOk code) {N : Nat} (hN : N ≤ 24) {H : VHeap} {old : List Int} (ho : old.length = N) {lo b g : Nat} {ρ : VEnv} {Q : VQ} (hr : vrow H b g = some (old.map nV, 1, true)) (hlo : lo ≤ b) (h1 : ρ 1 = bytV code) (h20 : ρ 20 = .ref b g 0 N N) (h214 : ρ 214 = VI N) (h215 : ρ 215 = VI 0)
    (hQ : ∀ ρ', (∀ t, t < 27 → ρ' t = ρ t) → Q .normal ρ' (H.set b (.row g ((newP code N).map nV) 1 true))) :
    VW ⟨true, false⟩ lo (.loop laws_FnLimits_b4) (onExit 8 Q) ρ H := by
  have hbl : b < H.length := (List.getElem?_eq_some_iff.1 (vrow_some.1 hr)).1
  have hR : ∀ X : List Int, vrow (H.set b (.row g (X.map nV) 1 true)) b g = some (X.map nV, 1, true) := fun X => vrow_some.2 (List.getElem?_set_self hbl)
  have hnl : (newP code N).length = N := by simp [newP]
  have h00 := set_same hr
  refine VW_loop (fun (i : Nat) ρ' H' => i ≤ N ∧ H' = H.set b (.row g (((newP code N).take i ++ old.drop i).map nV) 1 true) ∧ (∀ t, t < 27 → ρ' t = ρ t) ∧ ρ' 214 = VI N ∧ ρ' 215 = VI i) (fun i => N - i) 0 ⟨Nat.zero_le _, by rw [List.take_zero, List.drop_zero, List.nil_append]; exact h00.symm, fun _ _ => rfl, h214, h215⟩ ?_
  rintro i ρ' H' ⟨hi, rfl, hk, g214, g215⟩
  have g1 := (hk 1 (by decide)).trans h1
  have g20 := (hk 20 (by decide)).trans h20
  by_cases hin : (i : Int) < (N : Int)
  · have wi : IntKind.i64.wrap ((i : Int) + 1) = ((i + 1 : Nat) : Int) := wrapN (i + 1) (by omega) (by omega)
    have w2 : IntKind.i64.wrap ((i : Int) + 2) = ((i + 2 : Nat) : Int) := wrapN (i + 2) (by omega) (by omega)
    have eA := laws_b10At_v code (i + 2) 8 hcode (by omega) (by decide)
    have a1 := viaddr_row (o := 0) (n := N) (c := N) (i := i) (k := .i64) (hR ((newP code N).take i ++ old.drop i)) (by omega)
    rw [Nat.zero_add] at a1
    have hst := vstore_map (f := nV) (xs := (newP code N).take i ++ old.drop i) (x := ((b10v code (i + 2) 8 : Nat) : Int)) (e := 1) (lo := lo) (j := i) (hR _) (by rw [List.length_append, List.length_take, List.length_drop]; omega) hlo rfl rfl
    have hX : ((newP code N).take i ++ old.drop i).set i ((b10v code (i + 2) 8 : Nat) : Int) = (newP code N).take (i + 1) ++ old.drop (i + 1) := by
      obtain ⟨s, hs⟩ : ∃ s, old[i]? = some s := ⟨_, List.getElem?_eq_getElem (by omega)⟩
      rw [List.set_append_right _ _ (by rw [List.length_take]; omega), List.length_take, Nat.min_eq_left (by omega), Nat.sub_self, drop_cons hs, List.set_cons_zero, List.take_add_one, newP_get (by omega), List.append_assoc]
      rfl
    rw [List.set_set, hX] at hst
    have eA' : ∀ lo H K, vcallP 16 [bytV code, VI ((i + 2 : Nat) : Int), VI 8] lo H K = K (VI (b10v code (i + 2) 8)) H := eA
    simp only [laws_FnLimits_b4, g1, g20, g214, g215, hin, w2, eA', a1, hst, wi, VX, Nat.reduceEqDiff, Nat.reduceAdd]
    refine ⟨i + 1, by omega, by omega, rfl, fun t ht => ?_, rfl⟩
    try simp only [vput_app]
    repeat rw [if_neg (by omega)]
    exact hk t ht
  · have hie : i = N := by omega
    subst hie
    simp only [laws_FnLimits_b4, g214, g215, hin, VX, Nat.reduceEqDiff, Nat.reduceAdd]
    rw [List.take_of_length_le (by omega), List.drop_of_length_le (by omega), List.append_nil]
    refine hQ _ fun t ht => ?_
    try simp only [vput_app]
    repeat rw [if_neg (by omega)]
    exact hk t ht
theorem laws_FnLimits_b5_w {cs : List Cust} (hc : custsOk cs) {ps sh : List Int} (hps : ps.length = cs.length) (hsh : sh.length = cs.length) (hpt : ∀ (i : Nat) (c : Cust) (p s : Int), cs[i]? = some c → ps[i]? = some p → sh[i]? = some s → s = -1 ∨ (c.t ≤ s ∧ s - c.t ≤ p)) (hpb : ∀ p ∈ ps, p ≤ 10000)
    {H : VHeap} {b g b2 g2 lo1 hi1 lo : Nat} {v : VV} {ρ : VEnv} {Q : VQ} (hL : vrow H b g = some (cs.map cV, 3, true)) (hP : vrow H b2 g2 = some (ps.map nV, 1, true)) (hv : LV lo1 hi1 sh H v)
    (h5 : ρ 5 = .ref b g 0 cs.length cs.length) (h20 : ρ 20 = .ref b2 g2 0 cs.length cs.length) (h28 : ρ 28 = v) (h242 : ρ 242 = VI cs.length) (h243 : ρ 243 = VI 0) (hQ : ∀ ρ', Q .normal ρ' H) : VW ⟨true, false⟩ lo (.loop laws_FnLimits_b5) (onExit 10 Q) ρ H := by
  have hlen := hc.2
  refine VW_loop (fun (i : Nat) ρ' H' => i ≤ cs.length ∧ H' = H ∧ (∀ t, t < 30 → ρ' t = ρ t) ∧ ρ' 242 = VI cs.length ∧ ρ' 243 = VI i) (fun i => cs.length - i) 0 ⟨Nat.zero_le _, rfl, fun _ _ => rfl, h242, h243⟩ ?_
  rintro i ρ' H' ⟨hi, rfl, hk, g242, g243⟩
  have g5 := (hk 5 (by decide)).trans h5
  have g20 := (hk 20 (by decide)).trans h20
  have g28 := (hk 28 (by decide)).trans h28
  by_cases hin : (i : Int) < (cs.length : Int)
  · have hil : i < cs.length := by omega
    obtain ⟨c, hci⟩ : ∃ c, cs[i]? = some c := ⟨_, List.getElem?_eq_getElem hil⟩
    obtain ⟨q, hq⟩ : ∃ q, ps[i]? = some q := ⟨_, List.getElem?_eq_getElem (by omega)⟩
    obtain ⟨s, hs⟩ : ∃ s, sh[i]? = some s := ⟨_, List.getElem?_eq_getElem (by omega)⟩
    obtain ⟨p, p1, p2⟩ := hv.get hs
    obtain ⟨r1, r2, r3, r4, r5⟩ := row_cust hL hci hil
    have a1 := viaddr_row (o := 0) (n := cs.length) (c := cs.length) (i := i) (k := .i64) hP hil
    rw [Nat.zero_add] at a1
    have a2 : vload false 1 (.ptr b2 g2 i 0) H' = some (VI q) := by rw [vload_row hP hq]; rfl
    have hcb := hc.mem (List.mem_of_getElem? hci)
    have hqb := hpb q (List.mem_of_getElem? hq)
    have wi : IntKind.i64.wrap ((i : Int) + 1) = ((i + 1 : Nat) : Int) := wrapN (i + 1) (by omega) (by omega)
    rcases hpt i c q s hci hq hs with h | ⟨h, h'⟩
    · have q1 : ¬ 0 ≤ s := by omega
      simp only [laws_FnLimits_b5, g5, g20, g28, g242, g243, hin, p1, p2, wi, q1, ge_iff_le, VX, Nat.reduceEqDiff, Nat.reduceAdd]
      refine ⟨i + 1, by omega, by omega, fun t ht => ?_, rfl⟩
      try simp only [vput_app]
      repeat rw [if_neg (by omega)]
      exact hk t ht
    · have q1 : 0 ≤ s := by omega
      have q2 : ¬ s < c.t := by omega
      have ww : IntKind.i64.wrap (s - c.t) = s - c.t := wrap64 (by omega) (by omega)
      have q3 : ¬ q < s - c.t := by omega
      simp only [laws_FnLimits_b5, g5, g20, g28, g242, g243, hin, p1, p2, r1, r2, r4, a1, a2, wi, ww, q1, q2, q3, ge_iff_le, VX, Nat.reduceEqDiff, Nat.reduceAdd]
      refine ⟨i + 1, by omega, by omega, fun t ht => ?_, rfl⟩
      try simp only [vput_app]
      repeat rw [if_neg (by omega)]
      exact hk t ht
  · simp only [laws_FnLimits_b5, g242, g243, hin, VX, Nat.reduceEqDiff, Nat.reduceAdd]
    exact hQ _
end Go.PM

/- The statement on limits, walked. -/
namespace Go.PM

theorem laws_b10Long_v (a b : List Nat) : TC 14 [bytV a, bytV b] (.sc (.bool (decide (1048576 < (a.length : Int) ∨ 1048576 < (b.length : Int))))) := by
  refine TC.walk ⟨true, false⟩ laws_b10Long_t rfl (Nat.le_of_ble_eq_true rfl) (by simp only [pureL, byt_pure]; rfl) rfl ?_
  by_cases h1 : (1048576 : Int) < (a.length : Int)
  · simp only [laws_b10Long, laws_b10Long_c, h1, true_or, VX, Nat.reduceEqDiff, Nat.reduceAdd]
    exact fz_res rfl
  · by_cases h2 : (1048576 : Int) < (b.length : Int)
    · simp only [laws_b10Long, laws_b10Long_c, h1, h2, or_true, VX, Nat.reduceEqDiff, Nat.reduceAdd]
      exact fz_res rfl
    · simp only [laws_b10Long, laws_b10Long_c, h1, h2, or_self, VX, Nat.reduceEqDiff, Nat.reduceAdd]
      exact fz_res rfl
theorem nums_flat {lo1 hi1 lo2 hi2 lo : Nat} {xs ys : List Int} {H : VHeap} {v w : VV} {K : VV → VHeap → Prop} (hv : LV lo1 hi1 xs H v) (hw : LV lo2 hi2 ys H w) (hn : xs.length ≤ 1000000000) :
    vcallP 18 [v, w] lo H K = K (.sc (.bool (decide (xs = ys)))) H :=
  TC.flat (laws_b10Nums_v xs ys hn) rfl (by simp [pureL, nums_pure]) (fz2 hv.fz hw.fz) rfl _ _

set_option maxRecDepth 100000 in
set_option maxHeartbeats 2000000 in
theorem laws_FnLimits_v (code more : List Nat) (hx : ∀ x ∈ code, x < 256) (hy : ∀ x ∈ more, x < 256) : TC 4 [bytV code, bytV more] (.sc (.bool true)) := by
  refine TC.walk ⟨true, false⟩ laws_FnLimits_t rfl (Nat.le_of_ble_eq_true rfl) (by simp only [pureL, byt_pure]; rfl) rfl ?_
  have eLong := laws_b10Long_v code more
  by_cases hlong : 1048576 < (code.length : Int) ∨ 1048576 < (more.length : Int)
  · simp only [laws_FnLimits, laws_FnLimits_c, eLong, hlong, VX, Nat.reduceEqDiff, Nat.reduceAdd]
    exact fz_res rfl
  have hcode : bytOk code := ⟨hx, by omega⟩
  have hmore : bytOk more := ⟨hy, by omega⟩
  have eA0 : TC 16 [bytV more, VI 0, VI 3] (VI (b10v more 0 3)) := laws_b10At_v more 0 3 hmore (by decide) (by decide)
  have eA1 : TC 16 [bytV more, VI 1, VI 3] (VI (b10v more 1 3)) := laws_b10At_v more 1 3 hmore (by decide) (by decide)
  have b0 := b10v_lt (code := more) (i := 0) (n := 3) (by decide)
  have b1 := b10v_lt (code := more) (i := 1) (n := 3) (by decide)
  simp only [laws_FnLimits, laws_FnLimits_c, eLong, hlong, VX, Nat.reduceEqDiff, Nat.reduceAdd]
  refine vcall_raw rfl ((spec_B10Customers_v hcode (Nat.zero_le _)).mono ?_)
  rintro r H1 ⟨cs, xb, K, hD, rfl, hH1⟩
  have hc := hD.ok
  have hfew := hD.few
  have hsm := hD.small
  have hL1 : vrow H1 1 cs.length = some (cs.map cV, 3, true) := by rw [hH1]; simp only [List.nil_append, vrow_succ, vrow_zero]
  clear hH1
  generalize b10v more 0 3 = s0 at *
  generalize b10v more 1 3 = s1 at *
  obtain ⟨srv, hsrv⟩ : ∃ srv : Int, srv = 1 + (s0 : Int) := ⟨_, rfl⟩
  obtain ⟨room, hroom⟩ : ∃ room : Int, room = srv + (s1 : Int) := ⟨_, rfl⟩
  have w1 : IntKind.i64.wrap (1 + (s0 : Int)) = srv := by rw [← hsrv]; exact wrap64 (by omega) (by omega)
  have w2 : IntKind.i64.wrap (srv + (s1 : Int)) = room := by rw [← hroom]; exact wrap64 (by omega) (by omega)
  have hst : stOk 0 srv cs := ⟨⟨by omega, by omega⟩, ⟨by omega, by omega⟩, hc⟩
  have ok1 : rmOk srv room cs := ⟨hst, by omega, by omega⟩
  have ok2 : rmOk srv 24 cs := ⟨hst, by omega, by omega⟩
  have hfz : ∀ H, H1 <+: H → fz depth H (.ref 1 cs.length 0 cs.length cs.length) = some (custsV cs) := fun H hh => fz_live (e := 3) (fun _ => rfl) (vrow_pre hh hL1) (Nat.le_refl _)
  simp only [eA0, eA1, w1, w2, List.length_nil, VX, Nat.reduceEqDiff, Nat.reduceAdd]
  refine lr2_call (impl_WithRoom_v srv room cs (by omega)) rfl (fz3 (fz_res rfl) (fz_res rfl) (hfz _ (List.prefix_refl _))) fun v2 u2 H2 p2 l2 m2 d2 => ?_
  simp only [VX, Nat.reduceEqDiff, Nat.reduceAdd]
  refine lr2_call (impl_WithRoom_v srv 24 cs (by omega)) rfl (fz3 (fz_res rfl) (fz_res rfl) (hfz _ p2)) fun v3 u3 H3 p3 l3 m3 d3 => ?_
  simp only [VX, Nat.reduceEqDiff, Nat.reduceAdd]
  refine lr_call (impl_LeavesOf_v 0 srv cs (by omega)) rfl (fz3 (fz_res rfl) (fz_res rfl) (hfz _ (p2.trans p3))) fun v4 H4 p4 l4 => ?_
  have l2 := l2.pre (p3.trans p4)
  have m2 := m2.pre (p3.trans p4)
  have l3 := l3.pre p4
  have m3 := m3.pre p4
  have hL4 := vrow_pre ((p2.trans p3).trans p4) hL1
  obtain ⟨all1, all2⟩ := rm_all (srv := srv) hc
  have eA : rmA srv room cs = rmLv srv room cs := if_pos ok1
  have eB : rmB srv room cs = (rmLo srv room cs cs.length).map fun i : Nat => (i : Int) := if_pos ok1
  have eA2 : rmA srv 24 cs = mvL (·.w) cs (stL 0 srv cs) := (if_pos ok2).trans all1
  have eB2 : rmB srv 24 cs = [] := (if_pos ok2).trans (by rw [all2]; rfl)
  have eV : mvV (·.w) 0 srv cs = mvL (·.w) cs (stL 0 srv cs) := if_pos hst
  rw [eA] at l2
  rw [eB] at m2
  rw [eA2] at l3
  rw [eB2] at m3
  rw [eV] at l4
  have n2 : (rmLv srv room cs).length = cs.length := by simp [rmLv]
  have n3 := m3.len
  rw [List.length_nil] at n3
  have n4 := l2.len
  rw [n2] at n4
  have n5 := vlen_ref (o := 0) (n := cs.length) (c := cs.length) hL4
  have e1 := fun lo K => nums_flat (lo := lo) (K := K) l3 l4 (by rw [mvL_len stL_len]; omega)
  simp only [decide_true] at e1
  have hz : ((0 : Nat) : Int) = 0 := rfl
  simp only [ok1, ok2, hst, n3, n4, n5, e1, hz, eq_self, not_true_eq_false, VX, Nat.reduceEqDiff, Nat.reduceAdd]
  have hs1 : 1 ≤ srv := by omega
  refine laws_FnLimits_b0_w hc hs1 hL4 l2 m2 ?_ ?_ ?_ ?_ ?_ fun ρ1 k1 => ?_
  all_goals first | (simp only [VX, Nat.reduceEqDiff, Nat.reduceAdd]; done) | skip
  have g1 : ρ1 1 = bytV more := by rw [k1 1 (by decide)]; simp only [VX, Nat.reduceEqDiff, Nat.reduceAdd]
  have g5 : ρ1 5 = .ref 1 cs.length 0 cs.length cs.length := by rw [k1 5 (by decide)]; simp only [VX, Nat.reduceEqDiff, Nat.reduceAdd]
  have g7 : ρ1 7 = VI room := by rw [k1 7 (by decide)]; simp only [VX, Nat.reduceEqDiff, Nat.reduceAdd]
  have g8 : ρ1 8 = v2 := by rw [k1 8 (by decide)]; simp only [VX, Nat.reduceEqDiff, Nat.reduceAdd]
  clear k1
  simp only [VX, Nat.reduceEqDiff, Nat.reduceAdd]
  refine laws_FnLimits_b2_w (srv := srv) (room := room) hc hs1 (by omega) hL4 l2 ?_ ?_ ?_ ?_ fun ρ2 k2 => ?_
  all_goals first | (simp only [g5, g7, g8, VX, Nat.reduceEqDiff, Nat.reduceAdd]; done) | skip
  have q1 : ρ2 1 = bytV more := by rw [k2 1 (by decide)]; simp only [g1, VX, Nat.reduceEqDiff, Nat.reduceAdd]
  have q5 : ρ2 5 = .ref 1 cs.length 0 cs.length cs.length := by rw [k2 5 (by decide)]; simp only [g5, VX, Nat.reduceEqDiff, Nat.reduceAdd]
  clear k2 g1 g5 g7 g8 l2 m2 l3 m3 l4 n3 n4 e1 d2 d3 ρ1
  have e0 := fun H => vlit_nil (H := H) (lr := false) (z := [.int .i64 0]) rfl
  have n6 := vlen_ref (o := 0) (n := cs.length) (c := cs.length) (vrow_app (L := [.row 0 [] 1 true]) hL4)
  simp only [e0, q5, List.length_cons, List.length_nil, n6, VX, Nat.reduceEqDiff, Nat.reduceAdd]
  refine laws_FnLimits_b3_w (N := cs.length) (by omega) (Nat.zero_le _) ?_ ?_ ?_ fun ρ3 k3 q20 => ?_
  all_goals first | (simp only [VX, Nat.reduceEqDiff, Nat.reduceAdd]; done) | skip
  have r1 : ρ3 1 = bytV more := by rw [k3 1 (by decide)]; simp only [q1, VX, Nat.reduceEqDiff, Nat.reduceAdd]
  have r5 : ρ3 5 = .ref 1 cs.length 0 cs.length cs.length := by rw [k3 5 (by decide)]; simp only [q5, VX, Nat.reduceEqDiff, Nat.reduceAdd]
  clear k3 q1 q5 ρ2
  have hLP : ∀ H, H4 ++ [VBlk.row cs.length ((List.replicate cs.length (10000 : Int)).map nV) 1 true] <+: H → vrow H 1 cs.length = some (cs.map cV, 3, true) ∧ vrow H H4.length cs.length = some ((List.replicate cs.length (10000 : Int)).map nV, 1, true) := fun H hh => ⟨vrow_pre hh (vrow_app hL4), vrow_pre hh (by rw [vrow_H0, vrow_zero])⟩
  obtain ⟨H5, hH5⟩ : ∃ H5, H5 = H4 ++ [VBlk.row cs.length ((List.replicate cs.length (10000 : Int)).map nV) 1 true] := ⟨_, rfl⟩
  rw [← hH5] at hLP ⊢
  have fzL : ∀ H, H5 <+: H → fz depth H (.ref 1 cs.length 0 cs.length cs.length) = some (custsV cs) := fun H hh => fz_live (e := 3) (fun _ => rfl) (hLP H hh).1 (Nat.le_refl _)
  have fzP : ∀ H, H5 <+: H → fz depth H (.ref H4.length cs.length 0 cs.length cs.length) = some (numsV (List.replicate cs.length 10000)) := fun H hh => by
    have := fz_live (f := nV) (xs := List.replicate cs.length (10000 : Int)) (e := 1) (c := cs.length) (fun _ => rfl) (hLP H hh).2 (by simp)
    rw [List.length_replicate] at this
    exact this
  have fzN : ∀ H, H5 <+: H → fz depth H (.ref H4.length cs.length 0 0 cs.length) = some (numsV []) := fun H hh => by
    rw [fz_rowP (hLP H hh).2 (Nat.zero_le _) (Nat.zero_le _) (nums_pureL _), List.take_zero]
    rfl
  simp only [r5, q20, VX, Nat.reduceEqDiff, Nat.reduceAdd]
  refine lr_call (impl_WithPatience_v cs (List.replicate cs.length 10000) (by omega) (by simp; omega)) rfl (fz2 (fzL _ (List.prefix_refl _)) (fzP _ (List.prefix_refl _))) fun v6 H6 p6 l6 => ?_
  simp only [r5, VX, Nat.reduceEqDiff, Nat.reduceAdd]
  refine lr_call (impl_StartsOf_v 0 1 cs (by omega)) rfl (fz3 (fz_res rfl) (fz_res rfl) (fzL _ p6)) fun v7 H7 p7 l7 => ?_
  have es := vsub_ref_to (size := 1) (o := 0) (n := cs.length) (c := cs.length) (h := 0) (k2 := .i64) (hLP _ (p6.trans p7)).2 (Nat.zero_le _)
  have es' : vsub 1 (.ref H4.length cs.length 0 cs.length cs.length) none (some (VI 0)) none H7 = some (.ref H4.length cs.length 0 0 cs.length) := es
  simp only [r5, q20, es', VX, Nat.reduceEqDiff, Nat.reduceAdd]
  refine lr_call (impl_WithPatience_v cs [] (by omega) (by simp)) rfl (fz2 (fzL _ (p6.trans p7)) (fzN _ (p6.trans p7))) fun v8 H8 p8 l8 => ?_
  have pp8 : H5 <+: H8 := (p6.trans p7).trans p8
  have l6 := l6.pre (p7.trans p8)
  have l7 := l7.pre p8
  have hbig : ∀ c ∈ cs, 0 ≤ c.t ∧ c.t ≤ 75 ∧ c.w ≤ 7 := fun c hcm => by
    have := hc.mem hcm
    have := hsm c hcm
    omega
  have okP : ptOk cs (List.replicate cs.length 10000) := ⟨hc, by simp, fun x hxm => by rw [List.eq_of_mem_replicate hxm]; omega⟩
  have okS : stOk 0 1 cs := ⟨⟨by decide, by decide⟩, ⟨by decide, by decide⟩, hc⟩
  have v6e : ptV cs (List.replicate cs.length 10000) = fcL cs 0 := (if_pos okP).trans (pt_fc 10000 cs 0 hbig (by omega))
  have v7e : stV 0 1 cs = fcL cs 0 := (if_pos okS).trans (fc_stL hc)
  have v8e : ptV cs [] = [] := by
    unfold ptV
    split
    · rename_i h
      have : cs = [] := List.eq_nil_of_length_eq_zero h.2.1.symm
      rw [this]
      rfl
    · rfl
  have h6 : decide (ptOk cs []) = decide ((cs.length : Int) = 0) := by
    by_cases h : cs.length = 0
    · rw [decide_eq_true (by omega : (cs.length : Int) = 0), decide_eq_true]
      exact ⟨hc, h.symm, fun x hxm => by cases hxm⟩
    · rw [decide_eq_false (by omega : ¬ (cs.length : Int) = 0), decide_eq_false]
      exact fun hp => h hp.2.1.symm
  rw [v6e] at l6
  rw [v7e] at l7
  rw [v8e] at l8
  have n8 := l8.len
  rw [List.length_nil, hz] at n8
  have n9 := vlen_ref (o := 0) (n := cs.length) (c := cs.length) (hLP _ pp8).1
  have n10 := vlen_ref (o := 0) (n := cs.length) (c := cs.length) (hLP _ pp8).2
  have e1 := fun lo K => nums_flat (lo := lo) (K := K) l6 l7 (by rw [fcL_len]; omega)
  simp only [decide_true] at e1
  simp only [r5, q20, okP, okS, h6, n8, n9, n10, e1, eqb_self, eq_self, not_true_eq_false, VX, Nat.reduceEqDiff, Nat.reduceAdd]
  have h1H : 1 < H4.length := vrow_lt hL4
  refine laws_FnLimits_b4_w hmore (N := cs.length) (by omega) (by simp) (hLP _ pp8).2 (Nat.zero_le _) ?_ ?_ ?_ ?_ fun ρ4 k4 => ?_
  all_goals first | (simp only [r1, r5, q20, VX, Nat.reduceEqDiff, Nat.reduceAdd]; done) | skip
  have u5 : ρ4 5 = .ref 1 cs.length 0 cs.length cs.length := by rw [k4 5 (by decide)]; simp only [r5, VX, Nat.reduceEqDiff, Nat.reduceAdd]
  have u20 : ρ4 20 = .ref H4.length cs.length 0 cs.length cs.length := by rw [k4 20 (by decide)]; simp only [q20, VX, Nat.reduceEqDiff, Nat.reduceAdd]
  clear k4
  have hnl : (newP more cs.length).length = cs.length := by simp [newP]
  have hL9 : vrow (H8.set H4.length (.row cs.length ((newP more cs.length).map nV) 1 true)) 1 cs.length = some (cs.map cV, 3, true) := vrow_set_ne (by omega) (hLP _ pp8).1
  have hP9 : vrow (H8.set H4.length (.row cs.length ((newP more cs.length).map nV) 1 true)) H4.length cs.length = some ((newP more cs.length).map nV, 1, true) := vrow_set_eq (hLP _ pp8).2
  have okN : ptOk cs (newP more cs.length) := ⟨hc, hnl, fun x hxm => by
    obtain ⟨i, _, rfl⟩ := List.mem_map.1 hxm
    have := b10v_lt (code := more) (i := i + 2) (n := 8) (by decide)
    omega⟩
  have fzP9 := fz_live (f := nV) (xs := newP more cs.length) (e := 1) (c := cs.length) (fun _ => rfl) hP9 (by omega)
  rw [hnl] at fzP9
  simp only [u5, u20, VX, Nat.reduceEqDiff, Nat.reduceAdd]
  refine lr_call (impl_WithPatience_v cs (newP more cs.length) (by omega) (by omega)) rfl (fz2 (fz_live (e := 3) (fun _ => rfl) hL9 (Nat.le_refl _)) fzP9) fun v9 H9 p9 l9 => ?_
  have vN : ptV cs (newP more cs.length) = ptList cs (newP more cs.length) 0 := if_pos okN
  rw [vN] at l9
  have n11 := l9.len
  rw [ptList_len' cs _ 0 hnl] at n11
  have n12 := vlen_ref (o := 0) (n := cs.length) (c := cs.length) (vrow_pre p9 hL9)
  simp only [u5, u20, okN, n11, n12, eq_self, not_true_eq_false, VX, Nat.reduceEqDiff, Nat.reduceAdd]
  refine laws_FnLimits_b5_w hc hnl (ptList_len' cs _ 0 hnl) (fun i c p s g1 g2 g3 => pt_facts cs _ 0 g1 g2 g3) (fun p hpm => (okN.2.2 p hpm).2) (vrow_pre p9 hL9) (vrow_pre p9 hP9) l9 ?_ ?_ ?_ ?_ ?_ fun ρ5 => ?_
  all_goals first | (simp only [u5, u20, VX, Nat.reduceEqDiff, Nat.reduceAdd]; done) | skip
  simp only [VX, Nat.reduceEqDiff, Nat.reduceAdd]
  exact fz_res rfl
end Go.PM
