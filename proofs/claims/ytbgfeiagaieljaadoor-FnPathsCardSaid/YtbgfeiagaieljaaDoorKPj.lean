/- Texts of a claim, in one: part 10. -/
import Derived.Test.YtbgfeiagaieljaaDoorKPi

/- The reference's numbers of at least 0: differences, products, one digit's multiples and quotients. -/
set_option linter.unusedSimpArgs false
set_option linter.unusedVariables false
namespace Go.PM
theorem mkT_row (n : Nat) (hn : n ≤ 35184372088832) : vmake [.int .i64 0] 8 (VI (n : Int)) (VI (n : Int)) [] = some (.ref 0 0 0 n n, [.row 0 ((List.replicate n 0).map tV) 1 true]) := vmake_map (f := tV) (x := 0) rfl (by omega) (by omega)
theorem stT_row {outs : List Nat} {i d : Nat} (hi : i < outs.length) : vstore 0 1 (.ptr 0 0 i 0) (VI (d : Int)) [.row 0 (outs.map tV) 1 true] = some [.row 0 ((outs.set i d).map tV) 1 true] := by
  rw [show VI (d : Int) = tV d from rfl, vstore_map (f := tV) (e := 1) one_get hi (Nat.le_refl _) rfl rfl]
  rfl
theorem vloadT {b g : Nat} {rows : List Nat} {w : Bool} {H : VHeap} {j d : Nat} (hr : vrow H b g = some (rows.map tV, 1, w)) (hj : rows[j]? = some d) : vload false 1 (.ptr b g j 0) H = some (VI (d : Int)) := vload_row hr hj
theorem adT {n i : Nat} {outs : List Nat} (h : i < n) : viaddr 1 (.ref 0 0 0 n n) (VI (i : Int)) [.row 0 (outs.map tV) 1 true] = some (.ptr 0 0 i 0) := by rw [viaddr_row one_get h, Nat.zero_add]
theorem wr {x : Int} (n : Nat) (h : x = n) (hn : n ≤ 9223372036854775807) : IntKind.i64.wrap x = (n : Int) := wrapN n h hn
theorem spec_l01Small_v (a : Nat) (ha : (digs 1000000000 a).length ≤ 17592186044416) : TC 52 [natT a] (if (digs 1000000000 a).length ≤ 2 then .tup [VI a, VB true] else .tup [VI 0, VB false]) := by
  refine TC.walk ⟨true, false⟩ spec_l01Small_t rfl (Nat.le_of_ble_eq_true rfl) (by simp [pureL, natT_pure]) (by split <;> rfl) ?_
  by_cases h2 : (digs 1000000000 a).length ≤ 2
  · rw [if_pos h2]
    have h3 : ¬ (2 : Int) < ((digs 1000000000 a).length : Int) := by omega
    have c0 : TC 68 [natT a, VI 0] (VI ((a % 1000000000 : Nat) : Int)) := by have := digitT_v a 0; rwa [Nat.pow_zero, Nat.div_one] at this
    have c1 : TC 68 [natT a, VI 1] (VI ((a / 1000000000 % 1000000000 : Nat) : Int)) := by have := digitT_v a 1; rwa [Nat.pow_one] at this
    have hlt := digs_len_lt (b := 1000000000) (by decide) a
    have hp : 1000000000 ^ (digs 1000000000 a).length ≤ 1000000000 ^ 2 := Nat.pow_le_pow_right (by decide) h2
    have hm : a / 1000000000 < 1000000000 := Nat.div_lt_of_lt_mul (by omega)
    rw [Nat.mod_eq_of_lt hm] at c1
    have hmd := Nat.mod_add_div a 1000000000
    have w1 : IntKind.i64.wrap (1000000000 * ((a / 1000000000 : Nat) : Int)) = ((1000000000 * (a / 1000000000) : Nat) : Int) := wrapN _ (by omega) (by omega)
    have w2 : IntKind.i64.wrap (((a % 1000000000 : Nat) : Int) + ((1000000000 * (a / 1000000000) : Nat) : Int)) = (a : Int) := wrapN _ (by omega) (by omega)
    simp only [spec_l01Small, spec_l01Small_c, len_natT, h3, c0, c1, w1, w2, VX, Nat.reduceEqDiff, Nat.reduceAdd]
    exact fz_res rfl
  · rw [if_neg h2]
    have h3 : (2 : Int) < ((digs 1000000000 a).length : Int) := by omega
    simp only [spec_l01Small, spec_l01Small_c, len_natT, h3, VX, Nat.reduceEqDiff, Nat.reduceAdd]
    exact fz_res rfl
theorem app_in {outs : List Nat} {n cap x : Nat} (hn : n = outs.length) (hc : n < cap) : vappend 0 1 8 (.ref 0 0 0 n cap) [VI (x : Int)] [.row 0 ((outs ++ List.replicate (cap - n) 0).map tV) 1 true] = some (.ref 0 0 0 (n + 1) cap, [.row 0 (((outs ++ [x]) ++ List.replicate (cap - (n + 1)) 0).map tV) 1 true]) := by
  subst hn
  simp only [vappend, vrow_zero, List.length_map, List.length_append, List.length_replicate, List.length_cons, List.length_nil, Nat.zero_add]
  rw [if_pos ⟨by decide, by decide⟩, if_pos ⟨trivial, Nat.le_refl _, by omega⟩, if_pos (by omega), if_neg (by omega), if_pos (by omega)]
  congr 3
  have e : List.replicate (cap - outs.length) 0 = (0 : Nat) :: List.replicate (cap - (outs.length + 1)) 0 := by
    rw [show cap - outs.length = (cap - (outs.length + 1)) + 1 by omega, List.replicate_succ]
  simp only [vsplice, List.set_cons_zero, e, List.map_append, List.map_cons, List.length_cons, List.length_nil, List.map_nil]
  congr 1
  rw [List.take_left' (by simp), ← List.drop_drop, List.drop_left' (by simp)]
  simp
theorem spec_l01ShortMul_v (a d : Nat) (hd0 : 0 < d) (hd : d < 1000000000) (ha : (digs 1000000000 a).length < 17592186044416) : TC 54 [natT a, VI (d : Int)] (natT (a * d)) := by
  refine TC.walk ⟨true, false⟩ spec_l01ShortMul_t rfl (Nat.le_of_ble_eq_true rfl) (by simp [pureL, natT_pure]; rfl) (natT_res _) ?_
  have w0 : IntKind.i64.wrap (((digs 1000000000 a).length : Int) + 1) = (((digs 1000000000 a).length + 1 : Nat) : Int) := wrapN _ (by omega) (by omega)
  have mk : vmake [.int .i64 0] 8 (VI 0) (VI (((digs 1000000000 a).length + 1 : Nat) : Int)) [] = some (.ref 0 0 0 0 ((digs 1000000000 a).length + 1), [.row 0 ((([] : List Nat) ++ List.replicate ((digs 1000000000 a).length + 1 - 0) 0).map tV) 1 true]) := by
    simp only [vmake]
    rw [if_pos ⟨by omega, by omega, by omega, by omega⟩]
    simp
    rfl
  simp only [spec_l01ShortMul, spec_l01ShortMul_c, len_natT, w0, mk, VX, Nat.reduceEqDiff, Nat.reduceAdd]
  refine VW_loop (fun (s : Nat × List Nat × Nat) ρ H => s.1 = s.2.1.length ∧ s.1 ≤ (digs 1000000000 a).length ∧ H = [.row 0 ((s.2.1 ++ List.replicate ((digs 1000000000 a).length + 1 - s.1) 0).map tV) 1 true] ∧ s.2.2 < d ∧ digs 1000000000 (a * d) = s.2.1 ++ digs 1000000000 (a / 1000000000 ^ s.1 * d + s.2.2) ∧
    ρ 1 = VI d ∧ ρ 5 = .ref 0 0 0 s.1 ((digs 1000000000 a).length + 1) ∧ ρ 6 = VI s.2.2 ∧ ρ 14 = natT a ∧ ρ 15 = VI (digs 1000000000 a).length ∧ ρ 16 = VI s.1) (fun s => (digs 1000000000 a).length - s.1) (0, [], 0) ⟨rfl, Nat.zero_le _, rfl, hd0, by simp, rfl, rfl, rfl, rfl, rfl, rfl⟩ ?_
  rintro ⟨i, outs, c⟩ ρ H ⟨hi, hi2, rfl, hc, hv, g1, g5, g6, g14, g15, g16⟩
  simp only at hi hi2 hc hv g5 g6 g16
  by_cases hin : (i : Int) < ((digs 1000000000 a).length : Int)
  · have hx := digs_get (b := 1000000000) (by decide) (n := a) (i := i) (by omega)
    have hA := (digs_at (b := 1000000000) (by decide) (n := a) (i := i)).1 (by omega)
    have e1 : ∀ H, viaddr 1 (natT a) (VI i) H = some (.tptr (tV (a / 1000000000 ^ i % 1000000000)) 0) := fun H => viaddr_map (f := tV) (t := .op) (size := 1) (k := .i64) hx rfl
    have lx := Nat.mod_lt (a / 1000000000 ^ i) (show 0 < 1000000000 by decide)
    have hne : a / 1000000000 ^ i * d + c ≠ 0 := by
      have := Nat.mul_ne_zero hA (show d ≠ 0 by omega)
      omega
    rw [mul_place (by decide) hne, ← div_pow_succ] at hv
    generalize a / 1000000000 ^ i % 1000000000 = x at *
    have hxd : x * d ≤ 999999999 * 999999999 := Nat.mul_le_mul (by omega) (by omega)
    have w1 : IntKind.i64.wrap ((x : Int) * (d : Int)) = ((x * d : Nat) : Int) := wrapN _ (by simp) (by omega)
    have w2 : IntKind.i64.wrap (((x * d : Nat) : Int) + (c : Int)) = ((x * d + c : Nat) : Int) := wrapN _ (by omega) (by omega)
    have wi : IntKind.i64.wrap ((i : Int) + 1) = ((i + 1 : Nat) : Int) := wrapN (i + 1) (by omega) (by omega)
    have r1 := rem_T (x * d + c)
    have q1 := quo_T (x * d + c) (by omega)
    have a1 := app_in (outs := outs) (n := i) (cap := (digs 1000000000 a).length + 1) (x := (x * d + c) % 1000000000) hi (by omega)
    have hq : (x * d + c) / 1000000000 < d := by
      rw [Nat.div_lt_iff_lt_mul (by decide)]
      have h1 : x * d ≤ 999999999 * d := Nat.mul_le_mul_right _ (by omega)
      omega
    simp only [spec_l01ShortMul_b0, g1, g5, g6, g14, g15, g16, hin, e1, w1, w2, wi, r1, q1, litT_one, srcT_one, a1, VX, Nat.reduceEqDiff, Nat.reduceAdd]
    refine ⟨(i + 1, outs ++ [(x * d + c) % 1000000000], (x * d + c) / 1000000000), by simp only; omega, by simp; omega, by simp only; omega, rfl, hq, by rw [hv, List.append_assoc]; rfl, ?_⟩
    try (repeat' apply And.intro) <;> first | rfl | trivial
  · have hie : i = (digs 1000000000 a).length := by omega
    have hz : a / 1000000000 ^ i = 0 := by
      have := mt (digs_at (b := 1000000000) (by decide) (n := a) (i := i)).2
      omega
    rw [hz, Nat.zero_mul, Nat.zero_add] at hv
    by_cases hcp : (0 : Int) < (c : Int)
    · rw [digs_single (b := 1000000000) (by decide) (show c ≠ 0 by omega) (show c < 1000000000 by omega)] at hv
      have a1 := app_in (outs := outs) (n := i) (cap := (digs 1000000000 a).length + 1) (x := c) hi (by omega)
      simp only [spec_l01ShortMul_b0, g1, g5, g6, g14, g15, g16, hin, hcp, litT_one, srcT_one, a1, VX, Nat.reduceEqDiff, Nat.reduceAdd]
      rw [natT, hv]
      rw [fz_rowP vrow_zero (by simp; omega) (by omega) (pure_map fun _ => rfl)]
      rw [List.map_append, List.take_left' (by simp; omega)]
    · have hc0 : c = 0 := by omega
      rw [hc0, digs_zero, List.append_nil] at hv
      simp only [spec_l01ShortMul_b0, g1, g5, g6, g14, g15, g16, hin, hcp, VX, Nat.reduceEqDiff, Nat.reduceAdd]
      rw [natT, hv]
      rw [fz_rowP vrow_zero (by simp; omega) (by omega) (pure_map fun _ => rfl)]
      rw [List.map_append, List.take_left' (by simp; omega)]
theorem quo_i64 (a b : Nat) (ha : a ≤ 9223372036854775807) (hb : 0 < b) : pbin .quo (.int .i64 (a : Int)) (.int .i64 (b : Int)) = some (.int .i64 ((a / b : Nat) : Int)) := by
  have h1 : ¬ ((b : Int) = 0) := by omega
  have h2 : (a : Int).tdiv (b : Int) = ((a / b : Nat) : Int) := by rw [Int.tdiv_eq_ediv_of_nonneg (by omega)]; simp
  have h3 : a / b ≤ a := Nat.div_le_self _ _
  simp only [pbin, if_true, h1, if_false, h2]
  generalize a / b = q at *
  rw [wrap64 (by omega) (by omega)]
theorem remN_i64 (a b : Nat) (hb : 0 < b) : pbin .rem (.int .i64 (a : Int)) (.int .i64 (b : Int)) = some (.int .i64 ((a % b : Nat) : Int)) := by
  have h1 : ¬ ((b : Int) = 0) := by omega
  have h2 : (a : Int).tmod (b : Int) = ((a % b : Nat) : Int) := by rw [Int.tmod_eq_emod_of_nonneg (by omega)]; simp
  simp only [pbin, if_true, h1, if_false, h2]
theorem rT_bound {r d x : Nat} (hr : r < d) (hd : d < 1000000000) (hx : x < 1000000000) : r * 1000000000 + x ≤ 9223372036854775807 := by omega
theorem rT_quo {r d x : Nat} (hd0 : 0 < d) (hr : r < d) (hx : x < 1000000000) : (r * 1000000000 + x) / d < 1000000000 := by
  rw [Nat.div_lt_iff_lt_mul hd0]
  omega
theorem spec_l01ShortDiv_v (a d : Nat) (hd0 : 0 < d) (hdT : d < 1000000000) (ha : (digs 1000000000 a).length ≤ 17592186044416) : TC 53 [natT a, VI (d : Int)] (.tup [natT (a / d), VI ((a % d : Nat) : Int)]) := by
  refine TC.walk ⟨true, false⟩ spec_l01ShortDiv_t rfl (Nat.le_of_ble_eq_true rfl) (by simp [pureL, natT_pure]; rfl) (by simp [resV, resL, natT_res, isSc]) ?_
  have va := val_digs (b := 1000000000) (by decide) a
  have la := digs_lt (b := 1000000000) (by decide) a
  unfold natT
  generalize digs 1000000000 a = xs at *
  have w0 : IntKind.i64.wrap ((xs.length : Int) - 1) = (xs.length : Int) - 1 := wrap64 (by omega) (by omega)
  simp only [spec_l01ShortDiv, spec_l01ShortDiv_c, vlen_map, w0, mkT_row xs.length (by omega), VX, Nat.reduceEqDiff, Nat.reduceAdd]
  refine VW_loop (fun (s : Nat × List Nat × Nat) ρ H => s.1 ≤ xs.length ∧ H = [.row 0 (s.2.1.map tV) 1 true] ∧ s.2.1.length = xs.length ∧ (∀ d ∈ s.2.1, d < 1000000000) ∧ s.2.2 < d ∧ val 1000000000 (s.2.1.drop s.1) * d + s.2.2 = val 1000000000 (xs.drop s.1) ∧
    ρ 0 = natL' xs ∧ ρ 1 = VI d ∧ ρ 6 = .ref 0 0 0 xs.length xs.length ∧ ρ 7 = VI s.2.2 ∧ ρ 8 = VI ((s.1 : Int) - 1)) (fun s => s.1) (xs.length, List.replicate xs.length 0, 0) ⟨Nat.le_refl _, rfl, by simp, rep_lt (by decide) _, hd0, by simp [val, List.drop_replicate], rfl, rfl, rfl, rfl, rfl⟩ ?_
  rintro ⟨j, outs, r⟩ ρ H ⟨hj, rfl, hol, hod, hr, hv, g0, g1, g6, g7, g8⟩
  simp only at hj hol hod hr hv g7 g8
  by_cases hz : (0 : Int) ≤ (j : Int) - 1
  · obtain ⟨i, rfl⟩ : ∃ i, j = i + 1 := ⟨j - 1, by omega⟩
    obtain ⟨x, hx⟩ : ∃ x, xs[i]? = some x := ⟨_, List.getElem?_eq_getElem (by omega)⟩
    have lx := la x (List.mem_of_getElem? hx)
    have hji : ((i + 1 : Nat) : Int) - 1 = (i : Int) := by omega
    rw [hji] at g8 hz
    have e1 := viaddr_map (f := tV) (t := .op) (H := [.row 0 (outs.map tV) 1 true]) (size := 1) (k := .i64) hx rfl
    have e3 : viaddr 1 (.ref 0 0 0 xs.length xs.length) (VI i) [.row 0 (outs.map tV) 1 true] = some (.ptr 0 0 i 0) := adT (by omega)
    have e4 : ∀ s : Nat, vstore 0 1 (.ptr 0 0 i 0) (VI (s : Int)) [.row 0 (outs.map tV) 1 true] = some [.row 0 ((outs.set i s).map tV) 1 true] := fun s => stT_row (by omega)
    have w2 : IntKind.i64.wrap ((i : Int) - 1) = (i : Int) - 1 := wrap64 (by omega) (by omega)
    have w4 : IntKind.i64.wrap ((r : Int) * 1000000000) = ((r * 1000000000 : Nat) : Int) := wrapN _ (by omega) (by omega)
    have w5 : IntKind.i64.wrap (((r * 1000000000 : Nat) : Int) + (x : Int)) = ((r * 1000000000 + x : Nat) : Int) := wrapN _ (by omega) (by omega)
    have hb1 : r * 1000000000 + x ≤ 9223372036854775807 := rT_bound hr hdT lx
    have q1 := quo_i64 (r * 1000000000 + x) d hb1 hd0
    have q2 := remN_i64 (r * 1000000000 + x) d hd0
    have hq : (r * 1000000000 + x) / d < 1000000000 := rT_quo hd0 hr lx
    simp only [spec_l01ShortDiv_b0, g0, g1, g6, g7, g8, hz, e1, e3, e4, w2, w4, w5, q1, q2, VX, Nat.reduceEqDiff, Nat.reduceAdd]
    refine ⟨(i, outs.set i ((r * 1000000000 + x) / d), (r * 1000000000 + x) % d), by simp only; omega, by omega, rfl, by rw [List.length_set]; exact hol, set_lt hod hq, Nat.mod_lt _ hd0, ?_, by (repeat' apply And.intro) <;> first | rfl | trivial⟩
    have h1 := Nat.mod_add_div (r * 1000000000 + x) d
    rw [set_drop (by omega), val_cons, val_drop hx, ← hv]
    exact div_step h1
  · have hj0 : j = 0 := by omega
    subst hj0
    rw [List.drop_zero, List.drop_zero, va] at hv
    have h1 : a / d = val 1000000000 outs := by
      rw [← hv, Nat.mul_comm, Nat.mul_add_div hd0, Nat.div_eq_of_lt hr, Nat.add_zero]
    have h2 : a % d = r := by
      rw [← hv, Nat.mul_comm, Nat.mul_add_mod, Nat.mod_eq_of_lt hr]
    simp only [spec_l01ShortDiv_b0, g0, g1, g6, g7, g8, hz, VX, Nat.reduceEqDiff, Nat.reduceAdd]
    refine trimT_row (m := a / d) hod hol.symm (by omega) h1.symm ?_
    simp only [g7, VX, Nat.reduceEqDiff, Nat.reduceAdd]
    rw [h2]
    exact fz_res (by simp [pureV, pureL, natL'_pure, natT, isSc])
end Go.PM

/- The program's numbers of at least 0: taking a multiple away from a row of digits. -/
namespace Go.PM
theorem vrowN_set_ne {H : VHeap} {b b' g : Nat} {x : VBlk} (h : b ≠ b') : vrow (H.set b x) b' g = vrow H b' g := by
  unfold vrow
  rw [List.getElem?_set_ne h]
theorem vrow_set_self {H : VHeap} {b g e : Nat} {es es' : List VV} {w w' : Bool} (h : vrow H b g = some (es, e, w)) : vrow (H.set b (.row g es' e w')) b g = some (es', e, w') := by
  have hlt : b < H.length := by
    unfold vrow at h
    split at h
    · rename_i hb
      exact (List.getElem?_eq_some_iff.1 hb).1
    · cases h
  unfold vrow
  rw [List.getElem?_set_self hlt]
  simp
theorem set_set_row {H : VHeap} {b : Nat} {x y : VBlk} : (H.set b x).set b y = H.set b y := by rw [List.set_set]
theorem set_same_row {H : VHeap} {b g e : Nat} {es : List VV} {w : Bool} (h : vrow H b g = some (es, e, w)) : H.set b (.row g es e w) = H := by
  apply List.ext_getElem?
  intro i
  by_cases hi : b = i
  · subst hi
    unfold vrow at h
    split at h
    · rename_i hb
      split at h
      · rename_i hg
        cases h
        rw [List.getElem?_set_self (List.getElem?_eq_some_iff.1 hb).1, hb, hg]
      · cases h
    · cases h
  · rw [List.getElem?_set_ne hi]
theorem st_seg {H : VHeap} {b g o i lo d : Nat} {pre seg post : List Nat} (hr : vrow H b g = some ((pre ++ seg ++ post).map uV, 1, true)) (ho : pre.length = o) (hi : i < seg.length) (hlo : lo ≤ b) :
    vstore lo 1 (.ptr b g (o + i) 0) (uV d) H = some (H.set b (.row g ((pre ++ seg.set i d ++ post).map uV) 1 true)) := by
  rw [vstore_map (f := uV) (e := 1) hr (by simp only [List.length_append]; omega) hlo rfl rfl, set_mid ho hi]
theorem takeAway_v {H : VHeap} {lo b g o L c b2 g2 n2 c2 t : Nat} {pre seg post vs rows2 : List Nat} {w2 : Bool} (hr : vrow H b g = some ((pre ++ seg ++ post).map uV, 1, true)) (hr2 : vrow H b2 g2 = some (rows2.map uV, 1, w2)) (hb : b ≠ b2) (hlo : lo ≤ b)
    (ho : pre.length = o) (hL : seg.length = L) (hcapL : L ≤ 70368744177664) (hvs : rows2.take n2 = vs) (hn2 : n2 ≤ rows2.length) (hle : n2 ≤ L) (hseg : ∀ d ∈ seg, d < 4294967296) (hvd : ∀ d ∈ vs, d < 4294967296) (ht : t < 4294967296) (hfit : t * val 4294967296 vs ≤ val 4294967296 seg + val 4294967296 vs) :
    VRaw 66 [.ref b g o L c, .ref b2 g2 0 n2 c2, VK .u64 t] lo H fun r H' => ∃ seg' : List Nat, H' = H.set b (.row g ((pre ++ seg' ++ post).map uV) 1 true) ∧ seg'.length = L ∧ (∀ d ∈ seg', d < 4294967296) ∧
      ((r = VB false ∧ val 4294967296 seg' + t * val 4294967296 vs = val 4294967296 seg) ∨ (r = VB true ∧ val 4294967296 seg < t * val 4294967296 vs ∧ val 4294967296 seg' + t * val 4294967296 vs = val 4294967296 seg + val 4294967296 vs)) := by
  refine VRaw.walk ⟨true, false⟩ impl_takeAway_t (Nat.le_of_ble_eq_true rfl) ?_
  have hvl : vs.length = n2 := by rw [← hvs, List.length_take]; omega
  have hget : ∀ i, i < n2 → rows2[i]? = vs[i]? := fun i hi => by rw [← hvs, List.getElem?_take_of_lt hi]
  have hsl := val_lt hseg
  have hvv := val_lt hvd
  rw [hL] at hsl
  rw [hvl] at hvv
  have hVL : val 4294967296 vs ≤ 4294967296 ^ L := Nat.le_trans (Nat.le_of_lt hvv) (Nat.pow_le_pow_right (by decide) hle)
  have e0 : ∀ {K : VHeap} {es : List VV}, vrow K b g = some (es, 1, true) → vlen (.ref b g o L c) K = some (VI L) := fun h => vlen_ref h
  have e00 : ∀ {K : VHeap}, vrow K b2 g2 = some (rows2.map uV, 1, w2) → vlen (.ref b2 g2 0 n2 c2) K = some (VI n2) := fun h => vlen_ref h
  -- reading and writing, in a heap that parts in the one row alone
  have rd : ∀ (s : List Nat), s.length = L → vrow (H.set b (.row g ((pre ++ s ++ post).map uV) 1 true)) b g = some ((pre ++ s ++ post).map uV, 1, true) := fun s _ => vrow_set_self hr
  have rd2 : ∀ (s : List Nat), vrow (H.set b (.row g ((pre ++ s ++ post).map uV) 1 true)) b2 g2 = some (rows2.map uV, 1, w2) := fun s => by rw [vrowN_set_ne hb]; exact hr2
  have wi : ∀ i : Nat, i < L → IntKind.i64.wrap ((i : Int) + 1) = ((i + 1 : Nat) : Int) := fun i hi => wrapN (i + 1) (by omega) (by omega)
  -- the second walk
  have back : ∀ (ρ : VEnv) (s : List Nat), s.length = L → (∀ d ∈ s, d < 4294967296) → (∀ s2 : List Nat, s2.length = L → (∀ d ∈ s2, d < 4294967296) → ∀ c, val 4294967296 s + val 4294967296 vs = val 4294967296 s2 + 4294967296 ^ L * c → val 4294967296 s2 + t * val 4294967296 vs = val 4294967296 seg + val 4294967296 vs) → val 4294967296 seg < t * val 4294967296 vs → ρ 0 = .ref b g o L c → ρ 1 = .ref b2 g2 0 n2 c2 → ρ 7 = VK .u64 0 → ρ 58 = VI L → ρ 59 = VI 0 →
      VW ⟨true, false⟩ lo (.loop impl_takeAway_b1) (onExit 2 (onNormal (VW ⟨true, false⟩ lo (.seq (.reg [⟨(some 6), (.mv (.const (.bool true))), none, false, []⟩]) .ret) (vretQ [.tmp 6] fun r H' => ∃ seg' : List Nat, H' = H.set b (.row g ((pre ++ seg' ++ post).map uV) 1 true) ∧ seg'.length = L ∧ (∀ d ∈ seg', d < 4294967296) ∧ ((r = VB false ∧ val 4294967296 seg' + t * val 4294967296 vs = val 4294967296 seg) ∨ (r = VB true ∧ val 4294967296 seg < t * val 4294967296 vs ∧ val 4294967296 seg' + t * val 4294967296 vs = val 4294967296 seg + val 4294967296 vs)))) (vretQ [.tmp 6] fun r H' => ∃ seg' : List Nat, H' = H.set b (.row g ((pre ++ seg' ++ post).map uV) 1 true) ∧ seg'.length = L ∧ (∀ d ∈ seg', d < 4294967296) ∧ ((r = VB false ∧ val 4294967296 seg' + t * val 4294967296 vs = val 4294967296 seg) ∨ (r = VB true ∧ val 4294967296 seg < t * val 4294967296 vs ∧ val 4294967296 seg' + t * val 4294967296 vs = val 4294967296 seg + val 4294967296 vs))))) ρ (H.set b (.row g ((pre ++ s ++ post).map uV) 1 true)) := by
    intro ρ s hs hsd hend hlts g0 g1 g7 g58 g59
    refine VW_loop (fun (u : Nat × List Nat × Nat) ρ K => u.1 ≤ L ∧ K = H.set b (.row g ((pre ++ u.2.1 ++ post).map uV) 1 true) ∧ u.2.1.length = L ∧ (∀ d ∈ u.2.1, d < 4294967296) ∧ u.2.2 ≤ 1 ∧ val 4294967296 (s.take u.1) + val 4294967296 (vs.take u.1) = val 4294967296 (u.2.1.take u.1) + 4294967296 ^ u.1 * u.2.2 ∧ (∀ j, u.1 ≤ j → u.2.1[j]? = s[j]?) ∧
      ρ 0 = .ref b g o L c ∧ ρ 1 = .ref b2 g2 0 n2 c2 ∧ ρ 7 = VK .u64 u.2.2 ∧ ρ 58 = VI L ∧ ρ 59 = VI u.1) (fun u => L - u.1) (0, s, 0) ⟨Nat.zero_le _, rfl, hs, hsd, by simp, by simp [val], fun _ _ => rfl, g0, g1, g7, g58, g59⟩ ?_
    rintro ⟨i, outs, cy⟩ ρ2 K ⟨hi, rfl, hol, hod, hc, hv, hag, k0, k1, k7, k58, k59⟩
    simp only at hi hol hod hc hv hag k7 k59
    by_cases hin : (i : Int) < (L : Int)
    · obtain ⟨x, hx⟩ : ∃ x, outs[i]? = some x := ⟨_, List.getElem?_eq_getElem (by omega)⟩
      have lx := hod x (List.mem_of_getElem? hx)
      have hx' : s[i]? = some x := by rw [← hag i (Nat.le_refl _)]; exact hx
      have e1 : viaddr 1 (.ref b g o L c) (VI i) (H.set b (.row g ((pre ++ outs ++ post).map uV) 1 true)) = some (.ptr b g (o + i) 0) := viaddr_row (rd outs hol) (by omega)
      have e2 : vload false 1 (.ptr b g (o + i) 0) (H.set b (.row g ((pre ++ outs ++ post).map uV) 1 true)) = some (uV x) := vload_nat (rd outs hol) (by rw [get_mid ho (by omega)]; exact hx)
      have e3 : ∀ d : Nat, vstore lo 1 (.ptr b g (o + i) 0) (uV d) (H.set b (.row g ((pre ++ outs ++ post).map uV) 1 true)) = some (H.set b (.row g ((pre ++ outs.set i d ++ post).map uV) 1 true)) := fun d => by
        rw [st_seg (rd outs hol) ho (by omega) hlo, set_set_row]
      have e4 := e00 (rd2 outs)
      have w1 : IntKind.u64.wrap (x : Int) = (x : Int) := wrapU _ (by omega)
      have w2 : IntKind.u64.wrap ((cy : Int) + (x : Int)) = ((cy + x : Nat) : Int) := by rw [← Int.natCast_add]; exact wrapU _ (by omega)
      have wii := wi i (by omega)
      have step : ∀ y, y < 4294967296 → (∀ d, vs[i]? = some d → d = y) → (vs.length ≤ i → y = 0) →
          (i + 1 ≤ L ∧ (outs.set i ((cy + x + y) % 4294967296)).length = L ∧ (∀ d ∈ outs.set i ((cy + x + y) % 4294967296), d < 4294967296) ∧ (cy + x + y) / 4294967296 ≤ 1 ∧ val 4294967296 (s.take (i + 1)) + val 4294967296 (vs.take (i + 1)) = val 4294967296 ((outs.set i ((cy + x + y) % 4294967296)).take (i + 1)) + 4294967296 ^ (i + 1) * ((cy + x + y) / 4294967296)) ∧ ∀ j, i + 1 ≤ j → (outs.set i ((cy + x + y) % 4294967296))[j]? = s[j]? := by
        intro y hy h1 h2
        refine ⟨⟨by omega, by rw [List.length_set]; exact hol, set_lt hod (Nat.mod_lt _ (by decide)), by omega, ?_⟩, fun j hj => by rw [List.getElem?_set_ne (by omega)]; exact hag j (by omega)⟩
        have hy' : val 4294967296 (vs.take (i + 1)) = val 4294967296 (vs.take i) + 4294967296 ^ i * y := by
          cases hyi : vs[i]? with
          | some d => rw [val_take_succ hyi, h1 d hyi]
          | none =>
            have hle := List.getElem?_eq_none_iff.1 hyi
            rw [h2 hle, val_take_ge hle, val_take_ge (by omega), Nat.mul_zero, Nat.add_zero]
        rw [val_take_succ hx', hy', val_set_take (by omega), Nat.pow_succ]
        exact carry_step hv rfl (Nat.mod_add_div _ _)
      by_cases hlt : (i : Int) < (n2 : Int)
      · obtain ⟨y, hy⟩ : ∃ y, vs[i]? = some y := ⟨_, List.getElem?_eq_getElem (by omega)⟩
        have ly := hvd y (List.mem_of_getElem? hy)
        have f1 : viaddr 1 (.ref b2 g2 0 n2 c2) (VI i) (H.set b (.row g ((pre ++ outs ++ post).map uV) 1 true)) = some (.ptr b2 g2 i 0) := by rw [viaddr_row (rd2 outs) (by omega), Nat.zero_add]
        have f2 : vload false 1 (.ptr b2 g2 i 0) (H.set b (.row g ((pre ++ outs ++ post).map uV) 1 true)) = some (uV y) := vload_nat (rd2 outs) (by rw [hget i (by omega)]; exact hy)
        have w3 : IntKind.u64.wrap (y : Int) = (y : Int) := wrapU _ (by omega)
        have w4 : IntKind.u64.wrap (((cy + x : Nat) : Int) + (y : Int)) = ((cy + x + y : Nat) : Int) := by rw [← Int.natCast_add]; exact wrapU _ (by omega)
        obtain ⟨⟨s1, s2, s3, s4, s5⟩, s6⟩ := step y ly (fun d hd => by rw [hy] at hd; injection hd with hd; exact hd.symm) (fun h => by omega)
        simp only [impl_takeAway_b1, k0, k1, k7, k58, k59, hin, hlt, e1, e2, e3, e4, f1, f2, w1, w2, w3, w4, wii, wrap32, shr_u64, VX, Nat.reduceEqDiff, Nat.reduceAdd]
        exact ⟨(i + 1, outs.set i ((cy + x + y) % 4294967296), (cy + x + y) / 4294967296), by simp only; omega, s1, rfl, s2, s3, s4, s5, s6, by (repeat' apply And.intro) <;> first | rfl | trivial⟩
      · obtain ⟨⟨s1, s2, s3, s4, s5⟩, s6⟩ := step 0 (by decide) (fun d hd => by have := (List.getElem?_eq_some_iff.1 hd).1; omega) (fun _ => rfl)
        simp only [Nat.add_zero] at s2 s3 s4 s5 s6
        simp only [impl_takeAway_b1, k0, k1, k7, k58, k59, hin, hlt, e1, e2, e3, e4, w1, w2, wii, wrap32, shr_u64, VX, Nat.reduceEqDiff, Nat.reduceAdd]
        exact ⟨(i + 1, outs.set i ((cy + x) % 4294967296), (cy + x) / 4294967296), by simp only; omega, s1, rfl, s2, s3, s4, s5, s6, by (repeat' apply And.intro) <;> first | rfl | trivial⟩
    · have hie : i = L := by omega
      subst hie
      rw [List.take_of_length_le (by omega), List.take_of_length_le (by omega), List.take_of_length_le (by omega)] at hv
      simp only [impl_takeAway_b1, k0, k1, k7, k58, k59, hin, VX, Nat.reduceEqDiff, Nat.reduceAdd]
      exact ⟨outs, rfl, hol, hod, .inr ⟨hlts, hend outs hol hod cy hv⟩⟩
  simp only [impl_takeAway, impl_takeAway_c, e0 hr, VX, Nat.reduceEqDiff, Nat.reduceAdd]
  refine VW_loop (fun (u : Nat × List Nat × Nat × Nat) ρ K => u.1 ≤ L ∧ K = H.set b (.row g ((pre ++ u.2.1 ++ post).map uV) 1 true) ∧ u.2.1.length = L ∧ (∀ d ∈ u.2.1, d < 4294967296) ∧ u.2.2.1 < 4294967296 ∧ u.2.2.2 ≤ 1 ∧ val 4294967296 (seg.take u.1) + 4294967296 ^ u.1 * (u.2.2.1 + u.2.2.2) = val 4294967296 (u.2.1.take u.1) + t * val 4294967296 (vs.take u.1) ∧ (∀ j, u.1 ≤ j → u.2.1[j]? = seg[j]?) ∧
    ρ 0 = .ref b g o L c ∧ ρ 1 = .ref b2 g2 0 n2 c2 ∧ ρ 2 = VK .u64 t ∧ ρ 7 = VK .u64 u.2.2.1 ∧ ρ 8 = VI u.2.2.2 ∧ ρ 13 = VI L ∧ ρ 14 = VI u.1) (fun u => L - u.1) (0, seg, 0, 0) ⟨Nat.zero_le _, (set_same_row hr).symm, hL, hseg, by simp, by simp, by simp [val], fun _ _ => rfl, by (repeat' apply And.intro) <;> first | rfl | trivial⟩ ?_
  rintro ⟨i, outs, cy, l⟩ ρ K ⟨hi, rfl, hol, hod, hc, hl1, hv, hag, k0, k1, k2, k7, k8, k13, k14⟩
  simp only at hi hol hod hc hl1 hv hag k7 k8 k14
  by_cases hin : (i : Int) < (L : Int)
  · obtain ⟨x, hx⟩ : ∃ x, outs[i]? = some x := ⟨_, List.getElem?_eq_getElem (by omega)⟩
    have lx := hod x (List.mem_of_getElem? hx)
    have hx' : seg[i]? = some x := by rw [← hag i (Nat.le_refl _)]; exact hx
    have e1 : viaddr 1 (.ref b g o L c) (VI i) (H.set b (.row g ((pre ++ outs ++ post).map uV) 1 true)) = some (.ptr b g (o + i) 0) := viaddr_row (rd outs hol) (by omega)
    have e2 : vload false 1 (.ptr b g (o + i) 0) (H.set b (.row g ((pre ++ outs ++ post).map uV) 1 true)) = some (uV x) := vload_nat (rd outs hol) (by rw [get_mid ho (by omega)]; exact hx)
    have e3 : ∀ d : Nat, vstore lo 1 (.ptr b g (o + i) 0) (uV d) (H.set b (.row g ((pre ++ outs ++ post).map uV) 1 true)) = some (H.set b (.row g ((pre ++ outs.set i d ++ post).map uV) 1 true)) := fun d => by
      rw [st_seg (rd outs hol) ho (by omega) hlo, set_set_row]
    have e4 := e00 (rd2 outs)
    have wii := wi i (by omega)
    have w1 : IntKind.i64.wrap (x : Int) = (x : Int) := wrapN x rfl (by omega)
    -- one place, whatever the divisor's digit
    have step : ∀ y c1, y < 4294967296 → c1 = cy + t * y → (∀ d, vs[i]? = some d → d = y) → (vs.length ≤ i → y = 0) →
        c1 / 4294967296 < 4294967296 ∧ IntKind.i64.wrap ((x : Int) - ((c1 % 4294967296 : Nat) : Int) - (l : Int)) = (x : Int) - ((c1 % 4294967296 : Nat) : Int) - (l : Int) ∧ IntKind.i64.wrap ((x : Int) - ((c1 % 4294967296 : Nat) : Int)) = (x : Int) - ((c1 % 4294967296 : Nat) : Int) ∧
        ∃ r l', l' ≤ 1 ∧ ((x : Int) - ((c1 % 4294967296 : Nat) : Int) - (l : Int) < 0 ↔ l' = 1) ∧ IntKind.u32.wrap ((x : Int) - ((c1 % 4294967296 : Nat) : Int) - (l : Int)) = ((r : Nat) : Int) ∧
        (i + 1 ≤ L ∧ (outs.set i r).length = L ∧ (∀ d ∈ outs.set i r, d < 4294967296) ∧ c1 / 4294967296 < 4294967296 ∧ l' ≤ 1 ∧ val 4294967296 (seg.take (i + 1)) + 4294967296 ^ (i + 1) * (c1 / 4294967296 + l') = val 4294967296 ((outs.set i r).take (i + 1)) + t * val 4294967296 (vs.take (i + 1)) ∧ ∀ j, i + 1 ≤ j → (outs.set i r)[j]? = seg[j]?) := by
      intro y c1 hy hc1 h1 h2
      have hty : t * y ≤ 4294967295 * 4294967295 := Nat.mul_le_mul (by omega) (by omega)
      have hm := Nat.mod_lt c1 (show 0 < 4294967296 by decide)
      have hdv := Nat.mod_add_div c1 4294967296
      have hq : c1 / 4294967296 < 4294967296 := Nat.div_lt_of_lt_mul (by omega)
      refine ⟨hq, wrap64 (by omega) (by omega), wrap64 (by omega) (by omega), ?_⟩
      obtain ⟨r, l', hl', hr', hd, hlw, hneg⟩ : ∃ r l' : Nat, l' ≤ 1 ∧ r < 4294967296 ∧ r + c1 % 4294967296 + l = x + 4294967296 * l' ∧ IntKind.u32.wrap ((x : Int) - ((c1 % 4294967296 : Nat) : Int) - (l : Int)) = ((r : Nat) : Int) ∧ ((x : Int) - ((c1 % 4294967296 : Nat) : Int) - (l : Int) < 0 ↔ l' = 1) := by
        by_cases hn : (x : Int) - ((c1 % 4294967296 : Nat) : Int) - (l : Int) < 0
        · exact ⟨x + 4294967296 - c1 % 4294967296 - l, 1, by omega, by omega, by omega, wrap_neg (by omega) hn (by omega), fun _ => rfl, fun _ => hn⟩
        · exact ⟨x - c1 % 4294967296 - l, 0, by omega, by omega, by omega, by rw [IntKind.wrap_u32]; omega, fun h => absurd h hn, fun h => by omega⟩
      refine ⟨r, l', hl', hneg, hlw, by omega, by rw [List.length_set]; exact hol, set_lt hod hr', hq, hl', ?_, fun j hj => by rw [List.getElem?_set_ne (by omega)]; exact hag j (by omega)⟩
      have hy' : val 4294967296 (vs.take (i + 1)) = val 4294967296 (vs.take i) + 4294967296 ^ i * y := by
        cases hyi : vs[i]? with
        | some d => rw [val_take_succ hyi, h1 d hyi]
        | none =>
          have hle := List.getElem?_eq_none_iff.1 hyi
          rw [h2 hle, val_take_ge hle, val_take_ge (by omega), Nat.mul_zero, Nat.add_zero]
      rw [val_take_succ hx', hy', val_set_take (by omega), Nat.pow_succ]
      have := away_step hv hc1 hdv.symm hd
      rw [this, Nat.mul_add, Nat.mul_left_comm t]
    by_cases hlt : (i : Int) < (n2 : Int)
    · obtain ⟨y, hy⟩ : ∃ y, vs[i]? = some y := ⟨_, List.getElem?_eq_getElem (by omega)⟩
      have ly := hvd y (List.mem_of_getElem? hy)
      have f1 : viaddr 1 (.ref b2 g2 0 n2 c2) (VI i) (H.set b (.row g ((pre ++ outs ++ post).map uV) 1 true)) = some (.ptr b2 g2 i 0) := by rw [viaddr_row (rd2 outs) (by omega), Nat.zero_add]
      have f2 : vload false 1 (.ptr b2 g2 i 0) (H.set b (.row g ((pre ++ outs ++ post).map uV) 1 true)) = some (uV y) := vload_nat (rd2 outs) (by rw [hget i (by omega)]; exact hy)
      have w3 : IntKind.u64.wrap (y : Int) = (y : Int) := wrapU _ (by omega)
      have hty : t * y ≤ 4294967295 * 4294967295 := Nat.mul_le_mul (by omega) (by omega)
      have w4 : IntKind.u64.wrap ((t : Int) * (y : Int)) = ((t * y : Nat) : Int) := by rw [← Int.natCast_mul]; exact wrapU _ (by omega)
      have w5 : IntKind.u64.wrap ((cy : Int) + ((t * y : Nat) : Int)) = ((cy + t * y : Nat) : Int) := by rw [← Int.natCast_add]; exact wrapU _ (by omega)
      have w6 : IntKind.i64.wrap (((cy + t * y) % 4294967296 : Nat) : Int) = (((cy + t * y) % 4294967296 : Nat) : Int) := wrapN _ rfl (by omega)
      obtain ⟨_, a1, a2, r, l', hl', hneg, hw, s1, s2, s3, s4, s5, s6, s7⟩ := step y (cy + t * y) ly rfl (fun d hd => by rw [hy] at hd; injection hd with hd; exact hd.symm) (fun h => by omega)
      by_cases hn : (x : Int) - (((cy + t * y) % 4294967296 : Nat) : Int) - (l : Int) < 0
      · have := hneg.1 hn
        subst this
        simp only [impl_takeAway_b0, k0, k1, k2, k7, k8, k13, k14, hin, hlt, e1, e2, e3, e4, f1, f2, w1, w3, w4, w5, w6, a1, a2, hn, hw, wii, wrap32, shr_u64, VX, Nat.reduceEqDiff, Nat.reduceAdd]
        exact ⟨(i + 1, outs.set i r, (cy + t * y) / 4294967296, 1), by simp only; omega, s1, rfl, s2, s3, s4, s5, s6, s7, by (repeat' apply And.intro) <;> first | rfl | trivial⟩
      · have : l' = 0 := by
          have : l' ≠ 1 := fun h => hn (hneg.2 h)
          omega
        subst this
        simp only [impl_takeAway_b0, k0, k1, k2, k7, k8, k13, k14, hin, hlt, e1, e2, e3, e4, f1, f2, w1, w3, w4, w5, w6, a1, a2, hn, hw, wii, wrap32, shr_u64, VX, Nat.reduceEqDiff, Nat.reduceAdd]
        exact ⟨(i + 1, outs.set i r, (cy + t * y) / 4294967296, 0), by simp only; omega, s1, rfl, s2, s3, s4, s5, s6, s7, by (repeat' apply And.intro) <;> first | rfl | trivial⟩
    · have w6 : IntKind.i64.wrap ((cy % 4294967296 : Nat) : Int) = ((cy % 4294967296 : Nat) : Int) := wrapN _ rfl (by omega)
      obtain ⟨_, a1, a2, r, l', hl', hneg, hw, s1, s2, s3, s4, s5, s6, s7⟩ := step 0 cy (by decide) (by simp) (fun d hd => by have := (List.getElem?_eq_some_iff.1 hd).1; omega) (fun _ => rfl)
      by_cases hn : (x : Int) - ((cy % 4294967296 : Nat) : Int) - (l : Int) < 0
      · have := hneg.1 hn
        subst this
        simp only [impl_takeAway_b0, k0, k1, k2, k7, k8, k13, k14, hin, hlt, e1, e2, e3, e4, w1, w6, a1, a2, hn, hw, wii, wrap32, shr_u64, VX, Nat.reduceEqDiff, Nat.reduceAdd]
        exact ⟨(i + 1, outs.set i r, cy / 4294967296, 1), by simp only; omega, s1, rfl, s2, s3, s4, s5, s6, s7, by (repeat' apply And.intro) <;> first | rfl | trivial⟩
      · have : l' = 0 := by
          have : l' ≠ 1 := fun h => hn (hneg.2 h)
          omega
        subst this
        simp only [impl_takeAway_b0, k0, k1, k2, k7, k8, k13, k14, hin, hlt, e1, e2, e3, e4, w1, w6, a1, a2, hn, hw, wii, wrap32, shr_u64, VX, Nat.reduceEqDiff, Nat.reduceAdd]
        exact ⟨(i + 1, outs.set i r, cy / 4294967296, 0), by simp only; omega, s1, rfl, s2, s3, s4, s5, s6, s7, by (repeat' apply And.intro) <;> first | rfl | trivial⟩
  · have hie : i = L := by omega
    subst hie
    rw [List.take_of_length_le (by omega), List.take_of_length_le (by omega), List.take_of_length_le (by omega)] at hv
    have hol' := val_lt hod
    rw [hol] at hol'
    by_cases hz : l = 0 ∧ cy = 0
    · obtain ⟨rfl, rfl⟩ := hz
      simp only [impl_takeAway_b0, k0, k1, k2, k7, k8, k13, k14, hin, Int.natCast_zero, VX, Nat.reduceEqDiff, Nat.reduceAdd]
      exact ⟨outs, rfl, hol, hod, .inl (by simpa using hv.symm)⟩
    · have hone : cy + l = 1 := by
        rcases away_end hv hol' hVL hfit with h | h <;> omega
      rw [hone, Nat.mul_one] at hv
      have hlts : val 4294967296 seg < t * val 4294967296 vs := by omega
      have fin : ∀ s2 : List Nat, s2.length = i → (∀ d ∈ s2, d < 4294967296) → ∀ c, val 4294967296 outs + val 4294967296 vs = val 4294967296 s2 + 4294967296 ^ i * c → val 4294967296 s2 + t * val 4294967296 vs = val 4294967296 seg + val 4294967296 vs := by
        intro s2 h2 h3 c h4
        have h5 := val_lt h3
        rw [h2] at h5
        exact back_end hv h4 h5 hVL hfit hsl (by omega)
      have hlen := e0 (rd outs hol)
      by_cases hl0 : (l : Int) = 0
      · have hcy : ¬ (cy : Int) = 0 := by omega
        simp only [impl_takeAway_b0, k0, k1, k2, k7, k8, k13, k14, hin, hl0, hcy, hlen, VX, Nat.reduceEqDiff, Nat.reduceAdd]
        exact back _ outs hol hod fin hlts k0 k1 (by rfl) (by rfl) (by rfl)
      · simp only [impl_takeAway_b0, k0, k1, k2, k7, k8, k13, k14, hin, hl0, hlen, VX, Nat.reduceEqDiff, Nat.reduceAdd]
        exact back _ outs hol hod fin hlts k0 k1 (by rfl) (by rfl) (by rfl)
end Go.PM

/- The reference's numbers of at least 0: a multiple taken off from a row of digits, and put back. -/
namespace Go.PM
section
variable {H : VHeap} {b g o i lo d : Nat} {L R : List VV} {low : List Nat}
theorem seg_rd (hr : vrow H b g = some (L ++ low.map tV ++ R, 1, true)) (ho : L.length = o) (hi : low[i]? = some d) : vload false 1 (.ptr b g (o + i) 0) H = some (VI (d : Int)) := by
  have hlt := (List.getElem?_eq_some_iff.1 hi).1
  rw [vload_p hr (x := tV d) (by rw [get_mid ho (by simpa using hlt)]; simp [hi])]
  rfl
theorem seg_wr (hr : vrow H b g = some (L ++ low.map tV ++ R, 1, true)) (ho : L.length = o) (hi : i < low.length) (hlo : lo ≤ b) : vstore lo 1 (.ptr b g (o + i) 0) (VI (d : Int)) H = some (H.set b (.row g (L ++ (low.set i d).map tV ++ R) 1 true)) := by
  rw [vstore_all hr (by simp only [List.length_append, List.length_map]; omega) hlo rfl rfl, set_mid ho (by simpa using hi), List.map_set]
theorem top_rd {n : Nat} {z : Int} (hr : vrow H b g = some (L ++ low.map tV ++ VI z :: R, 1, true)) (ho : L.length = o) (hn : low.length = n) : vload false 1 (.ptr b g (o + n) 0) H = some (VI z) := by
  rw [vload_p hr (x := VI z) (by rw [List.getElem?_append_right (by simp; omega)]; simp [ho, hn])]
  rfl
theorem top_wr {n : Nat} {z z' : Int} (hr : vrow H b g = some (L ++ low.map tV ++ VI z :: R, 1, true)) (ho : L.length = o) (hn : low.length = n) (hlo : lo ≤ b) : vstore lo 1 (.ptr b g (o + n) 0) (VI z') H = some (H.set b (.row g (L ++ low.map tV ++ VI z' :: R) 1 true)) := by
  rw [vstore_all hr (by simp only [List.length_append, List.length_map, List.length_cons]; omega) hlo rfl rfl, List.set_append_right _ _ (by simp; omega)]
  congr 5
  simp [ho, hn]
end
theorem takeoff_step {P A N B c u x t r k m q T : Nat} (h : A + P * c = N + t * B) (h1 : r + m + c = u + T * k) (h2 : m + T * q = x * t) : (A + P * u) + P * T * (q + k) = (N + P * r) + t * (B + P * x) := by
  have e1 : P * (r + m + c) = P * (u + T * k) := by rw [h1]
  have e2 : P * (m + T * q) = P * (x * t) := by rw [h2]
  grind
theorem mul_lt_T {x t : Nat} (hx : x < 1000000000) (ht : t < 1000000000) : x * t ≤ 999999998000000001 ∧ x * t / 1000000000 ≤ 999999998 := by
  have h : x * t ≤ 999999999 * 999999999 := Nat.mul_le_mul (by omega) (by omega)
  omega
theorem takeOff_v {H : VHeap} {lo b g o n N t top : Nat} {L R : List VV} {low vs : List Nat} (hr : vrow H b g = some (L ++ low.map tV ++ VI (top : Int) :: R, 1, true)) (hlo : lo ≤ b) (ho : L.length = o) (hl : low.length = n) (hvl : vs.length = n) (hN : o + n < N) (hcap : N ≤ 70368744177664)
    (hld : ∀ d ∈ low, d < 1000000000) (hvd : ∀ d ∈ vs, d < 1000000000) (ht : t < 1000000000) (htop : top < 1000000000) :
    VRaw 55 [.ref b g 0 N N, natL' vs, VI (o : Int), VI (t : Int)] lo H fun r H' => ∃ (low' : List Nat) (c : Nat), H' = H.set b (.row g (L ++ low'.map tV ++ VI ((top : Int) - (c : Int)) :: R) 1 true) ∧ low'.length = n ∧ (∀ d ∈ low', d < 1000000000) ∧ c ≤ 1000000000 ∧
      r = VB (decide ((top : Int) - (c : Int) < 0)) ∧ val 1000000000 low + 1000000000 ^ n * c = val 1000000000 low' + t * val 1000000000 vs := by
  refine VRaw.walk ⟨true, false⟩ spec_l01TakeOff_t (Nat.le_of_ble_eq_true rfl) ?_
  have rd : ∀ (s : List Nat) (z : Int), vrow (H.set b (.row g (L ++ s.map tV ++ VI z :: R) 1 true)) b g = some (L ++ s.map tV ++ VI z :: R, 1, true) := fun s z => vrow_set_self hr
  have ad : ∀ (K : VHeap) (es : List VV) (i : Nat), vrow K b g = some (es, 1, true) → i ≤ n → viaddr 1 (.ref b g 0 N N) (VI ((o + i : Nat) : Int)) K = some (.ptr b g (o + i) 0) := fun K es i h hi => by rw [viaddr_row h (by omega), Nat.zero_add]
  simp only [spec_l01TakeOff, spec_l01TakeOff_c, vlen_map, VX, Nat.reduceEqDiff, Nat.reduceAdd]
  refine VW_loop (fun (u : Nat × List Nat × Nat) ρ K => u.1 ≤ n ∧ K = H.set b (.row g (L ++ u.2.1.map tV ++ VI (top : Int) :: R) 1 true) ∧ u.2.1.length = n ∧ (∀ d ∈ u.2.1, d < 1000000000) ∧ u.2.2 ≤ 1000000000 ∧ val 1000000000 (low.take u.1) + 1000000000 ^ u.1 * u.2.2 = val 1000000000 (u.2.1.take u.1) + t * val 1000000000 (vs.take u.1) ∧ (∀ j, u.1 ≤ j → u.2.1[j]? = low[j]?) ∧
    ρ 0 = .ref b g 0 N N ∧ ρ 1 = natL' vs ∧ ρ 2 = VI o ∧ ρ 3 = VI t ∧ ρ 9 = VI u.2.2 ∧ ρ 13 = natL' vs ∧ ρ 14 = VI vs.length ∧ ρ 15 = VI u.1) (fun u => n - u.1) (0, low, 0) ⟨Nat.zero_le _, (set_same_row hr).symm, hl, hld, by simp, by simp [val], fun _ _ => rfl, by (repeat' apply And.intro) <;> first | rfl | trivial⟩ ?_
  rintro ⟨i, outs, c⟩ ρ K ⟨hi, rfl, hol, hod, hc, hv, hag, k0, k1, k2, k3, k9, k13, k14, k15⟩
  simp only at hi hol hod hc hv hag k9 k15
  by_cases hin : (i : Int) < (vs.length : Int)
  · obtain ⟨u, hu⟩ : ∃ u, outs[i]? = some u := ⟨_, List.getElem?_eq_getElem (by omega)⟩
    have lu := hod u (List.mem_of_getElem? hu)
    have hu' : low[i]? = some u := by rw [← hag i (Nat.le_refl _)]; exact hu
    obtain ⟨x, hx⟩ : ∃ x, vs[i]? = some x := ⟨_, List.getElem?_eq_getElem (by omega)⟩
    have lx := hvd x (List.mem_of_getElem? hx)
    obtain ⟨xt1, xt2⟩ := mul_lt_T lx ht
    have e1 : viaddr 1 (natL' vs) (VI i) (H.set b (.row g (L ++ outs.map tV ++ VI (top : Int) :: R) 1 true)) = some (.tptr (tV x) 0) := viaddr_map (f := tV) (t := .op) (size := 1) (k := .i64) hx rfl
    have w1 : IntKind.i64.wrap ((o : Int) + (i : Int)) = ((o + i : Nat) : Int) := wrapN _ (by omega) (by omega)
    have e2 := ad _ _ i (rd outs top) (by omega)
    have e3 := seg_rd (rd outs top) ho hu
    have e4 : ∀ d : Nat, vstore lo 1 (.ptr b g (o + i) 0) (VI (d : Int)) (H.set b (.row g (L ++ outs.map tV ++ VI (top : Int) :: R) 1 true)) = some (H.set b (.row g (L ++ (outs.set i d).map tV ++ VI (top : Int) :: R) 1 true)) := fun d => by rw [seg_wr (rd outs top) ho (by omega) hlo, set_set_row]
    have w2 : IntKind.i64.wrap ((x : Int) * (t : Int)) = ((x * t : Nat) : Int) := wrapN _ (by simp) (by omega)
    have r1 := rem_T (x * t)
    have q1 := quo_T (x * t) (by omega)
    have hm := Nat.mod_lt (x * t) (show 0 < 1000000000 by decide)
    have hdv := Nat.mod_add_div (x * t) 1000000000
    have wi : IntKind.i64.wrap ((i : Int) + 1) = ((i + 1 : Nat) : Int) := wrapN (i + 1) (by omega) (by omega)
    generalize hmq : x * t % 1000000000 = m at *
    generalize hqq : x * t / 1000000000 = q at *
    have w3 : IntKind.i64.wrap ((u : Int) - (m : Int)) = (u : Int) - (m : Int) := wrap64 (by omega) (by omega)
    have w4 : IntKind.i64.wrap ((u : Int) - (m : Int) - (c : Int)) = (u : Int) - (m : Int) - (c : Int) := wrap64 (by omega) (by omega)
    have step : ∀ r k : Nat, r < 1000000000 → r + m + c = u + 1000000000 * k → val 1000000000 (low.take (i + 1)) + 1000000000 ^ (i + 1) * (q + k) = val 1000000000 ((outs.set i r).take (i + 1)) + t * val 1000000000 (vs.take (i + 1)) ∧ (∀ d ∈ outs.set i r, d < 1000000000) ∧ (∀ j, i + 1 ≤ j → (outs.set i r)[j]? = low[j]?) ∧ (outs.set i r).length = n := by
      intro r k hr hk
      refine ⟨?_, set_lt hod hr, fun j hj => by rw [List.getElem?_set_ne (by omega)]; exact hag j (by omega), by rw [List.length_set]; exact hol⟩
      rw [val_take_succ hu', val_take_succ hx, val_set_take (by omega), Nat.pow_succ]
      exact takeoff_step hv hk hdv
    by_cases h1 : (u : Int) - (m : Int) - (c : Int) < 0
    · have w5 : IntKind.i64.wrap ((u : Int) - (m : Int) - (c : Int) + 1000000000) = (u : Int) - (m : Int) - (c : Int) + 1000000000 := wrap64 (by omega) (by omega)
      have w6 : IntKind.i64.wrap ((q : Int) + 1) = ((q + 1 : Nat) : Int) := wrapN _ (by omega) (by omega)
      by_cases h2 : (u : Int) - (m : Int) - (c : Int) + 1000000000 < 0
      · obtain ⟨r, hr⟩ : ∃ r : Nat, r + m + c = u + 1000000000 * 2 := ⟨u + 1000000000 * 2 - m - c, by omega⟩
        have w7 : IntKind.i64.wrap ((u : Int) - (m : Int) - (c : Int) + 1000000000 + 1000000000) = (r : Int) := wrapN r (by omega) (by omega)
        have w8 : IntKind.i64.wrap (((q + 1 : Nat) : Int) + 1) = ((q + 2 : Nat) : Int) := wrapN _ (by omega) (by omega)
        obtain ⟨s1, s2, s3, s4⟩ := step r 2 (by omega) hr
        simp only [spec_l01TakeOff_b0, k0, k1, k2, k3, k9, k13, k14, k15, hin, e1, e2, e3, e4, w1, w2, w3, w4, w5, w6, w7, w8, wi, r1, q1, h1, h2, VX, Nat.reduceEqDiff, Nat.reduceAdd]
        refine ⟨(i + 1, outs.set i r, q + 2), by simp only; omega, by omega, rfl, s4, s2, by simp only; omega, s1, s3, ?_⟩
        try (repeat' apply And.intro) <;> first | rfl | trivial
      · obtain ⟨r, hr⟩ : ∃ r : Nat, r + m + c = u + 1000000000 * 1 := ⟨u + 1000000000 * 1 - m - c, by omega⟩
        have w7 : IntKind.i64.wrap ((u : Int) - (m : Int) - (c : Int) + 1000000000) = (r : Int) := wrapN r (by omega) (by omega)
        have h3 : ¬ (r : Int) < 0 := by omega
        obtain ⟨s1, s2, s3, s4⟩ := step r 1 (by omega) hr
        simp only [spec_l01TakeOff_b0, k0, k1, k2, k3, k9, k13, k14, k15, hin, e1, e2, e3, e4, w1, w2, w3, w4, w6, w7, wi, r1, q1, h1, h3, VX, Nat.reduceEqDiff, Nat.reduceAdd]
        refine ⟨(i + 1, outs.set i r, q + 1), by simp only; omega, by omega, rfl, s4, s2, by simp only; omega, s1, s3, ?_⟩
        try (repeat' apply And.intro) <;> first | rfl | trivial
    · obtain ⟨r, hr⟩ : ∃ r : Nat, r + m + c = u + 1000000000 * 0 := ⟨u - m - c, by omega⟩
      have w7 : IntKind.i64.wrap ((u : Int) - (m : Int) - (c : Int)) = (r : Int) := wrapN r (by omega) (by omega)
      have h3 : ¬ (r : Int) < 0 := by omega
      obtain ⟨s1, s2, s3, s4⟩ := step r 0 (by omega) hr
      simp only [spec_l01TakeOff_b0, k0, k1, k2, k3, k9, k13, k14, k15, hin, e1, e2, e3, e4, w1, w2, w3, w7, wi, r1, q1, h3, VX, Nat.reduceEqDiff, Nat.reduceAdd]
      refine ⟨(i + 1, outs.set i r, q), by simp only; omega, by omega, rfl, s4, s2, by simp only; omega, s1, s3, ?_⟩
      try (repeat' apply And.intro) <;> first | rfl | trivial
  · have hie : i = n := by omega
    subst hie
    rw [List.take_of_length_le (by omega), List.take_of_length_le (by omega), List.take_of_length_le (by omega)] at hv
    have w1 : IntKind.i64.wrap ((o : Int) + (vs.length : Int)) = ((o + i : Nat) : Int) := wrapN _ (by omega) (by omega)
    have e2 := ad _ _ i (rd outs top) (by omega)
    have e2' := ad _ _ i (rd outs ((top : Int) - (c : Int))) (by omega)
    have e3 := top_rd (rd outs top) ho hol
    have e3' := top_rd (rd outs ((top : Int) - (c : Int))) ho hol
    have e4 : vstore lo 1 (.ptr b g (o + i) 0) (VI ((top : Int) - (c : Int))) (H.set b (.row g (L ++ outs.map tV ++ VI (top : Int) :: R) 1 true)) = some (H.set b (.row g (L ++ outs.map tV ++ VI ((top : Int) - (c : Int)) :: R) 1 true)) := by rw [top_wr (rd outs top) ho hol hlo, set_set_row]
    have w2 : IntKind.i64.wrap ((top : Int) - (c : Int)) = (top : Int) - (c : Int) := wrap64 (by omega) (by omega)
    simp only [spec_l01TakeOff_b0, k0, k1, k2, k3, k9, k13, k14, k15, hin, vlen_map, w1, w2, e2, e2', e3, e3', e4, VX, Nat.reduceEqDiff, Nat.reduceAdd]
    refine ⟨outs, c, rfl, hol, hod, hc, ?_, hv⟩
    try rfl
theorem putBack_v {H : VHeap} {lo b g o n N : Nat} {z : Int} {L R : List VV} {low vs : List Nat} (hr : vrow H b g = some (L ++ low.map tV ++ VI z :: R, 1, true)) (hlo : lo ≤ b) (ho : L.length = o) (hl : low.length = n) (hvl : vs.length = n) (hN : o + n < N) (hcap : N ≤ 70368744177664)
    (hld : ∀ d ∈ low, d < 1000000000) (hvd : ∀ d ∈ vs, d < 1000000000) (hz : -1000000000 ≤ z) (hz2 : z ≤ 1000000000) :
    VRaw 56 [.ref b g 0 N N, natL' vs, VI (o : Int)] lo H fun r H' => ∃ (low' : List Nat) (c : Nat), H' = H.set b (.row g (L ++ low'.map tV ++ VI (z + (c : Int)) :: R) 1 true) ∧ low'.length = n ∧ (∀ d ∈ low', d < 1000000000) ∧ c ≤ 1 ∧
      val 1000000000 low + val 1000000000 vs = val 1000000000 low' + 1000000000 ^ n * c := by
  refine VRaw.walk ⟨true, false⟩ spec_l01PutBack_t (Nat.le_of_ble_eq_true rfl) ?_
  have rd : ∀ (s : List Nat) (z : Int), vrow (H.set b (.row g (L ++ s.map tV ++ VI z :: R) 1 true)) b g = some (L ++ s.map tV ++ VI z :: R, 1, true) := fun s z => vrow_set_self hr
  have ad : ∀ (K : VHeap) (es : List VV) (i : Nat), vrow K b g = some (es, 1, true) → i ≤ n → viaddr 1 (.ref b g 0 N N) (VI ((o + i : Nat) : Int)) K = some (.ptr b g (o + i) 0) := fun K es i h hi => by rw [viaddr_row h (by omega), Nat.zero_add]
  simp only [spec_l01PutBack, spec_l01PutBack_c, vlen_map, VX, Nat.reduceEqDiff, Nat.reduceAdd]
  refine VW_loop (fun (u : Nat × List Nat × Nat) ρ K => u.1 ≤ n ∧ K = H.set b (.row g (L ++ u.2.1.map tV ++ VI z :: R) 1 true) ∧ u.2.1.length = n ∧ (∀ d ∈ u.2.1, d < 1000000000) ∧ u.2.2 ≤ 1 ∧ val 1000000000 (low.take u.1) + val 1000000000 (vs.take u.1) = val 1000000000 (u.2.1.take u.1) + 1000000000 ^ u.1 * u.2.2 ∧ (∀ j, u.1 ≤ j → u.2.1[j]? = low[j]?) ∧
    ρ 0 = .ref b g 0 N N ∧ ρ 1 = natL' vs ∧ ρ 2 = VI o ∧ ρ 6 = VI u.2.2 ∧ ρ 10 = natL' vs ∧ ρ 11 = VI vs.length ∧ ρ 12 = VI u.1) (fun u => n - u.1) (0, low, 0) ⟨Nat.zero_le _, (set_same_row hr).symm, hl, hld, by simp, by simp [val], fun _ _ => rfl, by (repeat' apply And.intro) <;> first | rfl | trivial⟩ ?_
  rintro ⟨i, outs, c⟩ ρ K ⟨hi, rfl, hol, hod, hc, hv, hag, k0, k1, k2, k6, k10, k11, k12⟩
  simp only at hi hol hod hc hv hag k6 k12
  by_cases hin : (i : Int) < (vs.length : Int)
  · obtain ⟨u, hu⟩ : ∃ u, outs[i]? = some u := ⟨_, List.getElem?_eq_getElem (by omega)⟩
    have lu := hod u (List.mem_of_getElem? hu)
    have hu' : low[i]? = some u := by rw [← hag i (Nat.le_refl _)]; exact hu
    obtain ⟨x, hx⟩ : ∃ x, vs[i]? = some x := ⟨_, List.getElem?_eq_getElem (by omega)⟩
    have lx := hvd x (List.mem_of_getElem? hx)
    have e1 : viaddr 1 (natL' vs) (VI i) (H.set b (.row g (L ++ outs.map tV ++ VI z :: R) 1 true)) = some (.tptr (tV x) 0) := viaddr_map (f := tV) (t := .op) (size := 1) (k := .i64) hx rfl
    have w1 : IntKind.i64.wrap ((o : Int) + (i : Int)) = ((o + i : Nat) : Int) := wrapN _ (by omega) (by omega)
    have e2 := ad _ _ i (rd outs z) (by omega)
    have e3 := seg_rd (rd outs z) ho hu
    have e4 : ∀ d : Nat, vstore lo 1 (.ptr b g (o + i) 0) (VI (d : Int)) (H.set b (.row g (L ++ outs.map tV ++ VI z :: R) 1 true)) = some (H.set b (.row g (L ++ (outs.set i d).map tV ++ VI z :: R) 1 true)) := fun d => by rw [seg_wr (rd outs z) ho (by omega) hlo, set_set_row]
    have w2 : IntKind.i64.wrap ((u : Int) + (x : Int)) = ((u + x : Nat) : Int) := wrapN _ (by omega) (by omega)
    have w3 : IntKind.i64.wrap (((u + x : Nat) : Int) + (c : Int)) = ((u + x + c : Nat) : Int) := wrapN _ (by omega) (by omega)
    have r1 := rem_T (u + x + c)
    have q1 := quo_T (u + x + c) (by omega)
    have wi : IntKind.i64.wrap ((i : Int) + 1) = ((i + 1 : Nat) : Int) := wrapN (i + 1) (by omega) (by omega)
    simp only [spec_l01PutBack_b0, k0, k1, k2, k6, k10, k11, k12, hin, e1, e2, e3, e4, w1, w2, w3, wi, r1, q1, VX, Nat.reduceEqDiff, Nat.reduceAdd]
    refine ⟨(i + 1, outs.set i ((u + x + c) % 1000000000), (u + x + c) / 1000000000), by simp only; omega, by omega, rfl, by rw [List.length_set]; exact hol, set_lt hod (Nat.mod_lt _ (by decide)), by simp only; omega, ?_, fun j hj => by rw [List.getElem?_set_ne (by omega)]; exact hag j (by omega), ?_⟩
    · simp only
      rw [val_take_succ hu', val_take_succ hx, val_set_take (by omega), Nat.pow_succ]
      exact carry_step hv (show c + u + x = u + x + c by omega) (Nat.mod_add_div _ _)
    · try (repeat' apply And.intro) <;> first | rfl | trivial
  · have hie : i = n := by omega
    subst hie
    rw [List.take_of_length_le (by omega), List.take_of_length_le (by omega), List.take_of_length_le (by omega)] at hv
    have w1 : IntKind.i64.wrap ((o : Int) + (vs.length : Int)) = ((o + i : Nat) : Int) := wrapN _ (by omega) (by omega)
    have e2 := ad _ _ i (rd outs z) (by omega)
    have e3 := top_rd (rd outs z) ho hol
    have e4 : vstore lo 1 (.ptr b g (o + i) 0) (VI (z + (c : Int))) (H.set b (.row g (L ++ outs.map tV ++ VI z :: R) 1 true)) = some (H.set b (.row g (L ++ outs.map tV ++ VI (z + (c : Int)) :: R) 1 true)) := by rw [top_wr (rd outs z) ho hol hlo, set_set_row]
    have w2 : IntKind.i64.wrap (z + (c : Int)) = z + (c : Int) := wrap64 (by omega) (by omega)
    simp only [spec_l01PutBack_b0, k0, k1, k2, k6, k10, k11, k12, hin, vlen_map, w1, w2, e2, e3, e4, VX, Nat.reduceEqDiff, Nat.reduceAdd]
    exact ⟨outs, c, rfl, hol, hod, hc, hv⟩
end Go.PM

/- The program's numbers of at least 0: long division. -/
namespace Go.PM
theorem fz_nilD {d : Nat} {H : VHeap} : fz (d + 1) H (.tree [] .nil) = some (natV 0) := by
  rw [natV_zero]
  unfold fz
  have : pureV (.tree [] .nil) = false := by simp [pureV]
  simp only [this, Bool.false_eq_true, if_false]
  rfl
theorem fz_natTD {d : Nat} {H : VHeap} {m : Nat} {t : TK} (ht : t = .cl 1 ∨ t = .op) : fz (d + 2) H (.tree ((digs 4294967296 m).map uV) t) = some (natV m) := by
  rcases ht with rfl | rfl
  · unfold fz
    have : pureV (.tree ((digs 4294967296 m).map uV) (.cl 1)) = false := by simp [pureV]
    simp only [this, Bool.false_eq_true, if_false]
    rw [mapM_pure (pure_map fun _ => rfl)]
    rfl
  · exact fz_pure (natV_pure m)
abbrev H3 (us ws os : List Nat) : VHeap := [.row 0 (us.map uV) 1 true, .row 0 (ws.map uV) 1 true, .row 0 (os.map uV) 1 true]
theorem H3_0 {us ws os : List Nat} : vrow (H3 us ws os) 0 0 = some (us.map uV, 1, true) := rfl
theorem H3_1 {us ws os : List Nat} : vrow (H3 us ws os) 1 0 = some (ws.map uV, 1, true) := rfl
theorem H3_2 {us ws os : List Nat} : vrow (H3 us ws os) 2 0 = some (os.map uV, 1, true) := rfl
theorem seg_facts {us : List Nat} {i n N V : Nat} (hN : us.length = N) (hin : i + n < N) (hd : ∀ d ∈ us, d < 4294967296) (hV : V < 4294967296 ^ n) (hless : val 4294967296 (us.drop (i + 1)) < V) :
    us = us.take i ++ (us.drop i).take (n + 1) ++ us.drop (i + (n + 1)) ∧ (us.take i).length = i ∧ ((us.drop i).take (n + 1)).length = n + 1 ∧ val 4294967296 ((us.drop i).take (n + 1)) < 4294967296 * V ∧ val 4294967296 (us.drop i) = val 4294967296 ((us.drop i).take (n + 1)) ∧ val 4294967296 (us.drop (i + (n + 1))) = 0 ∧ ∀ j, j < n + 1 → ((us.drop i).take (n + 1))[j]? = us[i + j]? := by
  obtain ⟨x, hx⟩ : ∃ x, us[i]? = some x := ⟨_, List.getElem?_eq_getElem (by omega)⟩
  have lx := hd x (List.mem_of_getElem? hx)
  have h1 := val_drop (b := 4294967296) hx
  have h2 : val 4294967296 (us.drop i) < 4294967296 * V := by
    have : 4294967296 * (val 4294967296 (us.drop (i + 1)) + 1) ≤ 4294967296 * V := Nat.mul_le_mul_left _ hless
    omega
  have h3 := val_split (b := 4294967296) (us.drop i) (n + 1)
  have h4 : ((us.drop i).take (n + 1)).length = n + 1 := by rw [List.length_take, List.length_drop]; omega
  rw [h4, List.drop_drop] at h3
  have h5 : val 4294967296 (us.drop (i + (n + 1))) = 0 := by
    rcases Nat.eq_zero_or_pos (val 4294967296 (us.drop (i + (n + 1)))) with h | h
    · exact h
    · have h6 : 4294967296 ^ (n + 1) * 1 ≤ 4294967296 ^ (n + 1) * val 4294967296 (us.drop (i + (n + 1))) := Nat.mul_le_mul_left _ h
      have h7 : 4294967296 * V ≤ 4294967296 ^ (n + 1) := by rw [Nat.pow_succ, Nat.mul_comm]; exact Nat.mul_le_mul_right _ (by omega)
      omega
  rw [h5, Nat.mul_zero, Nat.add_zero] at h3
  refine ⟨?_, by rw [List.length_take]; omega, h4, by omega, h3, h5, fun j hj => ?_⟩
  · rw [List.append_assoc, ← List.drop_drop, List.take_append_drop, List.take_append_drop]
  · rw [List.getElem?_take_of_lt hj, List.getElem?_drop]
theorem shift_digit {x D p w : Nat} (hp : 0 < p) (hw : p * w = 4294967296) : (x + 4294967296 * D) / p = ((D % 4294967296 * 4294967296 + x) / p) % 4294967296 + 4294967296 * (D / p) ∨ ¬ x < 4294967296 := by
  rcases Nat.lt_or_ge x 4294967296 with hx | hx
  · left
    have h1 : (x + 4294967296 * D) / p / 4294967296 = D / p := by
      rw [Nat.div_div_eq_div_mul, Nat.mul_comm p, ← Nat.div_div_eq_div_mul, Nat.add_mul_div_left _ _ (by decide), Nat.div_eq_of_lt hx, Nat.zero_add]
    have h2 : (x + 4294967296 * D) / p % 4294967296 = (D % 4294967296 * 4294967296 + x) / p % 4294967296 := by
      have e : x + 4294967296 * D = (D % 4294967296 * 4294967296 + x) + p * (4294967296 * (w * (D / 4294967296))) := by
        have h3 := Nat.mod_add_div D 4294967296
        have h4 : p * (4294967296 * (w * (D / 4294967296))) = (p * w) * (4294967296 * (D / 4294967296)) := by grind
        rw [h4, hw]
        omega
      rw [e, Nat.add_mul_div_left _ _ hp, Nat.add_mul_mod_self_left]
    have := Nat.mod_add_div ((x + 4294967296 * D) / p) 4294967296
    rw [h1, h2] at this
    exact this.symm
  · right
    omega
theorem bitLen_top {x : Nat} (h0 : x ≠ 0) (hx : x < 4294967296) : ∃ s, s ≤ 31 ∧ TC 64 [uV x] (VI (s : Nat)) ∧ x * 2 ^ s < 4294967296 := by
  obtain ⟨h1, h2, h3⟩ := Lib.bitLenAux_bounds 64 x (by omega) h0
  have h4 : Lib.bitLenAux 64 x - 1 < 32 := by
    have : 2 ^ (Lib.bitLenAux 64 x - 1) < 2 ^ 32 := by omega
    exact (Nat.pow_lt_pow_iff_right (by decide)).1 this
  refine ⟨32 - Lib.bitLenAux 64 x, by omega, ?_, ?_⟩
  · have := leading_v x hx
    have e : (((32 - Lib.bitLenAux 64 x : Nat)) : Int) = 32 - (Lib.bitLen x : Int) := by unfold Lib.bitLen; omega
    rw [e]
    exact this
  · have : 2 ^ Lib.bitLenAux 64 x * 2 ^ (32 - Lib.bitLenAux 64 x) = 4294967296 := by rw [← Nat.pow_add, show Lib.bitLenAux 64 x + (32 - Lib.bitLenAux 64 x) = 32 by omega]
    rw [← this]
    exact Nat.mul_lt_mul_of_pos_right h3 (Nat.pow_pos (by decide))
theorem down_loop {us ws os : List Nat} {k N s w0 : Nat} {ρ : VEnv} {Q : VQ} (hs : s ≤ 31) (hw : 2 ^ s * w0 = 4294967296) (hN : us.length = N) (hk : k ≤ N) (hcap : N ≤ 70368744177664) (hd : ∀ d ∈ us, d < 4294967296) (g8 : ρ 8 = VI s) (g9 : ρ 9 = .ref 0 0 0 k N) (g147 : ρ 147 = VI k) (g148 : ρ 148 = VI 0)
    (hQ : ∀ (ρ' : VEnv) (us' : List Nat), ρ' 9 = .ref 0 0 0 k N → ρ' 13 = ρ 13 → us'.length = N → (∀ d ∈ us', d < 4294967296) → val 4294967296 (us'.take k) = val 4294967296 (us.take k) / 2 ^ s → Q (.exit 4) ρ' (H3 us' ws os)) :
    VW ⟨true, false⟩ 0 (.loop _impl_nat__div_b2) Q ρ (H3 us ws os) := by
  have hp : 0 < 2 ^ s := Nat.pow_pos (by decide)
  refine VW_loop (fun (t : Nat × List Nat) ρ' H => t.1 ≤ k ∧ H = H3 t.2 ws os ∧ t.2.length = N ∧ (∀ d ∈ t.2, d < 4294967296) ∧ (∀ j, t.1 ≤ j → t.2[j]? = us[j]?) ∧ val 4294967296 (t.2.take t.1) + 4294967296 ^ t.1 * (val 4294967296 ((us.take k).drop t.1) / 2 ^ s) = val 4294967296 (us.take k) / 2 ^ s ∧
    ρ' 8 = VI s ∧ ρ' 9 = .ref 0 0 0 k N ∧ ρ' 13 = ρ 13 ∧ ρ' 147 = VI k ∧ ρ' 148 = VI t.1) (fun t => k - t.1) (0, us) ⟨Nat.zero_le _, rfl, hN, hd, fun _ _ => rfl, by simp [val], g8, g9, rfl, g147, g148⟩ ?_
  rintro ⟨i, vs⟩ ρ2 H ⟨hi, rfl, hvl, hvd, hag, hv, k8, k9, k13, k147, k148⟩
  simp only at hi hvl hvd hag hv k148
  by_cases hin : (i : Int) < (k : Int)
  · obtain ⟨x, hx⟩ : ∃ x, us[i]? = some x := ⟨_, List.getElem?_eq_getElem (by omega)⟩
    have hx2 : vs[i]? = some x := by rw [hag i (Nat.le_refl _)]; exact hx
    have lx := hd x (List.mem_of_getElem? hx)
    have hx3 : (us.take k)[i]? = some x := by rw [List.getElem?_take_of_lt (by omega)]; exact hx
    have h1 := val_drop (b := 4294967296) hx3
    generalize hD : val 4294967296 ((us.take k).drop (i + 1)) = D at *
    have hlen : vlen (.ref 0 0 0 k N) (H3 vs ws os) = some (VI k) := vlen_ref H3_0
    have e1 : viaddr 1 (.ref 0 0 0 k N) (VI i) (H3 vs ws os) = some (.ptr 0 0 i 0) := by rw [viaddr_row H3_0 (by omega), Nat.zero_add]
    have e2 : vload false 1 (.ptr 0 0 i 0) (H3 vs ws os) = some (uV x) := vload_nat H3_0 hx2
    have e3 : ∀ d : Nat, vstore 0 1 (.ptr 0 0 i 0) (uV d) (H3 vs ws os) = some (H3 (vs.set i d) ws os) := fun d => by
      rw [vstore_map (f := uV) (e := 1) H3_0 (by omega) (Nat.le_refl _) rfl rfl]
      rfl
    have wi : IntKind.i64.wrap ((i : Int) + 1) = ((i + 1 : Nat) : Int) := wrapN (i + 1) (by omega) (by omega)
    have wx : IntKind.u64.wrap (x : Int) = (x : Int) := wrapU _ (by omega)
    have hm := Nat.mod_lt D (show 0 < 4294967296 by decide)
    have w5 := shl_u64 (D % 4294967296) .u64 hm
    have w6 : IntKind.u64.wrap (((D % 4294967296 * 4294967296 : Nat) : Int) + (x : Int)) = ((D % 4294967296 * 4294967296 + x : Nat) : Int) := by rw [← Int.natCast_add]; exact wrapU _ (by omega)
    have w7 := shr_by (D % 4294967296 * 4294967296 + x) s hs
    have sd : (x + 4294967296 * D) / 2 ^ s = ((D % 4294967296 * 4294967296 + x) / 2 ^ s) % 4294967296 + 4294967296 * (D / 2 ^ s) := by
      rcases shift_digit (x := x) (D := D) hp hw with h | h
      · exact h
      · exact absurd lx h
    have next : ∃ s' : Nat × List Nat, k - s'.1 < k - i ∧ s'.1 ≤ k ∧ H3 (vs.set i (((D % 4294967296 * 4294967296 + x) / 2 ^ s) % 4294967296)) ws os = H3 s'.2 ws os ∧ s'.2.length = N ∧ (∀ d ∈ s'.2, d < 4294967296) ∧ (∀ j, s'.1 ≤ j → s'.2[j]? = us[j]?) ∧ val 4294967296 (s'.2.take s'.1) + 4294967296 ^ s'.1 * (val 4294967296 ((us.take k).drop s'.1) / 2 ^ s) = val 4294967296 (us.take k) / 2 ^ s ∧ s'.1 = i + 1 := by
      refine ⟨(i + 1, vs.set i (((D % 4294967296 * 4294967296 + x) / 2 ^ s) % 4294967296)), by simp only; omega, by simp only; omega, rfl, by simp only [List.length_set]; exact hvl, set_lt hvd (Nat.mod_lt _ (by decide)), fun j hj => ?_, ?_, rfl⟩
      · simp only at hj ⊢
        rw [List.getElem?_set_ne (by omega)]
        exact hag j (by omega)
      · simp only
        rw [val_set_take (by omega), hD, ← hv, h1, sd, Nat.pow_succ]
        generalize (D % 4294967296 * 4294967296 + x) / 2 ^ s % 4294967296 = q
        generalize D / 2 ^ s = E
        rw [Nat.mul_add, Nat.mul_assoc, Nat.add_assoc]
    obtain ⟨s', n1, n2, n3, n4, n5, n6, n7, n8⟩ := next
    by_cases hin2 : ((i + 1 : Nat) : Int) < (k : Int)
    · obtain ⟨h, hh⟩ : ∃ h, us[i + 1]? = some h := ⟨_, List.getElem?_eq_getElem (by omega)⟩
      have hh2 : vs[i + 1]? = some h := by rw [hag (i + 1) (by omega)]; exact hh
      have hhD : D % 4294967296 = h := by
        have hh3 : (us.take k)[i + 1]? = some h := by rw [List.getElem?_take_of_lt (by omega)]; exact hh
        have := val_drop (b := 4294967296) hh3
        rw [hD] at this
        have lh := hd h (List.mem_of_getElem? hh)
        omega
      have f1 : viaddr 1 (.ref 0 0 0 k N) (VI ((i + 1 : Nat) : Int)) (H3 vs ws os) = some (.ptr 0 0 (i + 1) 0) := by rw [viaddr_row H3_0 (by omega), Nat.zero_add]
      have f2 : vload false 1 (.ptr 0 0 (i + 1) 0) (H3 vs ws os) = some (uV h) := vload_nat H3_0 hh2
      have wh : IntKind.u64.wrap (h : Int) = (h : Int) := wrapU _ (by omega)
      rw [hhD] at w5 w6 w7 n3
      simp only [_impl_nat__div_b2, k8, k9, k147, k148, hin, hin2, hlen, e1, e2, e3, f1, f2, wi, wx, wh, w5, w6, w7, wrap32, VX, Nat.reduceEqDiff, Nat.reduceAdd]
      exact ⟨s', n1, n2, n3, n4, n5, n6, n7, k13, by rw [n8]⟩
    · have hD0 : D = 0 := by
        rw [← hD, List.drop_of_length_le (by rw [List.length_take]; omega)]
        rfl
      subst hD0
      have w5' : pbin .shl (.int .u64 0) (.int .u64 32) = some (.int .u64 0) := shl_u64 0 .u64 (by decide)
      have w6' : IntKind.u64.wrap ((0 : Int) + (x : Int)) = (x : Int) := by rw [Int.zero_add]; exact wx
      have w7' := shr_by x s hs
      simp only [Nat.zero_mod, Nat.zero_mul, Nat.zero_add] at n3
      simp only [_impl_nat__div_b2, k8, k9, k147, k148, hin, hin2, hlen, e1, e2, e3, wi, wx, w5', w6', w7', wrap32, VX, Nat.reduceEqDiff, Nat.reduceAdd]
      exact ⟨s', n1, n2, n3, n4, n5, n6, n7, k13, by rw [n8]⟩
  · have hie : i = k := by omega
    subst hie
    rw [List.drop_of_length_le (by rw [List.length_take]; omega)] at hv
    simp only [val, Nat.zero_div, Nat.mul_zero, Nat.add_zero] at hv
    simp only [_impl_nat__div_b2, k8, k9, k147, k148, hin, VX, Nat.reduceEqDiff, Nat.reduceAdd]
    exact hQ _ vs k9 k13 hvl hvd hv
end Go.PM

/- The program's numbers of at least 0: long division, the digits of the quotient. -/
namespace Go.PM
theorem guess_loop {seg vs us ws os : List Nat} {n u2 u1 u0 v1 v0 N k g left : Nat} (G : Guess 4294967296 seg vs n u2 u1 u0 v1 v0) {ρ : VEnv} {Q : VQ} (hN : us.length = N) (hk2 : 2 ≤ k) (hkN : k < N) (hcap : N ≤ 70368744177664) (hu0 : us[k - 2]? = some u0)
    (g9 : ρ 9 = .ref 0 0 0 N N) (g11 : ρ 11 = VK .u64 v1) (g12 : ρ 12 = VK .u64 v0) (g15 : ρ 15 = VI k) (g17 : ρ 17 = VK .u64 g) (g18 : ρ 18 = VK .u64 left) (hh : u2 * 4294967296 + u1 = g * v1 + left) (hq : val 4294967296 seg / val 4294967296 vs ≤ g) (hl : left < 4294967296) (hgb : g < 18446744073709551616)
    (hQ : ∀ (ρ' : VEnv) (g' : Nat), val 4294967296 seg / val 4294967296 vs ≤ g' → g' ≤ val 4294967296 seg / val 4294967296 vs + 1 → g' < 4294967296 → ρ' 17 = VK .u64 g' → ρ' 8 = ρ 8 → ρ' 9 = ρ 9 → ρ' 10 = ρ 10 → ρ' 11 = ρ 11 → ρ' 12 = ρ 12 → ρ' 13 = ρ 13 → ρ' 14 = ρ 14 → ρ' 15 = ρ 15 → Q (.exit 2) ρ' (H3 us ws os)) :
    VW ⟨true, false⟩ 0 (.loop _impl_nat__div_b0) Q ρ (H3 us ws os) := by
  have lv1 := G.lt_v1
  have lv0 := G.lt_v0
  have lu0 := G.lt_u0
  have qlt := G.q_lt
  have hpos := G.pos
  refine VW_loop (fun (t : Nat × Nat) ρ' H => H = H3 us ws os ∧ u2 * 4294967296 + u1 = t.1 * v1 + t.2 ∧ val 4294967296 seg / val 4294967296 vs ≤ t.1 ∧ t.2 < 4294967296 ∧ t.1 < 18446744073709551616 ∧
    ρ' 9 = .ref 0 0 0 N N ∧ ρ' 11 = VK .u64 v1 ∧ ρ' 12 = VK .u64 v0 ∧ ρ' 15 = VI k ∧ ρ' 17 = VK .u64 t.1 ∧ ρ' 18 = VK .u64 t.2 ∧ ρ' 8 = ρ 8 ∧ ρ' 10 = ρ 10 ∧ ρ' 13 = ρ 13 ∧ ρ' 14 = ρ 14) (fun t => 4294967296 - t.2) (g, left) ⟨rfl, hh, hq, hl, hgb, g9, g11, g12, g15, g17, g18, rfl, rfl, rfl, rfl⟩ ?_
  rintro ⟨g, left⟩ ρ2 H ⟨rfl, hh, hq, hl, hgb, k9, k11, k12, k15, k17, k18, k8, k10, k13, k14⟩
  simp only at hh hq hl hgb k17 k18
  have e1 : viaddr 1 (.ref 0 0 0 N N) (VI ((k - 2 : Nat) : Int)) (H3 us ws os) = some (.ptr 0 0 (k - 2) 0) := by rw [viaddr_row H3_0 (by omega), Nat.zero_add]
  have e2 : vload false 1 (.ptr 0 0 (k - 2) 0) (H3 us ws os) = some (uV u0) := vload_nat H3_0 hu0
  have wk : IntKind.i64.wrap ((k : Int) - 2) = ((k - 2 : Nat) : Int) := wrapN _ (by omega) (by omega)
  have wu : IntKind.u64.wrap (u0 : Int) = (u0 : Int) := wrapU _ (by omega)
  have ws := shl_u64 left .u64 hl
  have wa : IntKind.u64.wrap (((left * 4294967296 : Nat) : Int) + (u0 : Int)) = ((left * 4294967296 + u0 : Nat) : Int) := by rw [← Int.natCast_add]; exact wrapU _ (by omega)
  have wl : IntKind.u64.wrap ((left : Int) + (v1 : Int)) = ((left + v1 : Nat) : Int) := by rw [← Int.natCast_add]; exact wrapU _ (by omega)
  have same : ρ2 9 = ρ 9 ∧ ρ2 11 = ρ 11 ∧ ρ2 12 = ρ 12 ∧ ρ2 15 = ρ 15 := ⟨by rw [k9, g9], by rw [k11, g11], by rw [k12, g12], by rw [k15, g15]⟩
  obtain ⟨s9, s11, s12, s15⟩ := same
  -- one down
  have down : val 4294967296 seg / val 4294967296 vs < g → ∃ g', g = g' + 1 ∧ IntKind.u64.wrap ((g : Int) - 1) = (g' : Int) ∧ u2 * 4294967296 + u1 = g' * v1 + (left + v1) ∧ val 4294967296 seg / val 4294967296 vs ≤ g' := by
    intro h
    have hg1 : 1 ≤ g := Nat.lt_of_le_of_lt (Nat.zero_le _) h
    obtain ⟨g', rfl⟩ : ∃ g', g = g' + 1 := ⟨g - 1, by omega⟩
    refine ⟨g', rfl, ?_, ?_, by omega⟩
    · rw [show ((g' + 1 : Nat) : Int) - 1 = (g' : Int) by omega]
      exact wrapU _ (by omega)
    · rw [hh, Nat.add_mul]
      omega
  by_cases hA : (4294967296 : Int) ≤ (g : Int)
  · obtain ⟨g', hg', wg, hh', hq'⟩ := down (by omega)
    by_cases hB : (4294967296 : Int) ≤ ((left + v1 : Nat) : Int)
    · obtain ⟨c1, c2⟩ := G.broken hh' (by omega)
      simp only [_impl_nat__div_b0, k9, k11, k12, k15, k17, k18, hA, hB, wg, wl, VX, Nat.reduceEqDiff, Nat.reduceAdd]
      exact hQ _ g' hq' (G.fine hh' (by omega) c2) c1 rfl k8 s9 k10 s11 s12 k13 k14 s15
    · simp only [_impl_nat__div_b0, k9, k11, k12, k15, k17, k18, hA, hB, wg, wl, VX, Nat.reduceEqDiff, Nat.reduceAdd]
      exact ⟨(g', left + v1), by simp only; omega, hh', hq', by simp only; omega, by simp only; omega, by rfl, by rfl, k8, k10, k13, k14⟩
  · have hgv : g * v0 ≤ 4294967295 * 4294967295 := Nat.mul_le_mul (by omega) (by omega)
    have wm : IntKind.u64.wrap ((g : Int) * (v0 : Int)) = ((g * v0 : Nat) : Int) := by rw [← Int.natCast_mul]; exact wrapU _ (by omega)
    by_cases hT : ((left * 4294967296 + u0 : Nat) : Int) < ((g * v0 : Nat) : Int)
    · obtain ⟨g', hg', wg, hh', hq'⟩ := down (G.too hh (by omega))
      by_cases hB : (4294967296 : Int) ≤ ((left + v1 : Nat) : Int)
      · obtain ⟨c1, c2⟩ := G.broken hh' (by omega)
        simp only [_impl_nat__div_b0, k9, k11, k12, k15, k17, k18, hA, hB, hT, e1, e2, wk, wu, ws, wa, wm, wg, wl, VX, Nat.reduceEqDiff, Nat.reduceAdd]
        exact hQ _ g' hq' (G.fine hh' (by omega) c2) c1 rfl k8 s9 k10 s11 s12 k13 k14 s15
      · simp only [_impl_nat__div_b0, k9, k11, k12, k15, k17, k18, hA, hB, hT, e1, e2, wk, wu, ws, wa, wm, wg, wl, VX, Nat.reduceEqDiff, Nat.reduceAdd]
        exact ⟨(g', left + v1), by simp only; omega, hh', hq', by simp only; omega, by simp only; omega, by rfl, by rfl, k8, k10, k13, k14⟩
    · simp only [_impl_nat__div_b0, k9, k11, k12, k15, k17, k18, hA, hT, e1, e2, wk, wu, ws, wa, wm, VX, Nat.reduceEqDiff, Nat.reduceAdd]
      exact hQ _ g hq (G.fine hh (by omega) (by omega)) (by omega) k17 k8 s9 k10 s11 s12 k13 k14 s15
theorem digit_step {X S S' R V q Q P w : Nat} (hs : S = q * V + S') (h : X + P * S + P * w * V * Q = R) : X + P * S' + P * V * (q + w * Q) = R := by
  subst hs
  grind
theorem div_loop {us0 ws os0 vs : List Nat} {N m n v1 v0 A s : Nat} {ρ : VEnv} {Q : VQ} (hN : us0.length = N) (hm : m + (n + 2) = N) (hcap : N ≤ 70368744177664) (hud : ∀ d ∈ us0, d < 4294967296) (hws : ws.take (n + 2) = vs) (hwl : ws.length = n + 3) (hvl : vs.length = n + 2) (hvd : ∀ d ∈ vs, d < 4294967296) (f1 : vs[n + 1]? = some v1) (f0 : vs[n]? = some v0) (hpos : 1 ≤ v1)
    (hA : val 4294967296 us0 = A) (hless : val 4294967296 (us0.drop m) < val 4294967296 vs) (hol : os0.length = m) (hod : ∀ d ∈ os0, d < 4294967296)
    (g8 : ρ 8 = VI s) (g9 : ρ 9 = .ref 0 0 0 N N) (g10 : ρ 10 = .ref 1 0 0 (n + 2) (n + 3)) (g11 : ρ 11 = VK .u64 v1) (g12 : ρ 12 = VK .u64 v0) (g13 : ρ 13 = .ref 2 0 0 m m) (g14 : ρ 14 = VI ((m : Int) - 1))
    (hQ : ∀ (ρ' : VEnv) (us os : List Nat), ρ' 8 = VI s → ρ' 9 = .ref 0 0 0 N N → ρ' 13 = .ref 2 0 0 m m → us.length = N → (∀ d ∈ us, d < 4294967296) → os.length = m → (∀ d ∈ os, d < 4294967296) → val 4294967296 us + val 4294967296 vs * val 4294967296 os = A → val 4294967296 us < val 4294967296 vs → Q (.exit 0) ρ' (H3 us ws os)) :
    VW ⟨true, false⟩ 0 (.loop _impl_nat__div_b1) Q ρ (H3 us0 ws os0) := by
  have hVb := val_lt hvd
  rw [hvl] at hVb
  refine VW_loop (fun (t : Nat × List Nat × List Nat) ρ' H => t.1 ≤ m ∧ H = H3 t.2.1 ws t.2.2 ∧ t.2.1.length = N ∧ (∀ d ∈ t.2.1, d < 4294967296) ∧ t.2.2.length = m ∧ (∀ d ∈ t.2.2, d < 4294967296) ∧ val 4294967296 (t.2.1.drop t.1) < val 4294967296 vs ∧ val 4294967296 t.2.1 + 4294967296 ^ t.1 * val 4294967296 vs * val 4294967296 (t.2.2.drop t.1) = A ∧
    ρ' 8 = VI s ∧ ρ' 9 = .ref 0 0 0 N N ∧ ρ' 10 = .ref 1 0 0 (n + 2) (n + 3) ∧ ρ' 11 = VK .u64 v1 ∧ ρ' 12 = VK .u64 v0 ∧ ρ' 13 = .ref 2 0 0 m m ∧ ρ' 14 = VI ((t.1 : Int) - 1)) (fun t => t.1) (m, us0, os0) ⟨Nat.le_refl _, rfl, hN, hud, hol, hod, hless, by rw [List.drop_of_length_le (by simp only; omega)]; simpa [val] using hA, g8, g9, g10, g11, g12, g13, g14⟩ ?_
  rintro ⟨j, us, os⟩ ρ2 H ⟨hj, rfl, hul, hud, hol, hod, hlt, hv, k8, k9, k10, k11, k12, k13, k14⟩
  simp only at hj hul hud hol hod hlt hv k14
  by_cases hz : (0 : Int) ≤ (j : Int) - 1
  · obtain ⟨i, rfl⟩ : ∃ i, j = i + 1 := ⟨j - 1, by omega⟩
    have hji : ((i + 1 : Nat) : Int) - 1 = (i : Int) := by omega
    rw [hji] at k14 hz
    obtain ⟨hsplit, hpre, hsl, hsW, hdrop, hpost, hget⟩ := seg_facts (n := n + 2) hul (by omega) hud hVb hlt
    generalize hseg : (us.drop i).take (n + 2 + 1) = seg at *
    have hsd : ∀ d ∈ seg, d < 4294967296 := fun d hd => by rw [← hseg] at hd; exact hud d (List.mem_of_mem_drop (List.mem_of_mem_take hd))
    obtain ⟨u2, hu2⟩ : ∃ u2, us[i + (n + 2)]? = some u2 := ⟨_, List.getElem?_eq_getElem (by omega)⟩
    obtain ⟨u1, hu1⟩ : ∃ u1, us[i + (n + 1)]? = some u1 := ⟨_, List.getElem?_eq_getElem (by omega)⟩
    obtain ⟨u0, hu0⟩ : ∃ u0, us[i + n]? = some u0 := ⟨_, List.getElem?_eq_getElem (by omega)⟩
    have G : Guess 4294967296 seg vs n u2 u1 u0 v1 v0 := ⟨by decide, hsd, hvd, hsl, hvl, by rw [hget _ (by omega)]; exact hu2, by rw [hget _ (by omega)]; exact hu1, by rw [hget _ (by omega)]; exact hu0, f1, f0, hpos, hsW⟩
    have lu2 := G.lt_u2
    have lu1 := G.lt_u1
    have lv1 := G.lt_v1
    have qlt := G.q_lt
    have vpos := G.vpos
    have hlen10 : vlen (.ref 1 0 0 (n + 2) (n + 3)) (H3 us ws os) = some (VI ((n + 2 : Nat) : Int)) := vlen_ref H3_1
    have w1 : IntKind.i64.wrap ((i : Int) + ((n + 2 : Nat) : Int)) = ((i + (n + 2) : Nat) : Int) := by rw [← Int.natCast_add]; exact wrapN _ rfl (by omega)
    have w2 : IntKind.i64.wrap (((i + (n + 2) : Nat) : Int) - 1) = ((i + (n + 1) : Nat) : Int) := wrapN _ (by omega) (by omega)
    have e2 : viaddr 1 (.ref 0 0 0 N N) (VI ((i + (n + 2) : Nat) : Int)) (H3 us ws os) = some (.ptr 0 0 (i + (n + 2)) 0) := by rw [viaddr_row H3_0 (by omega), Nat.zero_add]
    have e1 : viaddr 1 (.ref 0 0 0 N N) (VI ((i + (n + 1) : Nat) : Int)) (H3 us ws os) = some (.ptr 0 0 (i + (n + 1)) 0) := by rw [viaddr_row H3_0 (by omega), Nat.zero_add]
    have l2 : vload false 1 (.ptr 0 0 (i + (n + 2)) 0) (H3 us ws os) = some (uV u2) := vload_nat H3_0 hu2
    have l1 : vload false 1 (.ptr 0 0 (i + (n + 1)) 0) (H3 us ws os) = some (uV u1) := vload_nat H3_0 hu1
    have wu2 : IntKind.u64.wrap (u2 : Int) = (u2 : Int) := wrapU _ (by omega)
    have wu1 : IntKind.u64.wrap (u1 : Int) = (u1 : Int) := wrapU _ (by omega)
    have ws2 := shl_u64 u2 .u64 lu2
    have wa : IntKind.u64.wrap (((u2 * 4294967296 : Nat) : Int) + (u1 : Int)) = ((u2 * 4294967296 + u1 : Nat) : Int) := by rw [← Int.natCast_add]; exact wrapU _ (by omega)
    have q1 := quo_u64 (u2 * 4294967296 + u1) v1 (by omega) hpos
    have q2 := rem_u64 (u2 * 4294967296 + u1) v1 hpos
    simp only [_impl_nat__div_b1, k8, k9, k10, k11, k12, k13, k14, hz, hlen10, w1, w2, e1, e2, l1, l2, wu1, wu2, ws2, wa, q1, q2, VX, Nat.reduceEqDiff, Nat.reduceAdd]
    have hh := Nat.mod_add_div (u2 * 4294967296 + u1) v1
    have hml := Nat.mod_lt (u2 * 4294967296 + u1) hpos
    have hdl : (u2 * 4294967296 + u1) / v1 ≤ u2 * 4294967296 + u1 := Nat.div_le_self _ _
    have hq0 : val 4294967296 seg / val 4294967296 vs ≤ (u2 * 4294967296 + u1) / v1 := by
      -- the head by the greatest digit is not less than the quotient
      have t1 := (val_top2 (n := n + 1) (xs := seg) hsd (by omega) (by rw [hget _ (by omega)]; exact hu2) (by rw [hget _ (by omega)]; exact hu1)).2
      have t2 := (val_top (n := n + 1) hvd hvl f1).1
      rw [Nat.le_div_iff_mul_le hpos]
      have t3 : val 4294967296 seg / val 4294967296 vs * (v1 * 4294967296 ^ (n + 1)) ≤ val 4294967296 seg / val 4294967296 vs * val 4294967296 vs := Nat.mul_le_mul_left _ t2
      have t4 := Nat.div_mul_le_self (val 4294967296 seg) (val 4294967296 vs)
      have t5 : val 4294967296 seg / val 4294967296 vs * v1 * 4294967296 ^ (n + 1) < (u2 * 4294967296 + u1 + 1) * 4294967296 ^ (n + 1) := by rw [Nat.mul_assoc]; omega
      have := Nat.lt_of_mul_lt_mul_right t5
      omega
    refine guess_loop (k := i + (n + 2)) G hul (by omega) (by omega) hcap (by rw [show i + (n + 2) - 2 = i + n by omega]; exact hu0) k9 k11 k12 (by rfl) (by rfl) (by rfl) (by rw [Nat.mul_comm ((u2 * 4294967296 + u1) / v1)]; omega) hq0 (by omega) (by omega) ?_
    intro ρ3 g' hq hq' hgW r17 r8 r9 r10 r11 r12 r13 r14 r15
    have r15' : ρ3 15 = VI ((i + (n + 2) : Nat) : Int) := r15
    have r8' : ρ3 8 = VI s := r8.trans k8
    have r9' : ρ3 9 = .ref 0 0 0 N N := r9.trans k9
    have r10' : ρ3 10 = .ref 1 0 0 (n + 2) (n + 3) := r10.trans k10
    have r11' : ρ3 11 = VK .u64 v1 := r11.trans k11
    have r12' : ρ3 12 = VK .u64 v0 := r12.trans k12
    have r13' : ρ3 13 = .ref 2 0 0 m m := r13.trans k13
    have r14' : ρ3 14 = VI i := r14.trans k14
    have w3 : IntKind.i64.wrap (((i + (n + 2) : Nat) : Int) + 1) = ((i + (n + 3) : Nat) : Int) := wrapN _ (by omega) (by omega)
    have hsub : vsub 1 (.ref 0 0 0 N N) (some (VI i)) (some (VI ((i + (n + 3) : Nat) : Int))) none (H3 us ws os) = some (.ref 0 0 i (n + 3) (N - i)) := by
      rw [vsub_ref H3_0 (by omega) (by omega), Nat.zero_add, Nat.add_sub_cancel_left]
    simp only [r8', r9', r10', r11', r12', r13', r14', r15', r17, w3, hsub, VX, Nat.reduceEqDiff, Nat.reduceAdd]
    have hfit : g' * val 4294967296 vs ≤ val 4294967296 seg + val 4294967296 vs := by
      have := Nat.mul_le_mul_right (val 4294967296 vs) hq'
      rw [Nat.add_mul, Nat.one_mul] at this
      have := Nat.div_mul_le_self (val 4294967296 seg) (val 4294967296 vs)
      omega
    refine vcall_raw rfl ((takeAway_v (pre := us.take i) (seg := seg) (post := us.drop (i + (n + 2 + 1))) (L := n + 3) (o := i) (by rw [← hsplit]; exact H3_0) (H3_1 (us := us) (ws := ws) (os := os)) (by decide) (Nat.zero_le _) hpre hsl (by omega) hws (by omega) (by omega) hsd hvd hgW hfit).mono ?_)
    rintro r H' ⟨seg', rfl, hl', hd', hr⟩
    generalize hus' : us.take i ++ seg' ++ us.drop (i + (n + 2 + 1)) = us' at *
    have hset : (H3 us ws os).set 0 (.row 0 (us'.map uV) 1 true) = H3 us' ws os := rfl
    rw [hset]
    have hul' : us'.length = N := by rw [← hus', List.length_append, List.length_append, hpre, hl', List.length_drop]; omega
    have hud' : ∀ d ∈ us', d < 4294967296 := fun d hd => by
      rw [← hus', List.mem_append, List.mem_append] at hd
      rcases hd with (hd | hd) | hd
      · exact hud d (List.mem_of_mem_take hd)
      · exact hd' d hd
      · exact hud d (List.mem_of_mem_drop hd)
    have hdrop' : us'.drop i = seg' ++ us.drop (i + (n + 2 + 1)) := by rw [← hus', List.append_assoc, List.drop_append, List.drop_of_length_le (by omega), hpre]; simp
    have htake' : us'.take i = us.take i := by rw [← hus', List.append_assoc, List.take_append_of_le_length (by omega), List.take_of_length_le (by omega)]
    have hval' : val 4294967296 (us'.drop i) = val 4294967296 seg' := by rw [hdrop', val_append, hpost, Nat.mul_zero, Nat.add_zero]
    -- the digit and what is left
    have digit : ∀ q : Nat, q = val 4294967296 seg / val 4294967296 vs → val 4294967296 seg' = val 4294967296 seg % val 4294967296 vs →
        val 4294967296 (us'.drop i) < val 4294967296 vs ∧ val 4294967296 us' + 4294967296 ^ i * val 4294967296 vs * val 4294967296 ((os.set i q).drop i) = A := by
      rintro q hqe hse
      have hml2 := Nat.mod_lt (val 4294967296 seg) vpos
      refine ⟨by rw [hval', hse]; exact hml2, ?_⟩
      have h1 := Nat.div_add_mod (val 4294967296 seg) (val 4294967296 vs)
      rw [← hqe, ← hse, Nat.mul_comm] at h1
      have h2 := val_split (b := 4294967296) us i
      have h3 := val_split (b := 4294967296) us' i
      rw [htake', hpre, hval'] at h3
      rw [hpre, hdrop] at h2
      rw [set_drop (by omega), val_cons, h3]
      rw [h2, Nat.pow_succ] at hv
      exact digit_step h1.symm hv
    have e3 : ∀ d : Nat, viaddr 1 (.ref 2 0 0 m m) (VI i) (H3 us' ws os) = some (.ptr 2 0 i 0) ∧ vstore 0 1 (.ptr 2 0 i 0) (uV d) (H3 us' ws os) = some (H3 us' ws (os.set i d)) := fun d => by
      refine ⟨by rw [viaddr_row H3_2 (by omega), Nat.zero_add], ?_⟩
      rw [vstore_map (f := uV) (e := 1) H3_2 (by omega) (Nat.zero_le _) rfl rfl]
      rfl
    have wi : IntKind.i64.wrap ((i : Int) - 1) = (i : Int) - 1 := wrap64 (by omega) (by omega)
    rcases hr with ⟨rfl, hr⟩ | ⟨rfl, hr1, hr2⟩
    · have hge : g' * val 4294967296 vs ≤ val 4294967296 seg := by omega
      have hqe : g' = val 4294967296 seg / val 4294967296 vs := by
        have := (Nat.le_div_iff_mul_le vpos).2 hge
        omega
      have hse : val 4294967296 seg' = val 4294967296 seg % val 4294967296 vs := by
        have h1 := Nat.div_add_mod (val 4294967296 seg) (val 4294967296 vs)
        rw [← hqe, Nat.mul_comm] at h1
        omega
      obtain ⟨d1, d2⟩ := digit g' hqe hse
      simp only [r8', r9', r10', r11', r12', r13', r14', r15', r17, (e3 g').1, (e3 g').2, wi, wrap32, Nat.mod_eq_of_lt hgW, VX, Nat.reduceEqDiff, Nat.reduceAdd]
      exact ⟨(i, us', os.set i g'), by simp only; omega, by omega, rfl, hul', hud', by rw [List.length_set]; exact hol, set_lt hod hgW, d1, d2, by (repeat' apply And.intro) <;> first | rfl | trivial⟩
    · have hlt2 : val 4294967296 seg / val 4294967296 vs < g' := (Nat.div_lt_iff_lt_mul vpos).2 hr1
      have hg1 : 1 ≤ g' := Nat.lt_of_le_of_lt (Nat.zero_le _) hlt2
      obtain ⟨q, rfl⟩ : ∃ q, g' = q + 1 := ⟨g' - 1, by omega⟩
      have hqe : q = val 4294967296 seg / val 4294967296 vs := by omega
      have hse : val 4294967296 seg' = val 4294967296 seg % val 4294967296 vs := by
        have h1 := Nat.div_add_mod (val 4294967296 seg) (val 4294967296 vs)
        rw [← hqe, Nat.mul_comm] at h1
        rw [Nat.add_mul, Nat.one_mul] at hr2
        omega
      have wq : IntKind.u64.wrap (((q + 1 : Nat) : Int) - 1) = (q : Int) := by rw [show ((q + 1 : Nat) : Int) - 1 = (q : Int) by omega]; exact wrapU _ (by omega)
      obtain ⟨d1, d2⟩ := digit q hqe hse
      simp only [r8', r9', r10', r11', r12', r13', r14', r15', r17, wq, (e3 q).1, (e3 q).2, wi, wrap32, Nat.mod_eq_of_lt (show q < 4294967296 by omega), VX, Nat.reduceEqDiff, Nat.reduceAdd]
      exact ⟨(i, us', os.set i q), by simp only; omega, by omega, rfl, hul', hud', by rw [List.length_set]; exact hol, set_lt hod (by omega), d1, d2, by (repeat' apply And.intro) <;> first | rfl | trivial⟩
  · have hj0 : j = 0 := by omega
    subst hj0
    rw [List.drop_zero] at hlt
    rw [Nat.pow_zero, Nat.one_mul, List.drop_zero] at hv
    simp only [_impl_nat__div_b1, k8, k9, k10, k11, k12, k13, k14, hz, VX, Nat.reduceEqDiff, Nat.reduceAdd]
    exact hQ _ us os k8 k9 k13 hul hud hol hod hv hlt
end Go.PM

/- The program's numbers of at least 0: quotient and remainder; the greatest common divisor. -/
namespace Go.PM
theorem digs_top {a n : Nat} (hn : (digs 4294967296 a).length = n + 1) : ∃ d, (digs 4294967296 a)[n]? = some d ∧ d ≠ 0 ∧ d < 4294967296 := by
  obtain ⟨d, hd⟩ : ∃ d, (digs 4294967296 a)[n]? = some d := ⟨_, List.getElem?_eq_getElem (by omega)⟩
  refine ⟨d, hd, fun h0 => ?_, digs_lt (by decide) a d (List.mem_of_getElem? hd)⟩
  have := digs_last (b := 4294967296) (by decide) a
  rw [List.getLast?_eq_getElem?, hn, Nat.add_sub_cancel, hd, h0] at this
  exact this rfl
theorem digs_one {a d : Nat} (h : digs 4294967296 a = [d]) : a = d ∧ 0 < d ∧ d < 4294967296 := by
  have h1 := val_digs (b := 4294967296) (by decide) a
  rw [h, val_one] at h1
  obtain ⟨e, h2, h3, h4⟩ := digs_top (a := a) (n := 0) (by rw [h]; rfl)
  rw [h] at h2
  cases h2
  exact ⟨h1.symm, by omega, h4⟩
theorem impl_nat_div_v (a b : Nat) (hb : b ≠ 0) (ha : (digs 4294967296 a).length ≤ 17592186044416) (hbl : (digs 4294967296 b).length ≤ 17592186044416) : TC 49 [natV a, natV b] (.tup [natV (a / b), natV (a % b)]) := by
  refine TC.walk ⟨true, false⟩ _impl_nat__div_t rfl (Nat.le_of_ble_eq_true rfl) (by simp [pureL, natV_pure]) (by simp [resV, resL, natV_res]) ?_
  have c1 := impl_nat_cmp_v a b ha hbl
  by_cases hab : cmpI a b < 0
  · have hlt : a < b := by
      unfold cmpI at hab
      split at hab
      · assumption
      · split at hab <;> omega
    simp only [_impl_nat__div, _impl_nat__div_c, c1, hab, VX, Nat.reduceEqDiff, Nat.reduceAdd]
    rw [Nat.div_eq_of_lt hlt, Nat.mod_eq_of_lt hlt]
    exact fz_tup2 (d := 6) fz_nilD (fz_pure (natV_pure a))
  have hge : b ≤ a := by
    unfold cmpI at hab
    split at hab
    · omega
    · omega
  have hbn : (digs 4294967296 b).length ≠ 0 := fun h => hb ((digs_nil (b := 4294967296) (by decide)).1 (List.length_eq_zero_iff.1 h))
  by_cases h1 : (((digs 4294967296 b).length : Nat) : Int) = 1
  · obtain ⟨d, hd⟩ : ∃ d, digs 4294967296 b = [d] := by
      match hx : digs 4294967296 b with
      | [] => rw [hx] at hbn; exact absurd rfl hbn
      | [d] => exact ⟨d, rfl⟩
      | _ :: _ :: _ => rw [hx] at h1; simp at h1; omega
    obtain ⟨rfl, hd0, hdW⟩ := digs_one hd
    have c2 := impl_nat_divSmall_v a b hd0 hdW ha
    have e0 : vlen (natV b) [] = some (VI 1) := by rw [natV, natL, vlen_map, hd]; rfl
    have e1 : viaddr 1 (natV b) (VI 0) [] = some (.tptr (uV b) 0) := by
      rw [natV, hd]
      exact viaddr_map (f := uV) (t := .op) (H := []) (size := 1) (k := .i64) (xs := [b]) (i := 0) rfl rfl
    have e2 := vlit_one (H := []) (z := [.int .u32 0]) (v := uV (a % b)) rfl rfl rfl
    have e3 := rd_sc (size := 1) (v := Value.int .u32 ((b : Nat) : Int))
    simp only [_impl_nat__div, _impl_nat__div_c, c1, hab, e0, e1, c2, e2, VX, Nat.reduceEqDiff, Nat.reduceAdd]
    refine trim_callT (ds := [a % b]) (t := .cl 1) (fun d hd => ?_) (by show 1 ≤ 70368744177664; decide) (val_one _) fun t' ht => ?_
    · rw [List.mem_singleton] at hd
      subst hd
      exact Nat.lt_of_lt_of_le (Nat.mod_lt _ hd0) (Nat.le_of_lt hdW)
    · simp only [VX, Nat.reduceEqDiff, Nat.reduceAdd]
      exact fz_tup2 (d := 6) (fz_pure (natV_pure _)) (fz_natTD (d := 5) ht)
  -- two digits or more
  obtain ⟨n, hn⟩ : ∃ n, (digs 4294967296 b).length = n + 2 := ⟨(digs 4294967296 b).length - 2, by omega⟩
  obtain ⟨t, ht, ht0, htW⟩ := digs_top (a := b) (n := n + 1) hn
  obtain ⟨s, hs, cl, htop⟩ := bitLen_top ht0 htW
  have hS : 0 < 2 ^ s := Nat.pow_pos (by decide)
  have hSW : 2 ^ s * 2 ^ (32 - s) = 4294967296 := by rw [← Nat.pow_add, show s + (32 - s) = 32 by omega]
  have hla := digs_len_mono (b := 4294967296) (by decide) hge
  have e0 : vlen (natV b) [] = some (VI ((n + 2 : Nat) : Int)) := by rw [natV, natL, vlen_map, hn]
  have w0 : IntKind.i64.wrap (((n + 2 : Nat) : Int) - 1) = ((n + 1 : Nat) : Int) := wrapN _ (by omega) (by omega)
  have h1' : ¬ (((n + 2 : Nat) : Int) = 1) := by omega
  have e1 : viaddr 1 (natV b) (VI ((n + 1 : Nat) : Int)) [] = some (.tptr (uV t) 0) := viaddr_map (f := uV) (t := .op) (H := []) (size := 1) (k := .i64) ht rfl
  simp only [_impl_nat__div, _impl_nat__div_c, c1, hab, e0, h1', w0, e1, cl, VX, Nat.reduceEqDiff, Nat.reduceAdd]
  have fa : [natV a, VI (s : Int)].mapM (fz depth ([] : VHeap)) = some [natV a, VI (s : Int)] := fz2 (fz_res (natV_pure a)) (fz_res rfl)
  refine FC.call (impl_nat_shifted_v a s hs ha) rfl fa ?_
  rintro r L ⟨outA, rfl, rfl, hAl, hAd, hAv, hAt⟩
  simp only [VX, Nat.reduceEqDiff, Nat.reduceAdd]
  have fb : ∀ H : VHeap, [natV b, VI (s : Int)].mapM (fz depth H) = some [natV b, VI (s : Int)] := fun H => fz2 (fz_res (natV_pure b)) (fz_res rfl)
  refine FC.call (impl_nat_shifted_v b s hs hbl) rfl (fb _) ?_
  rintro r L ⟨outB, rfl, rfl, hBl, hBd, hBv, hBt⟩
  rw [hn] at hBl
  simp only [hn, List.length_singleton, VX, Nat.reduceEqDiff, Nat.reduceAdd]
  -- the divisor has as many digits as before
  have hVlt : b * 2 ^ s < 4294967296 ^ (n + 2) := by
    have h2 := (val_top (n := n + 1) (digs_lt (b := 4294967296) (by decide) b) hn ht).2
    rw [val_digs (by decide)] at h2
    have h3 : b * 2 ^ s < (t + 1) * 4294967296 ^ (n + 1) * 2 ^ s := Nat.mul_lt_mul_of_pos_right h2 hS
    have h4 : (t + 1) * 4294967296 ^ (n + 1) * 2 ^ s = (t + 1) * 2 ^ s * 4294967296 ^ (n + 1) := by grind
    have h5 : (t + 1) * 2 ^ s ≤ 4294967296 := by
      have h6 : t * 2 ^ s < 2 ^ (32 - s) * 2 ^ s := by rw [Nat.mul_comm (2 ^ (32 - s)), hSW]; exact htop
      have h7 := Nat.lt_of_mul_lt_mul_right h6
      have h8 : (t + 1) * 2 ^ s ≤ 2 ^ (32 - s) * 2 ^ s := Nat.mul_le_mul_right _ h7
      rwa [Nat.mul_comm (2 ^ (32 - s)), hSW] at h8
    have h9 : (t + 1) * 2 ^ s * 4294967296 ^ (n + 1) ≤ 4294967296 * 4294967296 ^ (n + 1) := Nat.mul_le_mul_right _ h5
    have h10 : 4294967296 * 4294967296 ^ (n + 1) = 4294967296 ^ (n + 2) := by rw [Nat.pow_succ 4294967296 (n + 1)]; exact Nat.mul_comm _ _
    omega
  have hVl : (digs 4294967296 (b * 2 ^ s)).length = n + 2 := by
    have h2 := digs_len_le (b := 4294967296) (by decide) hVlt
    have h3 : b ≤ b * 2 ^ s := Nat.le_mul_of_pos_right b hS
    have h4 := digs_len_mono (b := 4294967296) (by decide) h3
    omega
  refine trim_call (rows := outB) (m := b * 2 ^ s) (by rfl) (by omega) (by omega) (by omega) (fun d hd => hBd d (List.mem_of_mem_take hd)) (by rw [List.take_of_length_le (by omega)]; exact hBv) fun k hk he => ?_
  have hk2 : k = n + 2 := by
    have := congrArg List.length he
    rw [hVl, List.length_take] at this
    omega
  subst hk2
  -- the words of the divisor
  generalize hvs : digs 4294967296 (b * 2 ^ s) = vs at *
  have hvd : ∀ d ∈ vs, d < 4294967296 := by rw [← hvs]; exact digs_lt (by decide) _
  have hvv : val 4294967296 vs = b * 2 ^ s := by rw [← hvs]; exact val_digs (by decide) _
  obtain ⟨v1, f1⟩ : ∃ v1, vs[n + 1]? = some v1 := ⟨_, List.getElem?_eq_getElem (by omega)⟩
  obtain ⟨v0, f0⟩ : ∃ v0, vs[n]? = some v0 := ⟨_, List.getElem?_eq_getElem (by omega)⟩
  have hv1 : 1 ≤ v1 := by
    obtain ⟨d, hd, hd0, _⟩ := digs_top (a := b * 2 ^ s) (n := n + 1) (by rw [hvs]; exact hVl)
    rw [hvs, f1] at hd
    cases hd
    omega
  have b1 : outB[n + 1]? = some v1 := by rw [← f1, ← he, List.getElem?_take_of_lt (by omega)]
  have b0 : outB[n]? = some v0 := by rw [← f0, ← he, List.getElem?_take_of_lt (by omega)]
  have lv1 := hvd v1 (List.mem_of_getElem? f1)
  have lv0 := hvd v0 (List.mem_of_getElem? f0)
  have x1 : viaddr 1 (.ref 1 0 0 (n + 2) (n + 2 + 1)) (VI ((n + 1 : Nat) : Int)) [.row 0 (outA.map uV) 1 true, .row 0 (outB.map uV) 1 true] = some (.ptr 1 0 (n + 1) 0) := by rw [viaddr_row (by rfl) (by omega), Nat.zero_add]
  have x0 : viaddr 1 (.ref 1 0 0 (n + 2) (n + 2 + 1)) (VI ((n : Nat) : Int)) [.row 0 (outA.map uV) 1 true, .row 0 (outB.map uV) 1 true] = some (.ptr 1 0 n 0) := by rw [viaddr_row (by rfl) (by omega), Nat.zero_add]
  have y1 : vload false 1 (.ptr 1 0 (n + 1) 0) [.row 0 (outA.map uV) 1 true, .row 0 (outB.map uV) 1 true] = some (uV v1) := vload_nat (rows := outB) (g := 0) (w := true) (by rfl) b1
  have y0 : vload false 1 (.ptr 1 0 n 0) [.row 0 (outA.map uV) 1 true, .row 0 (outB.map uV) 1 true] = some (uV v0) := vload_nat (rows := outB) (g := 0) (w := true) (by rfl) b0
  have z0 : vlen (.ref 1 0 0 (n + 2) (n + 2 + 1)) [.row 0 (outA.map uV) 1 true, .row 0 (outB.map uV) 1 true] = some (VI ((n + 2 : Nat) : Int)) := vlen_ref (r := (outB.map uV, 1, true)) (by rfl)
  have z1 : vlen (.ref 0 0 0 ((digs 4294967296 a).length + 1) ((digs 4294967296 a).length + 1)) [.row 0 (outA.map uV) 1 true, .row 0 (outB.map uV) 1 true] = some (VI (((digs 4294967296 a).length + 1 : Nat) : Int)) := vlen_ref (r := (outA.map uV, 1, true)) (by rfl)
  have w2 : IntKind.i64.wrap (((n + 2 : Nat) : Int) - 2) = ((n : Nat) : Int) := wrapN _ (by omega) (by omega)
  have wv1 : IntKind.u64.wrap (v1 : Int) = (v1 : Int) := wrapU _ (by omega)
  have wv0 : IntKind.u64.wrap (v0 : Int) = (v0 : Int) := wrapU _ (by omega)
  obtain ⟨m, hm⟩ : ∃ m, m + (n + 2) = (digs 4294967296 a).length + 1 := ⟨(digs 4294967296 a).length + 1 - (n + 2), by omega⟩
  have wm : IntKind.i64.wrap ((((digs 4294967296 a).length + 1 : Nat) : Int) - ((n + 2 : Nat) : Int)) = (m : Int) := wrapN _ (by omega) (by omega)
  have wm1 : IntKind.i64.wrap ((m : Int) - 1) = (m : Int) - 1 := wrap64 (by omega) (by omega)
  have mk := mk_rowD m 0 (by omega) (H := [.row 0 (outA.map uV) 1 true, .row 0 (outB.map uV) 1 true])
  have z2 : vlen (.ref 2 0 0 m m) (H3 outA outB (List.replicate m 0)) = some (VI m) := vlen_ref (r := ((List.replicate m 0).map uV, 1, true)) (by rfl)
  simp only [w0, x1, x0, y1, y0, z0, z1, w2, wv1, wv0, wm, mk, z2, wm1, List.length_cons, List.length_nil, VX, Nat.reduceEqDiff, Nat.reduceAdd]
  have hless : val 4294967296 (outA.drop m) < val 4294967296 vs := by
    obtain ⟨d, hd⟩ : ∃ d, outA[(digs 4294967296 a).length]? = some d := ⟨_, List.getElem?_eq_getElem (by omega)⟩
    have h2 := (val_top (b := 4294967296) (xs := outA.drop m) (n := n + 1) (t := d) (fun x hx => hAd x (List.mem_of_mem_drop hx)) (by rw [List.length_drop]; omega) (by rw [List.getElem?_drop, show m + (n + 1) = (digs 4294967296 a).length by omega]; exact hd)).2
    have h3 := hAt d hd
    have h4 := (val_top (n := n + 1) (digs_lt (b := 4294967296) (by decide) b) hn ht).1
    rw [val_digs (by decide)] at h4
    have h5 : (d + 1) * 4294967296 ^ (n + 1) ≤ 2 ^ s * 4294967296 ^ (n + 1) := Nat.mul_le_mul_right _ h3
    have h6 : 1 * 4294967296 ^ (n + 1) ≤ t * 4294967296 ^ (n + 1) := Nat.mul_le_mul_right _ (by omega)
    have h7 : 1 * 4294967296 ^ (n + 1) * 2 ^ s ≤ b * 2 ^ s := Nat.mul_le_mul_right _ (by omega)
    rw [hvv]
    rw [Nat.one_mul, Nat.mul_comm] at h7
    omega
  refine div_loop (us0 := outA) (ws := outB) (os0 := List.replicate m 0) (vs := vs) (N := (digs 4294967296 a).length + 1) (m := m) (n := n) (A := a * 2 ^ s) (s := s) hAl hm (by omega) hAd he hBl hVl hvd f1 f0 hv1 hAv hless (by simp) (rep_lt (by decide) _) (by rfl) (by rfl) (by rfl) (by rfl) (by rfl) (by rfl) (by rfl) ?_
  intro ρ1 us os r8 r9 r13 hul hud hol hod hv hlt
  rw [hvv] at hv hlt
  have hq : val 4294967296 os = a / b := by
    rw [← Nat.mul_div_mul_right a b hS, ← hv, Nat.add_mul_div_left _ _ (by omega), Nat.div_eq_of_lt hlt, Nat.zero_add]
  have hr : val 4294967296 us = a % b * 2 ^ s := by
    rw [← Nat.mul_mod_mul_right, ← hv, Nat.add_mul_mod_self_left, Nat.mod_eq_of_lt hlt]
  simp only [r9, VX, Nat.reduceEqDiff, Nat.reduceAdd]
  refine trim_call (rows := us) (m := a % b * 2 ^ s) H3_0 (by omega) (Nat.le_refl _) (by omega) (fun d hd => hud d (List.mem_of_mem_take hd)) (by rw [List.take_of_length_le (by omega)]; exact hr) fun k hk he2 => ?_
  have z3 : vlen (.ref 0 0 0 k ((digs 4294967296 a).length + 1)) (H3 us outB os) = some (VI k) := vlen_ref H3_0
  simp only [z3, VX, Nat.reduceEqDiff, Nat.reduceAdd]
  refine down_loop (us := us) (k := k) (N := (digs 4294967296 a).length + 1) (s := s) (w0 := 2 ^ (32 - s)) hs hSW hul hk (by omega) hud r8 (by rfl) (by rfl) (by rfl) ?_
  intro ρ2 us' q9 q13 hul' hud' hv'
  have q13' : ρ2 13 = .ref 2 0 0 m m := q13.trans r13
  have hrest : val 4294967296 (us'.take k) = a % b := by
    rw [hv', he2, val_digs (by decide), Nat.mul_div_cancel _ hS]
  simp only [q9, q13', VX, Nat.reduceEqDiff, Nat.reduceAdd]
  refine trim_call (rows := os) (m := a / b) H3_2 (by omega) (Nat.le_refl _) (by omega) (fun d hd => hod d (List.mem_of_mem_take hd)) (by rw [List.take_of_length_le (by omega)]; exact hq) fun k2 hk2 he3 => ?_
  simp only [q9, VX, Nat.reduceEqDiff, Nat.reduceAdd]
  refine trim_call (rows := us') (m := a % b) H3_0 (by omega) hk (by omega) (fun d hd => hud' d (List.mem_of_mem_take hd)) hrest fun k3 hk3 he4 => ?_
  simp only [VX, Nat.reduceEqDiff, Nat.reduceAdd]
  exact fz_tup2 (d := 6) (fz_natD (d := 5) H3_2 (by omega) hk2 he3) (fz_natD (d := 5) H3_0 (by omega) (by omega) he4)
end Go.PM
