/- Texts of a claim, in one: part 10. -/
import Derived.Test.YtbgfeiagaieljaaGreatDoorKFi
/- The reference's numbers of at least 0 (digits to the base 1000000000): small functions, sums and differences. -/
set_option linter.unusedSimpArgs false
set_option linter.unusedVariables false
namespace Go.PM
abbrev tV (d : Nat) : VV := VI (d : Int)
abbrev natL' (ds : List Nat) : VV := listV tV ds
def natT (n : Nat) : VV := natL' (digs 1000000000 n)
theorem tV_len : ∀ d : Nat, (vcells (tV d)).length = 1 := fun _ => rfl
theorem natL'_pure (ds : List Nat) : pureV (natL' ds) = true := pure_list tV_len fun _ => rfl
theorem natL'_res (ds : List Nat) : resV (natL' ds) = true := res_list tV_len (fun _ => rfl) fun _ => rfl
theorem natT_pure (n : Nat) : pureV (natT n) = true := natL'_pure _
theorem natT_res (n : Nat) : resV (natT n) = true := natL'_res _
theorem natT_zero : natT 0 = .tree [] .op := by rw [natT, digs_zero]; rfl
theorem natT_one : natT 1 = natL' [1] := by rw [natT, digs_pos (by decide) (by decide), digs_zero]
theorem len_natT (n : Nat) {H : VHeap} : vlen (natT n) H = some (VI (digs 1000000000 n).length) := vlen_map
section
variable {α : Type} {f : α → VV} {xs : List α} {x : α} {H : VHeap}
theorem one_get {g e : Nat} {es : List VV} {w : Bool} : vrow [.row g es e w] 0 g = some (es, e, w) := vrow_zero
theorem app1 {e bytes : Nat} (he : 1 ≤ e) (hb : 1 ≤ bytes) (hsz : (xs.length + 1) * bytes ≤ 140737488355328) : vappend 0 e bytes (.ref 0 xs.length 0 xs.length xs.length) [f x] [.row xs.length (xs.map f) e true] = some (.ref 0 (xs.length + 1) 0 (xs.length + 1) (xs.length + 1), [.row (xs.length + 1) ((xs ++ [x]).map f) e true]) := by
  rw [vappend_row (f := f) (x := x) vrow_zero rfl (Nat.le_refl _) he hb hsz]
  rfl
theorem row_tree {n g e : Nat} {w : Bool} (hp : ∀ x, pureV (f x) = true) (hn : n = xs.length) : fz depth [.row g (xs.map f) e w] (.ref 0 g 0 n n) = some (listV f xs) := fz_row vrow_zero (by simpa using hn) (Nat.le_refl _) (pure_map hp)
end
theorem litT_nil {lr : Bool} : vlit lr [.int .i64 0] 0 [] [] = some (.ref 0 0 0 0 0, [.row 0 (([] : List Nat).map tV) 1 true]) := vlit_nil (H := []) rfl
theorem litT_one {d : Int} {H : VHeap} : vlit false [.int .i64 0] 1 [(0, VI d)] H = some (.tree [VI d] (.cl 1), H) := vlit_one rfl rfl rfl
theorem srcT_one {d : Int} {H : VHeap} {t : TK} : vsource 1 (.tree [VI d] t) H = some [VI d] := vsource_one rfl rfl
theorem appT {ds : List Nat} {d : Nat} (h : ds.length < 17592186044416) : vappend 0 1 8 (.ref 0 ds.length 0 ds.length ds.length) [VI (d : Int)] [.row ds.length (ds.map tV) 1 true] = some (.ref 0 (ds.length + 1) 0 (ds.length + 1) (ds.length + 1), [.row (ds.length + 1) ((ds ++ [d]).map tV) 1 true]) := app1 (f := tV) (by decide) (by decide) (by omega)
theorem rem_T (n : Nat) : pbin .rem (.int .i64 (n : Int)) (.int .i64 1000000000) = some (.int .i64 ((n % 1000000000 : Nat) : Int)) := by
  have h2 : (n : Int).tmod 1000000000 = ((n % 1000000000 : Nat) : Int) := by rw [Int.tmod_eq_emod_of_nonneg (by omega)]; simp
  simp only [pbin, if_true, h2]
  rfl
theorem quo_T (n : Nat) (h : n ≤ 9223372036854775807) : pbin .quo (.int .i64 (n : Int)) (.int .i64 1000000000) = some (.int .i64 ((n / 1000000000 : Nat) : Int)) := by
  have h2 : (n : Int).tdiv 1000000000 = ((n / 1000000000 : Nat) : Int) := by rw [Int.tdiv_eq_ediv_of_nonneg (by omega)]; simp
  simp only [pbin, if_true, h2]
  rw [wrap64 (by omega) (by omega)]
  rfl
theorem spec_l01Trim_v (ds : List Nat) (h : ∀ d ∈ ds, d < 1000000000) (hlen : ds.length ≤ 70368744177664) : TC 141 [natL' ds] (natT (val 1000000000 ds)) := by
  refine TC.walk ⟨true, false⟩ spec_l01Trim_t rfl (Nat.le_of_ble_eq_true rfl) (by simp [pureL, natL'_pure]) (natT_res _) ?_
  simp only [spec_l01Trim, spec_l01Trim_c, VX, Nat.reduceEqDiff, Nat.reduceAdd]
  refine VW_loop (fun (xs : List Nat) ρ H' => (∀ d ∈ xs, d < 1000000000) ∧ val 1000000000 xs = val 1000000000 ds ∧ xs.length ≤ ds.length ∧ H' = [] ∧ ρ 0 = natL' xs) (fun s => s.length) ds ⟨h, rfl, Nat.le_refl _, rfl, rfl⟩ ?_
  rintro xs ρ H' ⟨hx, hv, hl, rfl, h0⟩
  have done : xs.getLast? ≠ some 0 → fz depth [] (natL' xs) = some (natT (val 1000000000 ds)) := fun hne => by rw [natT, ← hv, digs_val (by decide) hx hne]; exact fz_res (natL'_pure _)
  rcases Nat.eq_zero_or_pos xs.length with hz | hp
  · have hxn : xs = [] := List.length_eq_zero_iff.1 hz
    subst hxn
    simp only [spec_l01Trim_b0, h0, Int.reduceLT, Int.natCast_zero, vlen_map, List.length_nil, VX, Nat.reduceEqDiff, Nat.reduceAdd]
    exact done (by simp)
  · obtain ⟨m, hm⟩ : ∃ m, xs.length = m + 1 := ⟨xs.length - 1, by omega⟩
    obtain ⟨d, hd⟩ : ∃ d, xs[m]? = some d := ⟨_, List.getElem?_eq_getElem (by omega)⟩
    have hp' : (0 : Int) < ((m + 1 : Nat) : Int) := by omega
    have w1 : IntKind.i64.wrap (((m + 1 : Nat) : Int) - 1) = (m : Int) := by rw [wrap64 (by omega) (by omega)]; omega
    have e1 := viaddr_map (f := tV) (t := .op) (H := []) (size := 1) (k := .i64) hd rfl
    by_cases hd0 : (d : Int) = 0
    · have hd1 : d = 0 := by omega
      subst hd1
      have e2 := vsub_map_to (f := tV) (size := 1) (t := .op) (H := []) (k2 := .i64) (xs := xs) (h := m) tV_len (by omega) (by omega)
      have hsp : xs = xs.take m ++ [0] := by
        have := List.take_append_drop m xs
        have h3 := (List.getElem?_eq_some_iff.1 hd)
        rw [List.drop_eq_getElem_cons h3.1, h3.2, List.drop_of_length_le (by omega)] at this
        exact this.symm
      simp only [spec_l01Trim_b0, h0, hm, hp', w1, e1, e2, hd0, vlen_map, VX, Nat.reduceEqDiff, Nat.reduceAdd]
      refine ⟨xs.take m, by simp only [List.length_take]; omega, fun d hd => hx d (List.mem_of_mem_take hd), ?_, by simp only [List.length_take]; omega, by first | rfl | exact ⟨rfl, rfl⟩⟩
      rw [← hv]
      conv => rhs; rw [hsp]
      rw [val_snoc]
      simp
    · simp only [spec_l01Trim_b0, h0, hm, hp', w1, e1, hd0, vlen_map, VX, Nat.reduceEqDiff, Nat.reduceAdd]
      exact done (last_ne hm hd (by omega))
theorem trimT_row {outs : List Nat} {n g m : Nat} {lo : Nat} {w : Bool} {K : VV → VHeap → Prop} (hd : ∀ d ∈ outs, d < 1000000000) (hn : n = outs.length) (hlen : outs.length ≤ 70368744177664) (hm : val 1000000000 outs = m) (hk : K (natT m) (freezeAll [.row g (outs.map tV) 1 w] [0])) :
    vcallP 141 [.ref 0 g 0 n n] lo [.row g (outs.map tV) 1 w] K := by
  subst hm
  rw [TC.row1 (f := tV) (spec_l01Trim_v outs hd hlen) vrow_zero hn (Nat.le_refl _) tV_len (fun _ => rfl) rfl rfl]
  exact hk
theorem fz_natT2 {H : VHeap} (n : Nat) : fz depth H (natT n) = some (natT n) := fz_res (natT_pure n)
theorem spec_l01Nat_v (n : Int) (h1 : n ≤ 9223372036854775807) : TC 108 [VI n] (natT n.toNat) := by
  refine TC.walk ⟨true, false⟩ spec_l01Nat_t rfl (Nat.le_of_ble_eq_true rfl) rfl (natT_res _) ?_
  simp only [spec_l01Nat, spec_l01Nat_c, litT_nil, VX, Nat.reduceEqDiff, Nat.reduceAdd]
  refine VW_loop (fun (s : Int × List Nat) ρ H => s.1 ≤ 9223372036854775807 ∧ H = [.row s.2.length (s.2.map tV) 1 true] ∧ s.2.length ≤ 63 ∧ s.1.toNat * 2 ^ s.2.length ≤ 9223372036854775807 ∧ digs 1000000000 n.toNat = s.2 ++ digs 1000000000 s.1.toNat ∧ ρ 0 = VI s.1 ∧ ρ 3 = .ref 0 s.2.length 0 s.2.length s.2.length) (fun s => s.1.toNat) (n, []) ⟨h1, rfl, by simp, by simp only [List.length_nil, Nat.pow_zero, Nat.mul_one]; omega, rfl, rfl, rfl⟩ ?_
  rintro ⟨m, ds⟩ ρ H ⟨hm, rfl, hl, hlt, hd, g0, g3⟩
  simp only at hm hl hlt hd g0 g3
  by_cases hp : (0 : Int) < m
  · obtain ⟨k, rfl⟩ : ∃ k : Nat, m = (k : Int) := ⟨m.toNat, by omega⟩
    rw [Int.toNat_natCast] at hlt hd
    have hk0 : k ≠ 0 := by omega
    have hl2 : ds.length < 63 := by
      rcases Nat.lt_or_ge ds.length 63 with h | h
      · exact h
      · have e : 2 ^ ds.length = 9223372036854775808 := by rw [show ds.length = 63 by omega]
        rw [e] at hlt
        omega
    have r1 := rem_T k
    have q1 := quo_T k (by omega)
    have a1 := appT (ds := ds) (d := k % 1000000000) (by omega)
    simp only [spec_l01Nat_b0, g0, g3, hp, r1, q1, litT_one, srcT_one, a1, VX, Nat.reduceEqDiff, Nat.reduceAdd]
    refine ⟨(((k / 1000000000 : Nat) : Int), ds ++ [k % 1000000000]), ?_, by simp only; omega, by simp, by simp; omega, ?_, ?_, rfl, by simp⟩
    · simp only [Int.toNat_natCast]; exact Nat.div_lt_self (by omega) (by decide)
    · simp only [Int.toNat_natCast, List.length_append, List.length_singleton, Nat.pow_succ]
      have h1 : k / 1000000000 * 2 ≤ k := by omega
      have := Nat.mul_le_mul_right (2 ^ ds.length) h1
      rw [Nat.mul_assoc, Nat.mul_comm 2] at this
      omega
    · simp only [Int.toNat_natCast]
      rw [hd, digs_pos (by decide) hk0, List.append_assoc]
      rfl
  · have hz : m.toNat = 0 := by omega
    rw [hz, digs_zero, List.append_nil] at hd
    simp only [spec_l01Nat_b0, g0, g3, hp, VX, Nat.reduceEqDiff, Nat.reduceAdd]
    rw [natT, hd]
    exact row_tree (fun _ => rfl) rfl
theorem spec_l01Cmp_v (a b : Nat) (ha : (digs 1000000000 a).length ≤ 17592186044416) (hb : (digs 1000000000 b).length ≤ 17592186044416) : TC 104 [natT a, natT b] (VI (cmpI a b)) := by
  refine TC.walk ⟨true, false⟩ spec_l01Cmp_t rfl (Nat.le_of_ble_eq_true rfl) (by simp [pureL, natT_pure]) rfl ?_
  have fin : ∀ {x : Int}, x = cmpI a b → fz depth [] (VI x) = some (VI (cmpI a b)) := fun h => by rw [h]; exact fz_res rfl
  unfold natT natL'
  by_cases hl : (((digs 1000000000 a).length : Nat) : Int) = (((digs 1000000000 b).length : Nat) : Int)
  · have hl' : (digs 1000000000 a).length = (digs 1000000000 b).length := by omega
    have w1 : IntKind.i64.wrap ((((digs 1000000000 b).length : Nat) : Int) - 1) = (((digs 1000000000 b).length : Nat) : Int) - 1 := wrap64 (by omega) (by omega)
    simp only [spec_l01Cmp, spec_l01Cmp_c, hl, w1, VX, Nat.reduceEqDiff, Nat.reduceAdd]
    refine VW_loop (fun (j : Nat) ρ H => j ≤ (digs 1000000000 b).length ∧ H = [] ∧ (digs 1000000000 a).drop j = (digs 1000000000 b).drop j ∧ ρ 0 = listV tV (digs 1000000000 a) ∧ ρ 1 = listV tV (digs 1000000000 b) ∧ ρ 5 = VI ((j : Int) - 1)) (fun j => j) (digs 1000000000 b).length ⟨Nat.le_refl _, rfl, by rw [List.drop_length, ← hl', List.drop_length], rfl, rfl, rfl⟩ ?_
    rintro j ρ H ⟨hj, rfl, hd, h0, h1, h5⟩
    by_cases hz : (0 : Int) ≤ (j : Int) - 1
    · obtain ⟨i, rfl⟩ : ∃ i, j = i + 1 := ⟨j - 1, by omega⟩
      obtain ⟨x, hx⟩ : ∃ x, (digs 1000000000 a)[i]? = some x := ⟨_, List.getElem?_eq_getElem (by omega)⟩
      obtain ⟨y, hy⟩ : ∃ y, (digs 1000000000 b)[i]? = some y := ⟨_, List.getElem?_eq_getElem (by omega)⟩
      have hji : ((i + 1 : Nat) : Int) - 1 = (i : Int) := by omega
      have e1 := viaddr_map (f := tV) (t := .op) (H := []) (size := 1) (k := .i64) hx rfl
      have e2 := viaddr_map (f := tV) (t := .op) (H := []) (size := 1) (k := .i64) hy rfl
      rw [hji] at h5 hz
      have w2 : IntKind.i64.wrap ((i : Int) - 1) = (i : Int) - 1 := wrap64 (by omega) (by omega)
      by_cases hxy : (x : Int) = (y : Int)
      · simp only [spec_l01Cmp_b0, h0, h1, h5, hz, e1, e2, hxy, w2, VX, Nat.reduceEqDiff, Nat.reduceAdd]
        have hxy' : x = y := by omega
        subst hxy'
        refine ⟨i, by omega, by omega, ?_⟩
        obtain ⟨g1, g2⟩ := List.getElem?_eq_some_iff.1 hx
        obtain ⟨g3, g4⟩ := List.getElem?_eq_some_iff.1 hy
        rw [List.drop_eq_getElem_cons g1, List.drop_eq_getElem_cons g3, g2, g4, hd]
        exact ⟨rfl, rfl⟩
      · by_cases hlt : (x : Int) < (y : Int)
        · simp only [spec_l01Cmp_b0, h0, h1, h5, hz, e1, e2, hxy, hlt, VX, Nat.reduceEqDiff, Nat.reduceAdd]
          refine fin ?_
          have := cmp_digit (digs_lt (by decide) a) hl' hx hy hd (by omega)
          rw [val_digs (by decide), val_digs (by decide)] at this
          simp [cmpI, this]
        · simp only [spec_l01Cmp_b0, h0, h1, h5, hz, e1, e2, hxy, hlt, VX, Nat.reduceEqDiff, Nat.reduceAdd]
          refine fin ?_
          have := cmp_digit (digs_lt (by decide) b) hl'.symm hy hx hd.symm (by omega)
          rw [val_digs (by decide), val_digs (by decide)] at this
          rw [cmpI, if_neg (by omega), if_neg (by omega)]
    · have hj0 : j = 0 := by omega
      subst hj0
      simp only [spec_l01Cmp_b0, h0, h1, h5, hz, VX, Nat.reduceEqDiff, Nat.reduceAdd]
      refine fin ?_
      have := digs_inj (b := 1000000000) (by decide) (by simpa using hd)
      subst this
      simp [cmpI]
  · by_cases hlt : (((digs 1000000000 a).length : Nat) : Int) < (((digs 1000000000 b).length : Nat) : Int)
    · simp only [spec_l01Cmp, spec_l01Cmp_c, hl, hlt, VX, Nat.reduceEqDiff, Nat.reduceAdd]
      refine fin ?_
      have := lt_of_len (b := 1000000000) (by decide) (m := a) (n := b) (by omega)
      simp [cmpI, this]
    · simp only [spec_l01Cmp, spec_l01Cmp_c, hl, hlt, VX, Nat.reduceEqDiff, Nat.reduceAdd]
      refine fin ?_
      have := lt_of_len (b := 1000000000) (by decide) (m := b) (n := a) (by omega)
      rw [cmpI, if_neg (by omega), if_neg (by omega)]
theorem spec_l01Digit_v (ds : List Nat) (i : Nat) : TC 142 [natL' ds, VI (i : Int)] (tV (ds.getD i 0)) := by
  refine TC.walk ⟨true, false⟩ spec_l01Digit_t rfl (Nat.le_of_ble_eq_true rfl) (by simp [pureL, natL'_pure]; rfl) rfl ?_
  by_cases h : (i : Int) < (ds.length : Int)
  · obtain ⟨d, hd⟩ : ∃ d, ds[i]? = some d := ⟨_, List.getElem?_eq_getElem (by omega)⟩
    have e1 := viaddr_map (f := tV) (t := .op) (H := []) (size := 1) (k := .i64) hd rfl
    simp only [spec_l01Digit, spec_l01Digit_c, vlen_map, h, e1, VX, Nat.reduceEqDiff, Nat.reduceAdd]
    rw [List.getD_eq_getElem?_getD, hd]
    exact fz_res rfl
  · simp only [spec_l01Digit, spec_l01Digit_c, vlen_map, h, VX, Nat.reduceEqDiff, Nat.reduceAdd]
    rw [List.getD_eq_getElem?_getD, List.getElem?_eq_none (by omega)]
    exact fz_res rfl
theorem digitT_v (n i : Nat) : TC 142 [natT n, VI (i : Int)] (tV (n / 1000000000 ^ i % 1000000000)) := by
  have := spec_l01Digit_v (digs 1000000000 n) i
  rwa [digs_getD (by decide)] at this
end Go.PM
/- The reference's numbers of at least 0: differences, products, one digit's multiples and quotients. -/
namespace Go.PM
theorem mkT_row (n : Nat) (hn : n ≤ 35184372088832) : vmake [.int .i64 0] 8 (VI (n : Int)) (VI (n : Int)) [] = some (.ref 0 0 0 n n, [.row 0 ((List.replicate n 0).map tV) 1 true]) := vmake_map (f := tV) (x := 0) rfl (by omega) (by omega)
theorem stT_row {outs : List Nat} {i d : Nat} (hi : i < outs.length) : vstore 0 1 (.ptr 0 0 i 0) (VI (d : Int)) [.row 0 (outs.map tV) 1 true] = some [.row 0 ((outs.set i d).map tV) 1 true] := by
  rw [show VI (d : Int) = tV d from rfl, vstore_map (f := tV) (e := 1) one_get hi (Nat.le_refl _) rfl rfl]
  rfl
theorem vloadT {b g : Nat} {rows : List Nat} {w : Bool} {H : VHeap} {j d : Nat} (hr : vrow H b g = some (rows.map tV, 1, w)) (hj : rows[j]? = some d) : vload false 1 (.ptr b g j 0) H = some (VI (d : Int)) := vload_row hr hj
theorem adT {n i : Nat} {outs : List Nat} (h : i < n) : viaddr 1 (.ref 0 0 0 n n) (VI (i : Int)) [.row 0 (outs.map tV) 1 true] = some (.ptr 0 0 i 0) := by rw [viaddr_row one_get h, Nat.zero_add]
theorem wr {x : Int} (n : Nat) (h : x = n) (hn : n ≤ 9223372036854775807) : IntKind.i64.wrap x = (n : Int) := wrapN n h hn
theorem spec_l01NatMul_v (a b : Nat) (ha : (digs 1000000000 a).length ≤ 17592186044416) (hb : (digs 1000000000 b).length ≤ 17592186044416) : TC 105 [natT a, natT b] (natT (a * b)) := by
  refine TC.walk ⟨true, false⟩ spec_l01NatMul_t rfl (Nat.le_of_ble_eq_true rfl) (by simp [pureL, natT_pure]) (natT_res _) ?_
  have va := val_digs (b := 1000000000) (by decide) a
  have vb := val_digs (b := 1000000000) (by decide) b
  have la := digs_lt (b := 1000000000) (by decide) a
  have lb := digs_lt (b := 1000000000) (by decide) b
  unfold natT
  generalize digs 1000000000 a = xs at *
  generalize digs 1000000000 b = ys at *
  have w0 : IntKind.i64.wrap ((xs.length : Int) + (ys.length : Int)) = ((xs.length + ys.length : Nat) : Int) := wrapN _ (by omega) (by omega)
  simp only [spec_l01NatMul, spec_l01NatMul_c, vlen_map, w0, mkT_row (xs.length + ys.length) (by omega), VX, Nat.reduceEqDiff, Nat.reduceAdd]
  generalize hN : xs.length + ys.length = N at *
  refine VW_loop (fun (s : Nat × List Nat) ρ H => s.1 ≤ xs.length ∧ H = [.row 0 (s.2.map tV) 1 true] ∧ s.2.length = N ∧ (∀ d ∈ s.2, d < 1000000000) ∧ val 1000000000 (s.2.take (s.1 + ys.length)) = val 1000000000 (xs.take s.1) * b ∧ (∀ j, s.1 + ys.length ≤ j → j < N → s.2[j]? = some 0) ∧
    ρ 0 = natL' xs ∧ ρ 1 = natL' ys ∧ ρ 5 = .ref 0 0 0 N N ∧ ρ 17 = VI xs.length ∧ ρ 18 = VI s.1) (fun s => xs.length - s.1) (0, List.replicate N 0) ⟨Nat.zero_le _, rfl, by simp, rep_lt (by decide) _, by simp [val, List.take_replicate, val_replicate_zero], fun j _ h => by simp [List.getElem?_replicate, h], rfl, rfl, rfl, rfl, rfl⟩ ?_
  rintro ⟨i, outs⟩ ρ H ⟨hi, rfl, hol, hod, hv, hzr, g0, g1, g5, g17, g18⟩
  simp only at hi hol hod hv hzr g18
  by_cases hin : (i : Int) < (xs.length : Int)
  · obtain ⟨x, hx⟩ : ∃ x, xs[i]? = some x := ⟨_, List.getElem?_eq_getElem (by omega)⟩
    have lx := la x (List.mem_of_getElem? hx)
    have e1 : ∀ os : List Nat, viaddr 1 (natL' xs) (VI i) [.row 0 (os.map tV) 1 true] = some (.tptr (tV x) 0) := fun os => viaddr_map (f := tV) (t := .op) (size := 1) (k := .i64) hx rfl
    simp only [spec_l01NatMul_b1, g0, g1, g5, g17, g18, hin, vlen_map, VX, Nat.reduceEqDiff, Nat.reduceAdd]
    refine VW_loop (fun (s : Nat × List Nat × Nat) ρ H => s.1 ≤ ys.length ∧ H = [.row 0 (s.2.1.map tV) 1 true] ∧ s.2.1.length = N ∧ (∀ d ∈ s.2.1, d < 1000000000) ∧ s.2.2 < 1000000000 ∧
      val 1000000000 (s.2.1.take (i + s.1)) + 1000000000 ^ (i + s.1) * s.2.2 = val 1000000000 (outs.take (i + s.1)) + 1000000000 ^ i * (x * val 1000000000 (ys.take s.1)) ∧ (∀ j, i + s.1 ≤ j → s.2.1[j]? = outs[j]?) ∧
      ρ 0 = natL' xs ∧ ρ 1 = natL' ys ∧ ρ 5 = .ref 0 0 0 N N ∧ ρ 6 = VI i ∧ ρ 7 = VI s.2.2 ∧ ρ 17 = VI xs.length ∧ ρ 18 = VI i ∧ ρ 22 = VI ys.length ∧ ρ 23 = VI s.1) (fun s => ys.length - s.1) (0, outs, 0) ⟨Nat.zero_le _, rfl, hol, hod, by simp, by simp [val], fun _ _ => rfl, by (repeat' apply And.intro) <;> first | rfl | trivial⟩ ?_
    rintro ⟨k, os, c⟩ ρ2 H ⟨hk, rfl, hsl, hsd, hc, hvv, hag, k0, k1, k5, k6, k7, k17, k18, k22, k23⟩
    simp only at hk hsl hsd hc hvv hag k7 k23
    have wi : IntKind.i64.wrap ((i : Int) + 1) = ((i + 1 : Nat) : Int) := wrapN (i + 1) (by omega) (by omega)
    by_cases hkn : (k : Int) < (ys.length : Int)
    · obtain ⟨y, hy⟩ : ∃ y, ys[k]? = some y := ⟨_, List.getElem?_eq_getElem (by omega)⟩
      have ly := lb y (List.mem_of_getElem? hy)
      obtain ⟨o, ho⟩ : ∃ o, os[i + k]? = some o := ⟨_, List.getElem?_eq_getElem (by omega)⟩
      have lo := hsd o (List.mem_of_getElem? ho)
      have ho' : outs[i + k]? = some o := by rw [← hag (i + k) (Nat.le_refl _)]; exact ho
      have f1 : viaddr 1 (natL' ys) (VI k) [.row 0 (os.map tV) 1 true] = some (.tptr (tV y) 0) := viaddr_map (f := tV) (t := .op) (size := 1) (k := .i64) hy rfl
      have w1 : IntKind.i64.wrap ((i : Int) + (k : Int)) = ((i + k : Nat) : Int) := wrapN _ (by omega) (by omega)
      have f2 : viaddr 1 (.ref 0 0 0 N N) (VI ((i + k : Nat) : Int)) [.row 0 (os.map tV) 1 true] = some (.ptr 0 0 (i + k) 0) := adT (by omega)
      have f3 : vload false 1 (.ptr 0 0 (i + k) 0) [.row 0 (os.map tV) 1 true] = some (VI (o : Int)) := vloadT one_get ho
      have f4 : ∀ s : Nat, vstore 0 1 (.ptr 0 0 (i + k) 0) (VI (s : Int)) [.row 0 (os.map tV) 1 true] = some [.row 0 ((os.set (i + k) s).map tV) 1 true] := fun s => stT_row (by omega)
      have hxy : x * y ≤ 999999999 * 999999999 := Nat.mul_le_mul (by omega) (by omega)
      have w5 : IntKind.i64.wrap ((x : Int) * (y : Int)) = ((x * y : Nat) : Int) := wrapN _ (by simp) (by omega)
      have w6 : IntKind.i64.wrap ((o : Int) + ((x * y : Nat) : Int)) = ((o + x * y : Nat) : Int) := wrapN _ (by omega) (by omega)
      have w7 : IntKind.i64.wrap (((o + x * y : Nat) : Int) + (c : Int)) = ((o + x * y + c : Nat) : Int) := wrapN _ (by omega) (by omega)
      have wk : IntKind.i64.wrap ((k : Int) + 1) = ((k + 1 : Nat) : Int) := wrapN (k + 1) (by omega) (by omega)
      have r1 := rem_T (o + x * y + c)
      have q1 := quo_T (o + x * y + c) (by omega)
      simp only [spec_l01NatMul_b0, k0, k1, k5, k6, k7, k17, k18, k22, k23, hkn, e1, f1, f2, f3, f4, w1, w5, w6, w7, wk, r1, q1, VX, Nat.reduceEqDiff, Nat.reduceAdd]
      have hq : (o + x * y + c) / 1000000000 < 1000000000 := Nat.div_lt_of_lt_mul (by omega)
      refine ⟨(k + 1, os.set (i + k) ((o + x * y + c) % 1000000000), (o + x * y + c) / 1000000000), by simp only; omega, by omega, rfl, by rw [List.length_set]; exact hsl, set_lt hsd (Nat.mod_lt _ (by decide)), hq, ?_, fun j hj => ?_, by (repeat' apply And.intro) <;> first | rfl | trivial⟩
      · have h1 := Nat.mod_add_div (o + x * y + c) 1000000000
        rw [show o + x * y + c = c + (x * y + o) by omega] at h1 ⊢
        rw [← Nat.add_assoc, val_set_take (by omega), val_take_succ ho', val_take_succ hy, Nat.pow_succ]
        rw [Nat.pow_add] at hvv ⊢
        exact mul_step hvv h1
      · rw [List.getElem?_set_ne (by omega)]
        exact hag j (by omega)
    · have hke : k = ys.length := by omega
      subst hke
      rw [List.take_length, vb, hv] at hvv
      have w1 : IntKind.i64.wrap ((i : Int) + (ys.length : Int)) = ((i + ys.length : Nat) : Int) := wrapN _ (by omega) (by omega)
      have hz0 : os[i + ys.length]? = some 0 := by rw [hag _ (Nat.le_refl _)]; exact hzr _ (Nat.le_refl _) (by omega)
      have f2 : viaddr 1 (.ref 0 0 0 N N) (VI ((i + ys.length : Nat) : Int)) [.row 0 (os.map tV) 1 true] = some (.ptr 0 0 (i + ys.length) 0) := adT (by omega)
      have f3 : vload false 1 (.ptr 0 0 (i + ys.length) 0) [.row 0 (os.map tV) 1 true] = some (VI ((0 : Nat) : Int)) := vloadT one_get hz0
      have f4 : ∀ s : Nat, vstore 0 1 (.ptr 0 0 (i + ys.length) 0) (VI (s : Int)) [.row 0 (os.map tV) 1 true] = some [.row 0 ((os.set (i + ys.length) s).map tV) 1 true] := fun s => stT_row (by omega)
      have w2 : IntKind.i64.wrap (((0 : Nat) : Int) + (c : Int)) = (c : Int) := wrapN _ (by omega) (by omega)
      simp only [spec_l01NatMul_b0, k0, k1, k5, k6, k7, k17, k18, k22, k23, hkn, vlen_map, f2, f3, f4, w1, w2, wi, VX, Nat.reduceEqDiff, Nat.reduceAdd]
      refine ⟨(i + 1, os.set (i + ys.length) c), by simp only; omega, by omega, rfl, by rw [List.length_set]; exact hsl, set_lt hsd hc, ?_, fun j hj hj2 => ?_, by (repeat' apply And.intro) <;> first | rfl | trivial⟩
      · rw [show i + 1 + ys.length = i + ys.length + 1 by omega, val_set_take (by omega), hvv, val_take_succ hx, Nat.add_mul, Nat.mul_assoc]
      · rw [List.getElem?_set_ne (by omega), hag j (by omega)]
        exact hzr j (by omega) hj2
  · have hie : i = xs.length := by omega
    subst hie
    rw [hN, List.take_length, va, List.take_of_length_le (by omega)] at hv
    simp only [spec_l01NatMul_b1, g0, g1, g5, g17, g18, hin, VX, Nat.reduceEqDiff, Nat.reduceAdd]
    refine trimT_row (m := a * b) hod hol.symm (by omega) hv ?_
    simp only [VX, Nat.reduceEqDiff, Nat.reduceAdd]
    exact fz_natT2 _
theorem spec_l01Small_v (a : Nat) (ha : (digs 1000000000 a).length ≤ 17592186044416) : TC 153 [natT a] (if (digs 1000000000 a).length ≤ 2 then .tup [VI a, VB true] else .tup [VI 0, VB false]) := by
  refine TC.walk ⟨true, false⟩ spec_l01Small_t rfl (Nat.le_of_ble_eq_true rfl) (by simp [pureL, natT_pure]) (by split <;> rfl) ?_
  by_cases h2 : (digs 1000000000 a).length ≤ 2
  · rw [if_pos h2]
    have h3 : ¬ (2 : Int) < ((digs 1000000000 a).length : Int) := by omega
    have c0 : TC 142 [natT a, VI 0] (VI ((a % 1000000000 : Nat) : Int)) := by have := digitT_v a 0; rwa [Nat.pow_zero, Nat.div_one] at this
    have c1 : TC 142 [natT a, VI 1] (VI ((a / 1000000000 % 1000000000 : Nat) : Int)) := by have := digitT_v a 1; rwa [Nat.pow_one] at this
    have hlt := digs_len_lt (b := 1000000000) (by decide) a
    have hp : 1000000000 ^ (digs 1000000000 a).length ≤ 1000000000 ^ 2 := Nat.pow_le_pow_right (by decide) h2
    have hm : a / 1000000000 < 1000000000 := Nat.div_lt_of_lt_mul (by omega)
    rw [Nat.mod_eq_of_lt hm] at c1
    have hmd := Nat.mod_add_div a 1000000000
    have w1 : IntKind.i64.wrap (1000000000 * ((a / 1000000000 : Nat) : Int)) = ((1000000000 * (a / 1000000000) : Nat) : Int) := wrapN _ (by omega) (by omega)
    have w2 : IntKind.i64.wrap (((a % 1000000000 : Nat) : Int) + ((1000000000 * (a / 1000000000) : Nat) : Int)) = (a : Int) := wrapN _ (by omega) (by omega)
    simp only [spec_l01Small, spec_l01Small_c, len_natT, h3, c0, c1, w1, w2, VX, Nat.reduceEqDiff, Nat.reduceAdd]
    exact fz_res rfl
  · rw [if_neg h2]
    have h3 : (2 : Int) < ((digs 1000000000 a).length : Int) := by omega
    simp only [spec_l01Small, spec_l01Small_c, len_natT, h3, VX, Nat.reduceEqDiff, Nat.reduceAdd]
    exact fz_res rfl
theorem app_in {outs : List Nat} {n cap x : Nat} (hn : n = outs.length) (hc : n < cap) : vappend 0 1 8 (.ref 0 0 0 n cap) [VI (x : Int)] [.row 0 ((outs ++ List.replicate (cap - n) 0).map tV) 1 true] = some (.ref 0 0 0 (n + 1) cap, [.row 0 (((outs ++ [x]) ++ List.replicate (cap - (n + 1)) 0).map tV) 1 true]) := by
  subst hn
  simp only [vappend, vrow_zero, List.length_map, List.length_append, List.length_replicate, List.length_cons, List.length_nil, Nat.zero_add]
  rw [if_pos ⟨by decide, by decide⟩, if_pos ⟨trivial, Nat.le_refl _, by omega⟩, if_pos (by omega), if_neg (by omega), if_pos (by omega)]
  congr 3
  have e : List.replicate (cap - outs.length) 0 = (0 : Nat) :: List.replicate (cap - (outs.length + 1)) 0 := by
    rw [show cap - outs.length = (cap - (outs.length + 1)) + 1 by omega, List.replicate_succ]
  simp only [vsplice, List.set_cons_zero, e, List.map_append, List.map_cons, List.length_cons, List.length_nil, List.map_nil]
  congr 1
  rw [List.take_left' (by simp), ← List.drop_drop, List.drop_left' (by simp)]
  simp
theorem spec_l01ShortMul_v (a d : Nat) (hd0 : 0 < d) (hd : d < 1000000000) (ha : (digs 1000000000 a).length < 17592186044416) : TC 155 [natT a, VI (d : Int)] (natT (a * d)) := by
  refine TC.walk ⟨true, false⟩ spec_l01ShortMul_t rfl (Nat.le_of_ble_eq_true rfl) (by simp [pureL, natT_pure]; rfl) (natT_res _) ?_
  have w0 : IntKind.i64.wrap (((digs 1000000000 a).length : Int) + 1) = (((digs 1000000000 a).length + 1 : Nat) : Int) := wrapN _ (by omega) (by omega)
  have mk : vmake [.int .i64 0] 8 (VI 0) (VI (((digs 1000000000 a).length + 1 : Nat) : Int)) [] = some (.ref 0 0 0 0 ((digs 1000000000 a).length + 1), [.row 0 ((([] : List Nat) ++ List.replicate ((digs 1000000000 a).length + 1 - 0) 0).map tV) 1 true]) := by
    simp only [vmake]
    rw [if_pos ⟨by omega, by omega, by omega, by omega⟩]
    simp
    rfl
  simp only [spec_l01ShortMul, spec_l01ShortMul_c, len_natT, w0, mk, VX, Nat.reduceEqDiff, Nat.reduceAdd]
  refine VW_loop (fun (s : Nat × List Nat × Nat) ρ H => s.1 = s.2.1.length ∧ s.1 ≤ (digs 1000000000 a).length ∧ H = [.row 0 ((s.2.1 ++ List.replicate ((digs 1000000000 a).length + 1 - s.1) 0).map tV) 1 true] ∧ s.2.2 < d ∧ digs 1000000000 (a * d) = s.2.1 ++ digs 1000000000 (a / 1000000000 ^ s.1 * d + s.2.2) ∧
    ρ 1 = VI d ∧ ρ 5 = .ref 0 0 0 s.1 ((digs 1000000000 a).length + 1) ∧ ρ 6 = VI s.2.2 ∧ ρ 14 = natT a ∧ ρ 15 = VI (digs 1000000000 a).length ∧ ρ 16 = VI s.1) (fun s => (digs 1000000000 a).length - s.1) (0, [], 0) ⟨rfl, Nat.zero_le _, rfl, hd0, by simp, rfl, rfl, rfl, rfl, rfl, rfl⟩ ?_
  rintro ⟨i, outs, c⟩ ρ H ⟨hi, hi2, rfl, hc, hv, g1, g5, g6, g14, g15, g16⟩
  simp only at hi hi2 hc hv g5 g6 g16
  by_cases hin : (i : Int) < ((digs 1000000000 a).length : Int)
  · have hx := digs_get (b := 1000000000) (by decide) (n := a) (i := i) (by omega)
    have hA := (digs_at (b := 1000000000) (by decide) (n := a) (i := i)).1 (by omega)
    have e1 : ∀ H, viaddr 1 (natT a) (VI i) H = some (.tptr (tV (a / 1000000000 ^ i % 1000000000)) 0) := fun H => viaddr_map (f := tV) (t := .op) (size := 1) (k := .i64) hx rfl
    have lx := Nat.mod_lt (a / 1000000000 ^ i) (show 0 < 1000000000 by decide)
    have hne : a / 1000000000 ^ i * d + c ≠ 0 := by
      have := Nat.mul_ne_zero hA (show d ≠ 0 by omega)
      omega
    rw [mul_place (by decide) hne, ← div_pow_succ] at hv
    generalize a / 1000000000 ^ i % 1000000000 = x at *
    have hxd : x * d ≤ 999999999 * 999999999 := Nat.mul_le_mul (by omega) (by omega)
    have w1 : IntKind.i64.wrap ((x : Int) * (d : Int)) = ((x * d : Nat) : Int) := wrapN _ (by simp) (by omega)
    have w2 : IntKind.i64.wrap (((x * d : Nat) : Int) + (c : Int)) = ((x * d + c : Nat) : Int) := wrapN _ (by omega) (by omega)
    have wi : IntKind.i64.wrap ((i : Int) + 1) = ((i + 1 : Nat) : Int) := wrapN (i + 1) (by omega) (by omega)
    have r1 := rem_T (x * d + c)
    have q1 := quo_T (x * d + c) (by omega)
    have a1 := app_in (outs := outs) (n := i) (cap := (digs 1000000000 a).length + 1) (x := (x * d + c) % 1000000000) hi (by omega)
    have hq : (x * d + c) / 1000000000 < d := by
      rw [Nat.div_lt_iff_lt_mul (by decide)]
      have h1 : x * d ≤ 999999999 * d := Nat.mul_le_mul_right _ (by omega)
      omega
    simp only [spec_l01ShortMul_b0, g1, g5, g6, g14, g15, g16, hin, e1, w1, w2, wi, r1, q1, litT_one, srcT_one, a1, VX, Nat.reduceEqDiff, Nat.reduceAdd]
    refine ⟨(i + 1, outs ++ [(x * d + c) % 1000000000], (x * d + c) / 1000000000), by simp only; omega, by simp; omega, by simp only; omega, rfl, hq, by rw [hv, List.append_assoc]; rfl, ?_⟩
    try (repeat' apply And.intro) <;> first | rfl | trivial
  · have hie : i = (digs 1000000000 a).length := by omega
    have hz : a / 1000000000 ^ i = 0 := by
      have := mt (digs_at (b := 1000000000) (by decide) (n := a) (i := i)).2
      omega
    rw [hz, Nat.zero_mul, Nat.zero_add] at hv
    by_cases hcp : (0 : Int) < (c : Int)
    · rw [digs_single (b := 1000000000) (by decide) (show c ≠ 0 by omega) (show c < 1000000000 by omega)] at hv
      have a1 := app_in (outs := outs) (n := i) (cap := (digs 1000000000 a).length + 1) (x := c) hi (by omega)
      simp only [spec_l01ShortMul_b0, g1, g5, g6, g14, g15, g16, hin, hcp, litT_one, srcT_one, a1, VX, Nat.reduceEqDiff, Nat.reduceAdd]
      rw [natT, hv]
      rw [fz_rowP vrow_zero (by simp; omega) (by omega) (pure_map fun _ => rfl)]
      rw [List.map_append, List.take_left' (by simp; omega)]
    · have hc0 : c = 0 := by omega
      rw [hc0, digs_zero, List.append_nil] at hv
      simp only [spec_l01ShortMul_b0, g1, g5, g6, g14, g15, g16, hin, hcp, VX, Nat.reduceEqDiff, Nat.reduceAdd]
      rw [natT, hv]
      rw [fz_rowP vrow_zero (by simp; omega) (by omega) (pure_map fun _ => rfl)]
      rw [List.map_append, List.take_left' (by simp; omega)]
theorem quo_i64 (a b : Nat) (ha : a ≤ 9223372036854775807) (hb : 0 < b) : pbin .quo (.int .i64 (a : Int)) (.int .i64 (b : Int)) = some (.int .i64 ((a / b : Nat) : Int)) := by
  have h1 : ¬ ((b : Int) = 0) := by omega
  have h2 : (a : Int).tdiv (b : Int) = ((a / b : Nat) : Int) := by rw [Int.tdiv_eq_ediv_of_nonneg (by omega)]; simp
  have h3 : a / b ≤ a := Nat.div_le_self _ _
  simp only [pbin, if_true, h1, if_false, h2]
  generalize a / b = q at *
  rw [wrap64 (by omega) (by omega)]
theorem remN_i64 (a b : Nat) (hb : 0 < b) : pbin .rem (.int .i64 (a : Int)) (.int .i64 (b : Int)) = some (.int .i64 ((a % b : Nat) : Int)) := by
  have h1 : ¬ ((b : Int) = 0) := by omega
  have h2 : (a : Int).tmod (b : Int) = ((a % b : Nat) : Int) := by rw [Int.tmod_eq_emod_of_nonneg (by omega)]; simp
  simp only [pbin, if_true, h1, if_false, h2]
theorem rT_bound {r d x : Nat} (hr : r < d) (hd : d < 1000000000) (hx : x < 1000000000) : r * 1000000000 + x ≤ 9223372036854775807 := by omega
theorem rT_quo {r d x : Nat} (hd0 : 0 < d) (hr : r < d) (hx : x < 1000000000) : (r * 1000000000 + x) / d < 1000000000 := by
  rw [Nat.div_lt_iff_lt_mul hd0]
  omega
theorem spec_l01ShortDiv_v (a d : Nat) (hd0 : 0 < d) (hdT : d < 1000000000) (ha : (digs 1000000000 a).length ≤ 17592186044416) : TC 154 [natT a, VI (d : Int)] (.tup [natT (a / d), VI ((a % d : Nat) : Int)]) := by
  refine TC.walk ⟨true, false⟩ spec_l01ShortDiv_t rfl (Nat.le_of_ble_eq_true rfl) (by simp [pureL, natT_pure]; rfl) (by simp [resV, resL, natT_res, isSc]) ?_
  have va := val_digs (b := 1000000000) (by decide) a
  have la := digs_lt (b := 1000000000) (by decide) a
  unfold natT
  generalize digs 1000000000 a = xs at *
  have w0 : IntKind.i64.wrap ((xs.length : Int) - 1) = (xs.length : Int) - 1 := wrap64 (by omega) (by omega)
  simp only [spec_l01ShortDiv, spec_l01ShortDiv_c, vlen_map, w0, mkT_row xs.length (by omega), VX, Nat.reduceEqDiff, Nat.reduceAdd]
  refine VW_loop (fun (s : Nat × List Nat × Nat) ρ H => s.1 ≤ xs.length ∧ H = [.row 0 (s.2.1.map tV) 1 true] ∧ s.2.1.length = xs.length ∧ (∀ d ∈ s.2.1, d < 1000000000) ∧ s.2.2 < d ∧ val 1000000000 (s.2.1.drop s.1) * d + s.2.2 = val 1000000000 (xs.drop s.1) ∧
    ρ 0 = natL' xs ∧ ρ 1 = VI d ∧ ρ 6 = .ref 0 0 0 xs.length xs.length ∧ ρ 7 = VI s.2.2 ∧ ρ 8 = VI ((s.1 : Int) - 1)) (fun s => s.1) (xs.length, List.replicate xs.length 0, 0) ⟨Nat.le_refl _, rfl, by simp, rep_lt (by decide) _, hd0, by simp [val, List.drop_replicate], rfl, rfl, rfl, rfl, rfl⟩ ?_
  rintro ⟨j, outs, r⟩ ρ H ⟨hj, rfl, hol, hod, hr, hv, g0, g1, g6, g7, g8⟩
  simp only at hj hol hod hr hv g7 g8
  by_cases hz : (0 : Int) ≤ (j : Int) - 1
  · obtain ⟨i, rfl⟩ : ∃ i, j = i + 1 := ⟨j - 1, by omega⟩
    obtain ⟨x, hx⟩ : ∃ x, xs[i]? = some x := ⟨_, List.getElem?_eq_getElem (by omega)⟩
    have lx := la x (List.mem_of_getElem? hx)
    have hji : ((i + 1 : Nat) : Int) - 1 = (i : Int) := by omega
    rw [hji] at g8 hz
    have e1 := viaddr_map (f := tV) (t := .op) (H := [.row 0 (outs.map tV) 1 true]) (size := 1) (k := .i64) hx rfl
    have e3 : viaddr 1 (.ref 0 0 0 xs.length xs.length) (VI i) [.row 0 (outs.map tV) 1 true] = some (.ptr 0 0 i 0) := adT (by omega)
    have e4 : ∀ s : Nat, vstore 0 1 (.ptr 0 0 i 0) (VI (s : Int)) [.row 0 (outs.map tV) 1 true] = some [.row 0 ((outs.set i s).map tV) 1 true] := fun s => stT_row (by omega)
    have w2 : IntKind.i64.wrap ((i : Int) - 1) = (i : Int) - 1 := wrap64 (by omega) (by omega)
    have w4 : IntKind.i64.wrap ((r : Int) * 1000000000) = ((r * 1000000000 : Nat) : Int) := wrapN _ (by omega) (by omega)
    have w5 : IntKind.i64.wrap (((r * 1000000000 : Nat) : Int) + (x : Int)) = ((r * 1000000000 + x : Nat) : Int) := wrapN _ (by omega) (by omega)
    have hb1 : r * 1000000000 + x ≤ 9223372036854775807 := rT_bound hr hdT lx
    have q1 := quo_i64 (r * 1000000000 + x) d hb1 hd0
    have q2 := remN_i64 (r * 1000000000 + x) d hd0
    have hq : (r * 1000000000 + x) / d < 1000000000 := rT_quo hd0 hr lx
    simp only [spec_l01ShortDiv_b0, g0, g1, g6, g7, g8, hz, e1, e3, e4, w2, w4, w5, q1, q2, VX, Nat.reduceEqDiff, Nat.reduceAdd]
    refine ⟨(i, outs.set i ((r * 1000000000 + x) / d), (r * 1000000000 + x) % d), by simp only; omega, by omega, rfl, by rw [List.length_set]; exact hol, set_lt hod hq, Nat.mod_lt _ hd0, ?_, by (repeat' apply And.intro) <;> first | rfl | trivial⟩
    have h1 := Nat.mod_add_div (r * 1000000000 + x) d
    rw [set_drop (by omega), val_cons, val_drop hx, ← hv]
    exact div_step h1
  · have hj0 : j = 0 := by omega
    subst hj0
    rw [List.drop_zero, List.drop_zero, va] at hv
    have h1 : a / d = val 1000000000 outs := by
      rw [← hv, Nat.mul_comm, Nat.mul_add_div hd0, Nat.div_eq_of_lt hr, Nat.add_zero]
    have h2 : a % d = r := by
      rw [← hv, Nat.mul_comm, Nat.mul_add_mod, Nat.mod_eq_of_lt hr]
    simp only [spec_l01ShortDiv_b0, g0, g1, g6, g7, g8, hz, VX, Nat.reduceEqDiff, Nat.reduceAdd]
    refine trimT_row (m := a / d) hod hol.symm (by omega) h1.symm ?_
    simp only [g7, VX, Nat.reduceEqDiff, Nat.reduceAdd]
    rw [h2]
    exact fz_res (by simp [pureV, pureL, natL'_pure, natT, isSc])
end Go.PM
/- The reference's numbers of at least 0: a multiple taken off from a row of digits, and put back. -/
namespace Go.PM
section
variable {H : VHeap} {b g o i lo d : Nat} {L R : List VV} {low : List Nat}
theorem seg_rd (hr : vrow H b g = some (L ++ low.map tV ++ R, 1, true)) (ho : L.length = o) (hi : low[i]? = some d) : vload false 1 (.ptr b g (o + i) 0) H = some (VI (d : Int)) := by
  have hlt := (List.getElem?_eq_some_iff.1 hi).1
  rw [vload_p hr (x := tV d) (by rw [get_mid ho (by simpa using hlt)]; simp [hi])]
  rfl
theorem seg_wr (hr : vrow H b g = some (L ++ low.map tV ++ R, 1, true)) (ho : L.length = o) (hi : i < low.length) (hlo : lo ≤ b) : vstore lo 1 (.ptr b g (o + i) 0) (VI (d : Int)) H = some (H.set b (.row g (L ++ (low.set i d).map tV ++ R) 1 true)) := by
  rw [vstore_all hr (by simp only [List.length_append, List.length_map]; omega) hlo rfl rfl, set_mid ho (by simpa using hi), List.map_set]
theorem top_rd {n : Nat} {z : Int} (hr : vrow H b g = some (L ++ low.map tV ++ VI z :: R, 1, true)) (ho : L.length = o) (hn : low.length = n) : vload false 1 (.ptr b g (o + n) 0) H = some (VI z) := by
  rw [vload_p hr (x := VI z) (by rw [List.getElem?_append_right (by simp; omega)]; simp [ho, hn])]
  rfl
theorem top_wr {n : Nat} {z z' : Int} (hr : vrow H b g = some (L ++ low.map tV ++ VI z :: R, 1, true)) (ho : L.length = o) (hn : low.length = n) (hlo : lo ≤ b) : vstore lo 1 (.ptr b g (o + n) 0) (VI z') H = some (H.set b (.row g (L ++ low.map tV ++ VI z' :: R) 1 true)) := by
  rw [vstore_all hr (by simp only [List.length_append, List.length_map, List.length_cons]; omega) hlo rfl rfl, List.set_append_right _ _ (by simp; omega)]
  congr 5
  simp [ho, hn]
end
theorem takeoff_step {P A N B c u x t r k m q T : Nat} (h : A + P * c = N + t * B) (h1 : r + m + c = u + T * k) (h2 : m + T * q = x * t) : (A + P * u) + P * T * (q + k) = (N + P * r) + t * (B + P * x) := by
  have e1 : P * (r + m + c) = P * (u + T * k) := by rw [h1]
  have e2 : P * (m + T * q) = P * (x * t) := by rw [h2]
  grind
theorem mul_lt_T {x t : Nat} (hx : x < 1000000000) (ht : t < 1000000000) : x * t ≤ 999999998000000001 ∧ x * t / 1000000000 ≤ 999999998 := by
  have h : x * t ≤ 999999999 * 999999999 := Nat.mul_le_mul (by omega) (by omega)
  omega
theorem takeOff_v {H : VHeap} {lo b g o n N t top : Nat} {L R : List VV} {low vs : List Nat} (hr : vrow H b g = some (L ++ low.map tV ++ VI (top : Int) :: R, 1, true)) (hlo : lo ≤ b) (ho : L.length = o) (hl : low.length = n) (hvl : vs.length = n) (hN : o + n < N) (hcap : N ≤ 70368744177664)
    (hld : ∀ d ∈ low, d < 1000000000) (hvd : ∀ d ∈ vs, d < 1000000000) (ht : t < 1000000000) (htop : top < 1000000000) :
    VRaw 156 [.ref b g 0 N N, natL' vs, VI (o : Int), VI (t : Int)] lo H fun r H' => ∃ (low' : List Nat) (c : Nat), H' = H.set b (.row g (L ++ low'.map tV ++ VI ((top : Int) - (c : Int)) :: R) 1 true) ∧ low'.length = n ∧ (∀ d ∈ low', d < 1000000000) ∧ c ≤ 1000000000 ∧
      r = VB (decide ((top : Int) - (c : Int) < 0)) ∧ val 1000000000 low + 1000000000 ^ n * c = val 1000000000 low' + t * val 1000000000 vs := by
  refine VRaw.walk ⟨true, false⟩ spec_l01TakeOff_t (Nat.le_of_ble_eq_true rfl) ?_
  have rd : ∀ (s : List Nat) (z : Int), vrow (H.set b (.row g (L ++ s.map tV ++ VI z :: R) 1 true)) b g = some (L ++ s.map tV ++ VI z :: R, 1, true) := fun s z => vrow_set_self hr
  have ad : ∀ (K : VHeap) (es : List VV) (i : Nat), vrow K b g = some (es, 1, true) → i ≤ n → viaddr 1 (.ref b g 0 N N) (VI ((o + i : Nat) : Int)) K = some (.ptr b g (o + i) 0) := fun K es i h hi => by rw [viaddr_row h (by omega), Nat.zero_add]
  simp only [spec_l01TakeOff, spec_l01TakeOff_c, vlen_map, VX, Nat.reduceEqDiff, Nat.reduceAdd]
  refine VW_loop (fun (u : Nat × List Nat × Nat) ρ K => u.1 ≤ n ∧ K = H.set b (.row g (L ++ u.2.1.map tV ++ VI (top : Int) :: R) 1 true) ∧ u.2.1.length = n ∧ (∀ d ∈ u.2.1, d < 1000000000) ∧ u.2.2 ≤ 1000000000 ∧ val 1000000000 (low.take u.1) + 1000000000 ^ u.1 * u.2.2 = val 1000000000 (u.2.1.take u.1) + t * val 1000000000 (vs.take u.1) ∧ (∀ j, u.1 ≤ j → u.2.1[j]? = low[j]?) ∧
    ρ 0 = .ref b g 0 N N ∧ ρ 1 = natL' vs ∧ ρ 2 = VI o ∧ ρ 3 = VI t ∧ ρ 9 = VI u.2.2 ∧ ρ 13 = natL' vs ∧ ρ 14 = VI vs.length ∧ ρ 15 = VI u.1) (fun u => n - u.1) (0, low, 0) ⟨Nat.zero_le _, (set_same_row hr).symm, hl, hld, by simp, by simp [val], fun _ _ => rfl, by (repeat' apply And.intro) <;> first | rfl | trivial⟩ ?_
  rintro ⟨i, outs, c⟩ ρ K ⟨hi, rfl, hol, hod, hc, hv, hag, k0, k1, k2, k3, k9, k13, k14, k15⟩
  simp only at hi hol hod hc hv hag k9 k15
  by_cases hin : (i : Int) < (vs.length : Int)
  · obtain ⟨u, hu⟩ : ∃ u, outs[i]? = some u := ⟨_, List.getElem?_eq_getElem (by omega)⟩
    have lu := hod u (List.mem_of_getElem? hu)
    have hu' : low[i]? = some u := by rw [← hag i (Nat.le_refl _)]; exact hu
    obtain ⟨x, hx⟩ : ∃ x, vs[i]? = some x := ⟨_, List.getElem?_eq_getElem (by omega)⟩
    have lx := hvd x (List.mem_of_getElem? hx)
    obtain ⟨xt1, xt2⟩ := mul_lt_T lx ht
    have e1 : viaddr 1 (natL' vs) (VI i) (H.set b (.row g (L ++ outs.map tV ++ VI (top : Int) :: R) 1 true)) = some (.tptr (tV x) 0) := viaddr_map (f := tV) (t := .op) (size := 1) (k := .i64) hx rfl
    have w1 : IntKind.i64.wrap ((o : Int) + (i : Int)) = ((o + i : Nat) : Int) := wrapN _ (by omega) (by omega)
    have e2 := ad _ _ i (rd outs top) (by omega)
    have e3 := seg_rd (rd outs top) ho hu
    have e4 : ∀ d : Nat, vstore lo 1 (.ptr b g (o + i) 0) (VI (d : Int)) (H.set b (.row g (L ++ outs.map tV ++ VI (top : Int) :: R) 1 true)) = some (H.set b (.row g (L ++ (outs.set i d).map tV ++ VI (top : Int) :: R) 1 true)) := fun d => by rw [seg_wr (rd outs top) ho (by omega) hlo, set_set_row]
    have w2 : IntKind.i64.wrap ((x : Int) * (t : Int)) = ((x * t : Nat) : Int) := wrapN _ (by simp) (by omega)
    have r1 := rem_T (x * t)
    have q1 := quo_T (x * t) (by omega)
    have hm := Nat.mod_lt (x * t) (show 0 < 1000000000 by decide)
    have hdv := Nat.mod_add_div (x * t) 1000000000
    have wi : IntKind.i64.wrap ((i : Int) + 1) = ((i + 1 : Nat) : Int) := wrapN (i + 1) (by omega) (by omega)
    generalize hmq : x * t % 1000000000 = m at *
    generalize hqq : x * t / 1000000000 = q at *
    have w3 : IntKind.i64.wrap ((u : Int) - (m : Int)) = (u : Int) - (m : Int) := wrap64 (by omega) (by omega)
    have w4 : IntKind.i64.wrap ((u : Int) - (m : Int) - (c : Int)) = (u : Int) - (m : Int) - (c : Int) := wrap64 (by omega) (by omega)
    have step : ∀ r k : Nat, r < 1000000000 → r + m + c = u + 1000000000 * k → val 1000000000 (low.take (i + 1)) + 1000000000 ^ (i + 1) * (q + k) = val 1000000000 ((outs.set i r).take (i + 1)) + t * val 1000000000 (vs.take (i + 1)) ∧ (∀ d ∈ outs.set i r, d < 1000000000) ∧ (∀ j, i + 1 ≤ j → (outs.set i r)[j]? = low[j]?) ∧ (outs.set i r).length = n := by
      intro r k hr hk
      refine ⟨?_, set_lt hod hr, fun j hj => by rw [List.getElem?_set_ne (by omega)]; exact hag j (by omega), by rw [List.length_set]; exact hol⟩
      rw [val_take_succ hu', val_take_succ hx, val_set_take (by omega), Nat.pow_succ]
      exact takeoff_step hv hk hdv
    by_cases h1 : (u : Int) - (m : Int) - (c : Int) < 0
    · have w5 : IntKind.i64.wrap ((u : Int) - (m : Int) - (c : Int) + 1000000000) = (u : Int) - (m : Int) - (c : Int) + 1000000000 := wrap64 (by omega) (by omega)
      have w6 : IntKind.i64.wrap ((q : Int) + 1) = ((q + 1 : Nat) : Int) := wrapN _ (by omega) (by omega)
      by_cases h2 : (u : Int) - (m : Int) - (c : Int) + 1000000000 < 0
      · obtain ⟨r, hr⟩ : ∃ r : Nat, r + m + c = u + 1000000000 * 2 := ⟨u + 1000000000 * 2 - m - c, by omega⟩
        have w7 : IntKind.i64.wrap ((u : Int) - (m : Int) - (c : Int) + 1000000000 + 1000000000) = (r : Int) := wrapN r (by omega) (by omega)
        have w8 : IntKind.i64.wrap (((q + 1 : Nat) : Int) + 1) = ((q + 2 : Nat) : Int) := wrapN _ (by omega) (by omega)
        obtain ⟨s1, s2, s3, s4⟩ := step r 2 (by omega) hr
        simp only [spec_l01TakeOff_b0, k0, k1, k2, k3, k9, k13, k14, k15, hin, e1, e2, e3, e4, w1, w2, w3, w4, w5, w6, w7, w8, wi, r1, q1, h1, h2, VX, Nat.reduceEqDiff, Nat.reduceAdd]
        refine ⟨(i + 1, outs.set i r, q + 2), by simp only; omega, by omega, rfl, s4, s2, by simp only; omega, s1, s3, ?_⟩
        try (repeat' apply And.intro) <;> first | rfl | trivial
      · obtain ⟨r, hr⟩ : ∃ r : Nat, r + m + c = u + 1000000000 * 1 := ⟨u + 1000000000 * 1 - m - c, by omega⟩
        have w7 : IntKind.i64.wrap ((u : Int) - (m : Int) - (c : Int) + 1000000000) = (r : Int) := wrapN r (by omega) (by omega)
        have h3 : ¬ (r : Int) < 0 := by omega
        obtain ⟨s1, s2, s3, s4⟩ := step r 1 (by omega) hr
        simp only [spec_l01TakeOff_b0, k0, k1, k2, k3, k9, k13, k14, k15, hin, e1, e2, e3, e4, w1, w2, w3, w4, w6, w7, wi, r1, q1, h1, h3, VX, Nat.reduceEqDiff, Nat.reduceAdd]
        refine ⟨(i + 1, outs.set i r, q + 1), by simp only; omega, by omega, rfl, s4, s2, by simp only; omega, s1, s3, ?_⟩
        try (repeat' apply And.intro) <;> first | rfl | trivial
    · obtain ⟨r, hr⟩ : ∃ r : Nat, r + m + c = u + 1000000000 * 0 := ⟨u - m - c, by omega⟩
      have w7 : IntKind.i64.wrap ((u : Int) - (m : Int) - (c : Int)) = (r : Int) := wrapN r (by omega) (by omega)
      have h3 : ¬ (r : Int) < 0 := by omega
      obtain ⟨s1, s2, s3, s4⟩ := step r 0 (by omega) hr
      simp only [spec_l01TakeOff_b0, k0, k1, k2, k3, k9, k13, k14, k15, hin, e1, e2, e3, e4, w1, w2, w3, w7, wi, r1, q1, h3, VX, Nat.reduceEqDiff, Nat.reduceAdd]
      refine ⟨(i + 1, outs.set i r, q), by simp only; omega, by omega, rfl, s4, s2, by simp only; omega, s1, s3, ?_⟩
      try (repeat' apply And.intro) <;> first | rfl | trivial
  · have hie : i = n := by omega
    subst hie
    rw [List.take_of_length_le (by omega), List.take_of_length_le (by omega), List.take_of_length_le (by omega)] at hv
    have w1 : IntKind.i64.wrap ((o : Int) + (vs.length : Int)) = ((o + i : Nat) : Int) := wrapN _ (by omega) (by omega)
    have e2 := ad _ _ i (rd outs top) (by omega)
    have e2' := ad _ _ i (rd outs ((top : Int) - (c : Int))) (by omega)
    have e3 := top_rd (rd outs top) ho hol
    have e3' := top_rd (rd outs ((top : Int) - (c : Int))) ho hol
    have e4 : vstore lo 1 (.ptr b g (o + i) 0) (VI ((top : Int) - (c : Int))) (H.set b (.row g (L ++ outs.map tV ++ VI (top : Int) :: R) 1 true)) = some (H.set b (.row g (L ++ outs.map tV ++ VI ((top : Int) - (c : Int)) :: R) 1 true)) := by rw [top_wr (rd outs top) ho hol hlo, set_set_row]
    have w2 : IntKind.i64.wrap ((top : Int) - (c : Int)) = (top : Int) - (c : Int) := wrap64 (by omega) (by omega)
    simp only [spec_l01TakeOff_b0, k0, k1, k2, k3, k9, k13, k14, k15, hin, vlen_map, w1, w2, e2, e2', e3, e3', e4, VX, Nat.reduceEqDiff, Nat.reduceAdd]
    refine ⟨outs, c, rfl, hol, hod, hc, ?_, hv⟩
    try rfl
theorem putBack_v {H : VHeap} {lo b g o n N : Nat} {z : Int} {L R : List VV} {low vs : List Nat} (hr : vrow H b g = some (L ++ low.map tV ++ VI z :: R, 1, true)) (hlo : lo ≤ b) (ho : L.length = o) (hl : low.length = n) (hvl : vs.length = n) (hN : o + n < N) (hcap : N ≤ 70368744177664)
    (hld : ∀ d ∈ low, d < 1000000000) (hvd : ∀ d ∈ vs, d < 1000000000) (hz : -1000000000 ≤ z) (hz2 : z ≤ 1000000000) :
    VRaw 157 [.ref b g 0 N N, natL' vs, VI (o : Int)] lo H fun r H' => ∃ (low' : List Nat) (c : Nat), H' = H.set b (.row g (L ++ low'.map tV ++ VI (z + (c : Int)) :: R) 1 true) ∧ low'.length = n ∧ (∀ d ∈ low', d < 1000000000) ∧ c ≤ 1 ∧
      val 1000000000 low + val 1000000000 vs = val 1000000000 low' + 1000000000 ^ n * c := by
  refine VRaw.walk ⟨true, false⟩ spec_l01PutBack_t (Nat.le_of_ble_eq_true rfl) ?_
  have rd : ∀ (s : List Nat) (z : Int), vrow (H.set b (.row g (L ++ s.map tV ++ VI z :: R) 1 true)) b g = some (L ++ s.map tV ++ VI z :: R, 1, true) := fun s z => vrow_set_self hr
  have ad : ∀ (K : VHeap) (es : List VV) (i : Nat), vrow K b g = some (es, 1, true) → i ≤ n → viaddr 1 (.ref b g 0 N N) (VI ((o + i : Nat) : Int)) K = some (.ptr b g (o + i) 0) := fun K es i h hi => by rw [viaddr_row h (by omega), Nat.zero_add]
  simp only [spec_l01PutBack, spec_l01PutBack_c, vlen_map, VX, Nat.reduceEqDiff, Nat.reduceAdd]
  refine VW_loop (fun (u : Nat × List Nat × Nat) ρ K => u.1 ≤ n ∧ K = H.set b (.row g (L ++ u.2.1.map tV ++ VI z :: R) 1 true) ∧ u.2.1.length = n ∧ (∀ d ∈ u.2.1, d < 1000000000) ∧ u.2.2 ≤ 1 ∧ val 1000000000 (low.take u.1) + val 1000000000 (vs.take u.1) = val 1000000000 (u.2.1.take u.1) + 1000000000 ^ u.1 * u.2.2 ∧ (∀ j, u.1 ≤ j → u.2.1[j]? = low[j]?) ∧
    ρ 0 = .ref b g 0 N N ∧ ρ 1 = natL' vs ∧ ρ 2 = VI o ∧ ρ 6 = VI u.2.2 ∧ ρ 10 = natL' vs ∧ ρ 11 = VI vs.length ∧ ρ 12 = VI u.1) (fun u => n - u.1) (0, low, 0) ⟨Nat.zero_le _, (set_same_row hr).symm, hl, hld, by simp, by simp [val], fun _ _ => rfl, by (repeat' apply And.intro) <;> first | rfl | trivial⟩ ?_
  rintro ⟨i, outs, c⟩ ρ K ⟨hi, rfl, hol, hod, hc, hv, hag, k0, k1, k2, k6, k10, k11, k12⟩
  simp only at hi hol hod hc hv hag k6 k12
  by_cases hin : (i : Int) < (vs.length : Int)
  · obtain ⟨u, hu⟩ : ∃ u, outs[i]? = some u := ⟨_, List.getElem?_eq_getElem (by omega)⟩
    have lu := hod u (List.mem_of_getElem? hu)
    have hu' : low[i]? = some u := by rw [← hag i (Nat.le_refl _)]; exact hu
    obtain ⟨x, hx⟩ : ∃ x, vs[i]? = some x := ⟨_, List.getElem?_eq_getElem (by omega)⟩
    have lx := hvd x (List.mem_of_getElem? hx)
    have e1 : viaddr 1 (natL' vs) (VI i) (H.set b (.row g (L ++ outs.map tV ++ VI z :: R) 1 true)) = some (.tptr (tV x) 0) := viaddr_map (f := tV) (t := .op) (size := 1) (k := .i64) hx rfl
    have w1 : IntKind.i64.wrap ((o : Int) + (i : Int)) = ((o + i : Nat) : Int) := wrapN _ (by omega) (by omega)
    have e2 := ad _ _ i (rd outs z) (by omega)
    have e3 := seg_rd (rd outs z) ho hu
    have e4 : ∀ d : Nat, vstore lo 1 (.ptr b g (o + i) 0) (VI (d : Int)) (H.set b (.row g (L ++ outs.map tV ++ VI z :: R) 1 true)) = some (H.set b (.row g (L ++ (outs.set i d).map tV ++ VI z :: R) 1 true)) := fun d => by rw [seg_wr (rd outs z) ho (by omega) hlo, set_set_row]
    have w2 : IntKind.i64.wrap ((u : Int) + (x : Int)) = ((u + x : Nat) : Int) := wrapN _ (by omega) (by omega)
    have w3 : IntKind.i64.wrap (((u + x : Nat) : Int) + (c : Int)) = ((u + x + c : Nat) : Int) := wrapN _ (by omega) (by omega)
    have r1 := rem_T (u + x + c)
    have q1 := quo_T (u + x + c) (by omega)
    have wi : IntKind.i64.wrap ((i : Int) + 1) = ((i + 1 : Nat) : Int) := wrapN (i + 1) (by omega) (by omega)
    simp only [spec_l01PutBack_b0, k0, k1, k2, k6, k10, k11, k12, hin, e1, e2, e3, e4, w1, w2, w3, wi, r1, q1, VX, Nat.reduceEqDiff, Nat.reduceAdd]
    refine ⟨(i + 1, outs.set i ((u + x + c) % 1000000000), (u + x + c) / 1000000000), by simp only; omega, by omega, rfl, by rw [List.length_set]; exact hol, set_lt hod (Nat.mod_lt _ (by decide)), by simp only; omega, ?_, fun j hj => by rw [List.getElem?_set_ne (by omega)]; exact hag j (by omega), ?_⟩
    · simp only
      rw [val_take_succ hu', val_take_succ hx, val_set_take (by omega), Nat.pow_succ]
      exact carry_step hv (show c + u + x = u + x + c by omega) (Nat.mod_add_div _ _)
    · try (repeat' apply And.intro) <;> first | rfl | trivial
  · have hie : i = n := by omega
    subst hie
    rw [List.take_of_length_le (by omega), List.take_of_length_le (by omega), List.take_of_length_le (by omega)] at hv
    have w1 : IntKind.i64.wrap ((o : Int) + (vs.length : Int)) = ((o + i : Nat) : Int) := wrapN _ (by omega) (by omega)
    have e2 := ad _ _ i (rd outs z) (by omega)
    have e3 := top_rd (rd outs z) ho hol
    have e4 : vstore lo 1 (.ptr b g (o + i) 0) (VI (z + (c : Int))) (H.set b (.row g (L ++ outs.map tV ++ VI z :: R) 1 true)) = some (H.set b (.row g (L ++ outs.map tV ++ VI (z + (c : Int)) :: R) 1 true)) := by rw [top_wr (rd outs z) ho hol hlo, set_set_row]
    have w2 : IntKind.i64.wrap (z + (c : Int)) = z + (c : Int) := wrap64 (by omega) (by omega)
    simp only [spec_l01PutBack_b0, k0, k1, k2, k6, k10, k11, k12, hin, vlen_map, w1, w2, e2, e3, e4, VX, Nat.reduceEqDiff, Nat.reduceAdd]
    exact ⟨outs, c, rfl, hol, hod, hc, hv⟩
end Go.PM
/- The reference's numbers of at least 0: long division. -/
namespace Go.PM
abbrev H2 (us os : List Nat) : VHeap := [.row 0 (us.map tV) 1 true, .row 0 (os.map tV) 1 true]
theorem H2_0 {us os : List Nat} : vrow (H2 us os) 0 0 = some (us.map tV, 1, true) := rfl
theorem H2_1 {us os : List Nat} : vrow (H2 us os) 1 0 = some (os.map tV, 1, true) := rfl
theorem int_top {P a Z : Nat} {y : Int} (h : (a : Int) + (P : Int) * y = (Z : Int)) (ha : a < P) (hZ : Z < P) : y = 0 ∧ a = Z := by
  have hy : y = 0 := by
    rcases Int.lt_trichotomy y 0 with h1 | h1 | h1
    · have : (P : Int) * y ≤ (P : Int) * (-1) := Int.mul_le_mul_of_nonneg_left (by omega) (by omega)
      omega
    · exact h1
    · have : (P : Int) * 1 ≤ (P : Int) * y := Int.mul_le_mul_of_nonneg_left (by omega) (by omega)
      omega
  subst hy
  rw [Int.mul_zero] at h
  exact ⟨rfl, by omega⟩
theorem seg_factsT {us : List Nat} {i n N V : Nat} (hN : us.length = N) (hin : i + n < N) (hd : ∀ d ∈ us, d < 1000000000) (hV : V < 1000000000 ^ n) (hless : val 1000000000 (us.drop (i + 1)) < V) :
    us = us.take i ++ (us.drop i).take (n + 1) ++ us.drop (i + (n + 1)) ∧ (us.take i).length = i ∧ ((us.drop i).take (n + 1)).length = n + 1 ∧ val 1000000000 ((us.drop i).take (n + 1)) < 1000000000 * V ∧ val 1000000000 (us.drop i) = val 1000000000 ((us.drop i).take (n + 1)) ∧ val 1000000000 (us.drop (i + (n + 1))) = 0 ∧ ∀ j, j < n + 1 → ((us.drop i).take (n + 1))[j]? = us[i + j]? := by
  obtain ⟨x, hx⟩ : ∃ x, us[i]? = some x := ⟨_, List.getElem?_eq_getElem (by omega)⟩
  have lx := hd x (List.mem_of_getElem? hx)
  have h1 := val_drop (b := 1000000000) hx
  have h2 : val 1000000000 (us.drop i) < 1000000000 * V := by
    have : 1000000000 * (val 1000000000 (us.drop (i + 1)) + 1) ≤ 1000000000 * V := Nat.mul_le_mul_left _ hless
    omega
  have h3 := val_split (b := 1000000000) (us.drop i) (n + 1)
  have h4 : ((us.drop i).take (n + 1)).length = n + 1 := by rw [List.length_take, List.length_drop]; omega
  rw [h4, List.drop_drop] at h3
  have h5 : val 1000000000 (us.drop (i + (n + 1))) = 0 := by
    rcases Nat.eq_zero_or_pos (val 1000000000 (us.drop (i + (n + 1)))) with h | h
    · exact h
    · have h6 : 1000000000 ^ (n + 1) * 1 ≤ 1000000000 ^ (n + 1) * val 1000000000 (us.drop (i + (n + 1))) := Nat.mul_le_mul_left _ h
      have h7 : 1000000000 * V ≤ 1000000000 ^ (n + 1) := by rw [Nat.pow_succ, Nat.mul_comm]; exact Nat.mul_le_mul_right _ (by omega)
      omega
  rw [h5, Nat.mul_zero, Nat.add_zero] at h3
  refine ⟨?_, by rw [List.length_take]; omega, h4, by omega, h3, h5, fun j hj => ?_⟩
  · rw [List.append_assoc, ← List.drop_drop, List.take_append_drop, List.take_append_drop]
  · rw [List.getElem?_take_of_lt hj, List.getElem?_drop]
theorem leT {g : Nat} (h : (1000000000 : Int) ≤ (g : Int)) : 1000000000 ≤ g := by omega
theorem nleT {g : Nat} (h : ¬ (1000000000 : Int) ≤ (g : Int)) : g < 1000000000 := by omega
theorem ltC {a b : Nat} (h : (a : Int) < (b : Int)) : a < b := by omega
theorem nltC {a b : Nat} (h : ¬ (a : Int) < (b : Int)) : b ≤ a := by omega
theorem wrap_mulT {a : Nat} (h : a * 1000000000 ≤ 9223372036854775807) : IntKind.i64.wrap ((a : Int) * 1000000000) = ((a * 1000000000 : Nat) : Int) := wrapN _ (by omega) h
theorem wrap_addC {a b : Nat} (h : a + b ≤ 9223372036854775807) : IntKind.i64.wrap ((a : Int) + (b : Int)) = ((a + b : Nat) : Int) := wrapN _ (by omega) h
theorem wrap_mulC {a b : Nat} (h : a * b ≤ 9223372036854775807) : IntKind.i64.wrap ((a : Int) * (b : Int)) = ((a * b : Nat) : Int) := wrapN _ (by simp) h
theorem x17 {a : Nat} (h : a < 1000000000) : a * 1000000000 ≤ 9223372036854775807 := by omega
theorem x18 {a b : Nat} (h : a < 1000000000) (hb : b < 1000000000) : a * 1000000000 + b ≤ 1000000000000000000 := by omega
theorem guess_loopT {seg vs us os : List Nat} {n u2 u1 u0 v1 v0 N i g left : Nat} (G : Guess 1000000000 seg vs n u2 u1 u0 v1 v0) {ρ : VEnv} {Q : VQ} (hN : us.length = N) (hiN : i + (n + 2) < N) (hcap : N ≤ 70368744177664) (hu0 : us[i + n]? = some u0)
    (g13 : ρ 13 = .ref 0 0 0 N N) (g14 : ρ 14 = natL' vs) (g15 : ρ 15 = VI ((n + 2 : Nat) : Int)) (g17 : ρ 17 = VI i) (g19 : ρ 19 = VI g) (g20 : ρ 20 = VI left) (hh : u2 * 1000000000 + u1 = g * v1 + left) (hq : val 1000000000 seg / val 1000000000 vs ≤ g) (hl : left < 1000000000) (hgb : g ≤ 1000000000000000000)
    (hQ : ∀ (ρ' : VEnv) (g' : Nat), val 1000000000 seg / val 1000000000 vs ≤ g' → g' ≤ val 1000000000 seg / val 1000000000 vs + 1 → g' < 1000000000 → ρ' 19 = VI g' → ρ' 12 = ρ 12 → ρ' 13 = ρ 13 → ρ' 14 = ρ 14 → ρ' 15 = ρ 15 → ρ' 16 = ρ 16 → ρ' 17 = ρ 17 → Q (.exit 2) ρ' (H2 us os)) :
    VW ⟨true, false⟩ 0 (.loop spec_l01NatDiv_b0) Q ρ (H2 us os) := by
  have lv1 := G.lt_v1
  have lv0 := G.lt_v0
  have lu0 := G.lt_u0
  have qlt := G.q_lt
  have hpos := G.pos
  have hvl := G.vs_len
  refine VW_loop (fun (t : Nat × Nat) ρ' H => H = H2 us os ∧ u2 * 1000000000 + u1 = t.1 * v1 + t.2 ∧ val 1000000000 seg / val 1000000000 vs ≤ t.1 ∧ t.2 < 1000000000 ∧ t.1 ≤ 1000000000000000000 ∧
    ρ' 13 = .ref 0 0 0 N N ∧ ρ' 14 = natL' vs ∧ ρ' 15 = VI ((n + 2 : Nat) : Int) ∧ ρ' 17 = VI i ∧ ρ' 19 = VI t.1 ∧ ρ' 20 = VI t.2 ∧ ρ' 12 = ρ 12 ∧ ρ' 16 = ρ 16) (fun t => 1000000000 - t.2) (g, left) ⟨rfl, hh, hq, hl, hgb, g13, g14, g15, g17, g19, g20, rfl, rfl⟩ ?_
  rintro ⟨g, left⟩ ρ2 H ⟨rfl, hh, hq, hl, hgb, k13, k14, k15, k17, k19, k20, k12, k16⟩
  simp only at hh hq hl hgb k19 k20
  have f1 : viaddr 1 (natL' vs) (VI ((n + 1 : Nat) : Int)) (H2 us os) = some (.tptr (tV v1) 0) := viaddr_map (f := tV) (t := .op) (size := 1) (k := .i64) G.f1 rfl
  have f0 : viaddr 1 (natL' vs) (VI (n : Int)) (H2 us os) = some (.tptr (tV v0) 0) := viaddr_map (f := tV) (t := .op) (size := 1) (k := .i64) G.f0 rfl
  have wn2 : IntKind.i64.wrap (((n + 2 : Nat) : Int) - 2) = (n : Int) := wrapN _ (by omega) (by omega)
  have wn1 : IntKind.i64.wrap (((n + 2 : Nat) : Int) - 1) = ((n + 1 : Nat) : Int) := wrapN _ (by omega) (by omega)
  have wi : IntKind.i64.wrap ((i : Int) + ((n + 2 : Nat) : Int)) = ((i + (n + 2) : Nat) : Int) := wrapN _ (by omega) (by omega)
  have wi2 : IntKind.i64.wrap (((i + (n + 2) : Nat) : Int) - 2) = ((i + n : Nat) : Int) := wrapN _ (by omega) (by omega)
  have e1 : viaddr 1 (.ref 0 0 0 N N) (VI ((i + n : Nat) : Int)) (H2 us os) = some (.ptr 0 0 (i + n) 0) := by rw [viaddr_row H2_0 (by omega), Nat.zero_add]
  have e2 : vload false 1 (.ptr 0 0 (i + n) 0) (H2 us os) = some (VI (u0 : Int)) := vloadT H2_0 hu0
  have wl : IntKind.i64.wrap ((left : Int) + (v1 : Int)) = ((left + v1 : Nat) : Int) := wrapN _ (by omega) (by omega)
  have down : val 1000000000 seg / val 1000000000 vs < g → ∃ g', g = g' + 1 ∧ IntKind.i64.wrap ((g : Int) - 1) = (g' : Int) ∧ u2 * 1000000000 + u1 = g' * v1 + (left + v1) ∧ val 1000000000 seg / val 1000000000 vs ≤ g' := by
    intro h
    have hg1 : 1 ≤ g := Nat.lt_of_le_of_lt (Nat.zero_le _) h
    obtain ⟨g', rfl⟩ : ∃ g', g = g' + 1 := ⟨g - 1, by omega⟩
    refine ⟨g', rfl, wrapN _ (by omega) (by omega), ?_, by omega⟩
    rw [hh, Nat.add_mul]
    omega
  have hmu : ∀ g' : Nat, left + v1 < 1000000000 → 1000000000 - (g', left + v1).2 < 1000000000 - (g, left).2 := fun g' h => by
    show 1000000000 - (left + v1) < 1000000000 - left
    omega
  have hle : ∀ g' : Nat, g = g' + 1 → g' ≤ 1000000000000000000 := fun g' h => by
    omega
  have hl18 : left * 1000000000 + u0 ≤ 9223372036854775807 := Nat.le_trans (x18 hl lu0) (by decide)
  have hl17 : left * 1000000000 ≤ 9223372036854775807 := x17 hl
  have ws : IntKind.i64.wrap ((left : Int) * 1000000000) = ((left * 1000000000 : Nat) : Int) := wrap_mulT hl17
  have wa : IntKind.i64.wrap (((left * 1000000000 : Nat) : Int) + (u0 : Int)) = ((left * 1000000000 + u0 : Nat) : Int) := wrap_addC hl18
  obtain ⟨s13, s14, s15, s17⟩ : ρ2 13 = ρ 13 ∧ ρ2 14 = ρ 14 ∧ ρ2 15 = ρ 15 ∧ ρ2 17 = ρ 17 := ⟨by rw [k13, g13], by rw [k14, g14], by rw [k15, g15], by rw [k17, g17]⟩
  by_cases hA : (1000000000 : Int) ≤ (g : Int)
  · have hA' := leT hA
    obtain ⟨g', hg', wg, hh', hq'⟩ := down (Nat.lt_of_lt_of_le qlt hA')
    by_cases hB : (1000000000 : Int) ≤ ((left + v1 : Nat) : Int)
    · obtain ⟨c1, c2⟩ := G.broken hh' (leT hB)
      simp only [spec_l01NatDiv_b0, k13, k14, k15, k17, k19, k20, hA, hB, f1, wn1, wg, wl, VX, Nat.reduceEqDiff, Nat.reduceAdd]
      exact hQ _ g' hq' (G.fine hh' (Nat.le_of_lt c1) c2) c1 rfl k12 s13 s14 s15 k16 s17
    · simp only [spec_l01NatDiv_b0, k13, k14, k15, k17, k19, k20, hA, hB, f1, wn1, wg, wl, VX, Nat.reduceEqDiff, Nat.reduceAdd]
      refine ⟨(g', left + v1), hmu g' (nleT hB), hh', hq', nleT hB, hle g' hg', ?_⟩
      exact ⟨rfl, rfl, k12, k16⟩
  · have hA' := nleT hA
    have hgv : g * v0 ≤ 999999999 * 999999999 := Nat.mul_le_mul (Nat.le_of_lt_succ hA') (Nat.le_of_lt_succ lv0)
    have wm : IntKind.i64.wrap ((g : Int) * (v0 : Int)) = ((g * v0 : Nat) : Int) := wrap_mulC (Nat.le_trans hgv (by decide))
    by_cases hT : ((left * 1000000000 + u0 : Nat) : Int) < ((g * v0 : Nat) : Int)
    · obtain ⟨g', hg', wg, hh', hq'⟩ := down (G.too hh (ltC hT))
      by_cases hB : (1000000000 : Int) ≤ ((left + v1 : Nat) : Int)
      · obtain ⟨c1, c2⟩ := G.broken hh' (leT hB)
        simp only [spec_l01NatDiv_b0, k13, k14, k15, k17, k19, k20, hA, hB, hT, f1, f0, e1, e2, wn1, wn2, wi, wi2, ws, wa, wm, wg, wl, VX, Nat.reduceEqDiff, Nat.reduceAdd]
        exact hQ _ g' hq' (G.fine hh' (Nat.le_of_lt c1) c2) c1 rfl k12 s13 s14 s15 k16 s17
      · simp only [spec_l01NatDiv_b0, k13, k14, k15, k17, k19, k20, hA, hB, hT, f1, f0, e1, e2, wn1, wn2, wi, wi2, ws, wa, wm, wg, wl, VX, Nat.reduceEqDiff, Nat.reduceAdd]
        refine ⟨(g', left + v1), hmu g' (nleT hB), hh', hq', nleT hB, hle g' hg', ?_⟩
        exact ⟨rfl, rfl, k12, k16⟩
    · simp only [spec_l01NatDiv_b0, k13, k14, k15, k17, k19, k20, hA, hT, f0, e1, e2, wn2, wi, wi2, ws, wa, wm, VX, Nat.reduceEqDiff, Nat.reduceAdd]
      exact hQ _ g hq (G.fine hh (Nat.le_of_lt hA') (nltC hT)) hA' k19 k12 s13 s14 s15 k16 s17
theorem div_loopT {us0 os0 vs : List Nat} {N m n v1 v0 A s : Nat} {ρ : VEnv} {Q : VQ} (hN : us0.length = N) (hm : m + (n + 2) = N) (hcap : N ≤ 70368744177664) (hud : ∀ d ∈ us0, d < 1000000000) (hvl : vs.length = n + 2) (hvd : ∀ d ∈ vs, d < 1000000000) (f1 : vs[n + 1]? = some v1) (f0 : vs[n]? = some v0) (hpos : 1 ≤ v1)
    (hA : val 1000000000 us0 = A) (hless : val 1000000000 (us0.drop m) < val 1000000000 vs) (hol : os0.length = m) (hod : ∀ d ∈ os0, d < 1000000000)
    (g12 : ρ 12 = VI s) (g13 : ρ 13 = .ref 0 0 0 N N) (g14 : ρ 14 = natL' vs) (g15 : ρ 15 = VI ((n + 2 : Nat) : Int)) (g16 : ρ 16 = .ref 1 0 0 m m) (g17 : ρ 17 = VI ((m : Int) - 1))
    (hQ : ∀ (ρ' : VEnv) (us os : List Nat), ρ' 12 = VI s → ρ' 13 = .ref 0 0 0 N N → ρ' 16 = .ref 1 0 0 m m → us.length = N → (∀ d ∈ us, d < 1000000000) → os.length = m → (∀ d ∈ os, d < 1000000000) → val 1000000000 us + val 1000000000 vs * val 1000000000 os = A → val 1000000000 us < val 1000000000 vs → Q (.exit 0) ρ' (H2 us os)) :
    VW ⟨true, false⟩ 0 (.loop spec_l01NatDiv_b1) Q ρ (H2 us0 os0) := by
  have hVb := val_lt hvd
  rw [hvl] at hVb
  refine VW_loop (fun (t : Nat × List Nat × List Nat) ρ' H => t.1 ≤ m ∧ H = H2 t.2.1 t.2.2 ∧ t.2.1.length = N ∧ (∀ d ∈ t.2.1, d < 1000000000) ∧ t.2.2.length = m ∧ (∀ d ∈ t.2.2, d < 1000000000) ∧ val 1000000000 (t.2.1.drop t.1) < val 1000000000 vs ∧ val 1000000000 t.2.1 + 1000000000 ^ t.1 * val 1000000000 vs * val 1000000000 (t.2.2.drop t.1) = A ∧
    ρ' 12 = VI s ∧ ρ' 13 = .ref 0 0 0 N N ∧ ρ' 14 = natL' vs ∧ ρ' 15 = VI ((n + 2 : Nat) : Int) ∧ ρ' 16 = .ref 1 0 0 m m ∧ ρ' 17 = VI ((t.1 : Int) - 1)) (fun t => t.1) (m, us0, os0) ⟨Nat.le_refl _, rfl, hN, hud, hol, hod, hless, by rw [List.drop_of_length_le (by simp only; omega)]; simpa [val] using hA, g12, g13, g14, g15, g16, g17⟩ ?_
  rintro ⟨j, us, os⟩ ρ2 H ⟨hj, rfl, hul, hud, hol, hod, hlt, hv, k12, k13, k14, k15, k16, k17⟩
  simp only at hj hul hud hol hod hlt hv k17
  by_cases hz : (0 : Int) ≤ (j : Int) - 1
  · obtain ⟨i, rfl⟩ : ∃ i, j = i + 1 := ⟨j - 1, by omega⟩
    have hji : ((i + 1 : Nat) : Int) - 1 = (i : Int) := by omega
    rw [hji] at k17 hz
    obtain ⟨hsplit, hpre, hsl, hsW, hdrop, hpost, hget⟩ := seg_factsT (n := n + 2) hul (by omega) hud hVb hlt
    generalize hseg : (us.drop i).take (n + 2 + 1) = seg at *
    have hsd : ∀ d ∈ seg, d < 1000000000 := fun d hd => by rw [← hseg] at hd; exact hud d (List.mem_of_mem_drop (List.mem_of_mem_take hd))
    obtain ⟨u2, hu2⟩ : ∃ u2, us[i + (n + 2)]? = some u2 := ⟨_, List.getElem?_eq_getElem (by omega)⟩
    obtain ⟨u1, hu1⟩ : ∃ u1, us[i + (n + 1)]? = some u1 := ⟨_, List.getElem?_eq_getElem (by omega)⟩
    obtain ⟨u0, hu0⟩ : ∃ u0, us[i + n]? = some u0 := ⟨_, List.getElem?_eq_getElem (by omega)⟩
    have G : Guess 1000000000 seg vs n u2 u1 u0 v1 v0 := ⟨by decide, hsd, hvd, hsl, hvl, by rw [hget _ (by omega)]; exact hu2, by rw [hget _ (by omega)]; exact hu1, by rw [hget _ (by omega)]; exact hu0, f1, f0, hpos, hsW⟩
    have lu2 := G.lt_u2
    have lu1 := G.lt_u1
    have lv1 := G.lt_v1
    have qlt := G.q_lt
    have vpos := G.vpos
    have w1 : IntKind.i64.wrap ((i : Int) + ((n + 2 : Nat) : Int)) = ((i + (n + 2) : Nat) : Int) := wrapN _ (by omega) (by omega)
    have w2 : IntKind.i64.wrap (((i + (n + 2) : Nat) : Int) - 1) = ((i + (n + 1) : Nat) : Int) := wrapN _ (by omega) (by omega)
    have wn1 : IntKind.i64.wrap (((n + 2 : Nat) : Int) - 1) = ((n + 1 : Nat) : Int) := wrapN _ (by omega) (by omega)
    have ev1 : viaddr 1 (natL' vs) (VI ((n + 1 : Nat) : Int)) (H2 us os) = some (.tptr (tV v1) 0) := viaddr_map (f := tV) (t := .op) (size := 1) (k := .i64) f1 rfl
    have e2 : viaddr 1 (.ref 0 0 0 N N) (VI ((i + (n + 2) : Nat) : Int)) (H2 us os) = some (.ptr 0 0 (i + (n + 2)) 0) := by rw [viaddr_row H2_0 (by omega), Nat.zero_add]
    have e1 : viaddr 1 (.ref 0 0 0 N N) (VI ((i + (n + 1) : Nat) : Int)) (H2 us os) = some (.ptr 0 0 (i + (n + 1)) 0) := by rw [viaddr_row H2_0 (by omega), Nat.zero_add]
    have l2 : vload false 1 (.ptr 0 0 (i + (n + 2)) 0) (H2 us os) = some (VI (u2 : Int)) := vloadT H2_0 hu2
    have l1 : vload false 1 (.ptr 0 0 (i + (n + 1)) 0) (H2 us os) = some (VI (u1 : Int)) := vloadT H2_0 hu1
    have hx18 : u2 * 1000000000 + u1 ≤ 1000000000000000000 := x18 lu2 lu1
    have hx17 : u2 * 1000000000 ≤ 9223372036854775807 := x17 lu2
    have hx19 : u2 * 1000000000 + u1 ≤ 9223372036854775807 := Nat.le_trans hx18 (by decide)
    have ws2 : IntKind.i64.wrap ((u2 : Int) * 1000000000) = ((u2 * 1000000000 : Nat) : Int) := wrap_mulT hx17
    have wa : IntKind.i64.wrap (((u2 * 1000000000 : Nat) : Int) + (u1 : Int)) = ((u2 * 1000000000 + u1 : Nat) : Int) := wrap_addC hx19
    have q1 := quo_i64 (u2 * 1000000000 + u1) v1 hx19 hpos
    have q2 := remN_i64 (u2 * 1000000000 + u1) v1 hpos
    simp only [spec_l01NatDiv_b1, k12, k13, k14, k15, k16, k17, hz, w1, w2, wn1, ev1, e1, e2, l1, l2, ws2, wa, q1, q2, VX, Nat.reduceEqDiff, Nat.reduceAdd]
    clear ws2 wa q1 q2 e1 e2 l1 l2 ev1 w1 w2 wn1
    have hh := Nat.mod_add_div (u2 * 1000000000 + u1) v1
    have hml := Nat.mod_lt (u2 * 1000000000 + u1) hpos
    have hdl : (u2 * 1000000000 + u1) / v1 ≤ u2 * 1000000000 + u1 := Nat.div_le_self _ _
    have hq0 : val 1000000000 seg / val 1000000000 vs ≤ (u2 * 1000000000 + u1) / v1 := by
      have t1 := (val_top2 (n := n + 1) (xs := seg) hsd (by omega) (by rw [hget _ (by omega)]; exact hu2) (by rw [hget _ (by omega)]; exact hu1)).2
      have t2 := (val_top (n := n + 1) hvd hvl f1).1
      rw [Nat.le_div_iff_mul_le hpos]
      have t3 : val 1000000000 seg / val 1000000000 vs * (v1 * 1000000000 ^ (n + 1)) ≤ val 1000000000 seg / val 1000000000 vs * val 1000000000 vs := Nat.mul_le_mul_left _ t2
      have t4 := Nat.div_mul_le_self (val 1000000000 seg) (val 1000000000 vs)
      have t5 : val 1000000000 seg / val 1000000000 vs * v1 * 1000000000 ^ (n + 1) < (u2 * 1000000000 + u1 + 1) * 1000000000 ^ (n + 1) := by rw [Nat.mul_assoc]; omega
      have := Nat.lt_of_mul_lt_mul_right t5
      omega
    generalize hQ1 : (u2 * 1000000000 + u1) / v1 = g0 at *
    generalize hQ2 : (u2 * 1000000000 + u1) % v1 = l0 at *
    refine guess_loopT (i := i) G hul (by omega) hcap hu0 k13 k14 k15 k17 (by rfl) (by rfl) (by rw [Nat.mul_comm g0]; omega) hq0 (by omega) (by omega) ?_
    intro ρ3 g' hq hq' hgW r19 r12 r13 r14 r15 r16 r17
    have r12' : ρ3 12 = VI s := r12.trans k12
    have r13' : ρ3 13 = .ref 0 0 0 N N := r13.trans k13
    have r14' : ρ3 14 = natL' vs := r14.trans k14
    have r15' : ρ3 15 = VI ((n + 2 : Nat) : Int) := r15.trans k15
    have r16' : ρ3 16 = .ref 1 0 0 m m := r16.trans k16
    have r17' : ρ3 17 = VI i := r17.trans k17
    simp only [r12', r13', r14', r15', r16', r17', r19, VX, Nat.reduceEqDiff, Nat.reduceAdd]
    have hfit : g' * val 1000000000 vs ≤ val 1000000000 seg + val 1000000000 vs := by
      have := Nat.mul_le_mul_right (val 1000000000 vs) hq'
      rw [Nat.add_mul, Nat.one_mul] at this
      have := Nat.div_mul_le_self (val 1000000000 seg) (val 1000000000 vs)
      omega
    obtain ⟨low, hlow⟩ : ∃ low, low = seg.take (n + 2) := ⟨_, rfl⟩
    have hll : low.length = n + 2 := by rw [hlow, List.length_take]; omega
    have hld : ∀ d ∈ low, d < 1000000000 := fun d hd => hsd d (by rw [hlow] at hd; exact List.mem_of_mem_take hd)
    have hsg : seg = low ++ [u2] := by
      have h1 : seg[n + 2]? = some u2 := by rw [hget _ (by omega)]; exact hu2
      have h2 := List.take_append_drop (n + 2) seg
      have h3 := (List.getElem?_eq_some_iff.1 h1)
      rw [List.drop_eq_getElem_cons h3.1, h3.2, List.drop_of_length_le (by omega), ← hlow] at h2
      exact h2.symm
    have hvs : val 1000000000 seg = val 1000000000 low + 1000000000 ^ (n + 2) * u2 := by rw [hsg, val_snoc, hll]
    have hrow : ∀ (lw : List Nat) (t : Nat), (us.take i).map tV ++ lw.map tV ++ VI (t : Int) :: (us.drop (i + (n + 2 + 1))).map tV = (us.take i ++ (lw ++ [t]) ++ us.drop (i + (n + 2 + 1))).map tV := fun lw t => by simp
    have hr0 : vrow (H2 us os) 0 0 = some ((us.take i).map tV ++ low.map tV ++ VI (u2 : Int) :: (us.drop (i + (n + 2 + 1))).map tV, 1, true) := by
      rw [hrow, ← hsg, ← hsplit]
      rfl
    refine vcall_raw rfl ((takeOff_v (o := i) (n := n + 2) hr0 (Nat.zero_le _) (by simpa using hpre) hll hvl (by omega) hcap hld hvd hgW lu2).mono ?_)
    rintro r H' ⟨low', c, rfl, hl', hd', hc, hr, hE⟩
    have hPlow : val 1000000000 low < 1000000000 ^ (n + 2) := by have := val_lt hld; rwa [hll] at this
    have hPlow' : val 1000000000 low' < 1000000000 ^ (n + 2) := by have := val_lt hd'; rwa [hl'] at this
    have rows : ∀ (lw : List Nat) (t q : Nat), lw.length = n + 2 → (∀ d ∈ lw, d < 1000000000) → t < 1000000000 → q = val 1000000000 seg / val 1000000000 vs → val 1000000000 lw + 1000000000 ^ (n + 2) * t = val 1000000000 seg % val 1000000000 vs →
        ((us.take i ++ (lw ++ [t]) ++ us.drop (i + (n + 2 + 1))).length = N ∧ (∀ d ∈ us.take i ++ (lw ++ [t]) ++ us.drop (i + (n + 2 + 1)), d < 1000000000) ∧ val 1000000000 ((us.take i ++ (lw ++ [t]) ++ us.drop (i + (n + 2 + 1))).drop i) < val 1000000000 vs ∧ val 1000000000 (us.take i ++ (lw ++ [t]) ++ us.drop (i + (n + 2 + 1))) + 1000000000 ^ i * val 1000000000 vs * val 1000000000 ((os.set i q).drop i) = A) := by
      intro lw t q hlw hlwd ht hqe hse
      have hseg' : val 1000000000 (lw ++ [t]) = val 1000000000 seg % val 1000000000 vs := by rw [val_snoc, hlw]; exact hse
      have hsl' : (lw ++ [t]).length = n + 3 := by rw [List.length_append, hlw]; rfl
      have hsd' : ∀ d ∈ lw ++ [t], d < 1000000000 := fun d hd => by
        rcases List.mem_append.1 hd with h | h
        · exact hlwd d h
        · rw [List.mem_singleton.1 h]; exact ht
      generalize lw ++ [t] = seg' at *
      have hml2 := Nat.mod_lt (val 1000000000 seg) vpos
      have hdrop' : (us.take i ++ seg' ++ us.drop (i + (n + 2 + 1))).drop i = seg' ++ us.drop (i + (n + 2 + 1)) := by rw [List.append_assoc, List.drop_append, List.drop_of_length_le (by omega), hpre]; simp
      have htake' : (us.take i ++ seg' ++ us.drop (i + (n + 2 + 1))).take i = us.take i := by rw [List.append_assoc, List.take_append_of_le_length (by omega), List.take_of_length_le (by omega)]
      have hval' : val 1000000000 ((us.take i ++ seg' ++ us.drop (i + (n + 2 + 1))).drop i) = val 1000000000 seg' := by rw [hdrop', val_append, hpost, Nat.mul_zero, Nat.add_zero]
      refine ⟨by rw [List.length_append, List.length_append, hpre, hsl', List.length_drop]; omega, fun d hd => ?_, by rw [hval', hseg']; exact hml2, ?_⟩
      · rw [List.mem_append, List.mem_append] at hd
        rcases hd with (hd | hd) | hd
        · exact hud d (List.mem_of_mem_take hd)
        · exact hsd' d hd
        · exact hud d (List.mem_of_mem_drop hd)
      · have h1 := Nat.div_add_mod (val 1000000000 seg) (val 1000000000 vs)
        rw [← hqe, ← hseg', Nat.mul_comm] at h1
        have h2 := val_split (b := 1000000000) us i
        have h3 := val_split (b := 1000000000) (us.take i ++ seg' ++ us.drop (i + (n + 2 + 1))) i
        rw [htake', hpre, hval'] at h3
        rw [hpre, hdrop] at h2
        rw [set_drop (by omega), val_cons, h3]
        rw [h2, Nat.pow_succ] at hv
        exact digit_step h1.symm hv
    have e3 : ∀ (us' : List Nat) (d : Nat), viaddr 1 (.ref 1 0 0 m m) (VI i) (H2 us' os) = some (.ptr 1 0 i 0) ∧ vstore 0 1 (.ptr 1 0 i 0) (VI (d : Int)) (H2 us' os) = some (H2 us' (os.set i d)) := fun us' d => by
      refine ⟨by rw [viaddr_row H2_1 (by omega), Nat.zero_add], ?_⟩
      rw [show VI (d : Int) = tV d from rfl, vstore_map (f := tV) (e := 1) H2_1 (by omega) (Nat.zero_le _) rfl rfl]
      rfl
    have wi : IntKind.i64.wrap ((i : Int) - 1) = (i : Int) - 1 := wrap64 (by omega) (by omega)
    have hdm := Nat.div_add_mod (val 1000000000 seg) (val 1000000000 vs)
    have hml2 := Nat.mod_lt (val 1000000000 seg) vpos
    generalize hPP : 1000000000 ^ (n + 2) = P at *
    by_cases hneg : (u2 : Int) - (c : Int) < 0
    · -- too much: put back
      rw [decide_eq_true hneg] at hr
      subst hr
      have hgt : val 1000000000 seg < g' * val 1000000000 vs := by
        have h1 : P * (u2 + 1) ≤ P * c := Nat.mul_le_mul_left _ (by omega)
        rw [Nat.mul_add, Nat.mul_one] at h1
        omega
      have hqe : g' = val 1000000000 seg / val 1000000000 vs + 1 := by
        rcases Nat.lt_or_ge (val 1000000000 seg / val 1000000000 vs) g' with h | h
        · omega
        · have h1 : g' * val 1000000000 vs ≤ val 1000000000 seg / val 1000000000 vs * val 1000000000 vs := Nat.mul_le_mul_right _ h
          have := Nat.div_mul_le_self (val 1000000000 seg) (val 1000000000 vs)
          omega
      have hg1 : 1 ≤ g' := by rw [hqe]; exact Nat.le_add_left 1 _
      have wg : IntKind.i64.wrap ((g' : Int) - 1) = ((g' - 1 : Nat) : Int) := wrapN _ (by omega) (by omega)
      simp only [r12', r13', r14', r15', r16', r17', r19, wg, VX, Nat.reduceEqDiff, Nat.reduceAdd]
      have hr1 : vrow ((H2 us os).set 0 (.row 0 ((us.take i).map tV ++ low'.map tV ++ VI ((u2 : Int) - (c : Int)) :: (us.drop (i + (n + 2 + 1))).map tV) 1 true)) 0 0 = some ((us.take i).map tV ++ low'.map tV ++ VI ((u2 : Int) - (c : Int)) :: (us.drop (i + (n + 2 + 1))).map tV, 1, true) := rfl
      refine vcall_raw rfl ((putBack_v (o := i) (n := n + 2) hr1 (Nat.zero_le _) (by simpa using hpre) hl' hvl (by omega) hcap hd' hvd (by omega) (by omega)).mono ?_)
      rintro r H' ⟨low2, c2, rfl, hl2, hd2, hc2, hE2⟩
      rw [hPP] at hE2
      have hPlow2 : val 1000000000 low2 < P := by have := val_lt hd2; rwa [hl2, hPP] at this
      obtain ⟨hy, hZ⟩ : (u2 : Int) - (c : Int) + (c2 : Int) = 0 ∧ val 1000000000 low2 = val 1000000000 seg % val 1000000000 vs := by
        refine int_top (P := P) ?_ hPlow2 (by omega)
        have i1 : (P : Int) * ((u2 : Int) - (c : Int) + (c2 : Int)) = (P : Int) * u2 - (P : Int) * c + (P : Int) * c2 := by rw [Int.mul_add, Int.mul_sub]
        have i2 : ((P * u2 : Nat) : Int) = (P : Int) * u2 := by simp
        have i3 : ((P * c : Nat) : Int) = (P : Int) * c := by simp
        have i4 : ((P * c2 : Nat) : Int) = (P : Int) * c2 := by simp
        rw [i1, ← i2, ← i3, ← i4]
        have i5 : g' * val 1000000000 vs = val 1000000000 vs * (val 1000000000 seg / val 1000000000 vs) + val 1000000000 vs := by rw [hqe, Nat.add_mul, Nat.one_mul, Nat.mul_comm (val 1000000000 vs)]
        omega
      have hset : ((H2 us os).set 0 (.row 0 ((us.take i).map tV ++ low'.map tV ++ VI ((u2 : Int) - (c : Int)) :: (us.drop (i + (n + 2 + 1))).map tV) 1 true)).set 0 (.row 0 ((us.take i).map tV ++ low2.map tV ++ VI ((u2 : Int) - (c : Int) + (c2 : Int)) :: (us.drop (i + (n + 2 + 1))).map tV) 1 true) = H2 (us.take i ++ (low2 ++ [0]) ++ us.drop (i + (n + 2 + 1))) os := by
        rw [hy]
        rw [show (0 : Int) = ((0 : Nat) : Int) from rfl, hrow]
        rfl
      rw [hset]
      obtain ⟨x1, x2⟩ := e3 (us.take i ++ (low2 ++ [0]) ++ us.drop (i + (n + 2 + 1))) (g' - 1)
      obtain ⟨y1, y2, y3, y4⟩ := rows low2 0 (g' - 1) hl2 hd2 (by decide) (by rw [hqe, Nat.add_sub_cancel]) (by rw [Nat.mul_zero, Nat.add_zero]; exact hZ)
      simp only [r12', r13', r14', r15', r16', r17', x1, x2, wi, VX, Nat.reduceEqDiff, Nat.reduceAdd]
      refine ⟨(i, us.take i ++ (low2 ++ [0]) ++ us.drop (i + (n + 2 + 1)), os.set i (g' - 1)), by simp only; omega, by omega, rfl, y1, y2, by rw [List.length_set]; exact hol, set_lt hod (by omega), y3, y4, ?_⟩
      try (repeat' apply And.intro) <;> first | rfl | trivial
    · rw [decide_eq_false hneg] at hr
      subst hr
      obtain ⟨t', ht'⟩ : ∃ t' : Nat, (u2 : Int) - (c : Int) = (t' : Int) := ⟨u2 - c, by omega⟩
      have hP1 : P * u2 = P * c + P * t' := by rw [← Nat.mul_add]; congr 1; omega
      have hge : g' * val 1000000000 vs ≤ val 1000000000 seg := by omega
      have hqe : g' = val 1000000000 seg / val 1000000000 vs := by
        have := (Nat.le_div_iff_mul_le vpos).2 hge
        omega
      have hset : (H2 us os).set 0 (.row 0 ((us.take i).map tV ++ low'.map tV ++ VI ((u2 : Int) - (c : Int)) :: (us.drop (i + (n + 2 + 1))).map tV) 1 true) = H2 (us.take i ++ (low' ++ [t']) ++ us.drop (i + (n + 2 + 1))) os := by
        rw [ht', hrow]
        rfl
      rw [hset]
      obtain ⟨x1, x2⟩ := e3 (us.take i ++ (low' ++ [t']) ++ us.drop (i + (n + 2 + 1))) g'
      have hse : val 1000000000 low' + P * t' = val 1000000000 seg % val 1000000000 vs := by
        rw [← hqe, Nat.mul_comm] at hdm
        omega
      obtain ⟨y1, y2, y3, y4⟩ := rows low' t' g' hl' hd' (by omega) hqe hse
      simp only [r12', r13', r14', r15', r16', r17', r19, x1, x2, wi, VX, Nat.reduceEqDiff, Nat.reduceAdd]
      refine ⟨(i, us.take i ++ (low' ++ [t']) ++ us.drop (i + (n + 2 + 1)), os.set i g'), by simp only; omega, by omega, rfl, y1, y2, by rw [List.length_set]; exact hol, set_lt hod (by omega), y3, y4, ?_⟩
      try (repeat' apply And.intro) <;> first | rfl | trivial
  · have hj0 : j = 0 := by omega
    subst hj0
    rw [Nat.pow_zero, Nat.one_mul, List.drop_zero] at hv
    rw [List.drop_zero] at hlt
    simp only [spec_l01NatDiv_b1, k12, k13, k14, k15, k16, k17, hz, VX, Nat.reduceEqDiff, Nat.reduceAdd]
    exact hQ _ us os k12 k13 k16 hul hud hol hod hv hlt
end Go.PM
/- The reference's numbers of at least 0: quotient and remainder; the greatest common divisor. -/
namespace Go.PM
theorem srcT_list {ds : List Nat} {H : VHeap} : vsource 1 (natL' ds) H = some (ds.map tV) := by
  have : ((ds.map tV).all fun x => (vcells x).length == 1 && (vcells x).all vscal) = true := by
    rw [List.all_eq_true]
    intro x hx
    obtain ⟨d, _, rfl⟩ := List.mem_map.1 hx
    rfl
  simp only [vsource, natL', listV, this, if_true]
theorem srcT_natT (n : Nat) {H : VHeap} : vsource 1 (natT n) H = some ((digs 1000000000 n).map tV) := srcT_list
theorem digsT_top {a n : Nat} (hn : (digs 1000000000 a).length = n + 1) : ∃ d, (digs 1000000000 a)[n]? = some d ∧ d ≠ 0 ∧ d < 1000000000 := by
  obtain ⟨d, hd⟩ : ∃ d, (digs 1000000000 a)[n]? = some d := ⟨_, List.getElem?_eq_getElem (by omega)⟩
  refine ⟨d, hd, fun h0 => ?_, digs_lt (by decide) a d (List.mem_of_getElem? hd)⟩
  have := digs_last (b := 1000000000) (by decide) a
  rw [List.getLast?_eq_getElem?, hn, Nat.add_sub_cancel, hd, h0] at this
  exact this rfl
theorem digsT_one {a d : Nat} (h : digs 1000000000 a = [d]) : a = d ∧ 0 < d ∧ d < 1000000000 := by
  have h1 := val_digs (b := 1000000000) (by decide) a
  rw [h, val_one] at h1
  obtain ⟨e, h2, h3, h4⟩ := digsT_top (a := a) (n := 0) (by rw [h]; rfl)
  rw [h] at h2
  cases h2
  exact ⟨h1.symm, by omega, h4⟩
theorem smallT {a : Nat} (h : (digs 1000000000 a).length ≤ 2) : a < 1000000000000000000 := by
  have h1 := digs_len_lt (b := 1000000000) (by decide) a
  have h2 : 1000000000 ^ (digs 1000000000 a).length ≤ 1000000000 ^ 2 := Nat.pow_le_pow_right (by decide) h
  omega
theorem fz_tup2p {H : VHeap} {u v : VV} (hu : pureV u = true) (hv : pureV v = true) : fz depth H (.tup [u, v]) = some (.tup [u, v]) := fz_res (by simp only [pureV, pureL, hu, hv, Bool.and_self])
theorem copyT {X N : Nat} (h : (digs 1000000000 X).length ≤ N) : vcopy 0 1 (.ref 0 0 0 N N) (natT X) [.row 0 ((List.replicate N 0).map tV) 1 true] = some (VI ((digs 1000000000 X).length : Int), [.row 0 ((digs 1000000000 X ++ List.replicate (N - (digs 1000000000 X).length) 0).map tV) 1 true]) := by
  have e : ((digs 1000000000 X).map tV).take N = (digs 1000000000 X).map tV := List.take_of_length_le (by simpa using h)
  simp only [vcopy, natT, srcT_list, vrow_zero, e, List.length_map, List.length_replicate, Nat.zero_add]
  rw [if_pos ⟨trivial, Nat.le_refl _, h⟩]
  simp only [vsplice, List.set_cons_zero, List.take_zero, List.nil_append, Nat.zero_add, List.length_map, List.map_append, List.map_replicate, List.drop_replicate]
theorem spec_l01NatDiv_v (a b : Nat) (hb : b ≠ 0) (ha : (digs 1000000000 a).length < 17592186044416) (hbl : (digs 1000000000 b).length < 17592186044416) : TC 137 [natT a, natT b] (.tup [natT (a / b), natT (a % b)]) := by
  refine TC.walk ⟨true, false⟩ spec_l01NatDiv_t rfl (Nat.le_of_ble_eq_true rfl) (by simp [pureL, natT_pure]) (by simp [resV, resL, natT_res]) ?_
  have s1 := spec_l01Small_v a (by omega)
  have s2 := spec_l01Small_v b (by omega)
  have fin : ∀ {H : VHeap}, fz depth H (.tup [natT (a / b), natT (a % b)]) = some (.tup [natT (a / b), natT (a % b)]) := fz_tup2p (natT_pure _) (natT_pure _)
  by_cases hsm : (digs 1000000000 a).length ≤ 2 ∧ (digs 1000000000 b).length ≤ 2
  · rw [if_pos hsm.1] at s1
    rw [if_pos hsm.2] at s2
    have la := smallT hsm.1
    have q1 := quo_i64 a b (by omega) (by omega)
    have q2 := remN_i64 a b (by omega)
    have hdl : a / b ≤ a := Nat.div_le_self _ _
    have hml : a % b ≤ a := Nat.mod_le _ _
    have n1 : TC 108 [VI ((a / b : Nat) : Int)] (natT (a / b)) := spec_l01Nat_v ((a / b : Nat) : Int) (Int.ofNat_le.2 (show a / b ≤ 9223372036854775807 from Nat.le_trans hdl (by omega)))
    have n2 : TC 108 [VI ((a % b : Nat) : Int)] (natT (a % b)) := spec_l01Nat_v ((a % b : Nat) : Int) (Int.ofNat_le.2 (show a % b ≤ 9223372036854775807 from Nat.le_trans hml (by omega)))
    simp only [spec_l01NatDiv, spec_l01NatDiv_c, s1, s2, q1, q2, n1, n2, VX, Nat.reduceEqDiff, Nat.reduceAdd]
    exact fin
  have c1 := spec_l01Cmp_v a b (by omega) (by omega)
  obtain ⟨x1, t1, hs1⟩ : ∃ (x : Int) (t : Bool), (if (digs 1000000000 a).length ≤ 2 then VV.tup [VI a, VB true] else .tup [VI 0, VB false]) = .tup [VI x, VB t] := by split <;> exact ⟨_, _, rfl⟩
  have hs2 : ∃ (x : Int) (t : Bool), (if (digs 1000000000 b).length ≤ 2 then VV.tup [VI b, VB true] else .tup [VI 0, VB false]) = .tup [VI x, VB t] ∧ (t1 = true → t = false) := by
    by_cases h : (digs 1000000000 b).length ≤ 2
    · rw [if_pos h]
      refine ⟨_, _, rfl, fun ht => ?_⟩
      rw [if_neg (fun h' => hsm ⟨h', h⟩)] at hs1
      injection hs1 with hs1
      injection hs1 with _ hs1
      injection hs1 with hs1 _
      injection hs1 with hs1
      injection hs1 with hs1
      subst ht
      cases hs1
    · rw [if_neg h]
      exact ⟨_, _, rfl, fun _ => rfl⟩
  obtain ⟨x2, t2, hs2, ht⟩ := hs2
  rw [hs1] at s1
  rw [hs2] at s2
  by_cases hab : cmpI a b < 0
  · have hlt : a < b := cmpI_lt.1 hab
    have e0 : ∀ lr, vlit lr [.int .i64 0] 0 [] [] = some (.ref 0 0 0 0 0, [.row 0 [] 1 true]) := fun lr => vlit_nil (H := []) rfl
    have e1 : ∀ lr, vlit lr [.int .i64 0] 0 [] [.row 0 [] 1 true] = some (.ref 1 0 0 0 0, [.row 0 [] 1 true, .row 0 [] 1 true]) := fun lr => vlit_nil (H := [.row 0 [] 1 true]) rfl
    rw [Nat.div_eq_of_lt hlt, Nat.mod_eq_of_lt hlt]
    have hz : fz (6 + 1) [.row 0 [] 1 true, .row 0 [] 1 true] (.ref 0 0 0 0 0) = some (natT 0) := by rw [natT_zero]; rfl
    by_cases ha0 : a = 0
    · subst ha0
      have ap : vappend 0 1 8 (.ref 1 0 0 0 0) ((digs 1000000000 0).map tV) [.row 0 [] 1 true, .row 0 [] 1 true] = some (.ref 1 0 0 0 0, [.row 0 [] 1 true, .row 0 [] 1 true]) := by
        rw [digs_zero]; rfl
      have hz1 : fz (6 + 1) [.row 0 [] 1 true, .row 0 [] 1 true] (.ref 1 0 0 0 0) = some (natT 0) := by rw [natT_zero]; rfl
      cases t1 with
      | false =>
        simp only [spec_l01NatDiv, spec_l01NatDiv_c, s1, s2, c1, hab, e0, e1, ap, srcT_natT, VX, Nat.reduceEqDiff, Nat.reduceAdd]
        exact fz_tup2 (d := 6) hz hz1
      | true =>
        rw [ht rfl] at s2
        simp only [spec_l01NatDiv, spec_l01NatDiv_c, s1, s2, c1, hab, e0, e1, ap, srcT_natT, VX, Nat.reduceEqDiff, Nat.reduceAdd]
        exact fz_tup2 (d := 6) hz hz1
    · have hln : (digs 1000000000 a).length ≠ 0 := fun h => ha0 ((digs_nil (b := 1000000000) (by decide)).1 (List.length_eq_zero_iff.1 h))
      have ap : vappend 0 1 8 (.ref 1 0 0 0 0) ((digs 1000000000 a).map tV) [.row 0 [] 1 true, .row 0 [] 1 true] = some (.ref 1 1 0 (digs 1000000000 a).length (digs 1000000000 a).length, [.row 0 [] 1 true, .row 1 ((digs 1000000000 a).map tV) 1 true]) := by
        have hr : vrow [.row 0 [] 1 true, .row 0 [] 1 true] 1 0 = some ([], 1, true) := rfl
        simp only [vappend, hr, List.length_map, Nat.zero_add, List.length_nil, Nat.add_zero]
        rw [if_pos ⟨by decide, by decide⟩, if_pos ⟨trivial, Nat.zero_le _, Nat.le_refl _⟩, if_neg (by omega), if_pos (by omega)]
        simp
      have hz0 : fz (6 + 1) [.row 0 [] 1 true, .row 1 ((digs 1000000000 a).map tV) 1 true] (.ref 0 0 0 0 0) = some (natT 0) := by rw [natT_zero]; rfl
      have hz1 : fz (6 + 1) [.row 0 [] 1 true, .row 1 ((digs 1000000000 a).map tV) 1 true] (.ref 1 1 0 (digs 1000000000 a).length (digs 1000000000 a).length) = some (natT a) := by
        have : pureV (.ref 1 1 0 (digs 1000000000 a).length (digs 1000000000 a).length) = false := rfl
        have hr : vrow [.row 0 [] 1 true, .row 1 ((digs 1000000000 a).map tV) 1 true] 1 1 = some ((digs 1000000000 a).map tV, 1, true) := rfl
        unfold fz
        simp only [this, hr, Bool.false_eq_true, if_false]
        rw [if_pos ⟨by simp, Nat.le_refl _⟩, List.drop_zero, List.take_of_length_le (by simp), mapM_pure (n := 5) (pure_map fun _ => rfl)]
        rfl
      cases t1 with
      | false =>
        simp only [spec_l01NatDiv, spec_l01NatDiv_c, s1, s2, c1, hab, e0, e1, ap, srcT_natT, VX, Nat.reduceEqDiff, Nat.reduceAdd]
        exact fz_tup2 (d := 6) hz0 hz1
      | true =>
        rw [ht rfl] at s2
        simp only [spec_l01NatDiv, spec_l01NatDiv_c, s1, s2, c1, hab, e0, e1, ap, srcT_natT, VX, Nat.reduceEqDiff, Nat.reduceAdd]
        exact fz_tup2 (d := 6) hz0 hz1
  have hge : b ≤ a := by have := @cmpI_lt a b; omega
  have hbn : (digs 1000000000 b).length ≠ 0 := fun h => hb ((digs_nil (b := 1000000000) (by decide)).1 (List.length_eq_zero_iff.1 h))
  by_cases h1 : (((digs 1000000000 b).length : Nat) : Int) = 1
  · obtain ⟨d, hd⟩ : ∃ d, digs 1000000000 b = [d] := List.length_eq_one_iff.1 (by omega)
    obtain ⟨hbd, hd0, hdT⟩ := digsT_one hd
    have e1 : viaddr 1 (natT b) (VI 0) [] = some (.tptr (tV d) 0) := by
      rw [natT, hd]
      exact viaddr_map (f := tV) (t := .op) (H := []) (size := 1) (k := .i64) (xs := [d]) (i := 0) rfl rfl
    have c2 := spec_l01ShortDiv_v a d hd0 hdT (by omega)
    rw [← hbd] at c2
    have hmb : a % b ≤ b := Nat.le_of_lt (Nat.mod_lt _ (by omega))
    have n2 : TC 108 [VI ((a % b : Nat) : Int)] (natT (a % b)) := spec_l01Nat_v ((a % b : Nat) : Int) (Int.ofNat_le.2 (show a % b ≤ 9223372036854775807 from Nat.le_trans hmb (by omega)))
    have e2 : tV d = tV b := by rw [hbd]
    rw [e2] at e1
    cases t1 with
    | false =>
      simp only [spec_l01NatDiv, spec_l01NatDiv_c, s1, s2, c1, hab, len_natT, h1, e1, c2, n2, VX, Nat.reduceEqDiff, Nat.reduceAdd]
      exact fin
    | true =>
      rw [ht rfl] at s2
      simp only [spec_l01NatDiv, spec_l01NatDiv_c, s1, s2, c1, hab, len_natT, h1, e1, c2, n2, VX, Nat.reduceEqDiff, Nat.reduceAdd]
      exact fin
  obtain ⟨n, hn⟩ : ∃ n, (digs 1000000000 b).length = n + 2 := ⟨(digs 1000000000 b).length - 2, by omega⟩
  obtain ⟨t, htd, ht0, htT⟩ := digsT_top (a := b) (n := n + 1) hn
  obtain ⟨s, hs⟩ : ∃ s, s = 1000000000 / (t + 1) := ⟨_, rfl⟩
  have hs1' : 1 ≤ s := by rw [hs]; exact (Nat.le_div_iff_mul_le (by omega)).2 (by omega)
  have hsT : s < 1000000000 := by rw [hs]; exact Nat.div_lt_self (by decide) (by omega)
  have hst : (t + 1) * s ≤ 1000000000 := by rw [hs]; exact Nat.mul_div_le _ _
  have hla := digs_len_mono (b := 1000000000) (by decide) hge
  have w0 : IntKind.i64.wrap (((n + 2 : Nat) : Int) - 1) = ((n + 1 : Nat) : Int) := wrapN _ (by omega) (by omega)
  have w1 : IntKind.i64.wrap ((t : Int) + 1) = ((t + 1 : Nat) : Int) := wrapN _ (by omega) (by omega)
  have q0 : pbin .quo (.int .i64 1000000000) (.int .i64 ((t + 1 : Nat) : Int)) = some (.int .i64 (s : Int)) := by rw [hs]; exact quo_i64 1000000000 (t + 1) (by decide) (by omega)
  have et : ∀ H, viaddr 1 (natT b) (VI ((n + 1 : Nat) : Int)) H = some (.tptr (tV t) 0) := fun H => viaddr_map (f := tV) (t := .op) (size := 1) (k := .i64) htd rfl
  have h1' : ¬ (((n + 2 : Nat) : Int) = 1) := by omega
  obtain ⟨N, hN⟩ : ∃ N, N = (digs 1000000000 a).length + 1 := ⟨_, rfl⟩
  have wN : IntKind.i64.wrap (((digs 1000000000 a).length : Int) + 1) = (N : Int) := wrapN _ (by omega) (by omega)
  have mkN := mkT_row N (by omega)
  have c3 := spec_l01ShortMul_v a s hs1' hsT ha
  have c4 := spec_l01ShortMul_v b s hs1' hsT hbl
  have hVlt : b * s < 1000000000 ^ (n + 2) := by
    have h2 := (val_top (n := n + 1) (digs_lt (b := 1000000000) (by decide) b) hn htd).2
    rw [val_digs (by decide)] at h2
    have h3 : b * s < (t + 1) * 1000000000 ^ (n + 1) * s := Nat.mul_lt_mul_of_pos_right h2 hs1'
    have h4 : (t + 1) * 1000000000 ^ (n + 1) * s = (t + 1) * s * 1000000000 ^ (n + 1) := by grind
    have h9 : (t + 1) * s * 1000000000 ^ (n + 1) ≤ 1000000000 * 1000000000 ^ (n + 1) := Nat.mul_le_mul_right _ hst
    have h10 : 1000000000 * 1000000000 ^ (n + 1) = 1000000000 ^ (n + 2) := by rw [Nat.pow_succ 1000000000 (n + 1)]; exact Nat.mul_comm _ _
    rw [h4] at h3
    rw [h10] at h9
    exact Nat.lt_of_lt_of_le h3 h9
  have hVl : (digs 1000000000 (b * s)).length = n + 2 := by
    have h2 := digs_len_le (b := 1000000000) (by decide) hVlt
    have h3 : b ≤ b * s := Nat.le_mul_of_pos_right b hs1'
    have h4 := digs_len_mono (b := 1000000000) (by decide) h3
    omega
  have hAl : (digs 1000000000 (a * s)).length ≤ N := by
    have h2 := digs_len_mul (b := 1000000000) (by decide) a s
    have h3 : (digs 1000000000 s).length ≤ 1 := digs_len_le (by decide) (by rw [Nat.pow_one]; exact hsT)
    omega
  have cp := copyT hAl
  obtain ⟨m, hm⟩ : ∃ m, m + (n + 2) = N := ⟨N - (n + 2), by omega⟩
  have wm : IntKind.i64.wrap ((N : Int) - ((n + 2 : Nat) : Int)) = (m : Int) := wrapN _ (by omega) (by omega)
  have wm1 : IntKind.i64.wrap ((m : Int) - 1) = (m : Int) - 1 := wrap64 (by omega) (by omega)
  obtain ⟨us0, hus0⟩ : ∃ us0, us0 = digs 1000000000 (a * s) ++ List.replicate (N - (digs 1000000000 (a * s)).length) 0 := ⟨_, rfl⟩
  rw [← hus0] at cp
  have mkm : vmake [.int .i64 0] 8 (VI (m : Int)) (VI (m : Int)) [.row 0 (us0.map tV) 1 true] = some (.ref 1 0 0 m m, [.row 0 (us0.map tV) 1 true] ++ [.row 0 ((List.replicate m 0).map tV) 1 true]) := vmake_map (f := tV) (x := 0) (H := [.row 0 (us0.map tV) 1 true]) rfl (by omega) (by omega)
  have lN : ∀ K, vrow K 0 0 = some (us0.map tV, 1, true) → vlen (.ref 0 0 0 N N) K = some (VI (N : Int)) := fun K h => vlen_ref h
  have l1 := lN [.row 0 (us0.map tV) 1 true] rfl
  have l2 := lN (H2 us0 (List.replicate m 0)) rfl
  have hul0 : us0.length = N := by rw [hus0, List.length_append, List.length_replicate]; omega
  have hud0 : ∀ d ∈ us0, d < 1000000000 := fun d hd => by
    rw [hus0] at hd
    rcases List.mem_append.1 hd with h | h
    · exact digs_lt (by decide) _ d h
    · rw [List.eq_of_mem_replicate h]; decide
  have huv0 : val 1000000000 us0 = a * s := by rw [hus0, val_append, val_replicate_zero, Nat.mul_zero, Nat.add_zero, val_digs (by decide)]
  generalize hvs : digs 1000000000 (b * s) = vs at *
  have hvd : ∀ d ∈ vs, d < 1000000000 := by rw [← hvs]; exact digs_lt (by decide) _
  have hvv : val 1000000000 vs = b * s := by rw [← hvs]; exact val_digs (by decide) _
  have lV : ∀ H, vlen (natT (b * s)) H = some (VI ((n + 2 : Nat) : Int)) := fun H => by rw [len_natT, hvs, hVl]
  obtain ⟨v1, f1⟩ : ∃ v1, vs[n + 1]? = some v1 := ⟨_, List.getElem?_eq_getElem (by omega)⟩
  obtain ⟨v0, f0⟩ : ∃ v0, vs[n]? = some v0 := ⟨_, List.getElem?_eq_getElem (by omega)⟩
  have hv1 : 1 ≤ v1 := by
    obtain ⟨d, hd, hd0, _⟩ := digsT_top (a := b * s) (n := n + 1) (by rw [hvs]; exact hVl)
    rw [hvs, f1] at hd
    cases hd
    omega
  have hless : val 1000000000 (us0.drop m) < val 1000000000 vs := by
    have h2 := val_split (b := 1000000000) us0 m
    rw [List.length_take, hul0, Nat.min_eq_left (by omega), huv0] at h2
    have h3 : a < b * 1000000000 ^ m := by
      have y1 := digs_len_lt (b := 1000000000) (by decide) a
      have y2 := digs_ge (b := 1000000000) (by decide) hb
      rw [hn] at y2
      have y3 : 1000000000 ^ (n + 2 - 1) * 1000000000 ^ m ≤ b * 1000000000 ^ m := Nat.mul_le_mul_right _ y2
      rw [← Nat.pow_add, show n + 2 - 1 + m = (digs 1000000000 a).length by omega] at y3
      exact Nat.lt_of_lt_of_le y1 y3
    have h4 : a * s < b * 1000000000 ^ m * s := Nat.mul_lt_mul_of_pos_right h3 hs1'
    have h5 : b * 1000000000 ^ m * s = 1000000000 ^ m * (b * s) := by grind
    rw [hvv]
    have h6 : 1000000000 ^ m * val 1000000000 (us0.drop m) < 1000000000 ^ m * (b * s) := by
      rw [← h5]
      exact Nat.lt_of_le_of_lt (by rw [h2]; exact Nat.le_add_left _ _) h4
    exact Nat.lt_of_mul_lt_mul_left h6
  have body : VW ⟨true, false⟩ 0 (.loop spec_l01NatDiv_b1) = VW ⟨true, false⟩ 0 (.loop spec_l01NatDiv_b1) := rfl
  have tail : ∀ (us os : List Nat), us.length = N → (∀ d ∈ us, d < 1000000000) → os.length = m → (∀ d ∈ os, d < 1000000000) → val 1000000000 us + val 1000000000 vs * val 1000000000 os = a * s → val 1000000000 us < val 1000000000 vs →
      (∀ lo K, vcallP 141 [.ref 0 0 0 N N] lo (H2 us os) K = K (natT (a % b * s)) (freezeAll (H2 us os) [0])) ∧
      (∀ lo K, vcallP 141 [.ref 1 0 0 m m] lo (freezeAll (H2 us os) [0]) K = K (natT (a / b)) (freezeAll (freezeAll (H2 us os) [0]) [1])) ∧ TC 154 [natT (a % b * s), VI (s : Int)] (.tup [natT (a % b), VI ((a % b * s % s : Nat) : Int)]) := by
    intro us os hul hud hol hod hv hlt
    rw [hvv] at hv hlt
    have hq : val 1000000000 os = a / b := by
      rw [← Nat.mul_div_mul_right a b hs1', ← hv, Nat.add_mul_div_left _ _ (Nat.lt_of_le_of_lt (Nat.zero_le _) hlt), Nat.div_eq_of_lt hlt, Nat.zero_add]
    have hr : val 1000000000 us = a % b * s := by
      rw [← Nat.mul_mod_mul_right, ← hv, Nat.add_mul_mod_self_left, Nat.mod_eq_of_lt hlt]
    refine ⟨fun lo K => ?_, fun lo K => ?_, ?_⟩
    · have h := spec_l01Trim_v us hud (by omega)
      rw [hr] at h
      exact TC.row1 (f := tV) h H2_0 hul.symm (Nat.le_refl _) tV_len (fun _ => rfl) rfl rfl lo K
    · have h := spec_l01Trim_v os hod (by omega)
      rw [hq] at h
      have hrow : vrow (freezeAll (H2 us os) [0]) 1 0 = some (os.map tV, 1, true) := rfl
      exact TC.row1 (f := tV) h hrow hol.symm (Nat.le_refl _) tV_len (fun _ => rfl) rfl rfl lo K
    · have h := spec_l01ShortDiv_v (a % b * s) s hs1' hsT (by
        have h2 := digs_len_mono (b := 1000000000) (by decide) (Nat.le_trans (Nat.le_of_lt hlt) (show b * s ≤ b * s from Nat.le_refl _))
        rw [hr, hvs] at h2
        omega)
      rwa [Nat.mul_div_cancel _ hs1'] at h
  clear body
  have nV : natT (b * s) = natL' vs := by rw [natT, hvs]
  cases t1 with
  | false =>
    simp only [spec_l01NatDiv, spec_l01NatDiv_c, s1, s2, c1, hab, len_natT, hn, h1', w0, w1, q0, et, wN, mkN, c3, c4, cp, lV, l1, l2, wm, wm1, mkm, List.cons_append, List.nil_append, VX, Nat.reduceEqDiff, Nat.reduceAdd]
    refine div_loopT (us0 := us0) (os0 := List.replicate m 0) (vs := vs) (N := N) (m := m) (n := n) (A := a * s) (s := s) hul0 hm (by omega) hud0 hVl hvd f1 f0 hv1 huv0 hless (by simp) (rep_lt (by decide) _) (by rfl) (by rfl) (by simp only [VX, Nat.reduceEqDiff, Nat.reduceAdd]; exact nV) (by rfl) (by rfl) (by rfl) ?_
    intro ρ1 us os r12 r13 r16 hul hud hol hod hv hlt
    obtain ⟨x1, x2, x3⟩ := tail us os hul hud hol hod hv hlt
    simp only [r12, r13, r16, x1, x2, x3, VX, Nat.reduceEqDiff, Nat.reduceAdd]
    exact fin
  | true =>
    rw [ht rfl] at s2
    simp only [spec_l01NatDiv, spec_l01NatDiv_c, s1, s2, c1, hab, len_natT, hn, h1', w0, w1, q0, et, wN, mkN, c3, c4, cp, lV, l1, l2, wm, wm1, mkm, List.cons_append, List.nil_append, VX, Nat.reduceEqDiff, Nat.reduceAdd]
    refine div_loopT (us0 := us0) (os0 := List.replicate m 0) (vs := vs) (N := N) (m := m) (n := n) (A := a * s) (s := s) hul0 hm (by omega) hud0 hVl hvd f1 f0 hv1 huv0 hless (by simp) (rep_lt (by decide) _) (by rfl) (by rfl) (by simp only [VX, Nat.reduceEqDiff, Nat.reduceAdd]; exact nV) (by rfl) (by rfl) (by rfl) ?_
    intro ρ1 us os r12 r13 r16 hul hud hol hod hv hlt
    obtain ⟨x1, x2, x3⟩ := tail us os hul hud hol hod hv hlt
    simp only [r12, r13, r16, x1, x2, x3, VX, Nat.reduceEqDiff, Nat.reduceAdd]
    exact fin
end Go.PM
