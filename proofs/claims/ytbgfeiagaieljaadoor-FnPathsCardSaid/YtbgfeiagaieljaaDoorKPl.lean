/- Texts of a claim, in one: part 12. -/
import Derived.Lib.LaidTab
import Derived.LaidLaws
import Derived.LaidMore
import Derived.MakeChecks
import Derived.Handed
import Derived.Test.YtbgfeiagaieljaaDoorKPk

/- The reference's fractions: numerals, texts, fractions of two integers. -/
set_option linter.unusedSimpArgs false
set_option linter.unusedVariables false
namespace Go.PM
open Go.Lib
theorem decT_v (d : Nat) (h : d ≤ 9223372036854775807) : TC 67 [VI (d : Int)] (strV (decDigits d)) := by
  have := spec_l01Dec_v (d : Int) (by omega) (by omega)
  rw [if_neg (by omega), List.nil_append, Int.natAbs_natCast] at this
  exact this
theorem drop_top {n i : Nat} (hi : i + 1 = (digs 1000000000 n).length) : n / 1000000000 ^ i = n / 1000000000 ^ i % 1000000000 := by
  have h1 := digs_drop (b := 1000000000) (by decide) n (i + 1)
  rw [List.drop_of_length_le (by omega)] at h1
  have h2 := (digs_nil (b := 1000000000) (by decide)).1 h1.symm
  rw [div_pow_succ] at h2
  rcases Nat.div_eq_zero_iff.1 h2 with h | h
  · exact absurd h (by decide)
  · exact (Nat.mod_eq_of_lt h).symm
theorem str_extract (l : List UInt8) (a b : Nat) : (⟨l.toArray⟩ : ByteArray).extract a b = ⟨((l.drop a).take (b - a)).toArray⟩ := by
  rw [ByteArray.ext_iff, ByteArray.data_extract]
  simp [List.extract_toArray, List.extract_eq_take_drop]
theorem ssub_from (l : List UInt8) {a : Nat} (h : a ≤ l.length) : vssub (strV l) (some (VI (a : Int))) none = some (strV (l.drop a)) := by
  have hs : (⟨l.toArray⟩ : ByteArray).size = l.length := by simp [ByteArray.size]
  have e2 : (0 : Int) ≤ a ∧ (a : Int) ≤ (l.length : Int) := by omega
  simp only [vssub, vnum, psliceB, hs, pbound, e2, and_self, if_true, Int.toNat_natCast, str_extract]
  rw [List.take_of_length_le (by simp)]
theorem ssub1 (l : List UInt8) (h : 1 ≤ l.length) : vssub (strV l) (some (VI 1)) none = some (strV (l.drop 1)) := ssub_from l h
theorem wrap_addT {a : Nat} (h : a < 1000000000) : IntKind.i64.wrap ((a : Int) + 1000000000) = ((a + 1000000000 : Nat) : Int) := wrapN _ (by omega) (by omega)
theorem spec_l01NatText_v (n : Nat) (hn : bl n ≤ 2199023255552) : TC 51 [natT n] (strV (decDigits n)) := by
  refine TC.walk ⟨true, false⟩ spec_l01NatText_t rfl (Nat.le_of_ble_eq_true rfl) (by simp [pureL, natT_pure]) rfl ?_
  by_cases h0 : n = 0
  · subst h0
    have hl : (((digs 1000000000 0).length : Nat) : Int) = 0 := by rw [digs_zero]; rfl
    simp only [spec_l01NatText, spec_l01NatText_c, len_natT, hl, VX, Nat.reduceEqDiff, Nat.reduceAdd]
    rw [dec_small (by decide)]
    exact fz_res rfl
  have hl : ¬ (((digs 1000000000 n).length : Nat) : Int) = 0 := by have := (lenT_pos (n := n)).2 h0; omega
  obtain ⟨L, hL⟩ : ∃ L, (digs 1000000000 n).length = L + 1 := ⟨(digs 1000000000 n).length - 1, by omega⟩
  have hcap := capT (n := n) (by omega)
  have hlT := len_T n
  have hdl := dec_bits n
  have w1 : IntKind.i64.wrap (((L + 1 : Nat) : Int) - 1) = (L : Int) := wrapN _ (by omega) (by omega)
  have w2 : IntKind.i64.wrap (((L + 1 : Nat) : Int) - 2) = (L : Int) - 1 := by rw [wrap64 (by omega) (by omega)]; omega
  have at' : ∀ i, i ≤ L → viaddr 1 (natT n) (VI (i : Int)) [] = some (.tptr (tV (n / 1000000000 ^ i % 1000000000)) 0) := fun i hi => viaddr_map (f := tV) (t := .op) (H := []) (size := 1) (k := .i64) (digs_get (b := 1000000000) (by decide) (n := n) (i := i) (by omega)) rfl
  have eL := at' L (Nat.le_refl _)
  have htop := drop_top (n := n) (i := L) (by omega)
  rw [← htop] at eL
  have hq0 : n / 1000000000 ^ L ≠ 0 := (digs_at (b := 1000000000) (by decide)).1 (by omega)
  have hqT : n / 1000000000 ^ L < 1000000000 := by rw [htop]; exact Nat.mod_lt _ (by decide)
  have c1 := decT_v (n / 1000000000 ^ L) (by omega)
  rw [hL] at hl
  simp only [spec_l01NatText, spec_l01NatText_c, len_natT, hL, hl, w1, w2, eL, c1, VX, Nat.reduceEqDiff, Nat.reduceAdd]
  refine VW_loop (fun (j : Nat) ρ H => j ≤ L ∧ H = [] ∧ ρ 0 = natT n ∧ ρ 3 = strV (decDigits (n / 1000000000 ^ j)) ∧ ρ 4 = VI ((j : Int) - 1)) (fun j => j) L ⟨Nat.le_refl _, rfl, rfl, rfl, rfl⟩ ?_
  rintro j ρ H ⟨hj, rfl, g0, g3, g4⟩
  by_cases hz : (0 : Int) ≤ (j : Int) - 1
  · obtain ⟨i, rfl⟩ : ∃ i, j = i + 1 := ⟨j - 1, by omega⟩
    have hji : ((i + 1 : Nat) : Int) - 1 = (i : Int) := by omega
    rw [hji] at g4 hz
    have e1 := at' i (by omega)
    have hm := Nat.mod_lt (n / 1000000000 ^ i) (show 0 < 1000000000 by decide)
    have hq1 : n / 1000000000 ^ (i + 1) ≠ 0 := (digs_at (b := 1000000000) (by decide)).1 (by omega)
    have hdm := Nat.mod_add_div (n / 1000000000 ^ i) 1000000000
    rw [← div_pow_succ] at hdm
    have hch := dec_chunk (Nat.pos_of_ne_zero hq1) hm
    have hle : n / 1000000000 ^ i ≤ n := Nat.div_le_self _ _
    have hdi := dec_bits (n / 1000000000 ^ i)
    have hbi := bl_mono hle
    rw [show n / 1000000000 ^ (i + 1) * 1000000000 + n / 1000000000 ^ i % 1000000000 = n / 1000000000 ^ i by omega] at hch
    generalize hAA : n / 1000000000 ^ i = A at *
    generalize n / 1000000000 ^ (i + 1) = B at *
    have w4 : IntKind.i64.wrap ((i : Int) - 1) = (i : Int) - 1 := wrap64 (by omega) (by omega)
    have c2 := decT_v (A % 1000000000 + 1000000000) (by omega)
    rw [dec_one hm] at c2
    have e2 := ssub1 (d10 1 :: padD 9 (A % 1000000000)) (by simp)
    rw [List.drop_succ_cons, List.drop_zero] at e2
    have hlen := congrArg List.length hch
    rw [List.length_append] at hlen
    have a1 := str_add (decDigits B) (padD 9 (A % 1000000000)) (by omega)
    rw [← hch] at a1
    have hji' : i ≤ L := by omega
    have hmu : i < i + 1 := by omega
    have w3 := wrap_addT hm
    simp only [spec_l01NatText_b0, g0, g3, g4, hz, e1, w3, w4, c2, e2, a1, VX, Nat.reduceEqDiff, Nat.reduceAdd]
    refine ⟨i, hmu, hji', ?_⟩
    rw [hAA]
    exact ⟨rfl, rfl⟩
  · have hj0 : j = 0 := by omega
    subst hj0
    rw [Nat.pow_zero, Nat.div_one] at g3
    simp only [spec_l01NatText_b0, g0, g3, g4, hz, VX, Nat.reduceEqDiff, Nat.reduceAdd]
    exact fz_res rfl
theorem spec_l01Fits_v (q : Rat) (hk : rbits q ≤ 1099511627776) : TC 37 [ratT q] (VB (fitsQ q)) := by
  refine TC.walk ⟨true, false⟩ spec_l01Fits_t rfl (Nat.le_of_ble_eq_true rfl) (by simp [pureL, ratT_pure]) rfl ?_
  have la := num_bl hk
  have lb := den_bl hk
  have t1 := spec_l01NatText_v q.num.natAbs (by omega)
  have t2 := spec_l01NatText_v q.den (by omega)
  have hf : fitsQ q = (decide (((decDigits q.num.natAbs).length : Int) ≤ 200) && decide (((decDigits q.den).length : Int) ≤ 200)) := by
    unfold fitsQ
    congr 1 <;> exact decide_eq_decide.2 (by omega)
  rw [hf]
  by_cases hl : ((decDigits q.num.natAbs).length : Int) ≤ 200
  · simp only [spec_l01Fits, spec_l01Fits_c, t1, t2, hl, slen_str, vcells_ratT, rd_ratT0, rd_ratT1, rd_ratT2, vscal_natT, vload_pdef, vstore_pdef, viaddr_rdef, vlen_rdef, vfaddr_pdef, vchk_pdef, visnil_rdef, visnil_nil, visnil_cons, vrow_zero, vrow_succ, List.set_cons_zero, List.set_cons_succ, elemOf_one, elemOf_two, vresult, vresAll, vres1, vfill, isAny_sc, isAny_tree, isAny_ref, isAny_agg, isAny_clo, List.take_zero, List.take_succ_cons, List.take_nil, List.drop_zero, List.drop_succ_cons, List.drop_nil, List.append_nil, Nat.reduceLeDiff, Nat.le_refl, vsplice, Nat.reduceLT, Int.toNat_natCast, eq_self, ge_iff_le, Bool.and_eq_true, Nat.reduceSub, VX, Nat.reduceEqDiff, Nat.reduceAdd]
    exact fz_res rfl
  · simp only [spec_l01Fits, spec_l01Fits_c, t1, t2, hl, slen_str, vcells_ratT, rd_ratT0, rd_ratT1, rd_ratT2, vscal_natT, vload_pdef, vstore_pdef, viaddr_rdef, vlen_rdef, vfaddr_pdef, vchk_pdef, visnil_rdef, visnil_nil, visnil_cons, vrow_zero, vrow_succ, List.set_cons_zero, List.set_cons_succ, elemOf_one, elemOf_two, vresult, vresAll, vres1, vfill, isAny_sc, isAny_tree, isAny_ref, isAny_agg, isAny_clo, List.take_zero, List.take_succ_cons, List.take_nil, List.drop_zero, List.drop_succ_cons, List.drop_nil, List.append_nil, Nat.reduceLeDiff, Nat.le_refl, vsplice, Nat.reduceLT, Int.toNat_natCast, eq_self, ge_iff_le, Bool.and_eq_true, Nat.reduceSub, VX, Nat.reduceEqDiff, Nat.reduceAdd]
    exact fz_res rfl
theorem spec_l01Show_v (q : Rat) (hk : rbits q ≤ 1099511627776) : TC 38 [ratT q] (strV (showQ q)) := by
  refine TC.walk ⟨true, false⟩ spec_l01Show_t rfl (Nat.le_of_ble_eq_true rfl) (by simp [pureL, ratT_pure]) rfl ?_
  have la := num_bl hk
  have lb := den_bl hk
  have t1 := spec_l01NatText_v q.num.natAbs (by omega)
  have t2 := spec_l01NatText_v q.den (by omega)
  have d1 := dec_bits q.num.natAbs
  have d2 := dec_bits q.den
  have c1 : ∀ lo H K, _ := fun lo H K => cmp_one (n := q.den) (lo := lo) (H := H) (K := K) (Nat.le_of_lt (capT (by omega)))
  have a1 : pbin .add (.string ⟨#[45]⟩) (.string ⟨(decDigits q.num.natAbs).toArray⟩) = some (.string ⟨(45 :: decDigits q.num.natAbs).toArray⟩) := str_add [45] _ (by simp only [List.length_cons, List.length_nil]; omega)
  have a2 : pbin .add (.string ⟨#[47]⟩) (.string ⟨(decDigits q.den).toArray⟩) = some (.string ⟨(47 :: decDigits q.den).toArray⟩) := str_add [47] (decDigits q.den) (by simp only [List.length_cons, List.length_nil]; omega)
  have a3 := str_add (45 :: decDigits q.num.natAbs) (47 :: decDigits q.den) (by simp only [List.length_cons]; omega)
  have a4 := str_add (decDigits q.num.natAbs) (47 :: decDigits q.den) (by simp only [List.length_cons]; omega)
  have hs : showQ q = (if q.num < 0 then (45 :: decDigits q.num.natAbs) else decDigits q.num.natAbs) ++ (if q.den = 1 then [] else 47 :: decDigits q.den) := by
    unfold showQ
    by_cases hn : q.num < 0
    · rw [if_pos hn, if_pos hn]; rfl
    · rw [if_neg hn, if_neg hn]; rfl
  rw [hs]
  by_cases hd : cmpI q.den 1 = 0
  · rw [if_pos (cmpI_zero.1 hd), List.append_nil]
    by_cases hn : q.num < 0
    all_goals
      simp only [spec_l01Show, spec_l01Show_c, t1, t2, a1, a2, a3, a4, c1, hd, hn, litT_cl, vcells_ratT, rd_ratT0, rd_ratT1, rd_ratT2, vscal_natT, vload_pdef, vstore_pdef, viaddr_rdef, vlen_rdef, vfaddr_pdef, vchk_pdef, visnil_rdef, visnil_nil, visnil_cons, vrow_zero, vrow_succ, List.set_cons_zero, List.set_cons_succ, elemOf_one, elemOf_two, vresult, vresAll, vres1, vfill, isAny_sc, isAny_tree, isAny_ref, isAny_agg, isAny_clo, List.take_zero, List.take_succ_cons, List.take_nil, List.drop_zero, List.drop_succ_cons, List.drop_nil, List.append_nil, Nat.reduceLeDiff, Nat.le_refl, vsplice, Nat.reduceLT, Int.toNat_natCast, eq_self, ge_iff_le, Bool.and_eq_true, Nat.reduceSub, VX, Nat.reduceEqDiff, Nat.reduceAdd]
      exact fz_res rfl
  · rw [if_neg (mt cmpI_zero.2 hd)]
    by_cases hn : q.num < 0
    all_goals
      simp only [spec_l01Show, spec_l01Show_c, t1, t2, a1, a2, a3, a4, c1, hd, hn, litT_cl, vcells_ratT, rd_ratT0, rd_ratT1, rd_ratT2, vscal_natT, vload_pdef, vstore_pdef, viaddr_rdef, vlen_rdef, vfaddr_pdef, vchk_pdef, visnil_rdef, visnil_nil, visnil_cons, vrow_zero, vrow_succ, List.set_cons_zero, List.set_cons_succ, elemOf_one, elemOf_two, vresult, vresAll, vres1, vfill, isAny_sc, isAny_tree, isAny_ref, isAny_agg, isAny_clo, List.take_zero, List.take_succ_cons, List.take_nil, List.drop_zero, List.drop_succ_cons, List.drop_nil, List.append_nil, Nat.reduceLeDiff, Nat.le_refl, vsplice, Nat.reduceLT, Int.toNat_natCast, eq_self, ge_iff_le, Bool.and_eq_true, Nat.reduceSub, VX, Nat.reduceEqDiff, Nat.reduceAdd]
      exact fz_res rfl
theorem spec_l01Give_v (q : Rat) (hk : rbits q ≤ 1099511627776) : TC 23 [ratT q] (toldQ q) := by
  refine TC.walk ⟨true, false⟩ spec_l01Give_t rfl (Nat.le_of_ble_eq_true rfl) (by simp [pureL, ratT_pure]) (toldQ_res q) ?_
  have t1 := spec_l01Fits_v q hk
  have t2 := spec_l01Show_v q hk
  unfold toldQ
  by_cases h : fitsQ q = true
  · rw [h] at t1
    rw [if_pos h]
    simp only [spec_l01Give, spec_l01Give_c, t1, t2, vcells_ratT, rd_ratT, isAny_ratT, vscal_natT, vload_pdef, vstore_pdef, viaddr_rdef, vlen_rdef, vfaddr_pdef, vchk_pdef, visnil_rdef, visnil_nil, visnil_cons, vrow_zero, vrow_succ, List.set_cons_zero, List.set_cons_succ, elemOf_one, elemOf_two, vresult, vresAll, vres1, vfill, isAny_sc, isAny_tree, isAny_ref, isAny_agg, isAny_clo, List.take_zero, List.take_succ_cons, List.take_nil, List.drop_zero, List.drop_succ_cons, List.drop_nil, List.append_nil, Nat.reduceLeDiff, Nat.le_refl, vsplice, Nat.reduceLT, Int.toNat_natCast, eq_self, ge_iff_le, Bool.and_eq_true, Nat.reduceSub, VX, Nat.reduceEqDiff, Nat.reduceAdd]
    exact fz_res rfl
  · have h' : fitsQ q = false := by simpa using h
    rw [h'] at t1
    rw [if_neg h]
    simp only [spec_l01Give, spec_l01Give_c, t1, vcells_ratT, rd_ratT, isAny_ratT, vscal_natT, vload_pdef, vstore_pdef, viaddr_rdef, vlen_rdef, vfaddr_pdef, vchk_pdef, visnil_rdef, visnil_nil, visnil_cons, vrow_zero, vrow_succ, List.set_cons_zero, List.set_cons_succ, elemOf_one, elemOf_two, vresult, vresAll, vres1, vfill, isAny_sc, isAny_tree, isAny_ref, isAny_agg, isAny_clo, List.take_zero, List.take_succ_cons, List.take_nil, List.drop_zero, List.drop_succ_cons, List.drop_nil, List.append_nil, Nat.reduceLeDiff, Nat.le_refl, vsplice, Nat.reduceLT, Int.toNat_natCast, eq_self, ge_iff_le, Bool.and_eq_true, Nat.reduceSub, VX, Nat.reduceEqDiff, Nat.reduceAdd]
    exact fz_res rfl
theorem vlit_three {α : Type} {z : List Value} {u v w : VV} {H : VHeap} (hz : (z.map inj1).all vscal = true) (hu : (vcells u).length = z.length) (hus : (vcells u).all vscal = true) (hv : (vcells v).length = z.length) (hs : (vcells v).all vscal = true) (hw : (vcells w).length = z.length) (hws : (vcells w).all vscal = true) : vlit false z 3 [(0, u), (1, v), (2, w)] H = some (.tree [u, v, w] (.cl z.length), H) := by
  simp [vlit, litFill, hv, hs, hu, hus, hw, hws, hz, List.replicate_succ]
theorem spec_l01Abs_v (n : Int) (h0 : -9223372036854775808 ≤ n) (h1 : n ≤ 9223372036854775807) : TC 25 [VI n] (natT n.natAbs) := by
  refine TC.walk ⟨true, false⟩ spec_l01Abs_t rfl (Nat.le_of_ble_eq_true rfl) rfl (natT_res _) ?_
  by_cases hm : n = -9223372036854775808
  · subst hm
    have e1 : vlit false [.int .i64 0] 3 [(0, .sc (.int .i64 854775808)), (1, .sc (.int .i64 223372036)), (2, .sc (.int .i64 9))] [] = some (.tree [VI 854775808, VI 223372036, VI 9] (.cl 1), []) := vlit_three (α := Nat) rfl rfl rfl rfl rfl rfl rfl
    have e2 : natT (Int.natAbs (-9223372036854775808)) = .tree [VI 854775808, VI 223372036, VI 9] .op := by
      have : digs 1000000000 9223372036854775808 = [854775808, 223372036, 9] := by
        rw [digs_pos (by decide) (by decide), show 9223372036854775808 / 1000000000 = 9223372036 by decide, digs_pos (by decide) (by decide), show 9223372036 / 1000000000 = 9 by decide, digs_single (by decide) (by decide) (by decide)]
      show natT 9223372036854775808 = _
      rw [natT, this]
      rfl
    simp only [spec_l01Abs, spec_l01Abs_c, e1, VX, Nat.reduceEqDiff, Nat.reduceAdd]
    rw [e2]
    exact fz_cl rfl
  · have w : IntKind.i64.wrap (0 - n) = -n := by rw [wrap64 (by omega) (by omega)]; omega
    have c1 : TC 43 [VI n, VI (-n)] (VI (n.natAbs : Int)) := by
      have hmx : (n.natAbs : Int) = if n > -n then n else -n := by split <;> omega
      rw [hmx]
      refine TC.walk ⟨true, false⟩ spec_l00Max_t rfl (Nat.le_of_ble_eq_true rfl) rfl rfl ?_
      by_cases h : -n < n
      · rw [if_pos h]
        simp only [spec_l00Max, spec_l00Max_c, h, VX, Nat.reduceEqDiff, Nat.reduceAdd]
        exact fz_res rfl
      · rw [if_neg h]
        simp only [spec_l00Max, spec_l00Max_c, h, VX, Nat.reduceEqDiff, Nat.reduceAdd]
        exact fz_res rfl
    have c2 : TC 42 [VI (n.natAbs : Int)] (natT n.natAbs) := spec_l01Nat_v (n.natAbs : Int) (by omega)
    simp only [spec_l01Abs, spec_l01Abs_c, hm, w, c1, c2, VX, Nat.reduceEqDiff, Nat.reduceAdd]
    exact fz_res (natT_pure _)
theorem spec_MakeFraction_v (t b : Int) (ht0 : -9223372036854775808 ≤ t) (ht1 : t ≤ 9223372036854775807) (hb0 : -9223372036854775808 ≤ b) (hb1 : b ≤ 9223372036854775807) : TC 12 [VI t, VI b] (makeQ t b) := by
  refine TC.walk ⟨true, false⟩ spec_MakeFraction_t rfl (Nat.le_of_ble_eq_true rfl) rfl (makeQ_res t b) ?_
  unfold makeQ
  by_cases h : b = 0
  · rw [if_pos h]
    simp only [spec_MakeFraction, spec_MakeFraction_c, h, vload_pdef, vstore_pdef, viaddr_rdef, vlen_rdef, vfaddr_pdef, vchk_pdef, visnil_rdef, visnil_nil, visnil_cons, vrow_zero, vrow_succ, List.set_cons_zero, List.set_cons_succ, elemOf_one, elemOf_two, vresult, vresAll, vres1, vfill, isAny_sc, isAny_tree, isAny_ref, isAny_agg, isAny_clo, List.take_zero, List.take_succ_cons, List.take_nil, List.drop_zero, List.drop_succ_cons, List.drop_nil, List.append_nil, Nat.reduceLeDiff, Nat.le_refl, vsplice, Nat.reduceLT, Int.toNat_natCast, eq_self, ge_iff_le, Bool.and_eq_true, Nat.reduceSub, VX, Nat.reduceEqDiff, Nat.reduceAdd]
    exact fz_res rfl
  · rw [if_neg h]
    have m1 := spec_l01Abs_v t ht0 ht1
    have m2 := spec_l01Abs_v b hb0 hb1
    have k1 := bl64 (n := t.natAbs) (by omega)
    have k2 := bl64 (n := b.natAbs) (by omega)
    have l1 := spec_l01Make_v (decide (t < 0) != decide (b < 0)) t.natAbs b.natAbs (by omega) (by omega) (by omega)
    have t1 := spec_l01Give_v (fracQ t b) (Nat.le_trans (fracQ_bits (by omega) (by omega)) (by decide))
    have x : toldQ (fracQ t b) = .tup [(if fitsQ (fracQ t b) = true then strV (showQ (fracQ t b)) else strV []), VB (fitsQ (fracQ t b))] := by
      unfold toldQ
      cases fitsQ (fracQ t b) <;> rfl
    rw [x] at t1 ⊢
    unfold fracQ at *
    simp only [spec_MakeFraction, spec_MakeFraction_c, h, m1, m2, l1, t1, eqb_bT, vcells_ratT, rd_ratT, isAny_ratT, vscal_natT, vload_pdef, vstore_pdef, viaddr_rdef, vlen_rdef, vfaddr_pdef, vchk_pdef, visnil_rdef, visnil_nil, visnil_cons, vrow_zero, vrow_succ, List.set_cons_zero, List.set_cons_succ, elemOf_one, elemOf_two, vresult, vresAll, vres1, vfill, isAny_sc, isAny_tree, isAny_ref, isAny_agg, isAny_clo, List.take_zero, List.take_succ_cons, List.take_nil, List.drop_zero, List.drop_succ_cons, List.drop_nil, List.append_nil, Nat.reduceLeDiff, Nat.le_refl, vsplice, Nat.reduceLT, Int.toNat_natCast, eq_self, ge_iff_le, Bool.and_eq_true, Nat.reduceSub, VX, Nat.reduceEqDiff, Nat.reduceAdd]
    exact fz_res (by cases fitsQ (mkRat (sgn (decide (t < 0) != decide (b < 0)) t.natAbs) b.natAbs) <;> rfl)
end Go.PM

/- The mean wait: the program and the reference, walked. -/
namespace Go.PM
open Go.Lib
theorem sumI_take {xs : List Int} {i : Nat} {x : Int} (h : xs[i]? = some x) : sumI (xs.take (i + 1)) = sumI (xs.take i) + x := by
  induction xs generalizing i with
  | nil => cases h
  | cons y ys ih =>
    cases i with
    | zero => injection h with h; subst h; simp [sumI]
    | succ i =>
      rw [List.getElem?_cons_succ] at h
      rw [List.take_succ_cons, List.take_succ_cons, sumI, sumI, ih h]
      omega
theorem sumI_bound {xs : List Int} {k : Int} (h : ∀ x ∈ xs, -k ≤ x ∧ x ≤ k) (i : Nat) : -(k * xs.length) ≤ sumI (xs.take i) ∧ sumI (xs.take i) ≤ k * xs.length := by
  induction xs generalizing i with
  | nil => simp [sumI]
  | cons y ys ih =>
    have hy := h y List.mem_cons_self
    have hk : 0 ≤ k * (ys.length : Int) := Int.mul_nonneg (by omega) (by omega)
    have e : k * ((y :: ys).length : Int) = k * (ys.length : Int) + k := by rw [List.length_cons, Int.natCast_add, Int.mul_add]; simp
    cases i with
    | zero => rw [e]; simp only [List.take_zero, sumI]; omega
    | succ i =>
      have := ih (fun x hx => h x (List.mem_cons_of_mem _ hx)) i
      rw [List.take_succ_cons, sumI, e]
      omega
theorem impl_total_v (xs : List Int) (hb : ∀ x ∈ xs, -1000000000 ≤ x ∧ x ≤ 1000000000) (hn : xs.length ≤ 1000000) : TC 22 [numsV xs] (VI (sumI xs)) := by
  refine TC.walk ⟨true, false⟩ impl_total_t rfl (Nat.le_of_ble_eq_true rfl) (by simp [pureL, nums_pure]) rfl ?_
  simp only [impl_total, impl_total_c, VX, Nat.reduceEqDiff, Nat.reduceAdd]
  refine VW_loop (fun (i : Nat) ρ H => i ≤ xs.length ∧ H = [] ∧ ρ 3 = VI (sumI (xs.take i)) ∧ ρ 6 = numsV xs ∧ ρ 7 = VI xs.length ∧ ρ 8 = VI i) (fun i => xs.length - i) 0 ⟨Nat.zero_le _, rfl, rfl, rfl, rfl, rfl⟩ ?_
  rintro i ρ H ⟨hi, rfl, g3, g6, g7, g8⟩
  by_cases hin : (i : Int) < (xs.length : Int)
  · obtain ⟨x, hx⟩ : ∃ x, xs[i]? = some x := ⟨_, List.getElem?_eq_getElem (by omega)⟩
    have e1 := viaddr_map (f := nV) (t := .op) (H := []) (size := 1) (k := .i64) hx rfl
    have wi : IntKind.i64.wrap ((i : Int) + 1) = ((i + 1 : Nat) : Int) := wrapN (i + 1) (by omega) (by omega)
    have hs := sumI_bound hb (i + 1)
    rw [sumI_take hx] at hs
    have w1 : IntKind.i64.wrap (sumI (xs.take i) + x) = sumI (xs.take i) + x := wrap64 (by omega) (by omega)
    simp only [impl_total_b0, g3, g6, g7, g8, hin, e1, w1, wi, VX, Nat.reduceEqDiff, Nat.reduceAdd]
    refine ⟨i + 1, by omega, by omega, ?_⟩
    rw [sumI_take hx]
    (repeat' apply And.intro) <;> first | rfl | trivial
  · have hie : i = xs.length := by omega
    subst hie
    simp only [impl_total_b0, g3, g6, g7, g8, hin, VX, Nat.reduceEqDiff, Nat.reduceAdd]
    rw [List.take_length]
    exact fz_res rfl
noncomputable def wtsV (rule srv : Int) (cs : List Cust) : List Int := mvL (fun c => 0 - c.t) cs (stL rule srv cs)
theorem mvL_mem {g : Cust → Int} {P : Int → Prop} : ∀ {cs : List Cust} {st : List Int}, (∀ c ∈ cs, ∀ s ∈ st, P (s + g c)) → ∀ x ∈ mvL g cs st, P x
  | [], _, _, x, hx => by cases hx
  | _ :: _, [], _, x, hx => by cases hx
  | c :: cs, s :: st, h, x, hx => by
    rw [mvL] at hx
    rcases List.mem_cons.1 hx with rfl | hx
    · exact h c List.mem_cons_self s List.mem_cons_self
    · exact mvL_mem (fun c hc s hs => h c (List.mem_cons_of_mem _ hc) s (List.mem_cons_of_mem _ hs)) x hx
theorem wtsV_mem {rule srv : Int} {cs : List Cust} (hc : custsOk cs) : ∀ x ∈ wtsV rule srv cs, -1000000000 ≤ x ∧ x ≤ 1000000000 :=
  mvL_mem (P := fun x => -1000000000 ≤ x ∧ x ≤ 1000000000) fun c hcm s hs => by
    have h1 := hc.mem hcm
    have h2 := stL_mem s hs
    omega
theorem wtsV_len (rule srv : Int) (cs : List Cust) : (wtsV rule srv cs).length = cs.length := mvL_len stL_len
open Classical in
noncomputable def mwV (rule srv : Int) (cs : List Cust) : VV := if stOk rule srv cs ∧ cs ≠ [] then makeQ (sumI (wtsV rule srv cs)) cs.length else .tup [strV [], VB false]
theorem mwV_res (rule srv : Int) (cs : List Cust) : resV (mwV rule srv cs) = true := by
  unfold mwV
  split
  · exact makeQ_res _ _
  · rfl
theorem makeQ_tup (t b : Int) : ∃ s k, makeQ t b = .tup [strV s, VB k] := by
  unfold makeQ toldQ
  split
  · exact ⟨_, _, rfl⟩
  · split <;> exact ⟨_, _, rfl⟩
theorem sum24 {rule srv : Int} {cs : List Cust} (hc : custsOk cs) : -24000000000 ≤ sumI (wtsV rule srv cs) ∧ sumI (wtsV rule srv cs) ≤ 24000000000 := by
  have h := sumI_bound (k := 1000000000) (wtsV_mem (rule := rule) (srv := srv) hc) (wtsV rule srv cs).length
  rw [List.take_length, wtsV_len] at h
  have := hc.2
  omega
theorem impl_MeanWait_v (rule srv : Int) (cs : List Cust) (hn : cs.length ≤ 1000000000) : TC 11 [VI rule, VI srv, custsV cs] (mwV rule srv cs) := by
  refine TC.walk ⟨true, false⟩ impl_MeanWait_t rfl (Nat.le_of_ble_eq_true rfl) (by simp only [pureL, custsV_pure]; rfl) (mwV_res _ _ _) ?_
  simp only [impl_MeanWait, impl_MeanWait_c, VX, Nat.reduceEqDiff, Nat.reduceAdd]
  refine FC.callO (impl_WaitsOf_v rule srv cs hn) rfl (fz3 (fz_res rfl) (fz_res rfl) (fz_res (custsV_pure _))) ?_
  rintro r L ⟨v, rfl, hv⟩ ho hL
  unfold mwV
  by_cases hok : stOk rule srv cs
  · have hvv : mvV (fun c => 0 - c.t) rule srv cs = wtsV rule srv cs := if_pos hok
    rw [hvv] at hv
    have hfz := LR.fz (ok := true) (n := 0) hv
    have hlen : vlen v L = some (VI cs.length) := by
      rcases hv with ⟨rfl, h0⟩ | ⟨i, g, c, rfl, h2, h3⟩
      · rw [← wtsV_len rule srv cs, h0]; rfl
      · have := vlen_ref (b := 0 + i) (o := 0) (n := (wtsV rule srv cs).length) (c := c) (H := L) (vrow_some.2 (by simpa using h3))
        rw [wtsV_len] at this
        rw [wtsV_len]
        exact this
    have h24 := hok.2.2.2
    have ct : ∀ lo K, vcallP 22 [v] lo L K = K (VI (sumI (wtsV rule srv cs))) L := TC.flat (impl_total_v _ (wtsV_mem hok.2.2) (by rw [wtsV_len]; omega)) rfl (by simp [pureL, nums_pure]) (fz1 hfz) rfl
    have hs := sum24 (rule := rule) (srv := srv) hok.2.2
    have c2 := impl_MakeFraction_v (sumI (wtsV rule srv cs)) (cs.length : Int) (by omega) (by omega) (by omega) (by omega)
    by_cases hz : (cs.length : Int) = 0
    · simp only [decide_eq_true hok, hlen, hz, VX, Nat.reduceEqDiff, Nat.reduceAdd]
      rw [if_neg (fun h => h.2 (List.length_eq_zero_iff.1 (by omega)))]
      exact fz_res rfl
    · rw [if_pos ⟨hok, fun h => hz (by rw [h]; rfl)⟩]
      obtain ⟨s, k, hsk⟩ := makeQ_tup (sumI (wtsV rule srv cs)) (cs.length : Int)
      rw [hsk] at c2 ⊢
      simp only [decide_eq_true hok, hlen, hz, ct, c2, VX, Nat.reduceEqDiff, Nat.reduceAdd]
      exact fz_res rfl
  · rw [if_neg (fun h => hok h.1)]
    simp only [decide_eq_false hok, VX, Nat.reduceEqDiff, Nat.reduceAdd]
    exact fz_res rfl
end Go.PM

/- The statement on paths, walked. -/
namespace Go.PM
/-! ### fractions of 64 bits are told -/
theorem fits64 {q : Rat} (h : rbits q ≤ 64) : fitsQ q = true := by
  have h1 := dec_bits q.num.natAbs
  have h2 := dec_bits q.den
  have h3 : bl q.num.natAbs ≤ rbits q := num_bl (Nat.le_refl _)
  have h4 : bl q.den ≤ rbits q := den_bl (Nat.le_refl _)
  unfold fitsQ
  rw [decide_eq_true (by omega), decide_eq_true (by omega)]
  rfl
theorem makeQ_ok {t b : Int} (hb : b ≠ 0) (ht : t.natAbs ≤ 9223372036854775808) (hb2 : b.natAbs ≤ 9223372036854775808) : makeQ t b = .tup [strV (showQ (fracQ t b)), VB true] := by
  unfold makeQ toldQ
  rw [if_neg hb, if_pos (fits64 (fracQ_bits ht hb2))]
def isWt (cs : List Cust) (st : List Int) (t : Int) (i : Nat) : Bool := decide (atC cs i ≤ t) && decide (t < stC st i)
theorem isWt_any {cs : List Cust} {st : List Int} {t : Int} : (List.range cs.length).any (isWt cs st t) = true ↔ ∃ i, i < cs.length ∧ atC cs i ≤ t ∧ t < stC st i := by
  rw [List.any_eq_true]
  constructor
  · rintro ⟨i, hi, h⟩
    rw [List.mem_range] at hi
    simp only [isWt, Bool.and_eq_true, decide_eq_true_eq] at h
    exact ⟨i, hi, h⟩
  · rintro ⟨i, hi, h⟩
    refine ⟨i, List.mem_range.2 hi, ?_⟩
    simp only [isWt, Bool.and_eq_true, decide_eq_true_eq]
    exact h
set_option maxHeartbeats 1000000 in
theorem laws_FnPaths_b0_w {rule srv : Int} {cs : List Cust} (hc : custsOk cs) (hr : 0 ≤ rule ∧ rule ≤ 3) (hs : 1 ≤ srv) {H : VHeap} {b g lo1 hi1 lo2 hi2 lo3 hi3 lo : Nat} {v w u : VV} {ρ : VEnv} {Q : VQ} (hL : vrow H b g = some (cs.map cV, 3, true)) (hv : LV lo1 hi1 (stL rule srv cs) H v) (hw : LV lo2 hi2 (mvL (·.w) cs (stL rule srv cs)) H w) (hu : LV lo3 hi3 (mvL (fun c => 0 - c.t) cs (stL rule srv cs)) H u)
    (h5 : ρ 5 = .ref b g 0 cs.length cs.length) (h8 : ρ 8 = v) (h10 : ρ 10 = w) (h12 : ρ 12 = u) (h93 : ρ 93 = VI cs.length) (h94 : ρ 94 = VI 0) (hQ : ∀ ρ', (∀ t, t < 14 → ρ' t = ρ t) → Q .normal ρ' H) : VW ⟨true, false⟩ lo (.loop laws_FnPaths_b0) (onExit 0 Q) ρ H := by
  have hlen := hc.2
  refine VW_loop (fun (i : Nat) ρ' H' => i ≤ cs.length ∧ H' = H ∧ (∀ t, t < 14 → ρ' t = ρ t) ∧ ρ' 93 = VI cs.length ∧ ρ' 94 = VI i) (fun i => cs.length - i) 0 ⟨Nat.zero_le _, rfl, fun _ _ => rfl, h93, h94⟩ ?_
  rintro i ρ' H' ⟨hi, rfl, hk, g93, g94⟩
  have g5 := (hk 5 (by decide)).trans h5
  have g8 := (hk 8 (by decide)).trans h8
  have g10 := (hk 10 (by decide)).trans h10
  have g12 := (hk 12 (by decide)).trans h12
  by_cases hin : (i : Int) < (cs.length : Int)
  · have hil : i < cs.length := by omega
    obtain ⟨c, hci⟩ : ∃ c, cs[i]? = some c := ⟨_, List.getElem?_eq_getElem hil⟩
    obtain ⟨s, hsi⟩ : ∃ s, (stL rule srv cs)[i]? = some s := ⟨_, List.getElem?_eq_getElem (by rw [stL_len]; exact hil)⟩
    have hpos := stL_pos (rule := rule) (srv := srv) hc hr hs i hil
    have hge := stL_ge (rule := rule) (srv := srv) hil hpos
    rw [stC_of hsi] at hpos hge
    rw [atC_of hci] at hge
    have hmem := stL_mem s (List.mem_of_getElem? hsi)
    have hwi := mvL_get (g := (·.w)) hci hsi
    have hui := mvL_get (g := fun c => 0 - c.t) hci hsi
    have eu : s + (0 - c.t) = s - c.t := by omega
    simp only [eu] at hui
    obtain ⟨p, p1, p2⟩ := hv.get hsi
    obtain ⟨p', p3, p4⟩ := hw.get hwi
    obtain ⟨p'', p5, p6⟩ := hu.get hui
    obtain ⟨r1, r2, r3, r4, r5⟩ := row_cust hL hci hil
    have hcb := hc.mem (List.mem_of_getElem? hci)
    have wi : IntKind.i64.wrap ((i : Int) + 1) = ((i + 1 : Nat) : Int) := wrapN (i + 1) (by omega) (by omega)
    have ww : IntKind.i64.wrap (s + c.w) = s + c.w := wrap64 (by omega) (by omega)
    have wu : IntKind.i64.wrap (s - c.t) = s - c.t := wrap64 (by omega) (by omega)
    have q1 : ¬ s < c.t := by omega
    simp only [laws_FnPaths_b0, g5, g8, g10, g12, g93, g94, hin, p1, p2, p3, p4, p5, p6, r1, r2, r3, r4, r5, wi, ww, wu, q1, eqb_self, eq_self, ne_eq, not_true_eq_false, VX, Nat.reduceEqDiff, Nat.reduceAdd]
    refine ⟨i + 1, by omega, by omega, fun t ht => ?_, rfl⟩
    try simp only [vput_app]
    repeat rw [if_neg (by omega)]
    exact hk t ht
  · simp only [laws_FnPaths_b0, g93, g94, hin, VX, Nat.reduceEqDiff, Nat.reduceAdd]
    refine hQ _ fun t ht => ?_
    try simp only [vput_app]
    repeat rw [if_neg (by omega)]
    exact hk t ht
set_option maxHeartbeats 1000000 in
theorem laws_FnPaths_b1_w {rule srv : Int} {cs : List Cust} (hc : custsOk cs) (hr : 0 ≤ rule ∧ rule ≤ 3) (hs : 1 ≤ srv) {H : VHeap} {b g lo1 hi1 lo2 hi2 lo : Nat} {v w : VV} {ρ : VEnv} {Q : VQ} {t : Int} (hL : vrow H b g = some (cs.map cV, 3, true)) (hv : LV lo1 hi1 (stL rule srv cs) H v) (hw : LV lo2 hi2 (mvL (·.w) cs (stL rule srv cs)) H w)
    (h5 : ρ 5 = .ref b g 0 cs.length cs.length) (h8 : ρ 8 = v) (h10 : ρ 10 = w) (h15 : ρ 15 = VI t) (h16 : ρ 16 = VI 0) (h17 : ρ 17 = VB false) (h147 : ρ 147 = VI cs.length) (h148 : ρ 148 = VI 0)
    (hQ : ∀ ρ', (∀ t, t < 16 → ρ' t = ρ t) → ρ' 16 = VI (bz cs (stL rule srv cs) t) → ρ' 17 = VB ((List.range cs.length).any (isWt cs (stL rule srv cs) t)) → Q .normal ρ' H) : VW ⟨true, false⟩ lo (.loop laws_FnPaths_b1) (onExit 4 Q) ρ H := by
  have hlen := hc.2
  refine VW_loop (fun (i : Nat) ρ' H' => i ≤ cs.length ∧ H' = H ∧ (∀ t, t < 16 → ρ' t = ρ t) ∧ ρ' 16 = VI ((List.range i).countP (inS cs (stL rule srv cs) t)) ∧ ρ' 17 = VB ((List.range i).any (isWt cs (stL rule srv cs) t)) ∧ ρ' 147 = VI cs.length ∧ ρ' 148 = VI i) (fun i => cs.length - i) 0 ⟨Nat.zero_le _, rfl, fun _ _ => rfl, h16, h17, h147, h148⟩ ?_
  rintro i ρ' H' ⟨hi, rfl, hk, g16, g17, g147, g148⟩
  have g5 := (hk 5 (by decide)).trans h5
  have g8 := (hk 8 (by decide)).trans h8
  have g10 := (hk 10 (by decide)).trans h10
  have g15 := (hk 15 (by decide)).trans h15
  by_cases hin : (i : Int) < (cs.length : Int)
  · have hil : i < cs.length := by omega
    obtain ⟨c, hci⟩ : ∃ c, cs[i]? = some c := ⟨_, List.getElem?_eq_getElem hil⟩
    obtain ⟨s, hsi⟩ : ∃ s, (stL rule srv cs)[i]? = some s := ⟨_, List.getElem?_eq_getElem (by rw [stL_len]; exact hil)⟩
    have hpos := stL_pos (rule := rule) (srv := srv) hc hr hs i hil
    rw [stC_of hsi] at hpos
    have hwi := mvL_get (g := (·.w)) hci hsi
    obtain ⟨p, p1, p2⟩ := hv.get hsi
    obtain ⟨p', p3, p4⟩ := hw.get hwi
    obtain ⟨r1, r2, r3, r4, r5⟩ := row_cust hL hci hil
    have hcb := hc.mem (List.mem_of_getElem? hci)
    have wi : IntKind.i64.wrap ((i : Int) + 1) = ((i + 1 : Nat) : Int) := wrapN (i + 1) (by omega) (by omega)
    have hstep : (List.range (i + 1)).countP (inS cs (stL rule srv cs) t) = (List.range i).countP (inS cs (stL rule srv cs) t) + if inS cs (stL rule srv cs) t i = true then 1 else 0 := by rw [List.range_succ, List.countP_append, List.countP_singleton]
    have hins : inS cs (stL rule srv cs) t i = (decide (s ≤ t) && decide (t < s + c.w)) := by unfold inS; rw [stC_of hsi, wkC_of hci, decide_eq_true hpos, Bool.true_and]
    have hany : (List.range (i + 1)).any (isWt cs (stL rule srv cs) t) = ((List.range i).any (isWt cs (stL rule srv cs) t) || (decide (c.t ≤ t) && decide (t < s))) := by
      rw [List.range_succ, List.any_append]
      simp only [List.any_cons, List.any_nil, Bool.or_false, isWt, atC_of hci, stC_of hsi]
    have hcl : (List.range i).countP (inS cs (stL rule srv cs) t) ≤ i := by
      have := List.countP_le_length (p := inS cs (stL rule srv cs) t) (l := List.range i)
      simpa using this
    have wn : IntKind.i64.wrap (((List.range i).countP (inS cs (stL rule srv cs) t) : Int) + 1) = (((List.range i).countP (inS cs (stL rule srv cs) t) + 1 : Nat) : Int) := wrapN _ (by omega) (by omega)
    rw [hins] at hstep
    generalize (List.range i).any (isWt cs (stL rule srv cs) t) = A at *
    by_cases q1 : s ≤ t <;> by_cases q2 : t < s + c.w <;> by_cases q3 : c.t ≤ t <;> by_cases q4 : t < s <;> cases A
    all_goals first
      | (exfalso; omega)
      | (simp only [q1, q2, q3, q4, decide_true, decide_false, Bool.and_self, Bool.and_true, Bool.and_false, Bool.true_and, Bool.false_and, Bool.or_true, Bool.or_false, Bool.true_or, Bool.false_or, Bool.or_self, Bool.false_eq_true, if_true, if_false, Nat.add_zero] at hstep hany
         simp only [laws_FnPaths_b1, g5, g8, g10, g15, g16, g17, g147, g148, hin, p1, p2, p3, p4, r1, r2, r4, wi, wn, q1, q2, q3, q4, VX, Nat.reduceEqDiff, Nat.reduceAdd]
         refine ⟨i + 1, by omega, by omega, fun t ht => ?_, by rw [hstep], by rw [hany], rfl⟩
         try simp only [vput_app]
         repeat rw [if_neg (by omega)]
         exact hk t ht)
  · have hie : i = cs.length := by omega
    subst hie
    simp only [laws_FnPaths_b1, g147, g148, hin, VX, Nat.reduceEqDiff, Nat.reduceAdd]
    refine hQ _ (fun t ht => ?_) ?_ ?_
    · try simp only [vput_app]
      repeat rw [if_neg (by omega)]
      exact hk t ht
    · simp only [g16, VX, Nat.reduceEqDiff, Nat.reduceAdd]; rfl
    · simp only [g17, VX, Nat.reduceEqDiff, Nat.reduceAdd]
theorem laws_FnPaths_b2_w {rule srv : Int} {cs : List Cust} (hc : custsOk cs) (hr : 0 ≤ rule ∧ rule ≤ 3) (hs : 1 ≤ srv) {H : VHeap} {b g lo1 hi1 lo2 hi2 lo : Nat} {v w : VV} {ρ : VEnv} {Q : VQ} (hL : vrow H b g = some (cs.map cV, 3, true)) (hv : LV lo1 hi1 (stL rule srv cs) H v) (hw : LV lo2 hi2 (mvL (·.w) cs (stL rule srv cs)) H w)
    (h5 : ρ 5 = .ref b g 0 cs.length cs.length) (h7 : ρ 7 = VI srv) (h8 : ρ 8 = v) (h10 : ρ 10 = w) (h15 : ρ 15 = VI 0) (hQ : ∀ ρ', (∀ t, t < 15 → ρ' t = ρ t) → Q .normal ρ' H) : VW ⟨true, false⟩ lo (.loop laws_FnPaths_b2) (onExit 2 Q) ρ H := by
  refine VW_loop (fun (i : Nat) ρ' H' => i ≤ 130 ∧ H' = H ∧ (∀ t, t < 15 → ρ' t = ρ t) ∧ ρ' 15 = VI i) (fun i => 130 - i) 0 ⟨Nat.zero_le _, rfl, fun _ _ => rfl, h15⟩ ?_
  rintro i ρ' H' ⟨hi, rfl, hk, g15⟩
  have g5 := (hk 5 (by decide)).trans h5
  have g7 := (hk 7 (by decide)).trans h7
  have g8 := (hk 8 (by decide)).trans h8
  have g10 := (hk 10 (by decide)).trans h10
  by_cases hin : (i : Int) < 130
  · have el := vlen_ref (o := 0) (n := cs.length) (c := cs.length) hL
    simp only [laws_FnPaths_b2, g5, g15, hin, el, VX, Nat.reduceEqDiff, Nat.reduceAdd]
    refine laws_FnPaths_b1_w (rule := rule) (srv := srv) hc hr hs hL hv hw ?_ ?_ ?_ ?_ ?_ ?_ ?_ ?_ (t := (i : Int)) fun ρ1 k1 q16 q17 => ?_
    all_goals first | (simp only [g5, g8, g10, g15, VX, Nat.reduceEqDiff, Nat.reduceAdd]; done) | skip
    have wi : IntKind.i64.wrap ((i : Int) + 1) = ((i + 1 : Nat) : Int) := wrapN (i + 1) (by omega) (by omega)
    have g7' : ρ1 7 = VI srv := by rw [k1 7 (by decide)]; simp only [g7, VX, Nat.reduceEqDiff, Nat.reduceAdd]
    have g15' : ρ1 15 = VI i := by rw [k1 15 (by decide)]; simp only [g15, VX, Nat.reduceEqDiff, Nat.reduceAdd]
    obtain ⟨f1, f2⟩ := path_bz (rule := rule) (srv := srv) (cs := cs) (by omega) (t := i) (by omega)
    have hng : ¬ srv < (bz cs (stL rule srv cs) (i : Int) : Int) := by omega
    cases hany : (List.range cs.length).any (isWt cs (stL rule srv cs) (i : Int)) with
    | true =>
      have h3 := f2 (isWt_any.1 hany)
      have hnl : ¬ (bz cs (stL rule srv cs) (i : Int) : Int) < srv := by omega
      rw [hany] at q17
      simp only [g7', g15', q16, q17, hng, hnl, wi, VX, Nat.reduceEqDiff, Nat.reduceAdd]
      refine ⟨i + 1, by omega, by omega, fun t ht => ?_, rfl⟩
      try simp only [vput_app]
      repeat rw [if_neg (by omega)]
      rw [k1 t (by omega)]
      try simp only [vput_app]
      repeat rw [if_neg (by omega)]
      exact hk t ht
    | false =>
      rw [hany] at q17
      simp only [g7', g15', q16, q17, hng, wi, VX, Nat.reduceEqDiff, Nat.reduceAdd]
      refine ⟨i + 1, by omega, by omega, fun t ht => ?_, rfl⟩
      try simp only [vput_app]
      repeat rw [if_neg (by omega)]
      rw [k1 t (by omega)]
      try simp only [vput_app]
      repeat rw [if_neg (by omega)]
      exact hk t ht
  · simp only [laws_FnPaths_b2, g15, hin, VX, Nat.reduceEqDiff, Nat.reduceAdd]
    refine hQ _ fun t ht => ?_
    try simp only [vput_app]
    repeat rw [if_neg (by omega)]
    exact hk t ht
theorem laws_FnPaths_b3_w {xs : List Int} (hx : ∀ x ∈ xs, -1000000000 ≤ x ∧ x ≤ 1000000000) (hn : xs.length ≤ 24) {H : VHeap} {lo1 hi1 lo : Nat} {v : VV} {ρ : VEnv} {Q : VQ} (hv : LV lo1 hi1 xs H v)
    (h12 : ρ 12 = v) (h21 : ρ 21 = VI 0) (h212 : ρ 212 = VI xs.length) (h213 : ρ 213 = VI 0) (hQ : ∀ ρ', (∀ t, t < 21 → ρ' t = ρ t) → ρ' 21 = VI (sumI xs) → Q .normal ρ' H) : VW ⟨true, false⟩ lo (.loop laws_FnPaths_b3) (onExit 6 Q) ρ H := by
  refine VW_loop (fun (i : Nat) ρ' H' => i ≤ xs.length ∧ H' = H ∧ (∀ t, t < 21 → ρ' t = ρ t) ∧ ρ' 21 = VI (sumI (xs.take i)) ∧ ρ' 212 = VI xs.length ∧ ρ' 213 = VI i) (fun i => xs.length - i) 0 ⟨Nat.zero_le _, rfl, fun _ _ => rfl, h21, h212, h213⟩ ?_
  rintro i ρ' H' ⟨hi, rfl, hk, g21, g212, g213⟩
  have g12 := (hk 12 (by decide)).trans h12
  by_cases hin : (i : Int) < (xs.length : Int)
  · obtain ⟨x, hxi⟩ : ∃ x, xs[i]? = some x := ⟨_, List.getElem?_eq_getElem (by omega)⟩
    obtain ⟨p, p1, p2⟩ := hv.get hxi
    have wi : IntKind.i64.wrap ((i : Int) + 1) = ((i + 1 : Nat) : Int) := wrapN (i + 1) (by omega) (by omega)
    have hsb := sumI_bound (k := 1000000000) hx (i + 1)
    rw [sumI_take hxi] at hsb
    have w1 : IntKind.i64.wrap (sumI (xs.take i) + x) = sumI (xs.take i) + x := wrap64 (by omega) (by omega)
    simp only [laws_FnPaths_b3, g12, g21, g212, g213, hin, p1, p2, w1, wi, VX, Nat.reduceEqDiff, Nat.reduceAdd]
    refine ⟨i + 1, by omega, by omega, fun t ht => ?_, ?_, rfl⟩
    · try simp only [vput_app]
      repeat rw [if_neg (by omega)]
      exact hk t ht
    · rw [sumI_take hxi]
  · have hie : i = xs.length := by omega
    subst hie
    rw [List.take_length] at g21
    simp only [laws_FnPaths_b3, g212, g213, hin, VX, Nat.reduceEqDiff, Nat.reduceAdd]
    refine hQ _ (fun t ht => ?_) ?_
    · try simp only [vput_app]
      repeat rw [if_neg (by omega)]
      exact hk t ht
    · simp only [g21, VX, Nat.reduceEqDiff, Nat.reduceAdd]
end Go.PM

/- The statement on MeanWait, walked. -/
namespace Go.PM
theorem tc_call {f lo : Nat} {args args' : List VV} {r : VV} {H : VHeap} {K : VV → VHeap → Prop} (h : TC f args' r) (hraw : raws.contains f = false) (ha' : pureL args' = true) (hf : args.mapM (fz depth H) = some args') (hr : flatV r = true) (hk : K r H) : vcallP f args lo H K := by
  rw [h.flat hraw ha' hf hr]
  exact hk
end Go.PM

/- The statement on limits, walked. -/
namespace Go.PM
theorem laws_b10Long_v (a b : List Nat) : TC 4 [bytV a, bytV b] (.sc (.bool (decide (1048576 < (a.length : Int) ∨ 1048576 < (b.length : Int))))) := by
  refine TC.walk ⟨true, false⟩ laws_b10Long_t rfl (Nat.le_of_ble_eq_true rfl) (by simp only [pureL, byt_pure]; rfl) rfl ?_
  by_cases h1 : (1048576 : Int) < (a.length : Int)
  · simp only [laws_b10Long, laws_b10Long_c, h1, true_or, VX, Nat.reduceEqDiff, Nat.reduceAdd]
    exact fz_res rfl
  · by_cases h2 : (1048576 : Int) < (b.length : Int)
    · simp only [laws_b10Long, laws_b10Long_c, h1, h2, or_true, VX, Nat.reduceEqDiff, Nat.reduceAdd]
      exact fz_res rfl
    · simp only [laws_b10Long, laws_b10Long_c, h1, h2, or_self, VX, Nat.reduceEqDiff, Nat.reduceAdd]
      exact fz_res rfl
end Go.PM

/- The statement on paths. -/
namespace Go.PM
set_option maxRecDepth 100000 in
set_option maxHeartbeats 2000000 in
theorem laws_FnPaths_v (code more : List Nat) (hx : ∀ x ∈ code, x < 256) (hy : ∀ x ∈ more, x < 256) : TC 3 [bytV code, bytV more] (.sc (.bool true)) := by
  refine TC.walk ⟨true, false⟩ laws_FnPaths_t rfl (Nat.le_of_ble_eq_true rfl) (by simp only [pureL, byt_pure]; rfl) rfl ?_
  have eLong := laws_b10Long_v code more
  by_cases hlong : 1048576 < (code.length : Int) ∨ 1048576 < (more.length : Int)
  · simp only [laws_FnPaths, laws_FnPaths_c, eLong, hlong, VX, Nat.reduceEqDiff, Nat.reduceAdd]
    exact fz_res rfl
  have hcode : bytOk code := ⟨hx, by omega⟩
  have hmore : bytOk more := ⟨hy, by omega⟩
  have eA0 : TC 6 [bytV more, VI 0, VI 4] (VI (b10v more 0 4)) := laws_b10At_v more 0 4 hmore (by decide) (by decide)
  have eA1 : TC 6 [bytV more, VI 1, VI 3] (VI (b10v more 1 3)) := laws_b10At_v more 1 3 hmore (by decide) (by decide)
  have b0 := b10v_lt (code := more) (i := 0) (n := 4) (by decide)
  have b1 := b10v_lt (code := more) (i := 1) (n := 3) (by decide)
  simp only [laws_FnPaths, laws_FnPaths_c, eLong, hlong, VX, Nat.reduceEqDiff, Nat.reduceAdd]
  refine vcall_raw rfl ((spec_B10Customers_v hcode (Nat.zero_le _)).mono ?_)
  rintro r H1 ⟨cs, xb, K, hD, rfl, hH1⟩
  have hc := hD.ok
  have hfew := hD.few
  have hL1 : vrow H1 1 cs.length = some (cs.map cV, 3, true) := by rw [hH1]; simp only [List.nil_append, vrow_succ, vrow_zero]
  clear hH1
  generalize b10v more 0 4 = s0 at *
  generalize b10v more 1 3 = s1 at *
  obtain ⟨rule, hrule⟩ : ∃ rule : Int, rule = (s0 : Int) := ⟨_, rfl⟩
  obtain ⟨srv, hsrv⟩ : ∃ srv : Int, srv = 1 + (s1 : Int) := ⟨_, rfl⟩
  have w1 : IntKind.i64.wrap (1 + (s1 : Int)) = srv := by rw [← hsrv]; exact wrap64 (by omega) (by omega)
  rw [← hrule] at eA0
  have hr : 0 ≤ rule ∧ rule ≤ 3 := ⟨by omega, by omega⟩
  have hs1 : 1 ≤ srv := by omega
  have hst : stOk rule srv cs := ⟨hr, ⟨by omega, by omega⟩, hc⟩
  have hfz : ∀ H, H1 <+: H → fz depth H (.ref 1 cs.length 0 cs.length cs.length) = some (custsV cs) := fun H hh => fz_live (e := 3) (fun _ => rfl) (vrow_pre hh hL1) (Nat.le_refl _)
  simp only [eA0, eA1, w1, List.length_nil, VX, Nat.reduceEqDiff, Nat.reduceAdd]
  refine lr_call (impl_StartsOf_v rule srv cs (by omega)) rfl (fz3 (fz_res rfl) (fz_res rfl) (hfz _ (List.prefix_refl _))) fun v2 H2 p2 l2 => ?_
  simp only [VX, Nat.reduceEqDiff, Nat.reduceAdd]
  refine lr_call (impl_LeavesOf_v rule srv cs (by omega)) rfl (fz3 (fz_res rfl) (fz_res rfl) (hfz _ p2)) fun v3 H3 p3 l3 => ?_
  simp only [VX, Nat.reduceEqDiff, Nat.reduceAdd]
  refine lr_call (impl_WaitsOf_v rule srv cs (by omega)) rfl (fz3 (fz_res rfl) (fz_res rfl) (hfz _ (p2.trans p3))) fun v4 H4 p4 l4 => ?_
  have pp := (p2.trans p3).trans p4
  have l2 := l2.pre (p3.trans p4)
  have l3 := l3.pre p4
  have hL4 := vrow_pre pp hL1
  have e2 : stV rule srv cs = stL rule srv cs := if_pos hst
  have e3 : mvV (·.w) rule srv cs = mvL (·.w) cs (stL rule srv cs) := if_pos hst
  have e4 : mvV (fun c => 0 - c.t) rule srv cs = mvL (fun c => 0 - c.t) cs (stL rule srv cs) := if_pos hst
  rw [e2] at l2
  rw [e3] at l3
  rw [e4] at l4
  have n2 := l2.len
  have n3 := l3.len
  have n4 := l4.len
  rw [stL_len] at n2
  rw [mvL_len stL_len] at n3 n4
  have n5 := vlen_ref (o := 0) (n := cs.length) (c := cs.length) hL4
  have eAre := fun lo K => TC.flat (impl_AreCustomers_v cs (by omega)) rfl (by simp only [pureL, custsV_pure]; rfl) (fz1 (hfz _ pp)) rfl lo K
  have okc : custsOk cs := hc
  simp only [hst, okc, n2, n3, n4, n5, eAre, eq_self, ne_eq, not_true_eq_false, decide_true, decide_false, VX, Nat.reduceEqDiff, Nat.reduceAdd]
  refine laws_FnPaths_b0_w hc hr hs1 hL4 l2 l3 l4 ?_ ?_ ?_ ?_ ?_ ?_ fun ρ1 k1 => ?_
  all_goals first | (simp only [VX, Nat.reduceEqDiff, Nat.reduceAdd]; done) | skip
  have g5 : ρ1 5 = .ref 1 cs.length 0 cs.length cs.length := by rw [k1 5 (by decide)]; simp only [VX, Nat.reduceEqDiff, Nat.reduceAdd]
  have g6 : ρ1 6 = VI rule := by rw [k1 6 (by decide)]; simp only [VX, Nat.reduceEqDiff, Nat.reduceAdd]
  have g7 : ρ1 7 = VI srv := by rw [k1 7 (by decide)]; simp only [VX, Nat.reduceEqDiff, Nat.reduceAdd]
  have g8 : ρ1 8 = v2 := by rw [k1 8 (by decide)]; simp only [VX, Nat.reduceEqDiff, Nat.reduceAdd]
  have g10 : ρ1 10 = v3 := by rw [k1 10 (by decide)]; simp only [VX, Nat.reduceEqDiff, Nat.reduceAdd]
  have g12 : ρ1 12 = v4 := by rw [k1 12 (by decide)]; simp only [VX, Nat.reduceEqDiff, Nat.reduceAdd]
  clear k1
  simp only [VX, Nat.reduceEqDiff, Nat.reduceAdd]
  refine laws_FnPaths_b2_w (rule := rule) (srv := srv) hc hr hs1 hL4 l2 l3 ?_ ?_ ?_ ?_ ?_ fun ρ2 k2 => ?_
  all_goals first | (simp only [g5, g7, g8, g10, VX, Nat.reduceEqDiff, Nat.reduceAdd]; done) | skip
  have q5 : ρ2 5 = .ref 1 cs.length 0 cs.length cs.length := by rw [k2 5 (by decide)]; simp only [g5, VX, Nat.reduceEqDiff, Nat.reduceAdd]
  have q6 : ρ2 6 = VI rule := by rw [k2 6 (by decide)]; simp only [g6, VX, Nat.reduceEqDiff, Nat.reduceAdd]
  have q7 : ρ2 7 = VI srv := by rw [k2 7 (by decide)]; simp only [g7, VX, Nat.reduceEqDiff, Nat.reduceAdd]
  have q12 : ρ2 12 = v4 := by rw [k2 12 (by decide)]; simp only [g12, VX, Nat.reduceEqDiff, Nat.reduceAdd]
  clear k2
  have pa : pureL [VI rule, VI srv, custsV cs] = true := by simp only [pureL, custsV_pure]; rfl
  have hz : ((0 : Nat) : Int) = 0 := rfl
  by_cases hne : cs = []
  · have hmw : mwV rule srv cs = .tup [strV [], VB false] := if_neg fun h => h.2 hne
    have hm := impl_MeanWait_v rule srv cs (by omega)
    rw [hmw] at hm
    have hn0 : cs.length = 0 := by rw [hne]; rfl
    simp only [q5, q6, q7, VX, Nat.reduceEqDiff, Nat.reduceAdd]
    refine tc_call hm rfl pa (fz3 (fz_res rfl) (fz_res rfl) (hfz _ pp)) rfl ?_
    have n6 : ¬ (0 : Int) < (cs.length : Int) := by omega
    simp only [q5, n5, n6, eqb_self, decide_false, VX, Nat.reduceEqDiff, Nat.reduceAdd]
    exact fz_res rfl
  · have hn0 : cs.length ≠ 0 := fun h => hne (List.length_eq_zero_iff.1 h)
    have hsum := sum24 (rule := rule) (srv := srv) hc
    have hmk := makeQ_ok (t := sumI (wtsV rule srv cs)) (b := (cs.length : Int)) (by omega) (by omega) (by omega)
    have hmw : mwV rule srv cs = .tup [strV (showQ (fracQ (sumI (wtsV rule srv cs)) cs.length)), VB true] := (if_pos ⟨hst, hne⟩).trans hmk
    have hm := impl_MeanWait_v rule srv cs (by omega)
    rw [hmw] at hm
    have hf := spec_MakeFraction_v (sumI (wtsV rule srv cs)) (cs.length : Int) (by omega) (by omega) (by omega) (by omega)
    rw [hmk] at hf
    simp only [q5, q6, q7, VX, Nat.reduceEqDiff, Nat.reduceAdd]
    refine tc_call hm rfl pa (fz3 (fz_res rfl) (fz_res rfl) (hfz _ pp)) rfl ?_
    have n6 : (0 : Int) < (cs.length : Int) := by omega
    simp only [q5, q12, n4, n5, n6, eqb_self, decide_true, VX, Nat.reduceEqDiff, Nat.reduceAdd]
    refine laws_FnPaths_b3_w (xs := wtsV rule srv cs) (wtsV_mem hc) (by rw [wtsV_len]; omega) l4 ?_ ?_ ?_ ?_ fun ρ3 k3 q21 => ?_
    all_goals first | (simp only [q12, wtsV_len, VX, Nat.reduceEqDiff, Nat.reduceAdd]; done) | skip
    have u5 : ρ3 5 = .ref 1 cs.length 0 cs.length cs.length := by rw [k3 5 (by decide)]; simp only [q5, VX, Nat.reduceEqDiff, Nat.reduceAdd]
    have u19 : ρ3 19 = strV (showQ (fracQ (sumI (wtsV rule srv cs)) cs.length)) := by rw [k3 19 (by decide)]; simp only [VX, Nat.reduceEqDiff, Nat.reduceAdd]
    clear k3
    generalize showQ (fracQ (sumI (wtsV rule srv cs)) (cs.length : Int)) = txt at *
    simp only [u5, u19, q21, n5, hf, str_eql, decide_true, VX, Nat.reduceEqDiff, Nat.reduceAdd]
    exact fz_res rfl
end Go.PM

/- The library's tables, out of what a row lists. -/
namespace Go.PM
open Go.Proofs
theorem laidVars_find {P : Program} {w : World} {name : String} {d : DataW Unit} : ∀ {l : List (String × DataW Unit)} {ps : List MemPlace}, DataW.LaidVars P w l ps → (name, d) ∈ l →
    ∃ g t cs fuel p, P.globalNamed name = some g ∧ (P.globals[g]?).map (·.type) = some t ∧ w.var? P name = some cs ∧ DataW.trod (fun _ => ()) P w 0 (fun _ => true) false fuel t cs.toList = some (d, p)
  | [], _, _, hm => by cases hm
  | (n, e) :: r, ps, h, hm => by
    obtain ⟨g, t, cs, fuel, p, q, h1, h2, h3, h4, h5, _⟩ := h
    rcases List.mem_cons.1 hm with he | hm
    · cases he
      exact ⟨g, t, cs, fuel, p, h1, h2, h3, h4⟩
    · exact laidVars_find h5 hm
theorem globIn_of_laid {W : World} {l : List (String × DataW Unit)} (hl : laidMetH Tryd.prog l W) (hp : (l.all fun x => x.2.handleName?.isNone) = true) (hm : ("internal/strconv.uint64pow10", Lib.tabData .u64 Lib.pow10Tab) ∈ l)
    {t e : TypeId} {n : Nat} (hty : (Tryd.prog.globals[0]?).map (·.type) = some t) (ht : Tryd.prog.underlying t = some (.array n e)) (he : Tryd.prog.underlying e = some (.int .u64)) (hce : Tryd.prog.cellsOf e = 1) (hct : Tryd.prog.cellsOf t = n) : GlobIn W := by
  rw [MakeChecks.laidMetH_plain _ _ _ hp] at hl
  obtain ⟨ps, h1, _⟩ := hl
  obtain ⟨g', t', cs, fuel, p, hg', ht', hvar, hd⟩ := laidVars_find h1 hm
  have hg : Tryd.prog.globalNamed "internal/strconv.uint64pow10" = some 0 := by kernel_rfl
  obtain rfl := Option.some.inj (hg.symm.trans hg')
  obtain rfl := Option.some.inj (hty.symm.trans ht')
  have hcs := Lib.cells_of_tab ht he hce hct hd
  intro x hx
  have hx' : x = (0, (Lib.pow10Tab.map fun z => Value.int .u64 z).toArray) := by simpa [gtab] using hx
  subst hx'
  unfold World.var? at hvar
  rw [hg, Option.bind_some] at hvar
  split at hvar
  · rename_i cs' e' fz' hh
    cases hvar
    refine ⟨e', fz', ?_⟩
    rw [← hcs]
    simpa using hh
  · cases hvar
end Go.PM
