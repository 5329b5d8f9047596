/- Texts of a claim, in one: part 12. -/
import Derived.Test.YtkoiolkkceknhaaK07k

/- The statement on WithPatience, walked. -/
set_option linter.unusedSimpArgs false
set_option linter.unusedVariables false
namespace Go.PM

set_option maxHeartbeats 1000000 in
theorem laws_FnExactWithPatience_v (xs0 : List Cust) (xs1 : List Int) (hn0 : xs0.length ≤ 140737488355328) (hn1 : xs1.length ≤ 140737488355328) : TC 10 [custsV xs0, numsV xs1] (.sc (.bool true)) := by
  refine TC.walk ⟨true, false⟩ laws_FnExactWithPatience_t rfl (Nat.le_of_ble_eq_true rfl) (by simp [pureL, nums_pure, custsV_pure]) rfl ?_
  have w1 : IntKind.i64.wrap (1000000 - (xs1.length : Int)) = 1000000 - (xs1.length : Int) := wrap64 (by omega) (by omega)
  have hsz := laws_szCustomerS_v xs0 (1000000 - (xs1.length : Int)) hn0 (by omega)
  by_cases big : 1000000 - (xs1.length : Int) < (xs0.length : Int)
  · rw [if_pos big] at hsz
    simp only [laws_FnExactWithPatience, laws_FnExactWithPatience_c, w1, hsz, Int.reduceNeg, Int.reduceLT, VX, Nat.reduceEqDiff, Nat.reduceAdd]
    exact fz_res rfl
  rw [if_neg big] at hsz
  have hb : ¬ (1000000 - (xs1.length : Int) - (xs0.length : Int)) < 0 := by omega
  have hm0 : xs0.length ≤ 1000000 := by omega
  have hm1 : xs1.length ≤ 1000000 := by omega
  simp only [laws_FnExactWithPatience, laws_FnExactWithPatience_c, w1, hsz, hb, VX, Nat.reduceEqDiff, Nat.reduceAdd]
  have t0 := fun b => laws_toCustomerS_v xs0 b (by omega)
  have t1 := fun b => laws_toInt64S_v xs1 b (by omega)
  -- the reference
  refine to_any (t0 false) rfl cV_len (fun _ => rfl) fun r1 H1 p1 s1 => ?_
  simp only [VX, Nat.reduceEqDiff, Nat.reduceAdd]
  refine to_any (t1 false) rfl nV_len (fun _ => rfl) fun r2 H2 p2 s2 => ?_
  simp only [VX, Nat.reduceEqDiff, Nat.reduceAdd]
  refine lr_call (spec_WithPatience_v xs0 xs1 (by omega) (by omega)) rfl (fz2 (s1.pre p2).now s2.now) fun w H3 p3 lw => ?_
  simp only [VX, Nat.reduceEqDiff, Nat.reduceAdd]
  -- the program
  refine to_row (t0 false) rfl cV_len (fun _ => rfl) fun b4 H4 p4 l4 r4 => ?_
  simp only [VX, Nat.reduceEqDiff, Nat.reduceAdd]
  refine to_row (t1 false) rfl nV_len (fun _ => rfl) fun b5 H5 p5 l5 r5 => ?_
  simp only [VX, Nat.reduceEqDiff, Nat.reduceAdd]
  refine lr_call (impl_WithPatience_v xs0 xs1 (by omega) (by omega)) rfl (fz2 (fz_filled (fun _ => rfl) (vrow_pre p5 r4)) (fz_filled (fun _ => rfl) r5)) fun g H6 p6 lg => ?_
  have hvl := ptV_len xs0 xs1
  have lw6 := lw.pre (p4.trans (p5.trans p6))
  simp only [eq_nums lg lw6 (by omega), eqb_self, VX, Nat.reduceEqDiff, Nat.reduceAdd]
  -- nothing was changed
  have r4' := vrow_pre p6 (vrow_pre p5 r4)
  have r5' := vrow_pre p6 r5
  refine to_row (t0 false) rfl cV_len (fun _ => rfl) fun b7 H7 p7 l7 r7 => ?_
  simp only [VX, Nat.reduceEqDiff, Nat.reduceAdd]
  refine laws_intactCustomerS_v xs0 (by omega) (vrow_pre p7 r4') r7 ?_
  simp only [VX, Nat.reduceEqDiff, Nat.reduceAdd]
  refine to_row (t1 false) rfl nV_len (fun _ => rfl) fun b8 H8 p8 l8 r8 => ?_
  simp only [VX, Nat.reduceEqDiff, Nat.reduceAdd]
  refine laws_intactInt64S_v xs1 (by omega) (vrow_pre (p7.trans p8) r5') r8 ?_
  simp only [VX, Nat.reduceEqDiff, Nat.reduceAdd]
  -- marks on what was handed over
  have b4l := vrow_lt r4
  have b5l := vrow_lt r5
  have le5 := p5.length_le
  refine mark_custs (vrow_pre (p7.trans p8) r4') (Nat.zero_le _) (by omega) (by omega) fun x9 => ?_
  simp only [VX, Nat.reduceEqDiff, Nat.reduceAdd]
  refine mark_nums (vrow_set_ne (by omega) (vrow_pre (p7.trans p8) r5')) (Nat.zero_le _) (by omega) (by omega) fun x10 => ?_
  have lg10 := ((lg.pre (p7.trans p8)).set (x := x9) (b' := b4) (by omega)).set (x := x10) (b' := b5) (by omega)
  have lw10 := ((lw6.pre (p7.trans p8)).set (x := x9) (b' := b4) (by omega)).set (x := x10) (b' := b5) (by omega)
  have k10 : ¬ (101 + 3 * (xs0.length : Int) + (xs1.length : Int)) < 0 := by omega
  simp only [k10, eq_nums lg10 lw10 (by omega), eqb_self, VX, Nat.reduceEqDiff, Nat.reduceAdd]
  -- marks on what came back
  refine mark_LV lg10 (Nat.zero_le _) (by omega) (by omega) fun H11 q11 lg11 old11 => ?_
  have k11 : ¬ (101 + ((ptV xs0 xs1).length : Int)) < 0 := by omega
  simp only [held_nums lg11 (by omega) (by omega), k11, VX, Nat.reduceEqDiff, Nat.reduceAdd]
  -- once more, with bare lists
  have lw11 := lw10.keep fun b g x _ h2 => old11 b g x (by have := p4.length_le; omega)
  refine to_any (t0 true) rfl cV_len (fun _ => rfl) fun r12 H12 p12 s12 => ?_
  simp only [VX, Nat.reduceEqDiff, Nat.reduceAdd]
  refine to_any (t1 true) rfl nV_len (fun _ => rfl) fun r13 H13 p13 s13 => ?_
  simp only [VX, Nat.reduceEqDiff, Nat.reduceAdd]
  refine lr_call (impl_WithPatience_v xs0 xs1 (by omega) (by omega)) rfl (fz2 (s12.pre p13).now s13.now) fun h H14 p14 lh => ?_
  have p1114 := p12.trans (p13.trans p14)
  simp only [eq_nums lh (lw11.pre p1114) (by omega), held_nums (lg11.pre p1114) (by omega) (by omega), eqb_self, k11, VX, Nat.reduceEqDiff, Nat.reduceAdd]
  exact fz_res rfl
end Go.PM
