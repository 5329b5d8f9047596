/- Texts of a claim, in one: part 16. -/
import Derived.Test.YthoncidphopjjaaKWo

/- The statement on WithRoom, walked. -/
set_option linter.unusedSimpArgs false
set_option linter.unusedVariables false
namespace Go.PM

set_option maxRecDepth 100000 in
set_option maxHeartbeats 2000000 in
theorem laws_FnExactWithRoom_v (t0 : Int) (t1 : Int) (xs2 : List Cust) (hn2 : xs2.length ≤ 140737488355328) : TC 3 [VI t0, VI t1, custsV xs2] (.sc (.bool true)) := by
  refine TC.walk ⟨true, false⟩ laws_FnExactWithRoom_t rfl (Nat.le_of_ble_eq_true rfl) (by simp only [pureL, nums_pure, custsV_pure]; rfl) rfl ?_
  have hsz2 := laws_szCustomerS_v xs2 (1000000) hn2 (by omega)
  by_cases big2 : 1000000 < (xs2.length : Int)
  · rw [if_pos big2] at hsz2
    simp only [laws_FnExactWithRoom, laws_FnExactWithRoom_c, hsz2, Int.reduceNeg, Int.reduceLT, VX, Nat.reduceEqDiff, Nat.reduceAdd]
    exact fz_res rfl
  rw [if_neg big2] at hsz2
  have hb2 : ¬ (1000000 - (xs2.length : Int)) < 0 := by omega
  have hm2 : xs2.length ≤ 1000000 := by omega
  obtain ⟨hvA, hvB⟩ := rmAB_len t0 t1 xs2
  simp only [laws_FnExactWithRoom, laws_FnExactWithRoom_c, hsz2, hb2, VX, Nat.reduceEqDiff, Nat.reduceAdd]
  have t2' := fun b => laws_toCustomerS_v xs2 b (by omega)
  refine to_any (t2' false) rfl cV_len (fun _ => rfl) fun r1 H1 p1 s1 => ?_
  simp only [VX, Nat.reduceEqDiff, Nat.reduceAdd]
  refine lr2_call (spec_WithRoom_v t0 t1 xs2 (by omega)) rfl (fz3 (fz_res rfl) (fz_res rfl) (s1.pre (List.prefix_refl _)).now) fun v2 w2 H2 p2 l2 m2 d2 => ?_
  simp only [VX, Nat.reduceEqDiff, Nat.reduceAdd]
  refine to_row (t2' false) rfl cV_len (fun _ => rfl) fun b3 H3 p3 lo3 r3 => ?_
  simp only [VX, Nat.reduceEqDiff, Nat.reduceAdd]
  refine lr2_call (impl_WithRoom_v t0 t1 xs2 (by omega)) rfl (fz3 (fz_res rfl) (fz_res rfl) (fz_filled (fun _ => rfl) (vrow_pre (List.prefix_refl _) r3))) fun v4 w4 H4 p4 l4 m4 d4 => ?_
  have lw4 := l2.pre (p3.trans p4)
  have mw4 := m2.pre (p3.trans p4)
  simp only [eq_nums l4 lw4 (by omega), eq_nums m4 mw4 (by omega), eqb_self, VX, Nat.reduceEqDiff, Nat.reduceAdd]
  have q2 := vrow_pre p4 r3
  refine to_row (t2' false) rfl cV_len (fun _ => rfl) fun b5 H5 p5 lo5 r5 => ?_
  simp only [VX, Nat.reduceEqDiff, Nat.reduceAdd]
  refine laws_intactCustomerS_v xs2 (by omega) (vrow_pre p5 q2) r5 ?_
  simp only [VX, Nat.reduceEqDiff, Nat.reduceAdd]
  have bl3 := vrow_lt r3
  have le1 := p1.length_le
  have le2 := p2.length_le
  have le3 := p3.length_le
  have le4 := p4.length_le
  refine mark_custs (vrow_pre p5 q2) (Nat.zero_le _) (by omega) (by omega) fun x2 => ?_
  have lg6 := ((l4.pre p5).set (x := x2) (b' := b3) (by omega))
  have mg6 := ((m4.pre p5).set (x := x2) (b' := b3) (by omega))
  have lw6 := ((lw4.pre p5).set (x := x2) (b' := b3) (by omega))
  have mw6 := ((mw4.pre p5).set (x := x2) (b' := b3) (by omega))
  have k6 : ¬ (101 + 3 * (xs2.length : Int)) < 0 := by omega
  simp only [k6, eq_nums lg6 lw6 (by omega), eq_nums mg6 mw6 (by omega), eqb_self, VX, Nat.reduceEqDiff, Nat.reduceAdd]
  refine mark_LV2 lg6 (Nat.zero_le _) (by omega) (by omega) fun H7 q7 lg7 old7 => ?_
  have mg7 := mg6.keepD d4 old7
  have lw7 := lw6.keepR lg6 (by omega) old7
  have mw7 := mw6.keepR lg6 (by omega) old7
  simp only [VX, Nat.reduceEqDiff, Nat.reduceAdd]
  refine mark_LV2 mg7 (Nat.zero_le _) (by omega) (by omega) fun H8 q8 mg8 old8 => ?_
  have lg8 := lg7.keepD d4.symm old8
  have lw8 := lw7.keepR mg7 (by omega) old8
  have mw8 := mw7.keepR mg7 (by omega) old8
  have k7 : ¬ (101 + ((rmA t0 t1 xs2).length : Int)) < 0 := by omega
  have k8 : ¬ (101 + ((rmA t0 t1 xs2).length : Int) + ((rmB t0 t1 xs2).length : Int)) < 0 := by omega
  simp only [held_nums lg8 (by omega) (by omega), held_nums mg8 (by omega) (by omega), k7, k8, VX, Nat.reduceEqDiff, Nat.reduceAdd]
  refine to_any (t2' true) rfl cV_len (fun _ => rfl) fun r9 H9 p9 s9 => ?_
  simp only [VX, Nat.reduceEqDiff, Nat.reduceAdd]
  refine lr2_call (impl_WithRoom_v t0 t1 xs2 (by omega)) rfl (fz3 (fz_res rfl) (fz_res rfl) (s9.pre (List.prefix_refl _)).now) fun v10 w10 H10 p10 l10 m10 d10 => ?_
  have pp := (p9.trans p10)
  simp only [eq_nums l10 (lw8.pre pp) (by omega), eq_nums m10 (mw8.pre pp) (by omega), held_nums (lg8.pre pp) (by omega) (by omega), held_nums (mg8.pre pp) (by omega) (by omega), eqb_self, k7, k8, VX, Nat.reduceEqDiff, Nat.reduceAdd]
  exact fz_res rfl
end Go.PM
