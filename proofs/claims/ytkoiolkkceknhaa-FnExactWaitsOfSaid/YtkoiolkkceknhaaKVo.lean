/- Texts of a claim, in one: part 15. -/
import Derived.Test.YtkoiolkkceknhaaKVn

/- The statement on WaitsOf, walked. -/
set_option linter.unusedSimpArgs false
set_option linter.unusedVariables false
namespace Go.PM

set_option maxHeartbeats 2000000 in
theorem laws_FnExactWaitsOf_v (t0 : Int) (t1 : Int) (xs2 : List Cust) (hn2 : xs2.length ≤ 140737488355328) : TC 14 [VI t0, VI t1, custsV xs2] (.sc (.bool true)) := by
  refine TC.walk ⟨true, false⟩ laws_FnExactWaitsOf_t rfl (Nat.le_of_ble_eq_true rfl) (by simp only [pureL, nums_pure, custsV_pure]; rfl) rfl ?_
  have hsz2 := laws_szCustomerS_v xs2 (1000000) hn2 (by omega)
  by_cases big2 : 1000000 < (xs2.length : Int)
  · rw [if_pos big2] at hsz2
    simp only [laws_FnExactWaitsOf, laws_FnExactWaitsOf_c, hsz2, Int.reduceNeg, Int.reduceLT, VX, Nat.reduceEqDiff, Nat.reduceAdd]
    exact fz_res rfl
  rw [if_neg big2] at hsz2
  have hb2 : ¬ (1000000 - (xs2.length : Int)) < 0 := by omega
  have hm2 : xs2.length ≤ 1000000 := by omega
  simp only [laws_FnExactWaitsOf, laws_FnExactWaitsOf_c, hsz2, hb2, VX, Nat.reduceEqDiff, Nat.reduceAdd]
  have t2' := fun b => laws_toCustomerS_v xs2 b (by omega)
  refine to_any (t2' false) rfl cV_len (fun _ => rfl) fun r1 H1 p1 s1 => ?_
  simp only [VX, Nat.reduceEqDiff, Nat.reduceAdd]
  refine lr_call (spec_WaitsOf_v t0 t1 xs2 (by omega)) rfl (fz3 (fz_res rfl) (fz_res rfl) (s1.pre (List.prefix_refl _)).now) fun v2 H2 p2 l2 => ?_
  simp only [VX, Nat.reduceEqDiff, Nat.reduceAdd]
  refine to_row (t2' false) rfl cV_len (fun _ => rfl) fun b3 H3 p3 lo3 r3 => ?_
  simp only [VX, Nat.reduceEqDiff, Nat.reduceAdd]
  refine lr_call (impl_WaitsOf_v t0 t1 xs2 (by omega)) rfl (fz3 (fz_res rfl) (fz_res rfl) (fz_filled (fun _ => rfl) (vrow_pre (List.prefix_refl _) r3))) fun v4 H4 p4 l4 => ?_
  have hvl := mvV_len (fun c => 0 - c.t) t0 t1 xs2
  have lw4 := l2.pre (p3.trans p4)
  simp only [eq_nums l4 lw4 (by omega), eqb_self, VX, Nat.reduceEqDiff, Nat.reduceAdd]
  have q2 := vrow_pre p4 r3
  refine to_row (t2' false) rfl cV_len (fun _ => rfl) fun b5 H5 p5 lo5 r5 => ?_
  simp only [VX, Nat.reduceEqDiff, Nat.reduceAdd]
  refine laws_intactCustomerS_v xs2 (by omega) (vrow_pre p5 q2) r5 ?_
  simp only [VX, Nat.reduceEqDiff, Nat.reduceAdd]
  have bl3 := vrow_lt r3
  have le1 := p1.length_le
  have le2 := p2.length_le
  have le3 := p3.length_le
  have le4 := p4.length_le
  refine mark_custs (vrow_pre p5 q2) (Nat.zero_le _) (by omega) (by omega) fun x2 => ?_
  have lg6 := ((l4.pre p5).set (x := x2) (b' := b3) (by omega))
  have lw6 := ((lw4.pre p5).set (x := x2) (b' := b3) (by omega))
  have k6 : ¬ (101 + 3 * (xs2.length : Int)) < 0 := by omega
  simp only [k6, eq_nums lg6 lw6 (by omega), eqb_self, VX, Nat.reduceEqDiff, Nat.reduceAdd]
  refine mark_LV lg6 (Nat.zero_le _) (by omega) (by omega) fun H7 q7 lg7 old7 => ?_
  have k7 : ¬ (101 + ((mvV (fun c => 0 - c.t) t0 t1 xs2).length : Int)) < 0 := by omega
  simp only [held_nums lg7 (by omega) (by omega), k7, VX, Nat.reduceEqDiff, Nat.reduceAdd]
  have lw7 := lw6.keep fun b g x _ h2 => old7 b g x (by omega)
  refine to_any (t2' true) rfl cV_len (fun _ => rfl) fun r8 H8 p8 s8 => ?_
  simp only [VX, Nat.reduceEqDiff, Nat.reduceAdd]
  refine lr_call (impl_WaitsOf_v t0 t1 xs2 (by omega)) rfl (fz3 (fz_res rfl) (fz_res rfl) (s8.pre (List.prefix_refl _)).now) fun v9 H9 p9 l9 => ?_
  have pp := (p8.trans p9)
  simp only [eq_nums l9 (lw7.pre pp) (by omega), held_nums (lg7.pre pp) (by omega) (by omega), eqb_self, k7, VX, Nat.reduceEqDiff, Nat.reduceAdd]
  exact fz_res rfl
end Go.PM
