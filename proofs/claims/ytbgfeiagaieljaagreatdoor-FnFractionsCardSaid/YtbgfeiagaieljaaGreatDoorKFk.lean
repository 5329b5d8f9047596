/- Texts of a claim, in one: part 11. -/
import Derived.Test.YtbgfeiagaieljaaGreatDoorKFj
/- The reference's fractions: lowest terms, sums, products, quotients, comparisons. -/
set_option linter.unusedSimpArgs false
set_option linter.unusedVariables false
namespace Go.PM
theorem lenT_pos {n : Nat} : (0 : Int) < ((digs 1000000000 n).length : Int) ↔ n ≠ 0 := by
  constructor
  · intro h h0
    subst h0
    rw [digs_zero] at h
    simp at h
  · intro h
    have := (digs_nil (b := 1000000000) (by decide) (n := n))
    have h2 : digs 1000000000 n ≠ [] := fun hx => h (this.1 hx)
    have := List.length_pos_iff.2 h2
    omega
theorem capT {n : Nat} (h : bl n ≤ 4398046511104) : (digs 1000000000 n).length < 17592186044416 := by
  have := len_T n
  omega
theorem spec_l01Gcd_v (a b : Nat) (ha : (digs 1000000000 a).length < 17592186044416) (hb : (digs 1000000000 b).length < 17592186044416) : TC 136 [natT a, natT b] (natT (Nat.gcd a b)) := by
  refine TC.walk ⟨true, false⟩ spec_l01Gcd_t rfl (Nat.le_of_ble_eq_true rfl) (by simp [pureL, natT_pure]) (natT_res _) ?_
  simp only [spec_l01Gcd, spec_l01Gcd_c, VX, Nat.reduceEqDiff, Nat.reduceAdd]
  refine VW_loop (fun (t : Nat × Nat) ρ H => H = [] ∧ Nat.gcd t.1 t.2 = Nat.gcd a b ∧ (digs 1000000000 t.1).length < 17592186044416 ∧ (digs 1000000000 t.2).length < 17592186044416 ∧ ρ 0 = natT t.1 ∧ ρ 1 = natT t.2) (fun t => t.2) (a, b) ⟨rfl, rfl, ha, hb, rfl, rfl⟩ ?_
  rintro ⟨x, y⟩ ρ H ⟨rfl, hg, hx, hy, g0, g1⟩
  simp only at hg hx hy g0 g1
  by_cases hy0 : y = 0
  · subst hy0
    have hl : ¬ (0 : Int) < ((digs 1000000000 0).length : Int) := by rw [lenT_pos]; omega
    rw [Nat.gcd_zero_right] at hg
    simp only [spec_l01Gcd_b0, g0, g1, len_natT, hl, VX, Nat.reduceEqDiff, Nat.reduceAdd]
    rw [hg]
    exact fz_res (natT_pure _)
  · have hl : (0 : Int) < ((digs 1000000000 y).length : Int) := lenT_pos.2 hy0
    have c3 := spec_l01NatDiv_v x y hy0 hx hy
    have hm := Nat.mod_lt x (show 0 < y by omega)
    simp only [spec_l01Gcd_b0, g0, g1, len_natT, hl, c3, VX, Nat.reduceEqDiff, Nat.reduceAdd]
    refine ⟨(y, x % y), hm, ?_, hy, ?_, rfl, rfl⟩
    · simp only
      rw [← hg, Nat.gcd_comm x y, Nat.gcd_rec y x, Nat.gcd_comm]
    · simp only
      have := digs_len_mono (b := 1000000000) (by decide) (Nat.le_of_lt hm)
      omega
def ratT (q : Rat) : VV := .agg [VB (decide (q.num < 0)), natT q.num.natAbs, natT q.den]
theorem ratT_pure (q : Rat) : pureV (ratT q) = true := by simp [ratT, pureV, pureL, natT_pure, isSc]
theorem ratT_res (q : Rat) : resV (ratT q) = true := by simp [ratT, resV, resL, natT_res, isSc]
theorem ratT_of {q : Rat} {neg : Bool} {t b : Nat} (h0 : q.num < 0 ↔ neg = true) (h1 : q.num.natAbs = t) (h2 : q.den = b) : ratT q = .agg [VB neg, natT t, natT b] := by
  subst h1 h2
  unfold ratT
  congr 4
  cases neg <;> simp_all
theorem vscal_natT (n : Nat) : vscal (natT n) = true := rfl
theorem isAny_natT (n : Nat) : isAny (natT n) = false := rfl
theorem vcells_natT (n : Nat) : vcells (natT n) = [natT n] := rfl
theorem isAny_ratT (q : Rat) : isAny (ratT q) = false := rfl
theorem vcells_ratT (q : Rat) : vcells (ratT q) = [VB (decide (q.num < 0)), natT q.num.natAbs, natT q.den] := rfl
theorem rd_ratT (q : Rat) : rdCells true 3 (ratT q) 0 = some (ratT q) := rfl
theorem rd_ratT0 (q : Rat) : rdCells false 1 (ratT q) 0 = some (VB (decide (q.num < 0))) := rfl
theorem rd_ratT1 (q : Rat) : rdCells false 1 (ratT q) 1 = some (natT q.num.natAbs) := rfl
theorem rd_ratT2 (q : Rat) : rdCells false 1 (ratT q) 2 = some (natT q.den) := rfl
theorem fz_partsT {H : VHeap} {neg : Bool} {t b : Nat} : fz depth H (.agg [VB neg, natT t, natT b]) = some (.agg [VB neg, natT t, natT b]) := fz_res (by simp [pureV, pureL, natT_pure, isSc])
theorem fz_ratT {H : VHeap} (q : Rat) : fz depth H (ratT q) = some (ratT q) := fz_res (ratT_pure q)
theorem ratT_int (n : Int) : ratT (n : Rat) = .agg [VB (decide (n < 0)), natT n.natAbs, natT 1] := ratT_of (by simp) (by simp) (by simp)
theorem cmp_one {n lo : Nat} {H : VHeap} {K : VV → VHeap → Prop} (h : (digs 1000000000 n).length ≤ 17592186044416) : vcallP 104 [natT n, .tree [VI 1] (.cl 1)] lo H K = K (VI (cmpI n 1)) H := by
  have c := spec_l01Cmp_v n 1 h (by rw [digs_single (by decide) (by decide) (by decide)]; simp)
  have e : natT 1 = .tree [VI 1] .op := by rw [natT, digs_single (by decide) (by decide) (by decide)]; rfl
  rw [e] at c
  exact TC.args c rfl (by simp only [pureL, natT_pure]; rfl) (fz2 (fz_res (natT_pure n)) (fz_cl rfl)) (by simp only [List.flatMap_cons, List.flatMap_nil, fzIds_pure (natT_pure n), fzIds_cl (es := [VI 1]) rfl, List.append_nil]) lo K
theorem litT_cl {d : Int} {H : VHeap} : vlit false [.int .i64 0] 1 [(0, VI d)] H = some (.tree [VI d] (.cl 1), H) := litT_one
theorem vscal_cl {e : Nat} {es : List VV} : vscal (.tree es (.cl e)) = true := rfl
theorem vcells_tr {k : TK} {es : List VV} : vcells (.tree es k) = [.tree es k] := rfl
theorem isAny_tr {k : TK} {es : List VV} : isAny (.tree es k) = false := rfl
theorem fz_one {d : Nat} {H : VHeap} : fz (d + 2) H (.tree [VI 1] (.cl 1)) = some (natT 1) := by
  rw [natT_one]
  unfold fz
  have : pureV (.tree [VI 1] (.cl 1)) = false := by simp [pureV]
  simp only [this, Bool.false_eq_true, if_false]
  rfl
theorem spec_l01Make_v (neg : Bool) (t b : Nat) (hb : b ≠ 0) (ht : bl t ≤ 4398046511104) (hbl : bl b ≤ 4398046511104) : TC 97 [VB neg, natT t, natT b] (ratT (mkRat (sgn neg t) b)) := by
  refine TC.walk ⟨true, false⟩ spec_l01Make_t rfl (Nat.le_of_ble_eq_true rfl) (by simp [pureL, natT_pure, pureV, isSc]) (ratT_res _) ?_
  have hg0 : Nat.gcd t b ≠ 0 := Nat.gcd_ne_zero_right hb
  have hgl : bl (Nat.gcd t b) ≤ 4398046511104 := Nat.le_trans (bl_mono (Nat.gcd_le_right t (by omega))) hbl
  have c1 := spec_l01Gcd_v t b (capT ht) (capT hbl)
  have c2 := spec_l01NatDiv_v t _ hg0 (capT ht) (capT hgl)
  have c3 := spec_l01NatDiv_v b _ hg0 (capT hbl) (capT hgl)
  have c4 : ∀ lo H K, _ := fun lo H K => cmp_one (n := Nat.gcd t b) (lo := lo) (H := H) (K := K) (Nat.le_of_lt (capT hgl))
  have hres : ratT (mkRat (sgn neg t) b) = .agg [VB (neg && decide (t / Nat.gcd t b ≠ 0)), natT (t / Nat.gcd t b), natT (b / Nat.gcd t b)] := by
    refine ratT_of ?_ (by rw [mk_num hb, sgn_abs]) (mk_den hb)
    rw [mk_num hb, sgn_neg, Bool.and_eq_true, decide_eq_true_eq]
  rw [hres]
  by_cases h1 : cmpI (Nat.gcd t b) 1 = 0
  · have hg1 := cmpI_zero.1 h1
    have e1 : t / Nat.gcd t b = t := by rw [hg1, Nat.div_one]
    have e2 : b / Nat.gcd t b = b := by rw [hg1, Nat.div_one]
    rw [e1, e2]
    cases neg with
    | false =>
      simp only [spec_l01Make, spec_l01Make_c, c1, c4, h1, litT_cl, vscal_natT, isAny_natT, vcells_natT, yA6, yA1, yA5, vlen_rdef, yA2, vchk_pdef, yA3, visnil_nil, yA4, vrow_zero, vrow_succ, List.set_cons_zero, List.set_cons_succ, elemOf_one, elemOf_two, vresult, vresAll, vres1, vfill, isAny_sc, isAny_tree, isAny_ref, isAny_agg, isAny_clo, List.take_zero, List.take_succ_cons, List.take_nil, List.drop_zero, List.drop_succ_cons, List.drop_nil, List.append_nil, Nat.reduceLeDiff, Nat.le_refl, vsplice, Nat.reduceLT, Int.toNat_natCast, eq_self, ge_iff_le, Bool.and_eq_true, Nat.reduceSub, VX, Nat.reduceEqDiff, Nat.reduceAdd]
      exact fz_partsT
    | true =>
      by_cases h0 : t = 0
      · have hl : ¬ (0 : Int) < ((digs 1000000000 t).length : Int) := by rw [lenT_pos]; omega
        simp only [spec_l01Make, spec_l01Make_c, c1, c4, h1, hl, len_natT, litT_cl, vscal_natT, isAny_natT, vcells_natT, yA6, yA1, yA5, vlen_rdef, yA2, vchk_pdef, yA3, visnil_nil, yA4, vrow_zero, vrow_succ, List.set_cons_zero, List.set_cons_succ, elemOf_one, elemOf_two, vresult, vresAll, vres1, vfill, isAny_sc, isAny_tree, isAny_ref, isAny_agg, isAny_clo, List.take_zero, List.take_succ_cons, List.take_nil, List.drop_zero, List.drop_succ_cons, List.drop_nil, List.append_nil, Nat.reduceLeDiff, Nat.le_refl, vsplice, Nat.reduceLT, Int.toNat_natCast, eq_self, ge_iff_le, Bool.and_eq_true, Nat.reduceSub, VX, Nat.reduceEqDiff, Nat.reduceAdd]
        rw [h0]
        exact fz_partsT
      · have hl : (0 : Int) < ((digs 1000000000 t).length : Int) := lenT_pos.2 h0
        simp only [spec_l01Make, spec_l01Make_c, c1, c4, h1, hl, len_natT, litT_cl, vscal_natT, isAny_natT, vcells_natT, yA6, yA1, yA5, vlen_rdef, yA2, vchk_pdef, yA3, visnil_nil, yA4, vrow_zero, vrow_succ, List.set_cons_zero, List.set_cons_succ, elemOf_one, elemOf_two, vresult, vresAll, vres1, vfill, isAny_sc, isAny_tree, isAny_ref, isAny_agg, isAny_clo, List.take_zero, List.take_succ_cons, List.take_nil, List.drop_zero, List.drop_succ_cons, List.drop_nil, List.append_nil, Nat.reduceLeDiff, Nat.le_refl, vsplice, Nat.reduceLT, Int.toNat_natCast, eq_self, ge_iff_le, Bool.and_eq_true, Nat.reduceSub, VX, Nat.reduceEqDiff, Nat.reduceAdd]
        rw [decide_eq_true h0]
        exact fz_partsT
  · cases neg with
    | false =>
      simp only [spec_l01Make, spec_l01Make_c, c1, c2, c3, c4, h1, litT_cl, vscal_natT, isAny_natT, vcells_natT, yA6, yA1, yA5, vlen_rdef, yA2, vchk_pdef, yA3, visnil_nil, yA4, vrow_zero, vrow_succ, List.set_cons_zero, List.set_cons_succ, elemOf_one, elemOf_two, vresult, vresAll, vres1, vfill, isAny_sc, isAny_tree, isAny_ref, isAny_agg, isAny_clo, List.take_zero, List.take_succ_cons, List.take_nil, List.drop_zero, List.drop_succ_cons, List.drop_nil, List.append_nil, Nat.reduceLeDiff, Nat.le_refl, vsplice, Nat.reduceLT, Int.toNat_natCast, eq_self, ge_iff_le, Bool.and_eq_true, Nat.reduceSub, VX, Nat.reduceEqDiff, Nat.reduceAdd]
      exact fz_partsT
    | true =>
      generalize t / Nat.gcd t b = t' at *
      by_cases h0 : t' = 0
      · have hl : ¬ (0 : Int) < ((digs 1000000000 t').length : Int) := by rw [lenT_pos]; omega
        simp only [spec_l01Make, spec_l01Make_c, c1, c2, c3, c4, h1, hl, len_natT, litT_cl, vscal_natT, isAny_natT, vcells_natT, yA6, yA1, yA5, vlen_rdef, yA2, vchk_pdef, yA3, visnil_nil, yA4, vrow_zero, vrow_succ, List.set_cons_zero, List.set_cons_succ, elemOf_one, elemOf_two, vresult, vresAll, vres1, vfill, isAny_sc, isAny_tree, isAny_ref, isAny_agg, isAny_clo, List.take_zero, List.take_succ_cons, List.take_nil, List.drop_zero, List.drop_succ_cons, List.drop_nil, List.append_nil, Nat.reduceLeDiff, Nat.le_refl, vsplice, Nat.reduceLT, Int.toNat_natCast, eq_self, ge_iff_le, Bool.and_eq_true, Nat.reduceSub, VX, Nat.reduceEqDiff, Nat.reduceAdd]
        rw [h0]
        exact fz_partsT
      · have hl : (0 : Int) < ((digs 1000000000 t').length : Int) := lenT_pos.2 h0
        simp only [spec_l01Make, spec_l01Make_c, c1, c2, c3, c4, h1, hl, len_natT, litT_cl, vscal_natT, isAny_natT, vcells_natT, yA6, yA1, yA5, vlen_rdef, yA2, vchk_pdef, yA3, visnil_nil, yA4, vrow_zero, vrow_succ, List.set_cons_zero, List.set_cons_succ, elemOf_one, elemOf_two, vresult, vresAll, vres1, vfill, isAny_sc, isAny_tree, isAny_ref, isAny_agg, isAny_clo, List.take_zero, List.take_succ_cons, List.take_nil, List.drop_zero, List.drop_succ_cons, List.drop_nil, List.append_nil, Nat.reduceLeDiff, Nat.le_refl, vsplice, Nat.reduceLT, Int.toNat_natCast, eq_self, ge_iff_le, Bool.and_eq_true, Nat.reduceSub, VX, Nat.reduceEqDiff, Nat.reduceAdd]
        rw [decide_eq_true h0]
        exact fz_partsT
theorem spec_l01Int_v (n : Int) (h0 : -9223372036854775808 < n) (h1 : n ≤ 9223372036854775807) : TC 54 [VI n] (ratT (n : Rat)) := by
  refine TC.walk ⟨true, false⟩ spec_l01Int_t rfl (Nat.le_of_ble_eq_true rfl) rfl (ratT_res _) ?_
  rw [ratT_int]
  by_cases h : n < 0
  · have w : IntKind.i64.wrap (0 - n) = (n.natAbs : Int) := wrapN _ (by omega) (by omega)
    have c1 : TC 108 [VI (n.natAbs : Int)] (natT n.natAbs) := spec_l01Nat_v (n.natAbs : Int) (by omega)
    rw [decide_eq_true h]
    simp only [spec_l01Int, spec_l01Int_c, h, w, c1, litT_cl, vscal_natT, isAny_natT, vcells_natT, vscal_cl, vcells_tr, isAny_tr, yA6, yA1, yA5, vlen_rdef, yA2, vchk_pdef, yA3, visnil_nil, yA4, vrow_zero, vrow_succ, List.set_cons_zero, List.set_cons_succ, elemOf_one, elemOf_two, vresult, vresAll, vres1, vfill, isAny_sc, isAny_tree, isAny_ref, isAny_agg, isAny_clo, List.take_zero, List.take_succ_cons, List.take_nil, List.drop_zero, List.drop_succ_cons, List.drop_nil, List.append_nil, Nat.reduceLeDiff, Nat.le_refl, vsplice, Nat.reduceLT, Int.toNat_natCast, eq_self, ge_iff_le, Bool.and_eq_true, Nat.reduceSub, VX, Nat.reduceEqDiff, Nat.reduceAdd]
    exact fz_agg3 (d := 6) (fz_sc rfl) (fz_pure (natT_pure _)) (fz_one (d := 5))
  · have c1 : TC 108 [VI n] (natT n.natAbs) := by
      have := spec_l01Nat_v n h1
      rwa [show n.toNat = n.natAbs by omega] at this
    rw [decide_eq_false h]
    simp only [spec_l01Int, spec_l01Int_c, h, c1, litT_cl, vscal_natT, isAny_natT, vcells_natT, vscal_cl, vcells_tr, isAny_tr, yA6, yA1, yA5, vlen_rdef, yA2, vchk_pdef, yA3, visnil_nil, yA4, vrow_zero, vrow_succ, List.set_cons_zero, List.set_cons_succ, elemOf_one, elemOf_two, vresult, vresAll, vres1, vfill, isAny_sc, isAny_tree, isAny_ref, isAny_agg, isAny_clo, List.take_zero, List.take_succ_cons, List.take_nil, List.drop_zero, List.drop_succ_cons, List.drop_nil, List.append_nil, Nat.reduceLeDiff, Nat.le_refl, vsplice, Nat.reduceLT, Int.toNat_natCast, eq_self, ge_iff_le, Bool.and_eq_true, Nat.reduceSub, VX, Nat.reduceEqDiff, Nat.reduceAdd]
    exact fz_agg3 (d := 6) (fz_sc rfl) (fz_pure (natT_pure _)) (fz_one (d := 5))
theorem sgn_two (a b : Int) : sgn (decide (a < 0) != decide (b < 0)) (a.natAbs * b.natAbs) = a * b := by
  rcases Int.lt_trichotomy a 0 with h1 | h1 | h1 <;> rcases Int.lt_trichotomy b 0 with h2 | h2 | h2
  · rw [decide_eq_true h1, decide_eq_true h2]
    simp only [sgn, bne_self_eq_false, Bool.false_eq_true, if_false, Int.natCast_mul]
    rw [show (a.natAbs : Int) = -a by omega, show (b.natAbs : Int) = -b by omega, Int.neg_mul_neg]
  · subst h2; simp [sgn_zero]
  · rw [decide_eq_true h1, decide_eq_false (show ¬ b < 0 by omega)]
    simp only [sgn, Bool.true_bne, Bool.not_false, if_true, Int.natCast_mul]
    rw [show (a.natAbs : Int) = -a by omega, show (b.natAbs : Int) = b by omega, Int.neg_mul, Int.neg_neg]
  · subst h1; simp [sgn_zero]
  · subst h1; simp [sgn_zero]
  · subst h1; simp [sgn_zero]
  · rw [decide_eq_false (show ¬ a < 0 by omega), decide_eq_true h2]
    simp only [sgn, Bool.false_bne, if_true, Int.natCast_mul]
    rw [show (a.natAbs : Int) = a by omega, show (b.natAbs : Int) = -b by omega, Int.mul_neg, Int.neg_neg]
  · subst h2; simp [sgn_zero]
  · rw [decide_eq_false (show ¬ a < 0 by omega), decide_eq_false (show ¬ b < 0 by omega)]
    simp only [sgn, bne_self_eq_false, Bool.false_eq_true, if_false, Int.natCast_mul]
    rw [show (a.natAbs : Int) = a by omega, show (b.natAbs : Int) = b by omega]
theorem over_parts {a b : Rat} (hb : b ≠ 0) : mkRat (sgn (decide (a.num < 0) != decide (b.num < 0)) (a.num.natAbs * b.den)) (a.den * b.num.natAbs) = a / b := by
  have hn : b.num ≠ 0 := fun h => hb (Rat.num_eq_zero.1 h)
  have i1 : b⁻¹.num = b.num.sign * b.den := Rat.num_inv b
  have i2 : b⁻¹.den = b.num.natAbs := by rw [Rat.den_inv, if_neg hn]
  have hd : (0 : Int) < b.den := by have := b.den_nz; omega
  have i3 : b⁻¹.num.natAbs = b.den := by
    rw [i1, Int.natAbs_mul, Int.natAbs_natCast]
    rcases Int.lt_or_gt_of_ne hn with h1 | h1
    · rw [Int.sign_eq_neg_one_of_neg h1]; simp
    · rw [Int.sign_eq_one_of_pos h1]; simp
  have i4 : decide (b⁻¹.num < 0) = decide (b.num < 0) := by
    rw [i1]
    rcases Int.lt_or_gt_of_ne hn with h1 | h1
    · rw [Int.sign_eq_neg_one_of_neg h1, decide_eq_true h1]; simp; omega
    · rw [Int.sign_eq_one_of_pos h1, decide_eq_false (show ¬ b.num < 0 by omega)]; simp
  rw [Rat.div_def, Rat.mul_def', ← sgn_two, i2, i3, i4]
theorem spec_l01Over_v (a b : Rat) (hb : b ≠ 0) (hka : rbits a ≤ 1099511627776) (hkb : rbits b ≤ 1099511627776) : TC 55 [ratT a, ratT b] (ratT (a / b)) := by
  refine TC.walk ⟨true, false⟩ spec_l01Over_t rfl (Nat.le_of_ble_eq_true rfl) (by simp [pureL, ratT_pure]) (ratT_res _) ?_
  have hn : b.num ≠ 0 := fun h => hb (Rat.num_eq_zero.1 h)
  have la := num_bl hka
  have lb := num_bl hkb
  have lda := den_bl hka
  have ldb := den_bl hkb
  have k1 := bl_mul a.num.natAbs b.den
  have k3 := bl_mul a.den b.num.natAbs
  have m1 := spec_l01NatMul_v a.num.natAbs b.den (Nat.le_of_lt (capT (by omega))) (Nat.le_of_lt (capT (by omega)))
  have m3 := spec_l01NatMul_v a.den b.num.natAbs (Nat.le_of_lt (capT (by omega))) (Nat.le_of_lt (capT (by omega)))
  have c1 := spec_l01Make_v (decide (a.num < 0) != decide (b.num < 0)) (a.num.natAbs * b.den) (a.den * b.num.natAbs) (Nat.mul_ne_zero a.den_nz (by omega)) (by omega) (by omega)
  rw [over_parts hb] at c1
  simp only [spec_l01Over, spec_l01Over_c, m1, m3, c1, eqb_bT, vcells_ratT, rd_ratT, rd_ratT0, rd_ratT1, rd_ratT2, isAny_ratT, vscal_natT, isAny_natT, vcells_natT, yA6, yA1, yA5, vlen_rdef, yA2, vchk_pdef, yA3, visnil_nil, yA4, vrow_zero, vrow_succ, List.set_cons_zero, List.set_cons_succ, elemOf_one, elemOf_two, vresult, vresAll, vres1, vfill, isAny_sc, isAny_tree, isAny_ref, isAny_agg, isAny_clo, List.take_zero, List.take_succ_cons, List.take_nil, List.drop_zero, List.drop_succ_cons, List.drop_nil, List.append_nil, Nat.reduceLeDiff, Nat.le_refl, vsplice, Nat.reduceLT, Int.toNat_natCast, eq_self, ge_iff_le, Bool.and_eq_true, Nat.reduceSub, VX, Nat.reduceEqDiff, Nat.reduceAdd]
  exact fz_ratT _
end Go.PM
/- The reference's fractions: their texts. -/
namespace Go.PM
open Go.Lib
abbrev bV (b : UInt8) : VV := .sc (.int .u8 (b.toNat : Int))
theorem vbytes_map : ∀ bs : List UInt8, vbytes (bs.map bV) = some bs
  | [] => rfl
  | b :: bs => by
    rw [List.map_cons]
    show (vbytes (bs.map bV)).map (UInt8.ofNat ((b.toNat : Int)).toNat :: ·) = _
    rw [vbytes_map bs]
    simp
structure OutB (v : VV) (H : VHeap) (bs : List UInt8) : Prop where
  len : vlen v H = some (VI bs.length)
  src : vsource 1 v H = some (bs.map bV)
  nsc : ∀ x, v ≠ .sc x
theorem OutB.str {v : VV} {H : VHeap} {bs : List UInt8} (h : OutB v H bs) {fl : Fl} {lo : Nat} {x : Operand} {ρ : VEnv} (hx : vev ρ x = v) : vop fl lo (.b2s x) ρ H = some (strV bs, H) := by
  have h1 := h.nsc
  have h2 := h.src
  unfold vop
  dsimp only
  rw [hx]
  cases v with
  | sc x => exact absurd rfl (h1 x)
  | _ => simp only [h2, vbytes_map, Option.map_some]
theorem srcB_tree {bs : List UInt8} {k : TK} {H : VHeap} : vsource 1 (.tree (bs.map bV) k) H = some (bs.map bV) := by
  have : ((bs.map bV).all fun x => (vcells x).length == 1 && (vcells x).all vscal) = true := by
    rw [List.all_eq_true]
    intro x hx
    obtain ⟨d, _, rfl⟩ := List.mem_map.1 hx
    rfl
  simp only [vsource, this, if_true]
theorem OutB.tree {bs : List UInt8} {k : TK} {H : VHeap} : OutB (.tree (bs.map bV) k) H bs := ⟨vlen_map, srcB_tree, fun x => by simp⟩
theorem OutB.row {bs : List UInt8} {H : VHeap} {b g : Nat} {w : Bool} (h : vrow H b g = some (bs.map bV, 1, w)) : OutB (.ref b g 0 bs.length bs.length) H bs := by
  refine ⟨vlen_ref h, ?_, fun x => by simp⟩
  have hall : (((bs.map bV).drop 0).take bs.length).all (fun x => (vcells x).all vscal) = true := by
    rw [List.all_eq_true]
    intro x hx
    obtain ⟨d, _, rfl⟩ := List.mem_map.1 (List.mem_of_mem_drop (List.mem_of_mem_take hx))
    rfl
  simp only [vsource, h]
  rw [if_pos ⟨trivial, by simp, hall⟩, List.drop_zero, List.take_of_length_le (by simp)]
theorem OutB.cons {v : VV} {H : VHeap} {bs : List UInt8} (h : OutB v H bs) (x : UInt8) (hl : bs.length ≤ 1000000) (lo : Nat) : ∃ v' H', vappend lo 1 1 (.tree [bV x] (.cl 1)) (bs.map bV) H = some (v', H') ∧ OutB v' H' (x :: bs) := by
  by_cases hb : bs = []
  · subst hb
    exact ⟨_, _, rfl, OutB.tree (bs := [x])⟩
  · have hne : bs.length ≠ 0 := fun h => hb (List.length_eq_zero_iff.1 h)
    refine ⟨.ref H.length 0 0 (x :: bs).length (x :: bs).length, H ++ [.row 0 ((x :: bs).map bV) 1 true], ?_, OutB.row (vrow_top rfl)⟩
    simp only [vappend, List.length_map]
    rw [if_pos ⟨by decide, by decide⟩, if_pos trivial, if_neg hne, if_pos (by simp; omega)]
    simp [Nat.add_comm]
theorem rem10 (r : Int) : pbin .rem (.int .i64 r) (.int .i64 10) = some (.int .i64 (r.tmod 10)) := rfl
theorem quo10 (r : Int) (h0 : -9223372036854775808 ≤ r) (h1 : r ≤ 9223372036854775807) : pbin .quo (.int .i64 r) (.int .i64 10) = some (.int .i64 (r.tdiv 10)) := by
  show some (Value.int .i64 (IntKind.i64.wrap (r.tdiv 10))) = _
  have h2 : (r.tdiv 10).natAbs = r.natAbs / 10 := by rw [Int.natAbs_tdiv]; rfl
  rw [wrap64 (by omega) (by omega)]
theorem d10_toNat {d : Nat} (h : d < 10) : (d10 d).toNat = 48 + d := by
  unfold d10
  simp
  omega
theorem head_step {n r : Nat} {bs : List UInt8} (h : decDigits n = decDigits r ++ bs) : decDigits n = head10 (r / 10) ++ d10 (r % 10) :: bs := by
  rw [h]
  by_cases hr : r < 10
  · rw [dec_small hr, head10, if_pos (by omega), Nat.mod_eq_of_lt hr]; rfl
  · rw [dec_big hr, head10, if_neg (by omega), List.append_assoc]; rfl
theorem spec_l01Dec_v (n : Int) (h0 : -9223372036854775808 ≤ n) (h1 : n ≤ 9223372036854775807) : TC 83 [VI n] (strV ((if n < 0 then [45] else []) ++ decDigits n.natAbs)) := by
  refine TC.walk ⟨true, false⟩ spec_l01Dec_t rfl (Nat.le_of_ble_eq_true rfl) rfl rfl ?_
  have e0 : ∀ lr, vlit lr [.int .u8 0] 0 [] [] = some (.ref 0 0 0 0 0, [.row 0 (([] : List UInt8).map bV) 1 true]) := fun lr => vlit_nil (H := []) rfl
  have e1 : ∀ (x : UInt8) (H : VHeap), vlit false [.int .u8 0] 1 [(0, bV x)] H = some (.tree [bV x] (.cl 1), H) := fun x H => vlit_one rfl rfl rfl
  have hdl := dec_len_le n.natAbs 19 (by omega)
  simp only [spec_l01Dec, spec_l01Dec_c, e0, VX, Nat.reduceEqDiff, Nat.reduceAdd]
  refine VW_loop (fun (s : Int × List UInt8) ρ H => -9223372036854775808 ≤ s.1 ∧ s.1 ≤ 9223372036854775807 ∧ (s.2 = [] → s.1 = n) ∧ (s.2 ≠ [] → decDigits n.natAbs = head10 s.1.natAbs ++ s.2) ∧ OutB (ρ 3) H s.2 ∧ ρ 0 = VI n ∧ ρ 4 = VI s.1) (fun s => s.1.natAbs + (if s.2 = [] then 1 else 0)) (n, []) ⟨h0, h1, fun _ => rfl, fun h => absurd rfl h, by simp only [VX, Nat.reduceEqDiff, Nat.reduceAdd]; exact OutB.row (bs := []) vrow_zero, rfl, rfl⟩ ?_
  rintro ⟨r, bs⟩ ρ H ⟨hr0, hr1, hn, hd, ho, g0, g4⟩
  simp only at hr0 hr1 hn hd ho g4
  generalize hv3 : ρ 3 = v3 at ho
  have hlen := ho.len
  have hsrc := ho.src
  by_cases hend : bs ≠ [] ∧ r = 0
  · obtain ⟨hb, hr⟩ := hend
    subst hr
    have hl : ¬ (bs.length : Int) = 0 := by have := List.length_pos_iff.2 hb; omega
    have hdd := hd hb
    simp only [head10, Int.natAbs_zero, if_true, List.nil_append] at hdd
    by_cases hneg : n < 0
    · obtain ⟨v', H', ap, ho'⟩ := ho.cons 45 (by rw [← hdd]; omega) 0
      have e1' : vlit false [.int .u8 0] 1 [(0, .sc (.int .u8 45))] H = some (.tree [bV 45] (.cl 1), H) := e1 45 H
      have bs2 := fun ρ' (h : vev ρ' (.tmp 34) = v') => ho'.str (fl := ⟨true, false⟩) (lo := 0) h
      simp only [spec_l01Dec_b0, g0, g4, hv3, hlen, hl, VX, Nat.reduceEqDiff, Nat.reduceAdd]
      simp only [g0, hneg, hv3, e1', hsrc, ap, vst_b2s, VX, Nat.reduceEqDiff, Nat.reduceAdd]
      rw [bs2 _ (by rfl)]
      simp only [VX, Nat.reduceEqDiff, Nat.reduceAdd]
      rw [hdd]
      exact fz_res rfl
    · have bs2 := fun ρ' (h : vev ρ' (.tmp 34) = v3) => ho.str (fl := ⟨true, false⟩) (lo := 0) h
      simp only [spec_l01Dec_b0, g0, g4, hv3, hlen, hl, VX, Nat.reduceEqDiff, Nat.reduceAdd]
      simp only [g0, hneg, hv3, vst_b2s, VX, Nat.reduceEqDiff, Nat.reduceAdd]
      rw [bs2 _ (by simp only [VX, Nat.reduceEqDiff, Nat.reduceAdd]; try exact hv3)]
      simp only [VX, Nat.reduceEqDiff, Nat.reduceAdd]
      rw [hdd]
      exact fz_res rfl
  · have hm : r.tmod 10 = if r < 0 then -((r.natAbs % 10 : Nat) : Int) else ((r.natAbs % 10 : Nat) : Int) := by
      have := Int.tmod_eq_emod_of_nonneg (a := r) (b := 10)
      by_cases h : r < 0
      · rw [if_pos h]
        have h2 := Int.neg_tmod (-r) 10
        rw [Int.neg_neg] at h2
        rw [h2, Int.tmod_eq_emod_of_nonneg (by omega)]
        omega
      · rw [if_neg h, this (by omega)]
        omega
    have hq : (r.tdiv 10).natAbs = r.natAbs / 10 := by rw [Int.natAbs_tdiv]; rfl
    have hmd := Nat.mod_lt r.natAbs (show 0 < 10 by decide)
    have q1 := quo10 r hr0 hr1
    have hbl : bs.length ≤ 19 := by
      by_cases hb : bs = []
      · subst hb; simp
      · have h2 := hd hb
        have h3 := congrArg List.length h2
        rw [List.length_append] at h3
        have h4 : r ≠ 0 := fun h => hend ⟨hb, h⟩
        have h5 := List.length_pos_iff.2 (dec_ne r.natAbs)
        rw [head10, if_neg (by omega)] at h3
        omega
    obtain ⟨v', H', ap, ho'⟩ := ho.cons (d10 (r.natAbs % 10)) (by omega) 0
    have w2 : IntKind.i64.wrap (48 + ((r.natAbs % 10 : Nat) : Int)) = ((48 + r.natAbs % 10 : Nat) : Int) := wrapN _ (by omega) (by omega)
    have w3 : IntKind.u8.wrap ((48 + r.natAbs % 10 : Nat) : Int) = ((48 + r.natAbs % 10 : Nat) : Int) := by
      simp [IntKind.wrap, IntKind.bits, IntKind.signed]
      omega
    have hx : VV.sc (.int .u8 ((48 + r.natAbs % 10 : Nat) : Int)) = bV (d10 (r.natAbs % 10)) := by rw [bV, d10_toNat hmd]
    have e1' := e1 (d10 (r.natAbs % 10)) H
    rw [← hx] at e1' ap
    have next : ∃ s' : Int × List UInt8, s'.1.natAbs + (if s'.2 = [] then 1 else 0) < r.natAbs + (if bs = [] then 1 else 0) ∧ -9223372036854775808 ≤ s'.1 ∧ s'.1 ≤ 9223372036854775807 ∧ (s'.2 = [] → s'.1 = n) ∧ (s'.2 ≠ [] → decDigits n.natAbs = head10 s'.1.natAbs ++ s'.2) ∧ OutB v' H' s'.2 ∧ r.tdiv 10 = s'.1 := by
      refine ⟨(r.tdiv 10, d10 (r.natAbs % 10) :: bs), ?_, by simp only; omega, by simp only; omega, fun h => (by simp at h), fun _ => ?_, ho', rfl⟩
      · simp only [hq, List.cons_ne_nil, if_false]
        by_cases hb : bs = []
        · rw [if_pos hb]; omega
        · have h4 : r ≠ 0 := fun h => hend ⟨hb, h⟩
          rw [if_neg hb]; omega
      · simp only [hq]
        by_cases hb : bs = []
        · subst hb
          refine head_step ?_
          rw [hn rfl, List.append_nil]
        · have h4 : r ≠ 0 := fun h => hend ⟨hb, h⟩
          have h2 := hd hb
          rw [head10, if_neg (by omega)] at h2
          exact head_step h2
    by_cases hrn : r.tmod 10 < 0
    · have w1 : IntKind.i64.wrap (0 - r.tmod 10) = ((r.natAbs % 10 : Nat) : Int) := by
        have : r.tmod 10 = -((r.natAbs % 10 : Nat) : Int) := by
          by_cases h : r < 0
          · rw [if_pos h] at hm; exact hm
          · rw [if_neg h] at hm; omega
        rw [this]
        exact wrapN _ (by omega) (by omega)
      by_cases hb : bs = []
      · have hl : (bs.length : Int) = 0 := by rw [hb]; rfl
        simp only [spec_l01Dec_b0, g0, g4, hv3, hlen, hl, rem10, q1, hrn, w1, w2, w3, e1', hsrc, ap, VX, Nat.reduceEqDiff, Nat.reduceAdd]
        obtain ⟨s', n1, n2, n3, n4, n5, n6, n7⟩ := next
        exact ⟨s', n1, n2, n3, n4, n5, n6, by rw [n7]⟩
      · have hl : ¬ (bs.length : Int) = 0 := by have := List.length_pos_iff.2 hb; omega
        have hr : ¬ r = 0 := fun h => hend ⟨hb, h⟩
        simp only [spec_l01Dec_b0, g0, g4, hv3, hlen, hl, hr, rem10, q1, hrn, w1, w2, w3, e1', hsrc, ap, VX, Nat.reduceEqDiff, Nat.reduceAdd]
        obtain ⟨s', n1, n2, n3, n4, n5, n6, n7⟩ := next
        exact ⟨s', n1, n2, n3, n4, n5, n6, by rw [n7]⟩
    · have hmm : r.tmod 10 = ((r.natAbs % 10 : Nat) : Int) := by
        rw [hm] at hrn ⊢
        split
        · rename_i h; rw [if_pos h] at hrn; omega
        · rfl
      have hrn' : ¬ ((r.natAbs % 10 : Nat) : Int) < 0 := by omega
      by_cases hb : bs = []
      · have hl : (bs.length : Int) = 0 := by rw [hb]; rfl
        simp only [spec_l01Dec_b0, g0, g4, hv3, hlen, hl, rem10, hmm, q1, hrn', w2, w3, e1', hsrc, ap, VX, Nat.reduceEqDiff, Nat.reduceAdd]
        obtain ⟨s', n1, n2, n3, n4, n5, n6, n7⟩ := next
        exact ⟨s', n1, n2, n3, n4, n5, n6, by rw [n7]⟩
      · have hl : ¬ (bs.length : Int) = 0 := by have := List.length_pos_iff.2 hb; omega
        have hr : ¬ r = 0 := fun h => hend ⟨hb, h⟩
        simp only [spec_l01Dec_b0, g0, g4, hv3, hlen, hl, hr, rem10, hmm, q1, hrn', w2, w3, e1', hsrc, ap, VX, Nat.reduceEqDiff, Nat.reduceAdd]
        obtain ⟨s', n1, n2, n3, n4, n5, n6, n7⟩ := next
        exact ⟨s', n1, n2, n3, n4, n5, n6, by rw [n7]⟩
end Go.PM
/- The reference's fractions: numerals, texts, fractions of two integers. -/
namespace Go.PM
open Go.Lib
theorem decT_v (d : Nat) (h : d ≤ 9223372036854775807) : TC 83 [VI (d : Int)] (strV (decDigits d)) := by
  have := spec_l01Dec_v (d : Int) (by omega) (by omega)
  rw [if_neg (by omega), List.nil_append, Int.natAbs_natCast] at this
  exact this
theorem drop_top {n i : Nat} (hi : i + 1 = (digs 1000000000 n).length) : n / 1000000000 ^ i = n / 1000000000 ^ i % 1000000000 := by
  have h1 := digs_drop (b := 1000000000) (by decide) n (i + 1)
  rw [List.drop_of_length_le (by omega)] at h1
  have h2 := (digs_nil (b := 1000000000) (by decide)).1 h1.symm
  rw [div_pow_succ] at h2
  rcases Nat.div_eq_zero_iff.1 h2 with h | h
  · exact absurd h (by decide)
  · exact (Nat.mod_eq_of_lt h).symm
theorem str_extract (l : List UInt8) (a b : Nat) : (⟨l.toArray⟩ : ByteArray).extract a b = ⟨((l.drop a).take (b - a)).toArray⟩ := by
  rw [ByteArray.ext_iff, ByteArray.data_extract]
  simp [List.extract_toArray, List.extract_eq_take_drop]
theorem ssub_from (l : List UInt8) {a : Nat} (h : a ≤ l.length) : vssub (strV l) (some (VI (a : Int))) none = some (strV (l.drop a)) := by
  have hs : (⟨l.toArray⟩ : ByteArray).size = l.length := by simp [ByteArray.size]
  have e2 : (0 : Int) ≤ a ∧ (a : Int) ≤ (l.length : Int) := by omega
  simp only [vssub, vnum, psliceB, hs, pbound, e2, and_self, if_true, Int.toNat_natCast, str_extract]
  rw [List.take_of_length_le (by simp)]
theorem ssub1 (l : List UInt8) (h : 1 ≤ l.length) : vssub (strV l) (some (VI 1)) none = some (strV (l.drop 1)) := ssub_from l h
theorem wrap_addT {a : Nat} (h : a < 1000000000) : IntKind.i64.wrap ((a : Int) + 1000000000) = ((a + 1000000000 : Nat) : Int) := wrapN _ (by omega) (by omega)
theorem spec_l01NatText_v (n : Nat) (hn : bl n ≤ 2199023255552) : TC 147 [natT n] (strV (decDigits n)) := by
  refine TC.walk ⟨true, false⟩ spec_l01NatText_t rfl (Nat.le_of_ble_eq_true rfl) (by simp [pureL, natT_pure]) rfl ?_
  by_cases h0 : n = 0
  · subst h0
    have hl : (((digs 1000000000 0).length : Nat) : Int) = 0 := by rw [digs_zero]; rfl
    simp only [spec_l01NatText, spec_l01NatText_c, len_natT, hl, VX, Nat.reduceEqDiff, Nat.reduceAdd]
    rw [dec_small (by decide)]
    exact fz_res rfl
  have hl : ¬ (((digs 1000000000 n).length : Nat) : Int) = 0 := by have := (lenT_pos (n := n)).2 h0; omega
  obtain ⟨L, hL⟩ : ∃ L, (digs 1000000000 n).length = L + 1 := ⟨(digs 1000000000 n).length - 1, by omega⟩
  have hcap := capT (n := n) (by omega)
  have hlT := len_T n
  have hdl := dec_bits n
  have w1 : IntKind.i64.wrap (((L + 1 : Nat) : Int) - 1) = (L : Int) := wrapN _ (by omega) (by omega)
  have w2 : IntKind.i64.wrap (((L + 1 : Nat) : Int) - 2) = (L : Int) - 1 := by rw [wrap64 (by omega) (by omega)]; omega
  have at' : ∀ i, i ≤ L → viaddr 1 (natT n) (VI (i : Int)) [] = some (.tptr (tV (n / 1000000000 ^ i % 1000000000)) 0) := fun i hi => viaddr_map (f := tV) (t := .op) (H := []) (size := 1) (k := .i64) (digs_get (b := 1000000000) (by decide) (n := n) (i := i) (by omega)) rfl
  have eL := at' L (Nat.le_refl _)
  have htop := drop_top (n := n) (i := L) (by omega)
  rw [← htop] at eL
  have hq0 : n / 1000000000 ^ L ≠ 0 := (digs_at (b := 1000000000) (by decide)).1 (by omega)
  have hqT : n / 1000000000 ^ L < 1000000000 := by rw [htop]; exact Nat.mod_lt _ (by decide)
  have c1 := decT_v (n / 1000000000 ^ L) (by omega)
  rw [hL] at hl
  simp only [spec_l01NatText, spec_l01NatText_c, len_natT, hL, hl, w1, w2, eL, c1, VX, Nat.reduceEqDiff, Nat.reduceAdd]
  refine VW_loop (fun (j : Nat) ρ H => j ≤ L ∧ H = [] ∧ ρ 0 = natT n ∧ ρ 3 = strV (decDigits (n / 1000000000 ^ j)) ∧ ρ 4 = VI ((j : Int) - 1)) (fun j => j) L ⟨Nat.le_refl _, rfl, rfl, rfl, rfl⟩ ?_
  rintro j ρ H ⟨hj, rfl, g0, g3, g4⟩
  by_cases hz : (0 : Int) ≤ (j : Int) - 1
  · obtain ⟨i, rfl⟩ : ∃ i, j = i + 1 := ⟨j - 1, by omega⟩
    have hji : ((i + 1 : Nat) : Int) - 1 = (i : Int) := by omega
    rw [hji] at g4 hz
    have e1 := at' i (by omega)
    have hm := Nat.mod_lt (n / 1000000000 ^ i) (show 0 < 1000000000 by decide)
    have hq1 : n / 1000000000 ^ (i + 1) ≠ 0 := (digs_at (b := 1000000000) (by decide)).1 (by omega)
    have hdm := Nat.mod_add_div (n / 1000000000 ^ i) 1000000000
    rw [← div_pow_succ] at hdm
    have hch := dec_chunk (Nat.pos_of_ne_zero hq1) hm
    have hle : n / 1000000000 ^ i ≤ n := Nat.div_le_self _ _
    have hdi := dec_bits (n / 1000000000 ^ i)
    have hbi := bl_mono hle
    rw [show n / 1000000000 ^ (i + 1) * 1000000000 + n / 1000000000 ^ i % 1000000000 = n / 1000000000 ^ i by omega] at hch
    generalize hAA : n / 1000000000 ^ i = A at *
    generalize n / 1000000000 ^ (i + 1) = B at *
    have w4 : IntKind.i64.wrap ((i : Int) - 1) = (i : Int) - 1 := wrap64 (by omega) (by omega)
    have c2 := decT_v (A % 1000000000 + 1000000000) (by omega)
    rw [dec_one hm] at c2
    have e2 := ssub1 (d10 1 :: padD 9 (A % 1000000000)) (by simp)
    rw [List.drop_succ_cons, List.drop_zero] at e2
    have hlen := congrArg List.length hch
    rw [List.length_append] at hlen
    have a1 := str_add (decDigits B) (padD 9 (A % 1000000000)) (by omega)
    rw [← hch] at a1
    have hji' : i ≤ L := by omega
    have hmu : i < i + 1 := by omega
    have w3 := wrap_addT hm
    simp only [spec_l01NatText_b0, g0, g3, g4, hz, e1, w3, w4, c2, e2, a1, VX, Nat.reduceEqDiff, Nat.reduceAdd]
    refine ⟨i, hmu, hji', ?_⟩
    rw [hAA]
    exact ⟨rfl, rfl⟩
  · have hj0 : j = 0 := by omega
    subst hj0
    rw [Nat.pow_zero, Nat.div_one] at g3
    simp only [spec_l01NatText_b0, g0, g3, g4, hz, VX, Nat.reduceEqDiff, Nat.reduceAdd]
    exact fz_res rfl
theorem spec_l01Show_v (q : Rat) (hk : rbits q ≤ 1099511627776) : TC 126 [ratT q] (strV (showQ q)) := by
  refine TC.walk ⟨true, false⟩ spec_l01Show_t rfl (Nat.le_of_ble_eq_true rfl) (by simp [pureL, ratT_pure]) rfl ?_
  have la := num_bl hk
  have lb := den_bl hk
  have t1 := spec_l01NatText_v q.num.natAbs (by omega)
  have t2 := spec_l01NatText_v q.den (by omega)
  have d1 := dec_bits q.num.natAbs
  have d2 := dec_bits q.den
  have c1 : ∀ lo H K, _ := fun lo H K => cmp_one (n := q.den) (lo := lo) (H := H) (K := K) (Nat.le_of_lt (capT (by omega)))
  have a1 : pbin .add (.string ⟨#[45]⟩) (.string ⟨(decDigits q.num.natAbs).toArray⟩) = some (.string ⟨(45 :: decDigits q.num.natAbs).toArray⟩) := str_add [45] _ (by simp only [List.length_cons, List.length_nil]; omega)
  have a2 : pbin .add (.string ⟨#[47]⟩) (.string ⟨(decDigits q.den).toArray⟩) = some (.string ⟨(47 :: decDigits q.den).toArray⟩) := str_add [47] (decDigits q.den) (by simp only [List.length_cons, List.length_nil]; omega)
  have a3 := str_add (45 :: decDigits q.num.natAbs) (47 :: decDigits q.den) (by simp only [List.length_cons]; omega)
  have a4 := str_add (decDigits q.num.natAbs) (47 :: decDigits q.den) (by simp only [List.length_cons]; omega)
  have hs : showQ q = (if q.num < 0 then (45 :: decDigits q.num.natAbs) else decDigits q.num.natAbs) ++ (if q.den = 1 then [] else 47 :: decDigits q.den) := by
    unfold showQ
    by_cases hn : q.num < 0
    · rw [if_pos hn, if_pos hn]; rfl
    · rw [if_neg hn, if_neg hn]; rfl
  rw [hs]
  by_cases hd : cmpI q.den 1 = 0
  · rw [if_pos (cmpI_zero.1 hd), List.append_nil]
    by_cases hn : q.num < 0
    all_goals
      simp only [spec_l01Show, spec_l01Show_c, t1, t2, a1, a2, a3, a4, c1, hd, hn, litT_cl, vcells_ratT, rd_ratT0, rd_ratT1, rd_ratT2, vscal_natT, yA6, yA1, yA5, vlen_rdef, yA2, vchk_pdef, yA3, visnil_nil, yA4, vrow_zero, vrow_succ, List.set_cons_zero, List.set_cons_succ, elemOf_one, elemOf_two, vresult, vresAll, vres1, vfill, isAny_sc, isAny_tree, isAny_ref, isAny_agg, isAny_clo, List.take_zero, List.take_succ_cons, List.take_nil, List.drop_zero, List.drop_succ_cons, List.drop_nil, List.append_nil, Nat.reduceLeDiff, Nat.le_refl, vsplice, Nat.reduceLT, Int.toNat_natCast, eq_self, ge_iff_le, Bool.and_eq_true, Nat.reduceSub, VX, Nat.reduceEqDiff, Nat.reduceAdd]
      exact fz_res rfl
  · rw [if_neg (mt cmpI_zero.2 hd)]
    by_cases hn : q.num < 0
    all_goals
      simp only [spec_l01Show, spec_l01Show_c, t1, t2, a1, a2, a3, a4, c1, hd, hn, litT_cl, vcells_ratT, rd_ratT0, rd_ratT1, rd_ratT2, vscal_natT, yA6, yA1, yA5, vlen_rdef, yA2, vchk_pdef, yA3, visnil_nil, yA4, vrow_zero, vrow_succ, List.set_cons_zero, List.set_cons_succ, elemOf_one, elemOf_two, vresult, vresAll, vres1, vfill, isAny_sc, isAny_tree, isAny_ref, isAny_agg, isAny_clo, List.take_zero, List.take_succ_cons, List.take_nil, List.drop_zero, List.drop_succ_cons, List.drop_nil, List.append_nil, Nat.reduceLeDiff, Nat.le_refl, vsplice, Nat.reduceLT, Int.toNat_natCast, eq_self, ge_iff_le, Bool.and_eq_true, Nat.reduceSub, VX, Nat.reduceEqDiff, Nat.reduceAdd]
      exact fz_res rfl
end Go.PM
/- The reference's fractions: texts read. -/
namespace Go.PM
open Go.Lib
end Go.PM
/- The reference's fractions: texts of fractions read. -/
namespace Go.PM
open Go.Lib
end Go.PM
/- Draws of fractions from bytes: only how large they are is told. -/
namespace Go.PM
open Go.Lib
def smallQ (q : Rat) : Prop := q.num.natAbs ≤ 10 ^ 56 ∧ q.den ≤ 10 ^ 56
theorem smallQ_mk {n : Int} {d : Nat} (h1 : n.natAbs ≤ 10 ^ 56) (h2 : d ≤ 10 ^ 56) (hd : d ≠ 0) : smallQ (mkRat n d) := by
  have hg : 0 < Nat.gcd n.natAbs d := Nat.gcd_pos_of_pos_right _ (by omega)
  constructor
  · rw [Rat.num_mkRat, if_neg hd, Nat.gcd_comm, Int.natAbs_ediv_of_dvd (Int.ofNat_dvd_left.2 (Nat.gcd_dvd_left _ _))]
    exact Nat.le_trans (Nat.div_le_self _ _) h1
  · rw [mk_den' n hd]
    exact Nat.le_trans (Nat.div_le_self _ _) h2
theorem smallQ_bits {q : Rat} (h : smallQ q) : rbits q ≤ 200 := by
  have e : (10 : Nat) ^ 56 < 2 ^ 200 := by decide +kernel
  exact rbits_of (bl_le (Nat.lt_of_le_of_lt h.1 e)) (bl_le (Nat.lt_of_le_of_lt h.2 e))
theorem spec_pickG_v {lo b : Nat} {H : VHeap} {code : List Nat} {a seed n : Nat} (hc : bytOk code) (hr : vrow H b 0 = some ([srcV code a seed], 3, true)) (hlo : lo ≤ b) (ha : a ≤ 900000000) (hs : seed < 18446744073709551616) (hn : 201 ≤ n ∧ n ≤ 1000000000000) :
    VRaw 86 [.ptr b 0 0 0, VI (n : Int)] lo H fun r H' => ∃ x seed' : Nat, x < n ∧ x ≤ 65535 ∧ seed' < 18446744073709551616 ∧ r = VI x ∧ H' = H.set b (.row 0 [srcV code (a + 2) seed'] 3 true) := by
  refine VRaw.walk ⟨true, false⟩ __spec_l00Src__pick_t (Nat.le_of_ble_eq_true rfl) ?_
  have h1 : ¬ (n : Int) ≤ 1 := by omega
  have h2 : (200 : Int) < (n : Int) := by omega
  simp only [__spec_l00Src__pick, __spec_l00Src__pick_c, h1, VX, Nat.reduceEqDiff, Nat.reduceAdd]
  refine vcall_raw rfl ((spec_next_v hc hr hlo (by omega) hs).mono ?_)
  rintro r H' ⟨x, seed', hx, hs', rfl, rfl⟩
  have w1 : IntKind.i64.wrap ((x : Int) * 256) = ((x * 256 : Nat) : Int) := wrapN _ (by omega) (by omega)
  simp only [h2, w1, VX, Nat.reduceEqDiff, Nat.reduceAdd]
  refine vcall_raw rfl ((spec_next_v hc (vrow_set_eq hr) hlo (by omega) hs').mono ?_)
  rintro r H' ⟨y, seed2, hy, hs2, rfl, rfl⟩
  have w2 : IntKind.i64.wrap (((x * 256 : Nat) : Int) + (y : Int)) = ((x * 256 + y : Nat) : Int) := wrapN _ (by omega) (by omega)
  have q := rem_i64 (x * 256 + y) n (by omega)
  simp only [w2, q, VX, Nat.reduceEqDiff, Nat.reduceAdd]
  refine ⟨(x * 256 + y) % n, seed2, Nat.mod_lt _ (by omega), Nat.le_trans (Nat.mod_le _ _) (by omega), hs2, rfl, ?_⟩
  rw [List.set_set]
theorem spec_one_v {lo b : Nat} {H : VHeap} {code : List Nat} {a seed n : Nat} (hc : bytOk code) (hr : vrow H b 0 = some ([srcV code a seed], 3, true)) (hlo : lo ≤ b) (ha : a ≤ 1000000000) (hs : seed < 18446744073709551616) (hn : 2 ≤ n ∧ n ≤ 200) :
    VRaw 84 [.ptr b 0 0 0, VI (n : Int)] lo H fun r H' => ∃ (x : Bool) (seed' : Nat), seed' < 18446744073709551616 ∧ r = VB x ∧ H' = H.set b (.row 0 [srcV code (a + 1) seed'] 3 true) := by
  refine VRaw.walk ⟨true, false⟩ __spec_l00Src__one_t (Nat.le_of_ble_eq_true rfl) ?_
  simp only [__spec_l00Src__one, __spec_l00Src__one_c, VX, Nat.reduceEqDiff, Nat.reduceAdd]
  refine vcall_raw rfl ((spec_pick_v hc hr hlo ha hs hn).mono ?_)
  rintro r H' ⟨x, seed', hx, hs', rfl, rfl⟩
  simp only [VX, Nat.reduceEqDiff, Nat.reduceAdd]
  exact ⟨_, seed', hs', rfl, rfl⟩
theorem spec_l01Of_v (t b : Int) (ht : -1000000000 ≤ t ∧ t ≤ 1000000000) (hb : 1 ≤ b ∧ b ≤ 1000000000) : ∃ q, smallQ q ∧ TC 87 [VI t, VI b] (strV (showQ q)) := by
  have e : ((t : Rat) / (b : Rat)) = mkRat t b.toNat := by
    rw [Rat.mkRat_eq_div, show ((b.toNat : Nat) : Rat) = ((b.toNat : Int) : Rat) from rfl, Int.toNat_of_nonneg (by omega)]
  have hq : smallQ ((t : Rat) / (b : Rat)) := by
    rw [e]
    exact smallQ_mk (Nat.le_trans (show t.natAbs ≤ 1000000000 by omega) (by decide +kernel)) (Nat.le_trans (show b.toNat ≤ 1000000000 by omega) (by decide +kernel)) (by omega)
  refine ⟨(t : Rat) / (b : Rat), hq, ?_⟩
  refine TC.walk ⟨true, false⟩ spec_l01Of_t rfl (Nat.le_of_ble_eq_true rfl) rfl rfl ?_
  have hb0 : (b : Rat) ≠ 0 := by
    intro h
    have := congrArg Rat.num h
    simp at this
    omega
  have b1 := rbits_int t
  have b2 := rbits_int b
  have b3 : bl t.natAbs ≤ 64 := bl_le (by omega)
  have b4 : bl b.natAbs ≤ 64 := bl_le (by omega)
  have e1 := spec_l01Int_v t (by omega) (by omega)
  have e2 := spec_l01Int_v b (by omega) (by omega)
  have e3 := spec_l01Over_v (t : Rat) (b : Rat) hb0 (by omega) (by omega)
  have e4 := spec_l01Show_v ((t : Rat) / (b : Rat)) (by have := smallQ_bits hq; omega)
  simp only [spec_l01Of, spec_l01Of_c, e1, e2, e3, e4, VX, Nat.reduceEqDiff, Nat.reduceAdd]
  exact fz_res rfl
theorem pow_step {c A x k : Nat} (hA : A ≤ c ^ (6 - (k + 1))) (hx : x ≤ c) (hk : k + 1 ≤ 5) : A * x ≤ c ^ (6 - k) := by
  rw [show 6 - k = (6 - (k + 1)) + 1 by omega, Nat.pow_succ]
  exact Nat.mul_le_mul hA hx
set_option maxHeartbeats 2000000 in
theorem spec_l01DrawGreat_v {lo b : Nat} {H : VHeap} {code : List Nat} {a seed : Nat} (hc : bytOk code) (hr : vrow H b 0 = some ([srcV code a seed], 3, true)) (hlo : lo ≤ b) (ha : a ≤ 1000) (hs : seed < 18446744073709551616) :
    VRaw 85 [.ptr b 0 0 0] lo H fun r H' => ∃ (q : Rat) (a' seed' : Nat), smallQ q ∧ a' ≤ a + 100 ∧ seed' < 18446744073709551616 ∧ r = strV (showQ q) ∧ H' = H.set b (.row 0 [srcV code a' seed'] 3 true) := by
  refine VRaw.walk ⟨true, false⟩ spec_l01DrawGreat_t (Nat.le_of_ble_eq_true rfl) ?_
  simp only [spec_l01DrawGreat, spec_l01DrawGreat_c, VX, Nat.reduceEqDiff, Nat.reduceAdd]
  refine vcall_raw rfl ((spec_pickG_v (n := 1000000000) hc hr hlo (by omega) hs (by decide)).mono ?_)
  rintro r H1 ⟨x, s1, hx, hx', hs1, rfl, rfl⟩
  have w1 : IntKind.i64.wrap (1 + (x : Int)) = ((1 + x : Nat) : Int) := wrapN _ (by omega) (by omega)
  have n1 := spec_l01Nat_v ((1 + x : Nat) : Int) (by omega)
  rw [Int.toNat_natCast] at n1
  simp only [w1, n1, VX, Nat.reduceEqDiff, Nat.reduceAdd]
  refine vcall_raw rfl ((spec_pickG_v (n := 1000000000) hc (vrow_set_eq hr) hlo (by omega) hs1 (by decide)).mono ?_)
  rintro r H2 ⟨y, s2, hy, hy', hs2, rfl, rfl⟩
  have w2 : IntKind.i64.wrap (2 + (y : Int)) = ((2 + y : Nat) : Int) := wrapN _ (by omega) (by omega)
  have n2 := spec_l01Nat_v ((2 + y : Nat) : Int) (by omega)
  rw [Int.toNat_natCast] at n2
  simp only [w2, n2, List.set_set, VX, Nat.reduceEqDiff, Nat.reduceAdd]
  refine vcall_raw rfl ((spec_pick_v (n := 6) hc (vrow_set_eq hr) hlo (by omega) hs2 (by decide)).mono ?_)
  rintro r H3 ⟨z, s3, hz, hs3, rfl, rfl⟩
  simp only [List.set_set, VX, Nat.reduceEqDiff, Nat.reduceAdd]
  refine VW_loop (fun (s : Nat × Nat × Nat × Nat × Nat) ρ H' => s.1 ≤ 5 ∧ 1 ≤ s.2.1 ∧ s.2.1 ≤ 65536 ^ (6 - s.1) ∧ 1 ≤ s.2.2.1 ∧ s.2.2.1 ≤ 65537 ^ (6 - s.1) ∧ s.2.2.2.1 + 4 * s.1 ≤ a + 30 ∧ s.2.2.2.2 < 18446744073709551616 ∧
    H' = H.set b (.row 0 [srcV code s.2.2.2.1 s.2.2.2.2] 3 true) ∧ ρ 0 = .ptr b 0 0 0 ∧ ρ 3 = natT s.2.1 ∧ ρ 4 = natT s.2.2.1 ∧ ρ 5 = VI s.1) (fun s => s.1) (z, 1 + x, 2 + y, a + 2 + 2 + 1, s3) ⟨by simp only; omega, by simp only; omega, ?_, by simp only; omega, ?_, by simp only; omega, hs3, rfl, rfl, rfl, rfl, rfl⟩ ?_
  · simp only
    exact Nat.le_trans (show 1 + x ≤ 65536 ^ 1 by omega) (Nat.pow_le_pow_right (by decide) (by omega))
  · simp only
    exact Nat.le_trans (show 2 + y ≤ 65537 ^ 1 by omega) (Nat.pow_le_pow_right (by decide) (by omega))
  rintro ⟨k, A, B, a', s'⟩ ρ H' ⟨hk, hA1, hA, hB1, hB, ha', hs', rfl, g0, g3, g4, g5⟩
  simp only at hk hA1 hA hB1 hB ha' hs' g3 g4 g5
  have hA6 : A ≤ 65536 ^ 6 := Nat.le_trans hA (Nat.pow_le_pow_right (by decide) (by omega))
  have hB6 : B ≤ 65537 ^ 6 := Nat.le_trans hB (Nat.pow_le_pow_right (by decide) (by omega))
  have p6 : (65536 : Nat) ^ 6 ≤ 10 ^ 40 := by decide +kernel
  have p7 : (65537 : Nat) ^ 6 ≤ 10 ^ 40 := by decide +kernel
  have p8 : (10 : Nat) ^ 40 < 2 ^ 200 := by decide +kernel
  have bA : bl A ≤ 200 := bl_le (by omega)
  have bB : bl B ≤ 200 := bl_le (by omega)
  by_cases hpos : (0 : Int) < (k : Int)
  · obtain ⟨k, rfl⟩ : ∃ j, k = j + 1 := ⟨k - 1, by omega⟩
    simp only [spec_l01DrawGreat_b0, g0, g3, g4, g5, hpos, VX, Nat.reduceEqDiff, Nat.reduceAdd]
    refine vcall_raw rfl ((spec_pickG_v (n := 1000000000) hc (vrow_set_eq hr) hlo (by omega) hs' (by decide)).mono ?_)
    rintro r H1 ⟨u, t1, hu, hu', ht1, rfl, rfl⟩
    have w1 : IntKind.i64.wrap (1 + (u : Int)) = ((1 + u : Nat) : Int) := wrapN _ (by omega) (by omega)
    have n1 := spec_l01Nat_v ((1 + u : Nat) : Int) (by omega)
    rw [Int.toNat_natCast] at n1
    have bu : bl (1 + u) ≤ 200 := bl_le (Nat.lt_of_le_of_lt (show 1 + u ≤ 10 ^ 40 from Nat.le_trans (by omega : 1 + u ≤ 1000000) (by decide +kernel)) p8)
    have m1 := spec_l01NatMul_v A (1 + u) (Nat.le_of_lt (capT (by omega))) (Nat.le_of_lt (capT (by omega)))
    simp only [w1, n1, m1, List.set_set, g0, VX, Nat.reduceEqDiff, Nat.reduceAdd]
    refine vcall_raw rfl ((spec_pickG_v (n := 1000000000) hc (vrow_set_eq hr) hlo (by omega) ht1 (by decide)).mono ?_)
    rintro r H2 ⟨v, t2, hv, hv', ht2, rfl, rfl⟩
    have w2 : IntKind.i64.wrap (2 + (v : Int)) = ((2 + v : Nat) : Int) := wrapN _ (by omega) (by omega)
    have n2 := spec_l01Nat_v ((2 + v : Nat) : Int) (by omega)
    rw [Int.toNat_natCast] at n2
    have bv : bl (2 + v) ≤ 200 := bl_le (Nat.lt_of_le_of_lt (show 2 + v ≤ 10 ^ 40 from Nat.le_trans (by omega : 2 + v ≤ 1000000) (by decide +kernel)) p8)
    have m2 := spec_l01NatMul_v B (2 + v) (Nat.le_of_lt (capT (by omega))) (Nat.le_of_lt (capT (by omega)))
    have wk : IntKind.i64.wrap (((k + 1 : Nat) : Int) - 1) = (k : Int) := wrapN k (by omega) (by omega)
    simp only [w2, n2, m2, wk, List.set_set, g0, g4, g5, VX, Nat.reduceEqDiff, Nat.reduceAdd]
    refine ⟨(k, A * (1 + u), B * (2 + v), a' + 2 + 2, t2), by simp only; omega, by simp only; omega, Nat.mul_le_mul hA1 (show 1 ≤ 1 + u by omega), pow_step hA (by omega) (by omega), Nat.mul_le_mul hB1 (show 1 ≤ 2 + v by omega), pow_step hB (by omega) (by omega), by simp only; omega, ht2, rfl, ?_⟩
    exact ⟨rfl, rfl, rfl⟩
  · have hk0 : k = 0 := by omega
    subst hk0
    simp only [spec_l01DrawGreat_b0, g0, g3, g4, g5, hpos, VX, Nat.reduceEqDiff, Nat.reduceAdd]
    refine vcall_raw rfl ((spec_one_v (n := 2) hc (vrow_set_eq hr) hlo (by omega) hs' (by decide)).mono ?_)
    rintro r H1 ⟨neg, t1, ht1, rfl, rfl⟩
    have c1 := spec_l01Make_v neg A B (by omega) (by omega) (by omega)
    have hq : smallQ (mkRat (sgn neg A) B) := smallQ_mk (by rw [sgn_abs]; exact Nat.le_trans (Nat.le_trans hA6 p6) (by decide +kernel)) (Nat.le_trans (Nat.le_trans hB6 p7) (by decide +kernel)) (by omega)
    have c2 := spec_l01Show_v (mkRat (sgn neg A) B) (by have := smallQ_bits hq; omega)
    simp only [c1, c2, List.set_set, g0, g3, g4, VX, Nat.reduceEqDiff, Nat.reduceAdd]
    exact ⟨_, a' + 1, t1, hq, by omega, ht1, rfl, rfl⟩
theorem spec_B10Fraction_v {lo : Nat} {H : VHeap} {code : List Nat} (hc : bytOk code) (hlo : lo ≤ H.length) :
    VRaw 31 [bytV code] lo H fun r H' => ∃ (q : Rat) (x : VBlk), smallQ q ∧ r = strV (showQ q) ∧ H' = H ++ [x] := by
  refine VRaw.walk ⟨true, false⟩ spec_B10Fraction_t (Nat.le_of_ble_eq_true rfl) ?_
  simp only [spec_B10Fraction, spec_B10Fraction_c, VX, Nat.reduceEqDiff, Nat.reduceAdd]
  have hF : VRaw 72 [bytV code] lo H fun r H' => r = .ptr H.length 0 0 0 ∧ H' = H ++ [.row 0 [srcV code 0 0] 3 true] := by
    refine VRaw.walk ⟨false, false⟩ spec_l00From_t (Nat.le_of_ble_eq_true rfl) ?_
    simp only [spec_l00From, spec_l00From_c, List.length_cons, List.length_nil, vcells, List.all_cons, List.all_nil, VX, Nat.reduceEqDiff, Nat.reduceAdd, yA6, yA1, yA5, vlen_rdef, yA2, vchk_pdef, yA3, visnil_nil, yA4, vrow_zero, vrow_succ, List.set_cons_zero, List.set_cons_succ, elemOf_one, elemOf_two, vresult, vresAll, vres1, vfill, isAny_sc, isAny_tree, isAny_ref, isAny_agg, isAny_clo, List.take_zero, List.take_succ_cons, List.take_nil, List.drop_zero, List.drop_succ_cons, List.drop_nil, List.append_nil, Nat.reduceLeDiff, Nat.le_refl, vsplice, Nat.reduceLT, Int.toNat_natCast, eq_self, ge_iff_le, Bool.and_eq_true, Nat.reduceSub]
    rfl
  refine vcall_raw rfl (hF.mono ?_)
  rintro r H' ⟨rfl, rfl⟩
  have hrow : vrow (H ++ [.row 0 [srcV code 0 0] 3 true]) H.length 0 = some ([srcV code 0 0], 3, true) := by rw [vrow_H0, vrow_zero]
  simp only [VX, Nat.reduceEqDiff, Nat.reduceAdd]
  refine vcall_raw rfl ((spec_one_v (n := 6) hc hrow hlo (by decide) (by decide) (by decide)).mono ?_)
  rintro r H' ⟨x, s1, hs1, rfl, rfl⟩
  cases x with
  | true =>
    simp only [VX, Nat.reduceEqDiff, Nat.reduceAdd]
    refine vcall_raw rfl ((spec_l01DrawGreat_v hc (vrow_set_eq hrow) hlo (by decide) hs1).mono ?_)
    rintro r H' ⟨q, a', s2, hq, ha', hs2, rfl, rfl⟩
    simp only [List.set_set, set_last, VX, Nat.reduceEqDiff, Nat.reduceAdd]
    exact ⟨q, _, hq, rfl, rfl⟩
  | false =>
    simp only [VX, Nat.reduceEqDiff, Nat.reduceAdd]
    refine vcall_raw rfl ((spec_pick_v (n := 41) hc (vrow_set_eq hrow) hlo (by decide) hs1 (by decide)).mono ?_)
    rintro r H' ⟨x, s2, hx, hs2, rfl, rfl⟩
    have w1 : IntKind.i64.wrap ((x : Int) - 20) = (x : Int) - 20 := wrap64 (by omega) (by omega)
    simp only [w1, List.set_set, VX, Nat.reduceEqDiff, Nat.reduceAdd]
    refine vcall_raw rfl ((spec_pick_v (n := 9) hc (vrow_set_eq hrow) hlo (by decide) hs2 (by decide)).mono ?_)
    rintro r H' ⟨y, s3, hy, hs3, rfl, rfl⟩
    have w2 : IntKind.i64.wrap (1 + (y : Int)) = 1 + (y : Int) := wrap64 (by omega) (by omega)
    obtain ⟨q, hq, c1⟩ := spec_l01Of_v ((x : Int) - 20) (1 + (y : Int)) (by omega) (by omega)
    simp only [w2, c1, List.set_set, set_last, VX, Nat.reduceEqDiff, Nat.reduceAdd]
    exact ⟨q, _, hq, rfl, rfl⟩
end Go.PM
/- Who starts when: plain words, and what is the same of both. -/
namespace Go.PM
def atC (cs : List Cust) (i : Nat) : Int := ((cs[i]?).map (·.t)).getD 0
def wkC (cs : List Cust) (i : Nat) : Int := ((cs[i]?).map (·.w)).getD 0
def klC (cs : List Cust) (i : Nat) : Int := ((cs[i]?).map (·.k)).getD 0
def stC (st : List Int) (i : Nat) : Int := (st[i]?).getD 0
theorem atC_of {cs : List Cust} {i : Nat} {x : Cust} (h : cs[i]? = some x) : atC cs i = x.t := by simp [atC, h]
theorem wkC_of {cs : List Cust} {i : Nat} {x : Cust} (h : cs[i]? = some x) : wkC cs i = x.w := by simp [wkC, h]
theorem stC_of {st : List Int} {i : Nat} {x : Int} (h : st[i]? = some x) : stC st i = x := by simp [stC, h]
def inS (cs : List Cust) (st : List Int) (t : Int) (i : Nat) : Bool := decide (0 ≤ stC st i) && decide (stC st i ≤ t) && decide (t < stC st i + wkC cs i)
def bz (cs : List Cust) (st : List Int) (t : Int) : Nat := (List.range cs.length).countP (inS cs st t)
def isW (cs : List Cust) (st : List Int) (t : Int) (i : Nat) : Bool := decide (stC st i < 0) && decide (atC cs i ≤ t)
def wt (cs : List Cust) (st : List Int) (t : Int) : List Nat := (List.range cs.length).filter (isW cs st t)
def befo (rule : Int) (cs : List Cust) (i k : Nat) : Bool :=
  if rule = 1 then true else if rule = 2 then decide (wkC cs i < wkC cs k) else if rule = 3 then decide (klC cs i < klC cs k) else false
def pickW (rule : Int) (cs : List Cust) (b : Option Nat) (i : Nat) : Option Nat := match b with
  | none => some i
  | some k => if befo rule cs i k then some i else some k
def nxt (rule : Int) (cs : List Cust) (st : List Int) (t : Int) : Option Nat := (wt cs st t).foldl (pickW rule cs) none
def fill (rule srv : Int) (cs : List Cust) (t : Int) : Nat → List Int → List Int
  | 0, st => st
  | n + 1, st => if (bz cs st t : Int) < srv then (match nxt rule cs st t with
    | none => st
    | some k => fill rule srv cs t n (st.set k t)) else st
def full (rule srv : Int) (cs : List Cust) (st : List Int) (t : Int) : Prop := srv ≤ (bz cs st t : Int) ∨ nxt rule cs st t = none
def runT (rule srv : Int) (cs : List Cust) : Int → Nat → List Int → List Int
  | _, 0, st => st
  | t, n + 1, st => runT rule srv cs (t + 1) n (fill rule srv cs t cs.length st)
def stL (rule srv : Int) (cs : List Cust) : List Int := runT rule srv cs 0 100000 (List.replicate cs.length (-1))
section
variable {rule srv : Int} {cs : List Cust} {st : List Int} {t : Int}
theorem fill_full (h : full rule srv cs st t) (n : Nat) : fill rule srv cs t n st = st := by
  cases n with
  | zero => rfl
  | succ n =>
    rw [fill]
    rcases h with h | h
    · rw [if_neg (by omega)]
    · split
      · rw [h]
      · rfl
theorem runT_skip (m : Nat) : ∀ (t : Int) (n : Nat), (∀ u, t ≤ u → u < t + m → full rule srv cs st u) → m ≤ n → runT rule srv cs t n st = runT rule srv cs (t + m) (n - m) st := by
  induction m with
  | zero => intro t n _ _; simp
  | succ m ih =>
    intro t n h hm
    obtain ⟨n, rfl⟩ : ∃ k, n = k + 1 := ⟨n - 1, by omega⟩
    rw [runT, fill_full (h t (Int.le_refl _) (by omega)), ih (t + 1) n (fun u h1 h2 => h u (by omega) (by omega)) (by omega)]
    congr 1
    · omega
    · omega
theorem runT_full (n : Nat) : ∀ (t : Int), (∀ u, t ≤ u → full rule srv cs st u) → runT rule srv cs t n st = st := by
  intro t h
  rw [runT_skip n t n (fun u h1 _ => h u h1) (Nat.le_refl _), Nat.sub_self]
  rfl
theorem runT_to {a b : Int} (ha : 0 ≤ a) (hab : a ≤ b) (hb : b ≤ 100000) (h : ∀ u, a ≤ u → u < b → full rule srv cs st u) : runT rule srv cs a (100000 - a).toNat st = runT rule srv cs b (100000 - b).toNat st := by
  rw [runT_skip (b - a).toNat a _ (fun u h1 h2 => h u h1 (by omega)) (by omega)]
  congr 1
  · omega
  · omega
theorem runT_one {a : Int} (ha : 0 ≤ a) (hb : a < 100000) : runT rule srv cs a (100000 - a).toNat st = runT rule srv cs (a + 1) (100000 - (a + 1)).toNat (fill rule srv cs a cs.length st) := by
  rw [show (100000 - a).toNat = (100000 - (a + 1)).toNat + 1 by omega, runT]
theorem pick_some {ws : List Nat} {k : Nat} : ∃ j, (ws.foldl (pickW rule cs) (some k)) = some j ∧ (j = k ∨ j ∈ ws) := by
  induction ws generalizing k with
  | nil => exact ⟨k, rfl, .inl rfl⟩
  | cons i ws ih =>
    rw [List.foldl_cons]
    have : ∃ q, pickW rule cs (some k) i = some q ∧ (q = k ∨ q = i) := by
      unfold pickW
      simp only
      split
      · exact ⟨i, rfl, .inr rfl⟩
      · exact ⟨k, rfl, .inl rfl⟩
    obtain ⟨q, hq, hqq⟩ := this
    rw [hq]
    obtain ⟨j, h1, h2⟩ := ih (k := q)
    refine ⟨j, h1, ?_⟩
    rcases h2 with rfl | h2
    · rcases hqq with rfl | rfl
      · exact .inl rfl
      · exact .inr List.mem_cons_self
    · exact .inr (List.mem_cons_of_mem _ h2)
theorem nxt_none : nxt rule cs st t = none ↔ wt cs st t = [] := by
  unfold nxt
  cases h : wt cs st t with
  | nil => exact ⟨fun _ => rfl, fun _ => rfl⟩
  | cons i ws =>
    refine ⟨fun h2 => ?_, fun h2 => (by cases h2)⟩
    rw [List.foldl_cons] at h2
    obtain ⟨j, h3, _⟩ := pick_some (rule := rule) (cs := cs) (ws := ws) (k := i)
    rw [show pickW rule cs none i = some i from rfl, h3] at h2
    cases h2
theorem nxt_mem {k : Nat} (h : nxt rule cs st t = some k) : k ∈ wt cs st t := by
  unfold nxt at h
  cases hw : wt cs st t with
  | nil => rw [hw] at h; cases h
  | cons i ws =>
    rw [hw, List.foldl_cons] at h
    obtain ⟨j, h3, h4⟩ := pick_some (rule := rule) (cs := cs) (ws := ws) (k := i)
    rw [show pickW rule cs none i = some i from rfl, h3] at h
    injection h with h
    subst h
    rcases h4 with rfl | h4
    · exact List.mem_cons_self
    · exact List.mem_cons_of_mem _ h4
theorem wt_mem {k : Nat} : k ∈ wt cs st t ↔ k < cs.length ∧ stC st k < 0 ∧ atC cs k ≤ t := by
  simp [wt, isW]
theorem wt_nodup : (wt cs st t).Nodup := List.Pairwise.filter _ List.nodup_range
theorem stC_set {k i : Nat} (hk : k < st.length) : stC (st.set k t) i = if i = k then t else stC st i := by
  unfold stC
  rw [List.getElem?_set]
  by_cases h : i = k
  · subst h
    simp [hk]
  · rw [if_neg (fun h' => h h'.symm), if_neg h]
theorem countP_point {p q : Nat → Bool} {k : Nat} (hp : p k = false) (h : ∀ i, i ≠ k → q i = p i) : ∀ n, (List.range n).countP q = (List.range n).countP p + if k < n ∧ q k = true then 1 else 0 := by
  intro n
  induction n with
  | zero => simp
  | succ n ih =>
    rw [List.range_succ, List.countP_append, List.countP_append, ih]
    by_cases hk : n = k
    · subst hk
      simp only [List.countP_singleton, hp]
      cases hq : q n <;> simp
    · rw [List.countP_singleton, List.countP_singleton, h n hk]
      have : (k < n + 1 ∧ q k = true) ↔ (k < n ∧ q k = true) := by
        constructor
        · rintro ⟨h1, h2⟩; exact ⟨by omega, h2⟩
        · rintro ⟨h1, h2⟩; exact ⟨by omega, h2⟩
      simp only [this]
      omega
theorem bz_set {k : Nat} {u : Int} (hk : k < cs.length) (hl : st.length = cs.length) (hs : stC st k < 0) (h0 : 0 ≤ t) : bz cs (st.set k t) u = bz cs st u + if t ≤ u ∧ u < t + wkC cs k then 1 else 0 := by
  unfold bz
  rw [countP_point (p := inS cs st u) (q := inS cs (st.set k t) u) (k := k)]
  · congr 1
    have : (k < cs.length ∧ inS cs (st.set k t) u k = true) ↔ (t ≤ u ∧ u < t + wkC cs k) := by
      simp only [inS, stC_set (t := t) (i := k) (by omega : k < st.length), if_true, Bool.and_eq_true, decide_eq_true_eq]
      constructor
      · rintro ⟨_, ⟨_, h1⟩, h2⟩; exact ⟨h1, h2⟩
      · rintro ⟨h1, h2⟩; exact ⟨hk, ⟨h0, h1⟩, h2⟩
    simp only [this]
  · simp only [inS]
    rw [decide_eq_false (by omega)]
    rfl
  · intro i hi
    simp only [inS, stC_set (t := t) (i := i) (by omega : k < st.length), if_neg hi]
theorem wt_set {k : Nat} {u : Int} (hl : st.length = cs.length) (hk : k < cs.length) (h0 : 0 ≤ t) : wt cs (st.set k t) u = (wt cs st u).filter (· != k) := by
  unfold wt
  rw [List.filter_filter]
  refine List.filter_congr fun i hi => ?_
  simp only [isW, stC_set (t := t) (i := i) (by omega : k < st.length)]
  by_cases h : i = k
  · subst h
    simp
    omega
  · simp [h]
def unst (st : List Int) : Nat := st.countP (fun s => decide (s < 0))
theorem unst_set {k : Nat} (hk : k < st.length) (hs : stC st k < 0) (h0 : 0 ≤ t) : unst (st.set k t) + 1 = unst st := by
  unfold unst
  rw [List.countP_set hk]
  have hx : st[k] = stC st k := by
    rw [stC_of (x := st[k]) (List.getElem?_eq_getElem hk)]
  have h1 : decide (st[k] < 0) = true := by rw [hx]; exact decide_eq_true hs
  have h2 : decide (t < 0) = false := decide_eq_false (by omega)
  have h3 : 0 < st.countP (fun s => decide (s < 0)) := by
    rw [List.countP_pos_iff]
    exact ⟨st[k], List.getElem_mem hk, h1⟩
  simp only [h1, h2, if_true, Bool.false_eq_true, if_false]
  omega
theorem fill_more (hl : st.length = cs.length) (h0 : 0 ≤ t) : ∀ (n m : Nat), unst st ≤ n → unst st ≤ m → fill rule srv cs t n st = fill rule srv cs t m st := by
  intro n
  induction n generalizing st with
  | zero =>
    intro m hn hm
    have hf : full rule srv cs st t := by
      right
      rw [nxt_none]
      cases hw : wt cs st t with
      | nil => rfl
      | cons i ws =>
        have h1 : i ∈ wt cs st t := by rw [hw]; exact List.mem_cons_self
        obtain ⟨h2, h3, _⟩ := wt_mem.1 h1
        have := unst_set (t := t) (by omega : i < st.length) h3 h0
        omega
    rw [fill_full hf, fill_full hf]
  | succ n ih =>
    intro m hn hm
    cases m with
    | zero =>
      have hf : full rule srv cs st t := by
        right
        rw [nxt_none]
        cases hw : wt cs st t with
        | nil => rfl
        | cons i ws =>
          have h1 : i ∈ wt cs st t := by rw [hw]; exact List.mem_cons_self
          obtain ⟨h2, h3, _⟩ := wt_mem.1 h1
          have := unst_set (t := t) (by omega : i < st.length) h3 h0
          omega
      rw [fill_full hf, fill_full hf]
    | succ m =>
      rw [fill, fill]
      split
      · split
        · rfl
        · rename_i k hk
          obtain ⟨h2, h3, _⟩ := wt_mem.1 (nxt_mem hk)
          have := unst_set (t := t) (by omega : k < st.length) h3 h0
          exact ih (by simp [hl]) m (by omega) (by omega)
      · rfl
theorem unst_le : unst st ≤ st.length := List.countP_le_length
theorem fill_step {k : Nat} (hl : st.length = cs.length) (h0 : 0 ≤ t) (hb : (bz cs st t : Int) < srv) (hk : nxt rule cs st t = some k) : fill rule srv cs t cs.length (st.set k t) = fill rule srv cs t cs.length st := by
  obtain ⟨h2, h3, _⟩ := wt_mem.1 (nxt_mem hk)
  have h4 := unst_set (t := t) (by omega : k < st.length) h3 h0
  have h5 := unst_le (st := st)
  rw [fill_more (st := st) hl h0 cs.length (cs.length + 1) (by omega) (by omega)]
  conv => rhs; rw [fill, if_pos hb, hk]
def evT (cs : List Cust) (st : List Int) (i : Nat) : Int := if 0 ≤ stC st i then stC st i + wkC cs i else atC cs i
def laterF (cs : List Cust) (st : List Int) (t : Int) (b : Int) (i : Nat) : Int := if t < evT cs st i ∧ (b < 0 ∨ evT cs st i < b) then evT cs st i else b
def later (cs : List Cust) (st : List Int) (t : Int) : Int := (List.range cs.length).foldl (laterF cs st t) (-1)
structure Way (cs : List Cust) (st : List Int) (t : Int) : Prop where
  len : st.length = cs.length
  low : ∀ i, i < cs.length → -1 ≤ stC st i
  high : ∀ i, i < cs.length → stC st i ≤ t
  bd : ∀ i, i < cs.length → stC st i + 1000 * (unst st : Int) ≤ 10000 + 1000 * (cs.length : Int)
  tm : 0 ≤ t ∧ t + 1000 * (unst st : Int) ≤ 11000 + 1000 * (cs.length : Int)
theorem Way.set {k : Nat} (h : Way cs st t) (hk : k < cs.length) (hs : stC st k < 0) : Way cs (st.set k t) t := by
  have hl := h.len
  have htm := h.tm
  have h4 := unst_set (t := t) (by omega : k < st.length) hs htm.1
  refine ⟨by simp [hl], fun i hi => ?_, fun i hi => ?_, fun i hi => ?_, htm.1, by omega⟩
  all_goals rw [stC_set (by omega : k < st.length)]
  · have := h.low i hi
    split <;> omega
  · have := h.high i hi
    split <;> omega
  · have := h.bd i hi
    split <;> omega
theorem Way.le (h : Way cs st t) (hc : custsOk cs) : t ≤ 35000 ∧ ∀ i, i < cs.length → stC st i ≤ 34000 := by
  have hlen := hc.2
  have htm := h.tm
  refine ⟨by omega, fun i hi => ?_⟩
  have := h.bd i hi
  omega
theorem custsOk.bnd (hc : custsOk cs) {i : Nat} (hi : i < cs.length) : (0 ≤ atC cs i ∧ atC cs i ≤ 10000) ∧ (1 ≤ wkC cs i ∧ wkC cs i ≤ 1000) := by
  have hx : cs[i]? = some cs[i] := List.getElem?_eq_getElem hi
  have := hc.at hx
  rw [atC_of hx, wkC_of hx]
  exact ⟨this.1, this.2.1⟩
def nextP (rule : Int) (cs : List Cust) (ws : List Nat) : Nat :=
  if rule = 1 then ws.length - 1 else if rule = 2 ∨ rule = 3 then (List.range ws.length).foldl (fun b k => if befo rule cs (ws.getD k 0) (ws.getD b 0) then k else b) 0 else 0
theorem pick_first {ws : List Nat} {k : Nat} (h : ∀ i j, befo rule cs i j = false) : ws.foldl (pickW rule cs) (some k) = some k := by
  induction ws with
  | nil => rfl
  | cons i ws ih =>
    rw [List.foldl_cons]
    have : pickW rule cs (some k) i = some k := by
      unfold pickW
      simp only [h]
      rfl
    rw [this, ih]
theorem nextP_is {ws : List Nat} (hne : ws ≠ []) (hr : 0 ≤ rule ∧ rule ≤ 3) : nextP rule cs ws < ws.length ∧ ws[nextP rule cs ws]? = ws.foldl (pickW rule cs) none := by
  have hlen : 0 < ws.length := List.length_pos_iff.2 hne
  unfold nextP
  by_cases h1 : rule = 1
  · rw [if_pos h1]
    rcases List.eq_nil_or_concat ws with rfl | ⟨xs, y, rfl⟩
    · exact absurd rfl hne
    · rw [List.concat_eq_append, List.foldl_append]
      refine ⟨by simp, ?_⟩
      simp only [List.length_append, List.length_cons, List.length_nil, Nat.zero_add, Nat.add_sub_cancel, List.foldl_cons, List.foldl_nil]
      rw [List.getElem?_append_right (Nat.le_refl _), Nat.sub_self]
      unfold pickW
      split
      · rfl
      · simp only [befo, if_pos h1, if_true]
        rfl
  · rw [if_neg h1]
    by_cases h2 : rule = 2 ∨ rule = 3
    · rw [if_pos h2]
      have hirr : ∀ i, befo rule cs i i = false := fun i => by
        unfold befo
        rw [if_neg h1]
        split
        · exact decide_eq_false (by omega)
        · split
          · exact decide_eq_false (by omega)
          · rfl
      have key : ∀ n, n < ws.length → (List.range (n + 1)).foldl (fun b k => if befo rule cs (ws.getD k 0) (ws.getD b 0) then k else b) 0 < ws.length ∧
          ws[(List.range (n + 1)).foldl (fun b k => if befo rule cs (ws.getD k 0) (ws.getD b 0) then k else b) 0]? = (ws.take (n + 1)).foldl (pickW rule cs) none := by
        intro n
        induction n with
        | zero =>
          intro _
          have : (List.range (0 + 1)).foldl (fun b k => if befo rule cs (ws.getD k 0) (ws.getD b 0) then k else b) 0 = 0 := by
            simp [List.range_succ, hirr]
          rw [this]
          refine ⟨hlen, ?_⟩
          cases ws with
          | nil => exact absurd rfl hne
          | cons i ws => rfl
        | succ n ih =>
          intro hn
          obtain ⟨g1, g2⟩ := ih (by omega)
          rw [List.range_succ, List.foldl_append, List.foldl_cons, List.foldl_nil]
          generalize (List.range (n + 1)).foldl (fun b k => if befo rule cs (ws.getD k 0) (ws.getD b 0) then k else b) 0 = b at *
          obtain ⟨x, hx⟩ : ∃ x, ws[n + 1]? = some x := ⟨_, List.getElem?_eq_getElem hn⟩
          obtain ⟨y, hy⟩ : ∃ y, ws[b]? = some y := ⟨_, List.getElem?_eq_getElem g1⟩
          rw [List.take_add_one, hx, List.foldl_append, ← g2, hy]
          simp only [Option.toList_some, List.foldl_cons, List.foldl_nil, List.getD_eq_getElem?_getD, hx, hy, Option.getD_some, pickW]
          split
          · exact ⟨hn, hx⟩
          · exact ⟨g1, hy⟩
      have := key (ws.length - 1) (by omega)
      rw [show ws.length - 1 + 1 = ws.length by omega, List.take_of_length_le (Nat.le_refl _)] at this
      exact this
    · rw [if_neg h2]
      refine ⟨hlen, ?_⟩
      have hb : ∀ i j, befo rule cs i j = false := fun i j => by
        unfold befo
        rw [if_neg h1, if_neg (by omega), if_neg (by omega)]
      cases ws with
      | nil => exact absurd rfl hne
      | cons i ws =>
        rw [List.foldl_cons, show pickW rule cs none i = some i from rfl, pick_first hb]
        rfl
end
end Go.PM
/- Who starts when: what holds of the program on its way, in plain words. -/
namespace Go.PM
def below0 (st : List Int) (i : Nat) : Bool := decide (stC st i < 0)
def gtB (u e : Int) : Bool := decide (u < e)
section
variable {rule srv : Int} {cs : List Cust} {st : List Int} {t : Int}
theorem custsOk.sorted (hc : custsOk cs) : ∀ {i j : Nat}, i ≤ j → j < cs.length → atC cs i ≤ atC cs j := by
  intro i j hij hj
  induction j with
  | zero =>
    have : i = 0 := by omega
    subst this
    exact Int.le_refl _
  | succ j ih =>
    rcases Nat.lt_or_ge i (j + 1) with h | h
    · have h1 := ih (by omega) (by omega)
      have hx : cs[j + 1]? = some cs[j + 1] := List.getElem?_eq_getElem hj
      have hy : cs[j]? = some cs[j] := List.getElem?_eq_getElem (by omega)
      have h2 := (hc.1 (j + 1) _ hx).2 _ (by omega) (by rw [Nat.add_sub_cancel]; exact hy)
      rw [atC_of hx]
      rw [atC_of hy] at h1
      omega
    · have : i = j + 1 := by omega
      subst this
      exact Int.le_refl _
theorem wt_come {come : Nat} (hcome : come ≤ cs.length) (past : ∀ i, i < come → atC cs i ≤ t) (fut : ∀ i, come ≤ i → i < cs.length → t < atC cs i) : wt cs st t = (List.range come).filter (below0 st) := by
  unfold wt
  rw [show cs.length = come + (cs.length - come) by omega, List.range_add, List.filter_append]
  have h1 : (List.range come).filter (isW cs st t) = (List.range come).filter (below0 st) := by
    refine List.filter_congr fun i hi => ?_
    rw [List.mem_range] at hi
    simp [isW, below0, past i hi]
  have h2 : ((List.range (cs.length - come)).map fun x => come + x).filter (isW cs st t) = [] := by
    rw [List.filter_eq_nil_iff]
    intro i hi
    obtain ⟨j, hj, rfl⟩ := List.mem_map.1 hi
    rw [List.mem_range] at hj
    have := fut (come + j) (by omega) (by omega)
    simp only [isW, Bool.and_eq_true, decide_eq_true_eq]
    omega
  rw [h1, h2, List.append_nil]
structure ImpI (rule srv : Int) (cs : List Cust) (st : List Int) (t : Int) (come : Nat) (ws : List Nat) (ends : List Int) : Prop where
  len : st.length = cs.length
  low : ∀ i, i < cs.length → -1 ≤ stC st i
  high : ∀ i, i < cs.length → stC st i ≤ t
  bd : ∀ i, i < cs.length → stC st i + 1000 * (unst st : Int) ≤ 10000 + 1000 * (cs.length : Int)
  tm : -1 ≤ t
  cle : come ≤ cs.length
  past : ∀ i, i < come → atC cs i ≤ t
  fut : ∀ i, come ≤ i → i < cs.length → t < atC cs i ∧ stC st i < 0
  wsq : ws = wt cs st t
  cnt : ∀ u, t ≤ u → ends.countP (gtB u) = bz cs st u
  ef : ∀ e ∈ ends, t < e
  eb : ∀ e ∈ ends, e + 1000 * (unst st : Int) ≤ 11000 + 1000 * (cs.length : Int)
  fl : full rule srv cs st t
  room : ws.length + ends.length ≤ come
  es : (ends.length : Int) ≤ srv
  run : runT rule srv cs (t + 1) (100000 - (t + 1)).toNat st = stL rule srv cs
theorem stC_rep {n i : Nat} (h : i < n) : stC (List.replicate n (-1)) i = -1 := stC_of (by rw [List.getElem?_replicate, if_pos h])
theorem ImpI.start (hc : custsOk cs) (hs : 1 ≤ srv) : ImpI rule srv cs (List.replicate cs.length (-1)) (-1) 0 [] [] := by
  have hw : wt cs (List.replicate cs.length (-1)) (-1) = [] := by
    rw [wt_come (Nat.zero_le _) (fun i hi => by omega) fun i _ hi => by have := hc.bnd hi; omega]
    rfl
  have hu : unst (List.replicate cs.length (-1)) = cs.length := by simp [unst, List.countP_replicate]
  refine ⟨by simp, fun i hi => by rw [stC_rep hi]; decide, fun i hi => by rw [stC_rep hi]; decide, fun i hi => by rw [stC_rep hi, hu]; omega, by decide, Nat.zero_le _, fun i hi => by omega, fun i _ hi => ⟨by have := hc.bnd hi; omega, by rw [stC_rep hi]; decide⟩, hw.symm, fun u _ => ?_, fun e he => (by cases he), fun e he => (by cases he), .inr (nxt_none.2 hw), Nat.le_refl _, by simp; omega, rfl⟩
  unfold bz
  rw [(List.countP_eq_zero (p := inS cs (List.replicate cs.length (-1)) u)).2]
  · rfl
  · intro i hi
    rw [List.mem_range] at hi
    simp only [inS, stC_rep hi, Bool.and_eq_true, decide_eq_true_eq]
    omega
def mnF (w : Bool) (b e : Int) : Int := if b < 0 ∨ (w = true ∧ e < b) then e else b
theorem mn_off {es : List Int} {b : Int} (h : 0 ≤ b) : es.foldl (mnF false) b = b := by
  induction es with
  | nil => rfl
  | cons e es ih =>
    rw [List.foldl_cons]
    have : mnF false b e = b := by
      unfold mnF
      rw [if_neg (by simp; omega)]
    rw [this, ih]
theorem mn_on : ∀ {es : List Int} {b : Int}, (∀ e ∈ es, 0 ≤ e) → (es.foldl (mnF true) b = b ∨ es.foldl (mnF true) b ∈ es) ∧ (∀ e ∈ es, es.foldl (mnF true) b ≤ e) ∧ (0 ≤ b → es.foldl (mnF true) b ≤ b) ∧ (es ≠ [] → 0 ≤ es.foldl (mnF true) b)
  | [], b, _ => ⟨.inl rfl, fun e he => (by cases he), fun _ => Int.le_refl _, fun h => absurd rfl h⟩
  | e :: es, b, h => by
    rw [List.foldl_cons]
    have h1 := h e List.mem_cons_self
    have h2 : ∀ e' ∈ es, 0 ≤ e' := fun e' he => h e' (List.mem_cons_of_mem _ he)
    have hm : (mnF true b e = b ∨ mnF true b e = e) ∧ mnF true b e ≤ e ∧ (0 ≤ b → mnF true b e ≤ b) ∧ 0 ≤ mnF true b e := by
      unfold mnF
      by_cases hc : b < 0 ∨ (true = true ∧ e < b)
      · rw [if_pos hc]
        refine ⟨.inr rfl, Int.le_refl _, fun hb => ?_, h1⟩
        rcases hc with hc | hc <;> omega
      · rw [if_neg hc]
        simp at hc
        exact ⟨.inl rfl, hc.2, fun _ => Int.le_refl _, hc.1⟩
    obtain ⟨m1, m2, m3, m4⟩ := hm
    obtain ⟨g1, g2, g3, g4⟩ := mn_on (es := es) (b := mnF true b e) h2
    have g3 := g3 m4
    refine ⟨?_, ?_, fun hb => by have := m3 hb; omega, fun _ => ?_⟩
    · rcases g1 with g1 | g1
      · rw [g1]
        rcases m1 with m1 | m1
        · exact .inl m1
        · rw [m1]; exact .inr List.mem_cons_self
      · exact .inr (List.mem_cons_of_mem _ g1)
    · intro e' he
      rcases List.mem_cons.1 he with rfl | he
      · omega
      · exact g2 e' he
    · rcases g1 with g1 | g1
      · rw [g1]; exact m4
      · exact h2 _ g1
def now0 (cs : List Cust) (come : Nat) : Int := if come < cs.length then atC cs come else -1
def nowN (cs : List Cust) (come : Nat) (ws : List Nat) (ends : List Int) : Int := ends.foldl (mnF (decide (0 < ws.length))) (now0 cs come)
theorem ImpI.cntAll {come : Nat} {ws : List Nat} {ends : List Int} (h : ImpI rule srv cs st t come ws ends) : ends.length = bz cs st t := by
  rw [← h.cnt t (Int.le_refl _), List.countP_eq_length.2]
  intro e he
  exact decide_eq_true (h.ef e he)
theorem ImpI.time {come : Nat} {ws : List Nat} {ends : List Int} (h : ImpI rule srv cs st t come ws ends) (hc : custsOk cs) (hs : 1 ≤ srv) (hg : come < cs.length ∨ 0 < ws.length) :
    (t < nowN cs come ws ends ∧ nowN cs come ws ends + 1000 * (unst st : Int) ≤ 11000 + 1000 * (cs.length : Int)) ∧ (∀ i, come ≤ i → i < cs.length → nowN cs come ws ends ≤ atC cs i) ∧
      (come < cs.length ∧ atC cs come = nowN cs come ws ends ∨ 0 < ws.length ∧ nowN cs come ws ends ∈ ends) ∧ runT rule srv cs (nowN cs come ws ends) (100000 - nowN cs come ws ends).toNat st = stL rule srv cs := by
  have htm := h.tm
  have hul := unst_le (st := st)
  have hlen := h.len
  have he0 : ∀ e ∈ ends, 0 ≤ e := fun e he => by have := h.ef e he; omega
  have hlen24 := hc.2
  by_cases hw : 0 < ws.length
  · have hbz : srv ≤ (bz cs st t : Int) := by
      rcases h.fl with hf | hf
      · exact hf
      · rw [nxt_none, ← h.wsq] at hf
        rw [hf] at hw
        simp at hw
    have hne : ends ≠ [] := by
      intro he
      have := h.cntAll
      rw [he] at this
      simp at this
      omega
    obtain ⟨g1, g2, g3, g4⟩ := mn_on (es := ends) (b := now0 cs come) he0
    have hnow : nowN cs come ws ends = ends.foldl (mnF true) (now0 cs come) := by unfold nowN; rw [decide_eq_true hw]
    rw [hnow]
    generalize ends.foldl (mnF true) (now0 cs come) = w at *
    have g4 := g4 hne
    have hcase : (come < cs.length ∧ atC cs come = w) ∨ w ∈ ends := by
      rcases g1 with g1 | g1
      · unfold now0 at g1
        split at g1
        · rename_i hcl
          exact .inl ⟨hcl, g1.symm⟩
        · omega
      · exact .inr g1
    have htw : t < w ∧ w + 1000 * (unst st : Int) ≤ 11000 + 1000 * (cs.length : Int) := by
      rcases hcase with ⟨h1, h2⟩ | h1
      · have := h.fut come (Nat.le_refl _) h1
        have := hc.bnd h1
        omega
      · exact ⟨h.ef _ h1, h.eb _ h1⟩
    refine ⟨htw, fun i h1 h2 => ?_, hcase.imp id fun h1 => ⟨hw, h1⟩, ?_⟩
    · have h3 := hc.sorted h1 h2
      have h4 := hc.bnd (i := come) (by omega)
      have h5 : now0 cs come = atC cs come := by unfold now0; rw [if_pos (by omega)]
      have := g3 (by rw [h5]; omega)
      omega
    · rw [← h.run]
      refine (runT_to (by omega) (by omega) (by omega) fun u h1 h2 => .inl ?_).symm
      rw [← h.cnt u (by omega), (List.countP_eq_length (p := gtB u)).2 fun e he => decide_eq_true (by have := g2 e he; omega), h.cntAll]
      exact hbz
  · have hcl : come < cs.length := by omega
    have h5 : now0 cs come = atC cs come := by unfold now0; rw [if_pos hcl]
    have h4 := hc.bnd hcl
    have hf := (h.fut come (Nat.le_refl _) hcl).1
    have hnow : nowN cs come ws ends = atC cs come := by unfold nowN; rw [decide_eq_false hw, mn_off (by rw [h5]; omega), h5]
    rw [hnow]
    refine ⟨⟨hf, by omega⟩, fun i h1 h2 => hc.sorted h1 h2, .inl ⟨hcl, rfl⟩, ?_⟩
    rw [← h.run]
    refine (runT_to (by omega) (by omega) (by omega) fun u h1 h2 => .inr ?_).symm
    rw [nxt_none, wt_come h.cle (fun i hi => by have := h.past i hi; omega) fun i h3 h4 => by have := hc.sorted h3 h4; omega]
    have e1 := wt_come (st := st) h.cle h.past fun i h3 h4 => (h.fut i h3 h4).1
    rw [← e1, ← h.wsq]
    exact List.eq_nil_of_length_eq_zero (by omega)
theorem ImpI.done {come : Nat} {ws : List Nat} {ends : List Int} (h : ImpI rule srv cs st t come ws ends) (hcome : ¬ come < cs.length) (hw : ¬ 0 < ws.length) : st = stL rule srv cs := by
  rw [← h.run]
  refine (runT_full _ _ fun u hu => .inr ?_).symm
  have hcl := h.cle
  have e1 := wt_come (st := st) h.cle h.past fun i h3 h4 => (h.fut i h3 h4).1
  rw [nxt_none, wt_come h.cle (fun i hi => by have := h.past i hi; omega) fun i h3 h4 => by omega, ← e1, ← h.wsq]
  exact List.eq_nil_of_length_eq_zero (by omega)
structure Ph4 (rule srv : Int) (cs : List Cust) (st0 : List Int) (now : Int) (come tot : Nat) (st : List Int) (ws : List Nat) (ends : List Int) : Prop where
  way : Way cs st now
  wsq : ws = wt cs st now
  cnt : ∀ u, now ≤ u → ends.countP (gtB u) = bz cs st u
  ef : ∀ e ∈ ends, now < e
  eb : ∀ e ∈ ends, e + 1000 * (unst st : Int) ≤ 11000 + 1000 * (cs.length : Int)
  fl : fill rule srv cs now cs.length st = fill rule srv cs now cs.length st0
  past : ∀ i, i < come → atC cs i ≤ now
  fut : ∀ i, come ≤ i → i < cs.length → now < atC cs i ∧ stC st i < 0
  tot : ws.length + ends.length = tot
  es : (ends.length : Int) ≤ srv
theorem eraseIdx_filter : ∀ {l : List Nat} {i k : Nat}, l.Nodup → l[i]? = some k → l.eraseIdx i = l.filter (· != k)
  | [], _, _, _, h => by cases h
  | x :: l, 0, k, hn, h => by
    injection h with h
    subst h
    rw [List.nodup_cons] at hn
    rw [List.eraseIdx_cons_zero, List.filter_cons_of_neg (by simp), List.filter_eq_self.2]
    intro y hy
    have : y ≠ x := fun he => hn.1 (he ▸ hy)
    simpa using this
  | x :: l, i + 1, k, hn, h => by
    rw [List.nodup_cons] at hn
    rw [List.getElem?_cons_succ] at h
    have hx : x ≠ k := fun he => hn.1 (he ▸ List.mem_of_getElem? h)
    rw [List.eraseIdx_cons_succ, List.filter_cons_of_pos (by simpa using hx), eraseIdx_filter hn.2 h]
theorem Ph4.step {now : Int} {st0 : List Int} {come tot : Nat} {ws : List Nat} {ends : List Int} (h : Ph4 rule srv cs st0 now come tot st ws ends) (hc : custsOk cs) (hr : 0 ≤ rule ∧ rule ≤ 3) (hb : (ends.length : Int) < srv) (hne : 0 < ws.length) :
    ∃ k, ws[nextP rule cs ws]? = some k ∧ k < cs.length ∧ nextP rule cs ws < ws.length ∧ (0 ≤ now ∧ now ≤ 35000) ∧ Ph4 rule srv cs st0 now come tot (st.set k now) (ws.eraseIdx (nextP rule cs ws)) (ends ++ [now + wkC cs k]) := by
  have hne' : ws ≠ [] := fun he => by rw [he] at hne; simp at hne
  obtain ⟨g1, g2⟩ := nextP_is (cs := cs) hne' hr
  obtain ⟨k, hk⟩ : ∃ k, ws[nextP rule cs ws]? = some k := ⟨_, List.getElem?_eq_getElem g1⟩
  have hnx : nxt rule cs st now = some k := by
    unfold nxt
    rw [← h.wsq, ← g2, hk]
  obtain ⟨m1, m2, m3⟩ := wt_mem.1 (nxt_mem hnx)
  have htm := h.way.tm
  have hle := (h.way.le hc).1
  have hbz : (bz cs st now : Int) = ends.length := by
    rw [← h.cnt now (Int.le_refl _), (List.countP_eq_length (p := gtB now)).2 fun e he => decide_eq_true (h.ef e he)]
  have hsl : k < st.length := by rw [h.way.len]; exact m1
  have hus := unst_set (t := now) hsl m2 htm.1
  have hwk := (hc.bnd m1).2
  refine ⟨k, hk, m1, g1, ⟨htm.1, hle⟩, h.way.set m1 m2, ?_, ?_, ?_, ?_, ?_, h.past, ?_, ?_, ?_⟩
  · rw [wt_set h.way.len m1 htm.1, ← h.wsq]
    exact eraseIdx_filter (by rw [h.wsq]; exact wt_nodup) hk
  · intro u hu
    rw [List.countP_append, h.cnt u hu, bz_set m1 h.way.len m2 htm.1, List.countP_singleton]
    congr 1
    simp only [gtB, decide_eq_true_eq]
    by_cases hq : u < now + wkC cs k
    · rw [if_pos hq, if_pos ⟨hu, hq⟩]
    · rw [if_neg hq, if_neg fun h' => hq h'.2]
  · intro e he
    rcases List.mem_append.1 he with he | he
    · exact h.ef e he
    · rw [List.mem_singleton] at he
      omega
  · intro e he
    rcases List.mem_append.1 he with he | he
    · have := h.eb e he
      omega
    · rw [List.mem_singleton] at he
      omega
  · rw [fill_step h.way.len htm.1 (by rw [hbz]; exact hb) hnx, h.fl]
  · intro i h1 h2
    have h3 := h.fut i h1 h2
    refine ⟨h3.1, ?_⟩
    rw [stC_set hsl, if_neg (fun he => by subst he; omega)]
    exact h3.2
  · rw [List.length_eraseIdx_of_lt g1, List.length_append, List.length_cons, List.length_nil]
    have := h.tot
    omega
  · rw [List.length_append, List.length_cons, List.length_nil]
    omega
theorem Ph4.done {now : Int} {st0 : List Int} {come tot : Nat} {ws : List Nat} {ends : List Int} (h : Ph4 rule srv cs st0 now come tot st ws ends) (hc : custsOk cs) (hcl : come ≤ cs.length) (ht : tot ≤ come) (hf : srv ≤ (ends.length : Int) ∨ ws = [])
    (hr : runT rule srv cs now (100000 - now).toNat st0 = stL rule srv cs) : ImpI rule srv cs st now come ws ends := by
  have htm := h.way.tm
  have hle := (h.way.le hc).1
  have hbz : (bz cs st now : Int) = ends.length := by
    rw [← h.cnt now (Int.le_refl _), (List.countP_eq_length (p := gtB now)).2 fun e he => decide_eq_true (h.ef e he)]
  have hfull : full rule srv cs st now := by
    rcases hf with hf | hf
    · exact .inl (by rw [hbz]; exact hf)
    · exact .inr (nxt_none.2 (by rw [← h.wsq]; exact hf))
  refine ⟨h.way.len, h.way.low, h.way.high, h.way.bd, by omega, hcl, h.past, h.fut, h.wsq, h.cnt, h.ef, h.eb, hfull, by rw [h.tot]; exact ht, h.es, ?_⟩
  have h1 := fill_full hfull cs.length
  rw [h.fl] at h1
  rw [runT_one htm.1 (by omega), h1] at hr
  exact hr
theorem ImpI.ph4 {come come2 : Nat} {now : Int} {ws : List Nat} {ends : List Int} (h : ImpI rule srv cs st t come ws ends) (hc : custsOk cs) (ht : t < now) (hn : now + 1000 * (unst st : Int) ≤ 11000 + 1000 * (cs.length : Int)) (h1 : come ≤ come2) (h2 : come2 ≤ cs.length)
    (h3 : ∀ i, come ≤ i → i < come2 → atC cs i = now) (h4 : ∀ i, come2 ≤ i → i < cs.length → now < atC cs i) :
    Ph4 rule srv cs st now come2 (((List.range come2).filter (below0 st)).length + (ends.filter (gtB now)).length) st ((List.range come2).filter (below0 st)) (ends.filter (gtB now)) := by
  have htm := h.tm
  have past : ∀ i, i < come2 → atC cs i ≤ now := fun i hi => by
    rcases Nat.lt_or_ge i come with hlt | hge
    · have := h.past i hlt
      omega
    · rw [h3 i hge hi]
      exact Int.le_refl _
  refine ⟨⟨h.len, h.low, fun i hi => by have := h.high i hi; omega, h.bd, by omega, hn⟩, ?_, ?_, ?_, ?_, rfl, past, ?_, rfl, ?_⟩
  · rw [wt_come h2 past h4]
  · intro u hu
    rw [List.countP_filter, ← h.cnt u (by omega)]
    refine List.countP_congr fun e he => ?_
    simp only [gtB, Bool.and_eq_true, decide_eq_true_eq]
    omega
  · intro e he
    have := (List.mem_filter.1 he).2
    simpa [gtB] using this
  · intro e he
    exact h.eb e (List.mem_filter.1 he).1
  · intro i h5 h6
    exact ⟨h4 i h5 h6, (h.fut i (by omega) h6).2⟩
  · have := List.length_filter_le (gtB now) ends
    have := h.es
    omega
end
end Go.PM
/- Who starts when: the small functions of both, walked. -/
namespace Go.PM
end Go.PM
/- Lists cut, copied and cleared within a row. -/
namespace Go.PM
section
variable {α : Type} {f : α → VV} {H : VHeap} {b g e lo : Nat} {X Y : List α}
end
end Go.PM
/- The last come first, with interruptions: plain words. -/
namespace Go.PM
def irOk (N : Nat) (hi : Int) (st : List (Nat × Int)) : Prop := ∀ p ∈ st, p.1 < N ∧ 1 ≤ p.2 ∧ p.2 ≤ hi
theorem irOk.cons {N : Nat} {hi : Int} {p : Nat × Int} {st : List (Nat × Int)} (h : irOk N hi (p :: st)) : (p.1 < N ∧ 1 ≤ p.2 ∧ p.2 ≤ hi) ∧ irOk N hi st := ⟨h p List.mem_cons_self, fun q hq => h q (List.mem_cons_of_mem _ hq)⟩
theorem irOk.of {N : Nat} {hi : Int} {p : Nat × Int} {st : List (Nat × Int)} (hp : p.1 < N ∧ 1 ≤ p.2 ∧ p.2 ≤ hi) (h : irOk N hi st) : irOk N hi (p :: st) := fun q hq => by
  rcases List.mem_cons.1 hq with rfl | hq
  · exact hp
  · exact h q hq
end Go.PM
/- Who starts when: the program, walked. -/
namespace Go.PM
structure StSys (rule srv room : Int) (cs : List Cust) where
  I : Nat → Nat → List Nat → List Int → List Int → Prop
  A : Nat → Int → Nat → List Nat → List Int → List Int → Prop
  S : Nat → Int → Nat → List Nat → List Int → List Int → Prop
  bI : ∀ {m come ws ends st}, I m come ws ends st → come ≤ cs.length ∧ st.length = cs.length ∧ ws.length ≤ 24 ∧ ends.length ≤ 24
  bA : ∀ {m now come ws ends st}, A m now come ws ends st → come ≤ cs.length ∧ st.length = cs.length ∧ ws.length ≤ 24 ∧ ends.length ≤ 24
  bS : ∀ {m now come ws ends st}, S m now come ws ends st → come ≤ cs.length ∧ st.length = cs.length ∧ ws.length ≤ 24 ∧ ends.length ≤ 24 ∧ (∀ i ∈ ws, i < cs.length) ∧ (0 ≤ now ∧ now ≤ 100000)
  start : ∃ m, I m 0 [] [] (List.replicate cs.length (-1))
  toA : ∀ {m come ws ends st}, I m come ws ends st → come < cs.length ∨ 0 < ws.length → A m (nowN cs come ws ends) come ws (ends.filter (gtB (nowN cs come ws ends))) st
  stepA : ∀ {m now come ws ends st}, A m now come ws ends st → come < cs.length → atC cs come = now → A m now (come + 1) (if (ws.length : Int) + (ends.length : Int) < room then ws ++ [come] else ws) ends st
  toS : ∀ {m now come ws ends st}, A m now come ws ends st → ¬ (come < cs.length ∧ atC cs come = now) → S m now come ws ends st
  stepS : ∀ {m now come ws ends st}, S m now come ws ends st → (ends.length : Int) < srv → 0 < ws.length → ∃ k, ws[nextP rule cs ws]? = some k ∧ S m now come (ws.eraseIdx (nextP rule cs ws)) (ends ++ [now + wkC cs k]) (st.set k now)
  toI : ∀ {m now come ws ends st}, S m now come ws ends st → ¬ ((ends.length : Int) < srv ∧ 0 < ws.length) → ∃ m', m' < m ∧ I m' come ws ends st
structure StE (rule srv room : Int) (cs : List Cust) (n g1 k1 c1 g2 k2 c2 come : Nat) (ρ : VEnv) : Prop where
  r0 : ρ 0 = VI rule
  r1 : ρ 1 = VI srv
  r2 : ρ 2 = VI room
  r3 : ρ 3 = custsV cs
  r9 : ρ 9 = .ref n 0 0 cs.length cs.length
  r10 : ρ 10 = .ref (n + 1) g1 0 k1 c1
  r11 : ρ 11 = .ref (n + 2) g2 0 k2 c2
  r12 : ρ 12 = VI come
structure Part {α : Type} (all xs : List α) : Prop where
  le : xs.length ≤ all.length
  tk : all.take xs.length = xs
theorem Part.get {α : Type} {all xs : List α} (h : Part all xs) {i : Nat} {x : α} (hx : xs[i]? = some x) : all[i]? = some x := by
  rw [← h.tk, List.getElem?_take] at hx
  split at hx
  · exact hx
  · cases hx
theorem Part.fz {α : Type} {f : α → VV} {e b g : Nat} {all xs : List α} {w : Bool} {H : VHeap} (h : Part all xs) (hp : ∀ x, pureV (f x) = true) (hr : vrow H b g = some (all.map f, e, w)) : fz depth H (.ref b g 0 xs.length all.length) = some (listV f xs) := by
  rw [fz_rowP hr (by rw [List.length_map]; exact h.le) h.le (pure_map hp), ← List.map_take, h.tk]
theorem StE.scrub {rule srv room : Int} {cs : List Cust} {n g1 k1 c1 g2 k2 c2 come : Nat} {ρ : VEnv} (h : StE rule srv room cs n g1 k1 c1 g2 k2 c2 come ρ) : StE rule srv room cs n g1 k1 c1 g2 k2 c2 come (scrubE (n + 3) ρ) := by
  obtain ⟨h0, h1, h2, h3, h9, h10, h11, h12⟩ := h
  refine ⟨?_, ?_, ?_, ?_, ?_, ?_, ?_, ?_⟩
  · rw [scrubE_app, h0]; rfl
  · rw [scrubE_app, h1]; rfl
  · rw [scrubE_app, h2]; rfl
  · rw [scrubE_app, h3, scrub_of (custsV_pure _)]
  · rw [scrubE_app, h9, scrub_ref (by omega)]
  · rw [scrubE_app, h10, scrub_ref (by omega)]
  · rw [scrubE_app, h11, scrub_ref (by omega)]
  · rw [scrubE_app, h12]; rfl
end Go.PM
/- Who starts when: with room for all; the reference, walked. -/
namespace Go.PM
theorem filt_len {p : Nat → Bool} {a b : Nat} (h : a ≤ b) : ((List.range b).filter p).length ≤ ((List.range a).filter p).length + (b - a) := by
  obtain ⟨d, rfl⟩ : ∃ d, b = a + d := ⟨b - a, by omega⟩
  rw [List.range_add, List.filter_append, List.length_append]
  have := List.length_filter_le p ((List.range d).map fun x => a + x)
  simp only [List.length_map, List.length_range] at this
  omega
structure StA (rule srv : Int) (cs : List Cust) (m : Nat) (now : Int) (come : Nat) (ws : List Nat) (ends st : List Int) (t : Int) (come0 : Nat) (ws0 : List Nat) (ends0 : List Int) : Prop where
  imp : ImpI rule srv cs st t come0 ws0 ends0
  gd : come0 < cs.length ∨ 0 < ws0.length
  ms : m = 2 * (cs.length - come0) + ws0.length
  nw : now = nowN cs come0 ws0 ends0
  c0 : come0 ≤ come
  c1 : come ≤ cs.length
  eq : ∀ i, come0 ≤ i → i < come → atC cs i = now
  wsq : ws = (List.range come).filter (below0 st)
  enq : ends = ends0.filter (gtB now)
theorem StA.bnd {rule srv : Int} {cs : List Cust} {m : Nat} {now : Int} {come : Nat} {ws : List Nat} {ends st : List Int} {t : Int} {come0 : Nat} {ws0 : List Nat} {ends0 : List Int} (h : StA rule srv cs m now come ws ends st t come0 ws0 ends0) : ws.length + ends.length ≤ come ∧ ws.length ≤ ws0.length + (come - come0) ∧ ends.length ≤ ends0.length := by
  have h1 := filt_len (p := below0 st) h.c0
  have h2 := wt_come (st := st) h.imp.cle h.imp.past fun i h3 h4 => (h.imp.fut i h3 h4).1
  rw [← h2, ← h.imp.wsq, ← h.wsq] at h1
  have h3 := List.length_filter_le (gtB now) ends0
  rw [← h.enq] at h3
  have h4 := h.imp.room
  have h5 := h.c0
  omega
structure StS (rule srv : Int) (cs : List Cust) (m : Nat) (now : Int) (come : Nat) (ws : List Nat) (ends st : List Int) (st0 : List Int) (w2 e2 : Nat) : Prop where
  ph : Ph4 rule srv cs st0 now come (w2 + e2) st ws ends
  c1 : come ≤ cs.length
  tc : w2 + e2 ≤ come
  run : runT rule srv cs now (100000 - now).toNat st0 = stL rule srv cs
  wle : ws.length ≤ w2
  ms : 2 * (cs.length - come) + w2 < m ∨ (2 * (cs.length - come) + w2 = m ∧ 0 < w2 ∧ (e2 : Int) < srv)
def stSys {rule srv room : Int} {cs : List Cust} (hc : custsOk cs) (hr : 0 ≤ rule ∧ rule ≤ 3) (hs : 1 ≤ srv) (hroom : 24 ≤ room) : StSys rule srv room cs where
  I m come ws ends st := m = 2 * (cs.length - come) + ws.length ∧ ∃ t, ImpI rule srv cs st t come ws ends
  A m now come ws ends st := ∃ t come0 ws0 ends0, StA rule srv cs m now come ws ends st t come0 ws0 ends0
  S m now come ws ends st := ∃ st0 w2 e2, StS rule srv cs m now come ws ends st st0 w2 e2
  bI := by
    rintro m come ws ends st ⟨_, t, h⟩
    have := hc.2
    have := h.room
    have := h.cle
    exact ⟨h.cle, h.len, by omega, by omega⟩
  bA := by
    rintro m now come ws ends st ⟨t, come0, ws0, ends0, h⟩
    have := hc.2
    have := h.bnd
    have := h.c1
    exact ⟨h.c1, h.imp.len, by omega, by omega⟩
  bS := by
    rintro m now come ws ends st ⟨st0, w2, e2, h⟩
    have := hc.2
    have := h.tc
    have := h.c1
    have := h.ph.tot
    have h1 := h.ph.way.le hc
    have h2 := h.ph.way.tm
    refine ⟨h.c1, h.ph.way.len, by omega, by omega, fun i hi => ?_, h2.1, by omega⟩
    rw [h.ph.wsq] at hi
    exact (wt_mem.1 hi).1
  start := ⟨_, rfl, -1, ImpI.start hc hs⟩
  toA := by
    rintro m come ws ends st ⟨hm, t, h⟩ hg
    refine ⟨t, come, ws, ends, h, hg, hm, rfl, Nat.le_refl _, h.cle, fun i h1 h2 => by omega, ?_, rfl⟩
    rw [← wt_come (st := st) h.cle h.past fun i h3 h4 => (h.fut i h3 h4).1]
    exact h.wsq
  stepA := by
    rintro m now come ws ends st ⟨t, come0, ws0, ends0, h⟩ hlt hat
    have h24 := hc.2
    have hb := h.bnd
    rw [if_pos (by omega)]
    refine ⟨t, come0, ws0, ends0, h.imp, h.gd, h.ms, h.nw, by have := h.c0; omega, by omega, fun i h1 h2 => ?_, ?_, h.enq⟩
    · rcases Nat.lt_or_ge i come with h3 | h3
      · exact h.eq i h1 h3
      · have : i = come := by omega
        subst this
        exact hat
    · rw [List.range_succ, List.filter_append, ← h.wsq]
      have := (h.imp.fut come h.c0 hlt).2
      simp [below0, this]
  toS := by
    rintro m now come ws ends st ⟨t, come0, ws0, ends0, h⟩ hng
    have hb := h.bnd
    obtain ⟨⟨t1, t2⟩, t3, t4, t5⟩ := h.imp.time hc hs h.gd
    rw [← h.nw] at t1 t2 t3 t4 t5
    have later : ∀ i, come ≤ i → i < cs.length → now < atC cs i := fun i h1 h2 => by
      have h3 := hc.sorted h1 h2
      have h4 := t3 come h.c0 (by omega)
      have h5 : atC cs come ≠ now := fun he => hng ⟨by omega, he⟩
      omega
    have hp := h.imp.ph4 hc t1 t2 h.c0 h.c1 h.eq later
    rw [← h.wsq, ← h.enq] at hp
    refine ⟨st, ws.length, ends.length, hp, h.c1, hb.1, t5, Nat.le_refl _, ?_⟩
    have hms := h.ms
    have hc0 := h.c0
    have hc1 := h.c1
    by_cases he : come0 = come
    · subst he
      rcases t4 with ⟨h1, h2⟩ | ⟨h1, h2⟩
      · exact absurd ⟨h1, h2⟩ hng
      · right
        have hw : ws = ws0 := by
          rw [h.wsq, h.imp.wsq, wt_come (st := st) h.imp.cle h.imp.past fun i h3 h4 => (h.imp.fut i h3 h4).1]
        have hlt : (ends0.filter (gtB now)).length < ends0.length := by
          rcases Nat.lt_or_ge (ends0.filter (gtB now)).length ends0.length with h3 | h3
          · exact h3
          · have h4 := List.length_filter_le (gtB now) ends0
            have h5 := (List.length_filter_eq_length_iff (p := gtB now) (l := ends0)).1 (by omega) now h2
            simp [gtB] at h5
        have := h.imp.es
        rw [hw, h.enq]
        exact ⟨by omega, h1, by omega⟩
    · left
      omega
  stepS := by
    rintro m now come ws ends st ⟨st0, w2, e2, h⟩ hb hne
    obtain ⟨k, h1, _, h2, _, h3⟩ := h.ph.step hc hr hb hne
    refine ⟨k, h1, st0, w2, e2, h3, h.c1, h.tc, h.run, ?_, h.ms⟩
    rw [List.length_eraseIdx_of_lt h2]
    have := h.wle
    omega
  toI := by
    rintro m now come ws ends st ⟨st0, w2, e2, h⟩ hng
    have htot := h.ph.tot
    have hwle := h.wle
    refine ⟨2 * (cs.length - come) + ws.length, ?_, rfl, now, h.ph.done hc h.c1 h.tc ?_ h.run⟩
    · rcases h.ms with h1 | ⟨h1, h2, h3⟩
      · omega
      · by_cases hw : 0 < ws.length
        · have : ¬ (ends.length : Int) < srv := fun he => hng ⟨he, hw⟩
          omega
        · omega
    · by_cases hw : 0 < ws.length
      · exact .inl (by have : ¬ (ends.length : Int) < srv := fun he => hng ⟨he, hw⟩; omega)
      · exact .inr (List.eq_nil_of_length_eq_zero (by omega))
theorem stL_len {rule srv : Int} {cs : List Cust} : (stL rule srv cs).length = cs.length := by
  have h1 : ∀ (n : Nat) (t : Int) (st : List Int), (fill rule srv cs t n st).length = st.length := by
    intro n
    induction n with
    | zero => intro t st; rfl
    | succ n ih =>
      intro t st
      rw [fill]
      split
      · split
        · rfl
        · rw [ih, List.length_set]
      · rfl
  have h2 : ∀ (n : Nat) (t : Int) (st : List Int), (runT rule srv cs t n st).length = st.length := by
    intro n
    induction n with
    | zero => intro t st; rfl
    | succ n ih => intro t st; rw [runT, ih, h1]
  unfold stL
  rw [h2, List.length_replicate]
def stR (vals : List Int) (n : Nat) (r : VV) (L : VHeap) : Prop := r = .ref n 0 0 vals.length vals.length ∧ L[0]? = some (.row 0 (vals.map nV) 1 true)
def stR1 (vals : List Int) (n : Nat) (r : VV) (L : VHeap) : Prop := r = .ref n 0 0 vals.length vals.length ∧ L = [.row 0 (vals.map nV) 1 true]
theorem stR1.to {vals : List Int} {n : Nat} {r : VV} {L : VHeap} (h : stR1 vals n r L) : stR vals n r L := ⟨h.1, by rw [h.2]; rfl⟩
end Go.PM
/- Words and small functions of those that ask for a right path. -/
namespace Go.PM
def stOk (rule srv : Int) (cs : List Cust) : Prop := (0 ≤ rule ∧ rule ≤ 3) ∧ (1 ≤ srv ∧ srv ≤ 8) ∧ custsOk cs
noncomputable instance (rule srv : Int) (cs : List Cust) : Decidable (stOk rule srv cs) := Classical.propDecidable _
theorem stL_mem {rule srv : Int} {cs : List Cust} : ∀ s ∈ stL rule srv cs, -1 ≤ s ∧ s ≤ 100000 := by
  have h1 : ∀ (n : Nat) (t : Int) (st : List Int), 0 ≤ t ∧ t ≤ 100000 → (∀ s ∈ st, -1 ≤ s ∧ s ≤ 100000) → ∀ s ∈ fill rule srv cs t n st, -1 ≤ s ∧ s ≤ 100000 := by
    intro n
    induction n with
    | zero => intro t st _ h; exact h
    | succ n ih =>
      intro t st ht h
      rw [fill]
      split
      · split
        · exact h
        · refine ih t _ ht fun s hs => ?_
          rcases List.mem_or_eq_of_mem_set hs with hs | rfl
          · exact h s hs
          · omega
      · exact h
  have h2 : ∀ (n : Nat) (t : Int) (st : List Int), 0 ≤ t → t + n ≤ 100000 → (∀ s ∈ st, -1 ≤ s ∧ s ≤ 100000) → ∀ s ∈ runT rule srv cs t n st, -1 ≤ s ∧ s ≤ 100000 := by
    intro n
    induction n with
    | zero => intro t st _ _ h; exact h
    | succ n ih =>
      intro t st ht hn h
      rw [runT]
      exact ih (t + 1) _ (by omega) (by omega) (h1 _ t st ⟨ht, by omega⟩ h)
  exact h2 _ _ _ (Int.le_refl _) (by simp) fun s hs => by
    have := List.eq_of_mem_replicate hs
    omega
theorem custsOk.mem {cs : List Cust} (h : custsOk cs) {c : Cust} (hc : c ∈ cs) : (0 ≤ c.t ∧ c.t ≤ 10000) ∧ (1 ≤ c.w ∧ c.w ≤ 1000) ∧ (0 ≤ c.k ∧ c.k ≤ 9) := by
  obtain ⟨i, hi⟩ := List.getElem?_of_mem hc
  exact h.at hi
theorem FC.mono {f : Nat} {args : List VV} {R R' : Nat → VV → VHeap → Prop} (h : FC f args R) (hR : ∀ n r L, R n r L → R' n r L) : FC f args R' := fun n => (h n).mono fun _ _ ⟨L, h1, h2, h3, h4⟩ => ⟨L, h1, h2, h3, hR _ _ _ h4⟩
theorem ImpI.all {rule srv : Int} {cs : List Cust} {st : List Int} {t : Int} {come : Nat} {ws : List Nat} {ends : List Int} (h : ImpI rule srv cs st t come ws ends) (hcome : ¬ come < cs.length) (hw : ¬ 0 < ws.length) : ∀ i, i < cs.length → 0 ≤ stC st i := by
  intro i hi
  have hcl := h.cle
  rcases Int.lt_or_le (stC st i) 0 with h1 | h1
  · have h2 : i ∈ wt cs st t := wt_mem.2 ⟨hi, h1, h.past i (by omega)⟩
    rw [← h.wsq, List.eq_nil_of_length_eq_zero (by omega : ws.length = 0)] at h2
    cases h2
  · exact h1
def mvI (g : Cust → Int) : List Cust → List Int → List Int
  | c :: cs, s :: st => (if 0 ≤ s then s + g c else s) :: mvI g cs st
  | _, _ => []
theorem mvI_len {g : Cust → Int} : ∀ {cs : List Cust} {st : List Int}, st.length = cs.length → (mvI g cs st).length = cs.length
  | [], [], _ => rfl
  | c :: cs, s :: st, h => by
    have h' : st.length = cs.length := by simpa using h
    rw [mvI, List.length_cons, mvI_len h', List.length_cons]
theorem mvI_get {g : Cust → Int} : ∀ {cs : List Cust} {st : List Int} {i : Nat} {c : Cust} {s : Int}, cs[i]? = some c → st[i]? = some s → (mvI g cs st)[i]? = some (if 0 ≤ s then s + g c else s)
  | [], _, _, _, _, h, _ => by simp at h
  | _ :: _, [], _, _, _, _, h => by simp at h
  | c :: cs, s :: st, 0, _, _, h1, h2 => by
    injection h1 with h1
    injection h2 with h2
    subst h1; subst h2
    rfl
  | c :: cs, s :: st, i + 1, _, _, h1, h2 => by
    rw [List.getElem?_cons_succ] at h1 h2
    rw [mvI, List.getElem?_cons_succ]
    exact mvI_get h1 h2
end Go.PM
/- Room for some: plain words. -/
namespace Go.PM
section
variable {rule srv room : Int} {cs : List Cust}
theorem StSys.endA (Y : StSys rule srv room cs) : ∀ (d : Nat) {m : Nat} {now : Int} {come : Nat} {ws : List Nat} {ends st : List Int}, cs.length - come ≤ d → Y.A m now come ws ends st → ∃ come' ws', Y.S m now come' ws' ends st := by
  intro d
  induction d with
  | zero =>
    intro m now come ws ends st hd hA
    exact ⟨come, ws, Y.toS hA fun h => by omega⟩
  | succ d ih =>
    intro m now come ws ends st hd hA
    by_cases h : come < cs.length ∧ atC cs come = now
    · exact ih (by omega) (Y.stepA hA h.1 h.2)
    · exact ⟨come, ws, Y.toS hA h⟩
theorem StSys.endS (Y : StSys rule srv room cs) : ∀ (d : Nat) {m : Nat} {now : Int} {come : Nat} {ws : List Nat} {ends st : List Int}, ws.length ≤ d → Y.S m now come ws ends st → ∃ m' ws' ends' st', m' < m ∧ Y.I m' come ws' ends' st' := by
  intro d
  induction d with
  | zero =>
    intro m now come ws ends st hd hS
    obtain ⟨m', h1, h2⟩ := Y.toI hS fun h => by omega
    exact ⟨m', ws, ends, st, h1, h2⟩
  | succ d ih =>
    intro m now come ws ends st hd hS
    by_cases h : (ends.length : Int) < srv ∧ 0 < ws.length
    · obtain ⟨k, h1, h2⟩ := Y.stepS hS h.1 h.2
      refine ih ?_ h2
      rw [List.length_eraseIdx_of_lt (List.getElem?_eq_some_iff.1 h1).1]
      omega
    · obtain ⟨m', h1, h2⟩ := Y.toI hS h
      exact ⟨m', ws, ends, st, h1, h2⟩
theorem StSys.reach (Y : StSys rule srv room cs) : ∃ m come ws ends st, Y.I m come ws ends st ∧ ¬ come < cs.length ∧ ¬ 0 < ws.length := by
  obtain ⟨m0, h0⟩ := Y.start
  have key : ∀ (d : Nat) {m come ws ends st}, m ≤ d → Y.I m come ws ends st → ∃ m come ws ends st, Y.I m come ws ends st ∧ ¬ come < cs.length ∧ ¬ 0 < ws.length := by
    intro d
    induction d with
    | zero =>
      intro m come ws ends st hd hI
      by_cases hg : come < cs.length ∨ 0 < ws.length
      · obtain ⟨come', ws', hS⟩ := Y.endA _ (Nat.le_refl _) (Y.toA hI hg)
        obtain ⟨m', ws'', ends', st', h1, h2⟩ := Y.endS _ (Nat.le_refl _) hS
        omega
      · exact ⟨m, come, ws, ends, st, hI, fun h => hg (.inl h), fun h => hg (.inr h)⟩
    | succ d ih =>
      intro m come ws ends st hd hI
      by_cases hg : come < cs.length ∨ 0 < ws.length
      · obtain ⟨come', ws', hS⟩ := Y.endA _ (Nat.le_refl _) (Y.toA hI hg)
        obtain ⟨m', ws'', ends', st', h1, h2⟩ := Y.endS _ (Nat.le_refl _) hS
        exact ih (by omega) h2
      · exact ⟨m, come, ws, ends, st, hI, fun h => hg (.inl h), fun h => hg (.inr h)⟩
  exact key m0 (Nat.le_refl _) h0
theorem stL_pos (hc : custsOk cs) (hr : 0 ≤ rule ∧ rule ≤ 3) (hs : 1 ≤ srv) : ∀ i, i < cs.length → 0 ≤ stC (stL rule srv cs) i := by
  obtain ⟨m, come, ws, ends, st, ⟨_, t, hI⟩, h1, h2⟩ := (stSys hc hr hs (Int.le_refl 24)).reach
  rw [← hI.done h1 h2]
  exact hI.all h1 h2
theorem runT_add (a : Nat) : ∀ (t : Int) (b : Nat) (st : List Int), runT rule srv cs t (a + b) st = runT rule srv cs (t + a) b (runT rule srv cs t a st) := by
  induction a with
  | zero => intro t b st; simp [runT]
  | succ a ih =>
    intro t b st
    rw [show a + 1 + b = (a + b) + 1 by omega, runT, runT, ih]
    congr 1
    omega
theorem fill_keep {t : Int} (h0 : 0 ≤ t) : ∀ (n : Nat) (st : List Int), st.length = cs.length → (fill rule srv cs t n st).length = cs.length ∧ ∀ i, i < cs.length → (0 ≤ stC st i → stC (fill rule srv cs t n st) i = stC st i) ∧ (stC st i < 0 → stC (fill rule srv cs t n st) i = stC st i ∨ t ≤ stC (fill rule srv cs t n st) i) := by
  intro n
  induction n with
  | zero => intro st hl; exact ⟨hl, fun i _ => ⟨fun _ => rfl, fun _ => .inl rfl⟩⟩
  | succ n ih =>
    intro st hl
    rw [fill]
    split
    · split
      · exact ⟨hl, fun i _ => ⟨fun _ => rfl, fun _ => .inl rfl⟩⟩
      · rename_i k hk
        obtain ⟨h2, h3, _⟩ := wt_mem.1 (nxt_mem hk)
        obtain ⟨g1, g2⟩ := ih (st.set k t) (by simp [hl])
        refine ⟨g1, fun i hi => ?_⟩
        obtain ⟨g3, g4⟩ := g2 i hi
        rw [stC_set (by omega)] at g3 g4
        by_cases hik : i = k
        · rw [if_pos hik] at g3 g4
          subst hik
          exact ⟨fun h => by omega, fun _ => .inr (by have := g3 h0; omega)⟩
        · rw [if_neg hik] at g3 g4
          exact ⟨g3, g4⟩
    · exact ⟨hl, fun i _ => ⟨fun _ => rfl, fun _ => .inl rfl⟩⟩
theorem runT_keep : ∀ (n : Nat) (t : Int) (st : List Int), 0 ≤ t → st.length = cs.length → (runT rule srv cs t n st).length = cs.length ∧ ∀ i, i < cs.length → (0 ≤ stC st i → stC (runT rule srv cs t n st) i = stC st i) ∧ (stC st i < 0 → stC (runT rule srv cs t n st) i < 0 ∨ t ≤ stC (runT rule srv cs t n st) i) := by
  intro n
  induction n with
  | zero => intro t st _ hl; exact ⟨hl, fun i _ => ⟨fun _ => rfl, fun h => .inl h⟩⟩
  | succ n ih =>
    intro t st h0 hl
    rw [runT]
    obtain ⟨f1, f2⟩ := fill_keep (rule := rule) (srv := srv) h0 cs.length st hl
    obtain ⟨g1, g2⟩ := ih (t + 1) _ (by omega) f1
    refine ⟨g1, fun i hi => ?_⟩
    obtain ⟨g3, g4⟩ := g2 i hi
    obtain ⟨f3, f4⟩ := f2 i hi
    refine ⟨fun h => by rw [g3 (by rw [f3 h]; exact h), f3 h], fun h => ?_⟩
    rcases f4 h with f5 | f5
    · rw [f5] at g4
      rcases g4 h with g5 | g5
      · exact .inl g5
      · exact .inr (by omega)
    · exact .inr (by rw [g3 (by omega)]; exact f5)
theorem atC_app {x : Cust} {i : Nat} (h : i < cs.length) : atC (cs ++ [x]) i = atC cs i := by unfold atC; rw [List.getElem?_append_left h]
theorem wkC_app {x : Cust} {i : Nat} (h : i < cs.length) : wkC (cs ++ [x]) i = wkC cs i := by unfold wkC; rw [List.getElem?_append_left h]
theorem klC_app {x : Cust} {i : Nat} (h : i < cs.length) : klC (cs ++ [x]) i = klC cs i := by unfold klC; rw [List.getElem?_append_left h]
theorem stC_app {st : List Int} {y : Int} {i : Nat} (h : i < st.length) : stC (st ++ [y]) i = stC st i := by unfold stC; rw [List.getElem?_append_left h]
theorem stC_last {st : List Int} {y : Int} : stC (st ++ [y]) st.length = y := stC_of (by simp)
theorem atC_last {x : Cust} : atC (cs ++ [x]) cs.length = x.t := atC_of (by simp)
theorem bz_app {x : Cust} {st : List Int} {t : Int} (hl : st.length = cs.length) : bz (cs ++ [x]) (st ++ [-1]) t = bz cs st t := by
  unfold bz
  rw [List.length_append, List.length_cons, List.length_nil, List.range_succ, List.countP_append, List.countP_singleton]
  have h1 : inS (cs ++ [x]) (st ++ [-1]) t cs.length = false := by
    unfold inS
    rw [← hl, stC_last]
    rfl
  rw [h1]
  simp only [Bool.false_eq_true, if_false, Nat.add_zero]
  refine List.countP_congr fun i hi => ?_
  rw [List.mem_range] at hi
  unfold inS
  rw [stC_app (by omega), wkC_app hi]
theorem wt_app {x : Cust} {st : List Int} {t : Int} (hl : st.length = cs.length) (ht : t < x.t) : wt (cs ++ [x]) (st ++ [-1]) t = wt cs st t := by
  unfold wt
  rw [List.length_append, List.length_cons, List.length_nil, List.range_succ, List.filter_append]
  have h1 : isW (cs ++ [x]) (st ++ [-1]) t cs.length = false := by
    unfold isW
    rw [atC_last, decide_eq_false (by omega : ¬ x.t ≤ t), Bool.and_false]
  rw [List.filter_cons_of_neg (by rw [h1]; decide), List.filter_nil, List.append_nil]
  refine List.filter_congr fun i hi => ?_
  rw [List.mem_range] at hi
  unfold isW
  rw [stC_app (by omega), atC_app hi]
theorem pick_app {x : Cust} {b : Option Nat} {i : Nat} (hi : i < cs.length) (hb : ∀ k, b = some k → k < cs.length) : pickW rule (cs ++ [x]) b i = pickW rule cs b i := by
  unfold pickW
  cases b with
  | none => rfl
  | some k =>
    have := hb k rfl
    have hbe : befo rule (cs ++ [x]) i k = befo rule cs i k := by unfold befo; rw [wkC_app hi, wkC_app this, klC_app hi, klC_app this]
    simp only [hbe]
theorem nxt_app {x : Cust} {st : List Int} {t : Int} (hl : st.length = cs.length) (ht : t < x.t) : nxt rule (cs ++ [x]) (st ++ [-1]) t = nxt rule cs st t := by
  unfold nxt
  rw [wt_app hl ht]
  have : ∀ (ws : List Nat), (∀ i ∈ ws, i < cs.length) → ∀ b : Option Nat, (∀ k, b = some k → k < cs.length) → ws.foldl (pickW rule (cs ++ [x])) b = ws.foldl (pickW rule cs) b := by
    intro ws
    induction ws with
    | nil => intro _ b _; rfl
    | cons i ws ih =>
      intro hw b hb
      have hi := hw i List.mem_cons_self
      rw [List.foldl_cons, List.foldl_cons, pick_app hi hb]
      refine ih (fun j hj => hw j (List.mem_cons_of_mem _ hj)) _ fun k hk => ?_
      unfold pickW at hk
      cases b with
      | none => injection hk with hk; omega
      | some q =>
        simp only at hk
        have := hb q rfl
        split at hk <;> (injection hk with hk; omega)
  exact this _ (fun i hi => (wt_mem.1 hi).1) none fun k hk => by cases hk
theorem fill_app {x : Cust} {t : Int} (ht : t < x.t) : ∀ (n : Nat) (st : List Int), st.length = cs.length → fill rule srv (cs ++ [x]) t n (st ++ [-1]) = fill rule srv cs t n st ++ [-1] := by
  intro n
  induction n with
  | zero => intro st _; rfl
  | succ n ih =>
    intro st hl
    rw [fill, fill, bz_app hl, nxt_app hl ht]
    split
    · split
      · rfl
      · rename_i k hk
        obtain ⟨h2, _, _⟩ := wt_mem.1 (nxt_mem hk)
        rw [List.set_append_left _ _ (by omega), ih _ (by simp [hl])]
    · rfl
theorem runT_app {x : Cust} : ∀ (n : Nat) (t : Int) (st : List Int), 0 ≤ t → t + n ≤ x.t → st.length = cs.length → runT rule srv (cs ++ [x]) t n (st ++ [-1]) = runT rule srv cs t n st ++ [-1] := by
  intro n
  induction n with
  | zero => intro t st _ _ _; rfl
  | succ n ih =>
    intro t st h0 ht hl
    have h1 := fill_keep (rule := rule) (srv := srv) h0 cs.length st hl
    have hul := unst_le (st := st ++ [-1])
    have e1 : fill rule srv (cs ++ [x]) t (cs ++ [x]).length (st ++ [-1]) = fill rule srv cs t cs.length st ++ [-1] := by
      rw [fill_app (by omega) _ _ hl]
      congr 1
      exact fill_more hl h0 _ _ (by have := unst_le (st := st); rw [List.length_append]; omega) (by have := unst_le (st := st); omega)
    rw [runT, runT, e1]
    exact ih _ _ (by omega) (by omega) h1.1
end
end Go.PM
/- Room for some: those who are kept, as customers of their own. -/
namespace Go.PM
def subC (cs : List Cust) (κ : List Nat) : List Cust := κ.map fun i => (cs[i]?).getD ⟨0, 0, 0⟩
def cntL (srv : Int) (K : List Cust) (t : Int) : Nat := (List.range K.length).countP fun j => decide (t < stC (stL 0 srv K) j + wkC K j)
def spK (srv room : Int) (cs : List Cust) : Nat → List Nat
  | 0 => []
  | i + 1 => if room ≤ (cntL srv (subC cs (spK srv room cs i)) (atC cs i) : Int) then spK srv room cs i else spK srv room cs i ++ [i]
section
variable {srv room : Int} {cs : List Cust} {κ : List Nat}
theorem subC_len : (subC cs κ).length = κ.length := by simp [subC]
theorem subC_get {j k : Nat} (hj : κ[j]? = some k) (hk : k < cs.length) : (subC cs κ)[j]? = cs[k]? := by
  unfold subC
  rw [List.getElem?_map, hj, Option.map_some, List.getElem?_eq_getElem hk, Option.getD_some]
theorem wkC_sub {j k : Nat} (hj : κ[j]? = some k) (hk : k < cs.length) : wkC (subC cs κ) j = wkC cs k := by unfold wkC; rw [subC_get hj hk]
theorem subC_app {i : Nat} : subC cs (κ ++ [i]) = subC cs κ ++ [(cs[i]?).getD ⟨0, 0, 0⟩] := by simp [subC]
theorem spK_mem : ∀ {n i : Nat}, i ∈ spK srv room cs n → i < n := by
  intro n
  induction n with
  | zero => intro i h; cases h
  | succ n ih =>
    intro i h
    rw [spK] at h
    split at h
    · exact Nat.lt_succ_of_lt (ih h)
    · rcases List.mem_append.1 h with h | h
      · exact Nat.lt_succ_of_lt (ih h)
      · rw [List.mem_singleton] at h
        omega
theorem spK_inc : ∀ n : Nat, (spK srv room cs n).Pairwise (· < ·) := by
  intro n
  induction n with
  | zero => exact List.Pairwise.nil
  | succ n ih =>
    rw [spK]
    split
    · exact ih
    · rw [List.pairwise_append]
      refine ⟨ih, List.pairwise_singleton _ _, fun a ha b hb => ?_⟩
      rw [List.mem_singleton] at hb
      rw [hb]
      exact spK_mem ha
theorem spK_len : ∀ n : Nat, (spK srv room cs n).length ≤ n := by
  intro n
  induction n with
  | zero => exact Nat.le_refl _
  | succ n ih =>
    rw [spK]
    split
    · omega
    · rw [List.length_append, List.length_cons, List.length_nil]; omega
theorem sub_ok (hc : custsOk cs) (hinc : κ.Pairwise (· < ·)) (hm : ∀ i ∈ κ, i < cs.length) (hl : κ.length ≤ 24) : custsOk (subC cs κ) := by
  refine ⟨fun j x hx => ?_, by rw [subC_len]; exact hl⟩
  have hjl : j < κ.length := by have := (List.getElem?_eq_some_iff.1 hx).1; rw [subC_len] at this; exact this
  have hk : κ[j]? = some κ[j] := List.getElem?_eq_getElem hjl
  have hkn := hm _ (List.getElem_mem hjl)
  rw [subC_get hk hkn] at hx
  refine ⟨(hc.1 _ x hx).1, fun b hj0 hb => ?_⟩
  have hk' : κ[j - 1]? = some κ[j - 1] := List.getElem?_eq_getElem (by omega)
  have hkn' := hm _ (List.getElem_mem (by omega : j - 1 < κ.length))
  rw [subC_get hk' hkn'] at hb
  have hlt : κ[j - 1] < κ[j] := List.pairwise_iff_getElem.1 hinc (j - 1) j (by omega) hjl (by omega)
  have := hc.sorted (Nat.le_of_lt hlt) hkn
  rw [atC_of hx, atC_of hb] at this
  exact this
structure RA (srv : Int) (K : List Cust) (sK : List Int) (now : Int) (wsK : List Nat) (ends : List Int) : Prop where
  way : Way K sK now
  arr : ∀ i, i < K.length → atC K i ≤ now
  wsq : wsK = (List.range K.length).filter (below0 sK)
  cnt : ∀ u, now ≤ u → ends.countP (gtB u) = bz K sK u
  ef : ∀ e ∈ ends, now < e
  eb : ∀ e ∈ ends, e + 1000 * (unst sK : Int) ≤ 11000 + 1000 * (K.length : Int)
  fwd : runT 0 srv K 0 now.toNat (List.replicate K.length (-1)) = sK
  es : (ends.length : Int) ≤ srv
variable {K : List Cust} {sK : List Int} {now t : Int} {wsK : List Nat} {ends : List Int}
theorem RA.run (h : RA srv K sK now wsK ends) (hK : custsOk K) : runT 0 srv K now (100000 - now).toNat sK = stL 0 srv K := by
  have htm := h.way.tm
  have hle := (h.way.le hK).1
  have e : (100000 : Nat) = now.toNat + (100000 - now).toNat := by omega
  unfold stL
  rw [e, runT_add, h.fwd]
  congr 1
  omega
theorem RA.wt (h : RA srv K sK now wsK ends) : wsK = wt K sK now := by
  rw [h.wsq, wt_come (Nat.le_refl _) h.arr fun i h1 h2 => by omega]
theorem RA.busy (h : RA srv K sK now wsK ends) : ends.length = bz K sK now := by
  rw [← h.cnt now (Int.le_refl _), (List.countP_eq_length (p := gtB now)).2 fun e he => decide_eq_true (h.ef e he)]
theorem countP_split {p q r : Nat → Bool} : ∀ n, (∀ i, i < n → (p i = true ↔ q i = true ∨ r i = true) ∧ ¬ (q i = true ∧ r i = true)) → (List.range n).countP p = (List.range n).countP q + (List.range n).countP r := by
  intro n
  induction n with
  | zero => intro _; rfl
  | succ n ih =>
    intro h
    rw [List.range_succ, List.countP_append, List.countP_append, List.countP_append, ih fun i hi => h i (by omega)]
    obtain ⟨h1, h2⟩ := h n (by omega)
    simp only [List.countP_singleton]
    cases hp : p n <;> cases hq : q n <;> cases hr : r n <;> simp [hp, hq, hr] at h1 h2 ⊢ <;> omega
theorem RA.count (h : RA srv K sK now wsK ends) (hK : custsOk K) (hs : 1 ≤ srv) : cntL srv K now = wsK.length + ends.length := by
  have hrun := h.run hK
  have htm := h.way.tm
  have hpos := stL_pos (rule := 0) (srv := srv) hK ⟨by decide, by decide⟩ hs
  have hkeep := (runT_keep (rule := 0) (srv := srv) (cs := K) (100000 - now).toNat now sK htm.1 h.way.len).2
  rw [hrun] at hkeep
  unfold cntL
  rw [countP_split (q := inS K sK now) (r := below0 sK)]
  · rw [h.busy, h.wsq, List.countP_eq_length_filter (p := below0 sK)]
    unfold bz
    omega
  · intro i hi
    obtain ⟨k1, k2⟩ := hkeep i hi
    have hw := (hK.bnd hi).2
    have hp := hpos i hi
    have hh := h.way.high i hi
    simp only [inS, below0, Bool.and_eq_true, decide_eq_true_eq]
    by_cases h0 : 0 ≤ stC sK i
    · have := k1 h0
      constructor
      · constructor
        · intro h3
          exact .inl ⟨⟨h0, hh⟩, by omega⟩
        · rintro (⟨_, h3⟩ | h3) <;> omega
      · omega
    · have := k2 (by omega)
      constructor
      · constructor
        · intro _; exact .inr (by omega)
        · intro _; omega
      · omega
theorem RA.come {x : Cust} (h : RA srv K sK now wsK ends) (hx : x.t = now) : RA srv (K ++ [x]) (sK ++ [-1]) now (wsK ++ [K.length]) ends := by
  have hl := h.way.len
  have htm := h.way.tm
  have hu : unst (sK ++ [-1]) = unst sK + 1 := by
    unfold unst
    rw [List.countP_append]
    rfl
  have hlen : (K ++ [x]).length = K.length + 1 := by simp
  have hst : ∀ i, i < K.length + 1 → stC (sK ++ [-1]) i = if i < K.length then stC sK i else -1 := by
    intro i hi
    split
    · exact stC_app (by omega)
    · have : i = sK.length := by omega
      rw [this]
      exact stC_last
  refine ⟨⟨by simp [hl], ?_, ?_, ?_, htm.1, ?_⟩, ?_, ?_, ?_, h.ef, ?_, ?_, h.es⟩
  · intro i hi
    rw [hst i (by omega)]
    split
    · exact h.way.low i (by assumption)
    · omega
  · intro i hi
    rw [hst i (by omega)]
    split
    · exact h.way.high i (by assumption)
    · omega
  · intro i hi
    rw [hst i (by omega), hu, hlen]
    split
    · rename_i h1
      have := h.way.bd i h1
      omega
    · have := unst_le (st := sK)
      omega
  · rw [hu, hlen]
    omega
  · intro i hi
    rcases Nat.lt_or_ge i K.length with h1 | h1
    · rw [atC_app h1]
      exact h.arr i h1
    · have : i = K.length := by omega
      rw [this, atC_last]
      omega
  · rw [hlen, List.range_succ, List.filter_append, h.wsq]
    congr 1
    · refine List.filter_congr fun i hi => ?_
      rw [List.mem_range] at hi
      unfold below0
      rw [stC_app (by omega)]
    · have : below0 (sK ++ [-1]) K.length = true := by
        unfold below0
        rw [← hl, stC_last]
        rfl
      rw [List.filter_cons_of_pos this]
      rfl
  · intro u hu
    rw [bz_app hl]
    exact h.cnt u hu
  · intro e he
    have := h.eb e he
    rw [hu, hlen]
    omega
  · rw [hlen, List.replicate_succ']
    have := runT_app (rule := 0) (srv := srv) (cs := K) (x := x) now.toNat 0 (List.replicate K.length (-1)) (Int.le_refl _) (by omega) (by simp)
    rw [this, h.fwd]
theorem RA.of (h : ImpI 0 srv K sK t K.length wsK ends) (hf : runT 0 srv K 0 (t + 1).toNat (List.replicate K.length (-1)) = sK) (ht : t < now) (hn : now + 1000 * (unst sK : Int) ≤ 11000 + 1000 * (K.length : Int)) (hq : ∀ u, t < u → u < now → full 0 srv K sK u) :
    RA srv K sK now wsK (ends.filter (gtB now)) := by
  have htm := h.tm
  refine ⟨⟨h.len, h.low, fun i hi => by have := h.high i hi; omega, h.bd, by omega, hn⟩, fun i hi => by have := h.past i hi; omega, ?_, ?_, ?_, ?_, ?_, ?_⟩
  · rw [← wt_come (st := sK) h.cle h.past fun i h3 h4 => by omega]
    exact h.wsq
  · intro u hu
    rw [List.countP_filter, ← h.cnt u (by omega)]
    refine List.countP_congr fun e he => ?_
    simp only [gtB, Bool.and_eq_true, decide_eq_true_eq]
    omega
  · intro e he
    have := (List.mem_filter.1 he).2
    simpa [gtB] using this
  · intro e he
    exact h.eb e (List.mem_filter.1 he).1
  · rw [show now.toNat = (t + 1).toNat + (now - (t + 1)).toNat by omega, runT_add, hf]
    have := runT_skip (rule := 0) (srv := srv) (cs := K) (st := sK) (now - (t + 1)).toNat (0 + ((t + 1).toNat : Int)) (now - (t + 1)).toNat (fun u h1 h2 => hq u (by omega) (by omega)) (Nat.le_refl _)
    rw [this, Nat.sub_self]
    rfl
  · have := List.length_filter_le (gtB now) ends
    have := h.es
    omega
theorem RA.ph (h : RA srv K sK now wsK ends) : Ph4 0 srv K sK now K.length (wsK.length + ends.length) sK wsK ends :=
  ⟨h.way, h.wt, h.cnt, h.ef, h.eb, rfl, h.arr, fun i h1 h2 => by omega, rfl, h.es⟩
theorem ImpI.quiet (h : ImpI 0 srv K sK t K.length wsK ends) (hn : 0 < wsK.length → ∀ e ∈ ends, now ≤ e) : ∀ u, t < u → u < now → full 0 srv K sK u := by
  intro u h1 h2
  by_cases hw : 0 < wsK.length
  · left
    have hbz : srv ≤ (bz K sK t : Int) := by
      rcases h.fl with hf | hf
      · exact hf
      · rw [nxt_none, ← h.wsq] at hf
        rw [hf] at hw
        simp at hw
    rw [← h.cnt u (by omega), (List.countP_eq_length (p := gtB u)).2 fun e he => decide_eq_true (by have := hn hw e he; omega), h.cntAll]
    exact hbz
  · right
    rw [nxt_none, wt_come (Nat.le_refl _) (fun i hi => by have := h.past i hi; omega) fun i h3 h4 => by omega]
    have e1 := wt_come (st := sK) h.cle h.past fun i h3 h4 => (h.fut i h3 h4).1
    rw [← e1, ← h.wsq]
    exact List.eq_nil_of_length_eq_zero (by omega)
end
end Go.PM
/- Room for some: what holds of the program on its way. -/
namespace Go.PM
section
variable {srv room : Int} {cs : List Cust} {κ : List Nat}
abbrev kAt (κ : List Nat) (j : Nat) : Nat := (κ[j]?).getD 0
abbrev sKo (κ : List Nat) (st : List Int) : List Int := κ.map (stC st)
theorem stC_sKo {st : List Int} {j k : Nat} (hj : κ[j]? = some k) : stC (sKo κ st) j = stC st k := stC_of (by rw [List.getElem?_map, hj]; rfl)
theorem sKo_set {st : List Int} {j k : Nat} {v : Int} (hn : κ.Nodup) (hj : κ[j]? = some k) (hk : k < st.length) : sKo κ (st.set k v) = (sKo κ st).set j v := by
  apply List.ext_getElem?
  intro i
  rw [List.getElem?_map, List.getElem?_set, List.getElem?_map]
  have hjl := (List.getElem?_eq_some_iff.1 hj).1
  by_cases hij : j = i
  · subst hij
    rw [if_pos rfl, hj, if_pos (by simpa using hjl)]
    simp only [Option.map_some]
    rw [stC_set hk, if_pos rfl]
  · rw [if_neg hij]
    cases hi : κ[i]? with
    | none => rfl
    | some q =>
      simp only [Option.map_some]
      rw [stC_set hk, if_neg]
      intro he
      subst he
      have h1 := List.getElem?_eq_some_iff.1 hi
      have h2 := List.getElem?_eq_some_iff.1 hj
      have h3 := List.pairwise_iff_getElem.1 hn
      rcases Nat.lt_or_gt_of_ne hij with h4 | h4
      · exact h3 j i h2.1 h1.1 h4 (h2.2.trans h1.2.symm)
      · exact h3 i j h1.1 h2.1 h4 (h1.2.trans h2.2.symm)
structure RB (srv room : Int) (cs : List Cust) (come : Nat) (st : List Int) (κ : List Nat) : Prop where
  kq : κ = spK srv room cs come
  sl : st.length = cs.length
  ls : ∀ i, i < cs.length → i ∉ κ → stC st i = -1
  c1 : come ≤ cs.length
theorem RB.mem {come : Nat} {st : List Int} (h : RB srv room cs come st κ) {i : Nat} (hi : i ∈ κ) : i < come := by rw [h.kq] at hi; exact spK_mem hi
theorem RB.nd {come : Nat} {st : List Int} (h : RB srv room cs come st κ) : κ.Nodup := by
  rw [h.kq]
  exact (spK_inc come).imp fun h => Nat.ne_of_lt h
theorem RB.kl {come : Nat} {st : List Int} (h : RB srv room cs come st κ) : κ.length ≤ come := by rw [h.kq]; exact spK_len come
theorem RB.ok {come : Nat} {st : List Int} (h : RB srv room cs come st κ) (hc : custsOk cs) : custsOk (subC cs κ) := by
  have := hc.2
  have := h.kl
  have := h.c1
  refine sub_ok hc (by rw [h.kq]; exact spK_inc come) (fun i hi => by have := h.mem hi; omega) (by omega)
structure RI (srv room : Int) (cs : List Cust) (m come : Nat) (ws : List Nat) (ends st : List Int) (t : Int) (κ wsK : List Nat) : Prop where
  b : RB srv room cs come st κ
  imp : ImpI 0 srv (subC cs κ) (sKo κ st) t (subC cs κ).length wsK ends
  fwd : runT 0 srv (subC cs κ) 0 (t + 1).toNat (List.replicate (subC cs κ).length (-1)) = sKo κ st
  wsq : ws = wsK.map (kAt κ)
  fut : ∀ i, come ≤ i → i < cs.length → t < atC cs i
  ms : m = 2 * (cs.length - come) + ws.length
structure RAf (srv room : Int) (cs : List Cust) (m : Nat) (now : Int) (come : Nat) (ws : List Nat) (ends st : List Int) (κ wsK : List Nat) : Prop where
  b : RB srv room cs come st κ
  ra : RA srv (subC cs κ) (sKo κ st) now wsK ends
  wsq : ws = wsK.map (kAt κ)
  fut : ∀ i, come ≤ i → i < cs.length → now ≤ atC cs i
  ms : 2 * (cs.length - come) + ws.length < m ∨ (2 * (cs.length - come) + ws.length = m ∧ ((come < cs.length ∧ atC cs come = now) ∨ (0 < ws.length ∧ (ends.length : Int) < srv)))
structure RS (srv room : Int) (cs : List Cust) (m : Nat) (now : Int) (come : Nat) (ws : List Nat) (ends st : List Int) (κ wsK : List Nat) (sK0 : List Int) (w2 e2 : Nat) : Prop where
  b : RB srv room cs come st κ
  ph : Ph4 0 srv (subC cs κ) sK0 now (subC cs κ).length (w2 + e2) (sKo κ st) wsK ends
  fwd : runT 0 srv (subC cs κ) 0 now.toNat (List.replicate (subC cs κ).length (-1)) = sK0
  tc : w2 + e2 ≤ (subC cs κ).length
  wsq : ws = wsK.map (kAt κ)
  wle : wsK.length ≤ w2
  fut : ∀ i, come ≤ i → i < cs.length → now < atC cs i
  ms : 2 * (cs.length - come) + w2 < m ∨ (2 * (cs.length - come) + w2 = m ∧ 0 < w2 ∧ (e2 : Int) < srv)
theorem RA.le {K : List Cust} {sK : List Int} {now : Int} {wsK : List Nat} {ends : List Int} (h : RA srv K sK now wsK ends) (hK : custsOk K) (hs : 1 ≤ srv) : wsK.length + ends.length ≤ K.length := by
  rw [← h.count hK hs]
  unfold cntL
  have := List.countP_le_length (p := fun j => decide (now < stC (stL 0 srv K) j + wkC K j)) (l := List.range K.length)
  simpa using this
theorem RI.toA {m come : Nat} {ws : List Nat} {ends st : List Int} {t : Int} {wsK : List Nat} (h : RI srv room cs m come ws ends st t κ wsK) (hc : custsOk cs) (hs : 1 ≤ srv) (hg : come < cs.length ∨ 0 < ws.length) :
    RAf srv room cs m (nowN cs come ws ends) come ws (ends.filter (gtB (nowN cs come ws ends))) st κ wsK := by
  have hwl : ws.length = wsK.length := by rw [h.wsq, List.length_map]
  have htm := h.imp.tm
  have hul := unst_le (st := sKo κ st)
  have hsk := h.imp.len
  have he0 : ∀ e ∈ ends, 0 ≤ e := fun e he => by have := h.imp.ef e he; omega
  have key : (t < nowN cs come ws ends ∧ nowN cs come ws ends + 1000 * (unst (sKo κ st) : Int) ≤ 11000 + 1000 * ((subC cs κ).length : Int)) ∧ (∀ i, come ≤ i → i < cs.length → nowN cs come ws ends ≤ atC cs i) ∧ (0 < wsK.length → ∀ e ∈ ends, nowN cs come ws ends ≤ e) ∧
      (come < cs.length ∧ atC cs come = nowN cs come ws ends ∨ 0 < ws.length ∧ nowN cs come ws ends ∈ ends) := by
    by_cases hw : 0 < ws.length
    · have hbz : srv ≤ (bz (subC cs κ) (sKo κ st) t : Int) := by
        rcases h.imp.fl with hf | hf
        · exact hf
        · rw [nxt_none, ← h.imp.wsq] at hf
          rw [hwl, hf] at hw
          simp at hw
      have hne : ends ≠ [] := by
        intro he
        have := h.imp.cntAll
        rw [he] at this
        simp at this
        omega
      obtain ⟨g1, g2, g3, g4⟩ := mn_on (es := ends) (b := now0 cs come) he0
      have hnow : nowN cs come ws ends = ends.foldl (mnF true) (now0 cs come) := by unfold nowN; rw [decide_eq_true hw]
      rw [hnow]
      generalize ends.foldl (mnF true) (now0 cs come) = w at *
      have g4 := g4 hne
      have hcase : (come < cs.length ∧ atC cs come = w) ∨ w ∈ ends := by
        rcases g1 with g1 | g1
        · unfold now0 at g1
          split at g1
          · rename_i hcl
            exact .inl ⟨hcl, g1.symm⟩
          · omega
        · exact .inr g1
      refine ⟨?_, fun i h1 h2 => ?_, fun _ => g2, hcase.imp id fun h1 => ⟨hw, h1⟩⟩
      · rcases hcase with ⟨h1, h2⟩ | h1
        · have := h.fut come (Nat.le_refl _) h1
          have := hc.bnd h1
          omega
        · exact ⟨h.imp.ef _ h1, h.imp.eb _ h1⟩
      · have h3 := hc.sorted h1 h2
        have h4 := hc.bnd (i := come) (by omega)
        have h5 : now0 cs come = atC cs come := by unfold now0; rw [if_pos (by omega)]
        have := g3 (by rw [h5]; omega)
        omega
    · have hcl : come < cs.length := by omega
      have h5 : now0 cs come = atC cs come := by unfold now0; rw [if_pos hcl]
      have h4 := hc.bnd hcl
      have hf := h.fut come (Nat.le_refl _) hcl
      have hnow : nowN cs come ws ends = atC cs come := by unfold nowN; rw [decide_eq_false hw, mn_off (by rw [h5]; omega), h5]
      rw [hnow]
      exact ⟨⟨hf, by omega⟩, fun i h1 h2 => hc.sorted h1 h2, fun h6 => by omega, .inl ⟨hcl, rfl⟩⟩
  obtain ⟨⟨k1, k2⟩, k3, k4, k5⟩ := key
  generalize nowN cs come ws ends = now at *
  refine ⟨h.b, RA.of h.imp h.fwd k1 k2 (h.imp.quiet k4), h.wsq, k3, .inr ⟨h.ms.symm, ?_⟩⟩
  rcases k5 with k5 | ⟨k5, k6⟩
  · exact .inl k5
  · right
    refine ⟨k5, ?_⟩
    have hlt : (ends.filter (gtB now)).length < ends.length := by
      rcases Nat.lt_or_ge (ends.filter (gtB now)).length ends.length with h3 | h3
      · exact h3
      · have h4 := List.length_filter_le (gtB now) ends
        have h5 := (List.length_filter_eq_length_iff (p := gtB now) (l := ends)).1 (by omega) now k6
        simp [gtB] at h5
    have := h.imp.es
    omega
theorem RAf.step {m : Nat} {now : Int} {come : Nat} {ws : List Nat} {ends st : List Int} {wsK : List Nat} (h : RAf srv room cs m now come ws ends st κ wsK) (hc : custsOk cs) (hs : 1 ≤ srv) (hlt : come < cs.length) (hat : atC cs come = now) :
    ∃ κ' wsK', RAf srv room cs m now (come + 1) (if (ws.length : Int) + (ends.length : Int) < room then ws ++ [come] else ws) ends st κ' wsK' := by
  have hK := h.b.ok hc
  have hcnt := h.ra.count hK hs
  have hwl : ws.length = wsK.length := by rw [h.wsq, List.length_map]
  have hni : come ∉ κ := fun hi => Nat.lt_irrefl _ (h.b.mem hi)
  have hsp : spK srv room cs (come + 1) = if room ≤ (cntL srv (subC cs κ) now : Int) then κ else κ ++ [come] := by rw [spK, ← h.b.kq, hat]
  have hms := h.ms
  by_cases hr : (ws.length : Int) + (ends.length : Int) < room
  · rw [if_pos hr]
    rw [if_neg (by omega)] at hsp
    have hx : cs[come]? = some cs[come] := List.getElem?_eq_getElem hlt
    have hK' : subC cs (κ ++ [come]) = subC cs κ ++ [cs[come]] := by rw [subC_app, hx]; rfl
    have hst : stC st come = -1 := h.b.ls come hlt hni
    have hsK' : sKo (κ ++ [come]) st = sKo κ st ++ [-1] := by rw [sKo, List.map_append, List.map_cons, List.map_nil, hst]
    have hlen : (subC cs κ).length = κ.length := subC_len
    refine ⟨κ ++ [come], wsK ++ [(subC cs κ).length], ⟨hsp.symm, h.b.sl, fun i hi hn => h.b.ls i hi fun hm => hn (List.mem_append_left _ hm), by omega⟩, ?_, ?_, fun i h1 h2 => h.fut i (by omega) h2, .inl ?_⟩
    · rw [hK', hsK']
      exact h.ra.come (by rw [← atC_of hx]; exact hat)
    · rw [List.map_append, h.wsq]
      congr 1
      · refine List.map_congr_left fun j hj => ?_
        have hjl : j < κ.length := by
          rw [h.ra.wsq] at hj
          have := List.mem_range.1 (List.mem_filter.1 hj).1
          omega
        unfold kAt
        rw [List.getElem?_append_left hjl]
      · rw [List.map_cons, List.map_nil, hlen]
        unfold kAt
        rw [List.getElem?_append_right (Nat.le_refl _), Nat.sub_self]
        rfl
    · rw [List.length_append, List.length_cons, List.length_nil]
      omega
  · rw [if_neg hr]
    rw [if_pos (by omega)] at hsp
    exact ⟨κ, wsK, ⟨hsp.symm, h.b.sl, h.b.ls, by omega⟩, h.ra, h.wsq, fun i h1 h2 => h.fut i (by omega) h2, .inl (by omega)⟩
theorem RAf.toS {m : Nat} {now : Int} {come : Nat} {ws : List Nat} {ends st : List Int} {wsK : List Nat} (h : RAf srv room cs m now come ws ends st κ wsK) (hc : custsOk cs) (hs : 1 ≤ srv) (hng : ¬ (come < cs.length ∧ atC cs come = now)) :
    RS srv room cs m now come ws ends st κ wsK (sKo κ st) wsK.length ends.length := by
  have hwl : ws.length = wsK.length := by rw [h.wsq, List.length_map]
  refine ⟨h.b, h.ra.ph, h.ra.fwd, h.ra.le (h.b.ok hc) hs, h.wsq, Nat.le_refl _, fun i h1 h2 => ?_, ?_⟩
  · have h3 := hc.sorted h1 h2
    have h4 := h.fut come (Nat.le_refl _) (by omega)
    have h5 : atC cs come ≠ now := fun he => hng ⟨by omega, he⟩
    omega
  · rcases h.ms with h1 | ⟨h1, h2 | h2⟩
    · exact .inl (by omega)
    · exact absurd h2 hng
    · exact .inr ⟨by omega, by omega, h2.2⟩
theorem RS.step {m : Nat} {now : Int} {come : Nat} {ws : List Nat} {ends st : List Int} {wsK : List Nat} {sK0 : List Int} {w2 e2 : Nat} (h : RS srv room cs m now come ws ends st κ wsK sK0 w2 e2) (hc : custsOk cs) (hb : (ends.length : Int) < srv) (hne : 0 < ws.length) :
    ∃ k, ws[nextP 0 cs ws]? = some k ∧ RS srv room cs m now come (ws.eraseIdx (nextP 0 cs ws)) (ends ++ [now + wkC cs k]) (st.set k now) κ (wsK.eraseIdx 0) sK0 w2 e2 := by
  have hwl : ws.length = wsK.length := by rw [h.wsq, List.length_map]
  have hn0 : ∀ (c : List Cust) (l : List Nat), nextP 0 c l = 0 := fun c l => rfl
  obtain ⟨j, h1, h2, h3, h4, h5⟩ := h.ph.step (h.b.ok hc) ⟨by decide, by decide⟩ hb (by omega)
  rw [hn0] at h1 h3 h5
  rw [hn0]
  have hjl : j < κ.length := by rw [← subC_len (cs := cs)]; exact h2
  have hk : κ[j]? = some κ[j] := List.getElem?_eq_getElem hjl
  have hkc := h.b.mem (List.getElem_mem hjl)
  have hkN : κ[j] < cs.length := by have := h.b.c1; omega
  have hsl := h.b.sl
  refine ⟨κ[j], ?_, ⟨h.b.kq, by simp [hsl], fun i hi hn => ?_, h.b.c1⟩, ?_, h.fwd, h.tc, ?_, ?_, h.fut, h.ms⟩
  · rw [h.wsq, List.getElem?_map, h1]
    simp only [Option.map_some, kAt, hk, Option.getD_some]
  · rw [stC_set (by omega), if_neg (fun he => hn (by rw [he]; exact List.getElem_mem hjl))]
    exact h.b.ls i hi hn
  · rw [sKo_set h.b.nd hk (by omega), ← wkC_sub (cs := cs) hk hkN]
    exact h5
  · rw [h.wsq]
    cases wsK with
    | nil => rfl
    | cons a l => rfl
  · rw [List.length_eraseIdx_of_lt h3]
    have := h.wle
    omega
theorem RS.toI {m : Nat} {now : Int} {come : Nat} {ws : List Nat} {ends st : List Int} {wsK : List Nat} {sK0 : List Int} {w2 e2 : Nat} (h : RS srv room cs m now come ws ends st κ wsK sK0 w2 e2) (hc : custsOk cs) (hng : ¬ ((ends.length : Int) < srv ∧ 0 < ws.length)) :
    ∃ m', m' < m ∧ RI srv room cs m' come ws ends st now κ wsK := by
  have hwl : ws.length = wsK.length := by rw [h.wsq, List.length_map]
  have htot := h.ph.tot
  have hwle := h.wle
  have htm := h.ph.way.tm
  have hK := h.b.ok hc
  have hle := (h.ph.way.le hK).1
  have hor : srv ≤ (ends.length : Int) ∨ wsK = [] := by
    by_cases hw : 0 < ws.length
    · exact .inl (by have : ¬ (ends.length : Int) < srv := fun he => hng ⟨he, hw⟩; omega)
    · exact .inr (List.eq_nil_of_length_eq_zero (by omega))
  have hrun : runT 0 srv (subC cs κ) now (100000 - now).toNat sK0 = stL 0 srv (subC cs κ) := by
    unfold stL
    rw [show (100000 : Nat) = now.toNat + (100000 - now).toNat by omega, runT_add, h.fwd]
    congr 1
    omega
  have himp := h.ph.done hK (Nat.le_refl _) h.tc hor hrun
  refine ⟨2 * (cs.length - come) + ws.length, ?_, h.b, himp, ?_, h.wsq, h.fut, rfl⟩
  · rcases h.ms with h1 | ⟨h1, h2, h3⟩
    · omega
    · by_cases hw : 0 < ws.length
      · have : ¬ (ends.length : Int) < srv := fun he => hng ⟨he, hw⟩
        omega
      · omega
  · rw [show (now + 1).toNat = now.toNat + 1 by omega, runT_add, h.fwd, runT, runT, show (0 : Int) + (now.toNat : Int) = now by omega, ← h.ph.fl]
    exact fill_full himp.fl _
end
structure RmEnd (srv room : Int) (cs : List Cust) (st : List Int) : Prop where
  sl : st.length = cs.length
  kept : sKo (spK srv room cs cs.length) st = stL 0 srv (subC cs (spK srv room cs cs.length))
  lost : ∀ i, i < cs.length → i ∉ spK srv room cs cs.length → stC st i = -1
end Go.PM
