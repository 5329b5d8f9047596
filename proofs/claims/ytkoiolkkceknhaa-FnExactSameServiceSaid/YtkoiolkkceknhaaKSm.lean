/- Texts of a claim, in one: part 13. -/
import Derived.KernelRfl
import Derived.Test.YtkoiolkkceknhaaKSl

/- The pure machine's form of functions, as the settings give it: S2. -/
set_option linter.unusedSimpArgs false
set_option linter.unusedVariables false
namespace Go.PM
def spec_l02Texts_b0 : PCode := (.seq (.seq (.reg [⟨(some 11), (.mv (.tmp 5)), none, false, []⟩, ⟨(some 12), (.mv (.tmp 0)), none, false, []⟩, ⟨(some 13), (.len (.tmp 12)), none, false, []⟩, ⟨(some 14), (.bin .lss (.tmp 11) (.tmp 13)), none, false, []⟩]) (.cond (.tmp 14) .skip (.exit 0))) (.seq (.block 1 (.seq (.reg [⟨(some 17), (.mv (.tmp 0)), none, false, []⟩, ⟨(some 18), (.mv (.tmp 5)), none, false, []⟩, ⟨(some 19), (.iaddr 1 (.tmp 17) (.tmp 18)), none, false, []⟩, ⟨(some 20), (.load false 1 (.tmp 19)), none, false, []⟩, ⟨(some 21), (.mv (.tmp 1)), none, false, []⟩, ⟨(some 22), (.mv (.tmp 5)), none, false, []⟩, ⟨(some 23), (.iaddr 1 (.tmp 21) (.tmp 22)), none, false, []⟩, ⟨(some 24), (.load false 1 (.tmp 23)), none, false, []⟩, ⟨(some 25), (.bin .neq (.tmp 20) (.tmp 24)), none, false, []⟩]) (.cond (.tmp 25) (.seq (.reg [⟨(some 4), (.mv (.const (.bool false))), none, false, []⟩]) .ret) .skip))) (.reg [⟨(some 15), (.mv (.tmp 5)), none, false, []⟩, ⟨(some 16), (.bin .add (.tmp 15) (.const (.int .i64 1))), none, false, []⟩, ⟨(some 5), (.mv (.tmp 16)), none, false, []⟩])))
def spec_l02Texts_c : PCode := (.seq (.reg [⟨(some 4), (.mv (.const (.bool false))), none, false, []⟩]) (.seq (.seq (.reg [⟨(some 6), (.mv (.tmp 0)), none, false, []⟩, ⟨(some 7), (.len (.tmp 6)), none, false, []⟩, ⟨(some 8), (.mv (.tmp 1)), none, false, []⟩, ⟨(some 9), (.len (.tmp 8)), none, false, []⟩, ⟨(some 10), (.bin .neq (.tmp 7) (.tmp 9)), none, false, []⟩]) (.cond (.tmp 10) (.seq (.reg [⟨(some 4), (.mv (.const (.bool false))), none, false, []⟩]) .ret) .skip)) (.seq (.seq (.reg [⟨(some 5), (.mv (.const (.int .i64 0))), none, false, []⟩]) (.block 0 (.loop spec_l02Texts_b0))) (.seq (.reg [⟨(some 4), (.mv (.const (.bool true))), none, false, []⟩]) .ret))))
def spec_l02Texts : PFunc := ⟨26, [(.tmp 4)], spec_l02Texts_c⟩
theorem spec_l02Texts_t : tab 69 = some spec_l02Texts := by kernel_rfl
end Go.PM

/- SameService: the program and the reference, walked. -/
namespace Go.PM

theorem slices_Equal_str_v (xs ys : List ByteArray) (hn : xs.length ≤ 1000000000) : TC 72 [listV sV xs, listV sV ys] (.sc (.bool (decide (xs = ys)))) := by
  refine TC.walk ⟨true, false⟩ slices_Equal___string_string__t rfl (Nat.le_of_ble_eq_true rfl) (by simp only [pureL, strsV_pure, Bool.and_self]) rfl ?_
  by_cases hl : (xs.length : Int) = (ys.length : Int)
  · simp only [slices_Equal___string_string_, slices_Equal___string_string__c, hl, VX, Nat.reduceEqDiff, Nat.reduceAdd]
    refine VW_loop (fun (i : Nat) ρ H => i ≤ xs.length ∧ H = [] ∧ xs.take i = ys.take i ∧ ρ 0 = listV sV xs ∧ ρ 1 = listV sV ys ∧ ρ 12 = VI ys.length ∧ ρ 13 = VI i) (fun i => xs.length - i) 0 ⟨Nat.zero_le _, rfl, by simp, by (repeat' apply And.intro) <;> rfl⟩ ?_
    rintro i ρ H ⟨hi, rfl, ht, h0, h1, h12, h5⟩
    by_cases hin : (i : Int) < (ys.length : Int)
    · obtain ⟨x, hx⟩ : ∃ x, xs[i]? = some x := ⟨_, List.getElem?_eq_getElem (by omega)⟩
      obtain ⟨y, hy⟩ : ∃ y, ys[i]? = some y := ⟨_, List.getElem?_eq_getElem (by omega)⟩
      have e1 := viaddr_map (f := sV) (t := .op) (H := []) (size := 1) (k := .i64) hx rfl
      have e2 := viaddr_map (f := sV) (t := .op) (H := []) (size := 1) (k := .i64) hy rfl
      have wi : IntKind.i64.wrap ((i : Int) + 1) = ((i + 1 : Nat) : Int) := wrapN (i + 1) (by omega) (by omega)
      by_cases hxy : x = y
      · subst hxy
        simp only [slices_Equal___string_string__b0, pbin_neq_str, h0, h1, h12, h5, hin, e1, e2, wi, VX, Nat.reduceEqDiff, Nat.reduceAdd]
        refine ⟨i + 1, by omega, by omega, ?_⟩
        rw [List.take_add_one, List.take_add_one, hx, hy, ht]
        (repeat' apply And.intro) <;> first | rfl | trivial | assumption
      · skip
        simp only [slices_Equal___string_string__b0, pbin_neq_str, h0, h1, h12, h5, hin, e1, e2, hxy, VX, Nat.reduceEqDiff, Nat.reduceAdd]
        have : ¬ xs = ys := fun h => hxy (by rw [h, hy] at hx; injection hx with hx; exact hx.symm)
        simp only [this, decide_false]
        exact fz_res rfl
    · simp only [slices_Equal___string_string__b0, h0, h1, h12, h5, hin, VX, Nat.reduceEqDiff, Nat.reduceAdd]
      have : xs = ys := by
        rw [List.take_of_length_le (by omega), List.take_of_length_le (by omega)] at ht
        exact ht
      simp only [this, decide_true]
      exact fz_res rfl
  · simp only [slices_Equal___string_string_, slices_Equal___string_string__c, hl, VX, Nat.reduceEqDiff, Nat.reduceAdd]
    have : ¬ xs = ys := fun h => hl (by rw [h])
    simp only [this, decide_false]
    exact fz_res rfl

theorem spec_l02Texts_v (xs ys : List ByteArray) (hn : xs.length ≤ 1000000000) : TC 69 [listV sV xs, listV sV ys] (.sc (.bool (decide (xs = ys)))) := by
  refine TC.walk ⟨true, false⟩ spec_l02Texts_t rfl (Nat.le_of_ble_eq_true rfl) (by simp only [pureL, strsV_pure, Bool.and_self]) rfl ?_
  by_cases hl : (xs.length : Int) = (ys.length : Int)
  · simp only [spec_l02Texts, spec_l02Texts_c, hl, VX, Nat.reduceEqDiff, Nat.reduceAdd]
    refine VW_loop (fun (i : Nat) ρ H => i ≤ xs.length ∧ H = [] ∧ xs.take i = ys.take i ∧ ρ 0 = listV sV xs ∧ ρ 1 = listV sV ys ∧ ρ 5 = VI i) (fun i => xs.length - i) 0 ⟨Nat.zero_le _, rfl, by simp, by (repeat' apply And.intro) <;> rfl⟩ ?_
    rintro i ρ H ⟨hi, rfl, ht, h0, h1, h5⟩
    by_cases hin : (i : Int) < (xs.length : Int)
    · obtain ⟨x, hx⟩ : ∃ x, xs[i]? = some x := ⟨_, List.getElem?_eq_getElem (by omega)⟩
      obtain ⟨y, hy⟩ : ∃ y, ys[i]? = some y := ⟨_, List.getElem?_eq_getElem (by omega)⟩
      have e1 := viaddr_map (f := sV) (t := .op) (H := []) (size := 1) (k := .i64) hx rfl
      have e2 := viaddr_map (f := sV) (t := .op) (H := []) (size := 1) (k := .i64) hy rfl
      have wi : IntKind.i64.wrap ((i : Int) + 1) = ((i + 1 : Nat) : Int) := wrapN (i + 1) (by omega) (by omega)
      by_cases hxy : x = y
      · subst hxy
        simp only [spec_l02Texts_b0, pbin_neq_str, h0, h1, h5, hin, e1, e2, wi, VX, Nat.reduceEqDiff, Nat.reduceAdd]
        refine ⟨i + 1, by omega, by omega, ?_⟩
        rw [List.take_add_one, List.take_add_one, hx, hy, ht]
        (repeat' apply And.intro) <;> first | rfl | trivial | assumption
      · skip
        simp only [spec_l02Texts_b0, pbin_neq_str, h0, h1, h5, hin, e1, e2, hxy, VX, Nat.reduceEqDiff, Nat.reduceAdd]
        have : ¬ xs = ys := fun h => hxy (by rw [h, hy] at hx; injection hx with hx; exact hx.symm)
        simp only [this, decide_false]
        exact fz_res rfl
    · simp only [spec_l02Texts_b0, h0, h1, h5, hin, VX, Nat.reduceEqDiff, Nat.reduceAdd]
      have : xs = ys := by
        rw [List.take_of_length_le (by omega), List.take_of_length_le (by omega)] at ht
        exact ht
      simp only [this, decide_true]
      exact fz_res rfl
  · simp only [spec_l02Texts, spec_l02Texts_c, hl, VX, Nat.reduceEqDiff, Nat.reduceAdd]
    have : ¬ xs = ys := fun h => hl (by rw [h])
    simp only [this, decide_false]
    exact fz_res rfl

theorem impl_SameChain_1_v (xs ys : List ByteArray) (hn : xs.length ≤ 1000000000) : TC 94 [strsV xs, strsV ys] (.sc (.bool (decide (xs = ys)))) := by
  refine TC.walk ⟨true, false⟩ impl_SameChain_1_t rfl (Nat.le_of_ble_eq_true rfl) (by simp only [pureL, strsV_pure, Bool.and_self]) rfl ?_
  have e := slices_Equal_str_v xs ys hn
  simp only [impl_SameChain_1, impl_SameChain_1_c, e, VX, Nat.reduceEqDiff, Nat.reduceAdd]
  exact fz_res rfl

theorem slices_EqualFunc_ss_v (xs ys : List (List ByteArray)) (hx' : ∀ x ∈ xs, x.length ≤ 1000000000) (hn : xs.length ≤ 1000000000) : TC 93 [strssV xs, strssV ys, .clo 94 []] (.sc (.bool (decide (xs = ys)))) := by
  refine TC.walk ⟨true, false⟩ slices_EqualFunc_____string_____string___string___string__t rfl (Nat.le_of_ble_eq_true rfl) (by simp only [pureL, strss_pure, Bool.and_self, Bool.true_and]; rfl) rfl ?_
  by_cases hl : (xs.length : Int) = (ys.length : Int)
  · simp only [slices_EqualFunc_____string_____string___string___string_, slices_EqualFunc_____string_____string___string___string__c, hl, VX, Nat.reduceEqDiff, Nat.reduceAdd]
    refine VW_loop (fun (i : Nat) ρ H => i ≤ xs.length ∧ H = [] ∧ xs.take i = ys.take i ∧ ρ 1 = strssV ys ∧ ρ 2 = .clo 94 [] ∧ ρ 15 = strssV xs ∧ ρ 16 = VI ys.length ∧ ρ 17 = VI i) (fun i => xs.length - i) 0 ⟨Nat.zero_le _, rfl, by simp, rfl, rfl, rfl, rfl, rfl⟩ ?_
    rintro i ρ H ⟨hi, rfl, ht, h1, h2, h15, h16, h17⟩
    by_cases hin : (i : Int) < (ys.length : Int)
    · obtain ⟨x, hx⟩ : ∃ x, xs[i]? = some x := ⟨_, List.getElem?_eq_getElem (by omega)⟩
      obtain ⟨y, hy⟩ : ∃ y, ys[i]? = some y := ⟨_, List.getElem?_eq_getElem (by omega)⟩
      have e1 := viaddr_map (f := strsV) (t := .op) (H := []) (size := 1) (k := .i64) hx rfl
      have e2 := viaddr_map (f := strsV) (t := .op) (H := []) (size := 1) (k := .i64) hy rfl
      have wi : IntKind.i64.wrap ((i : Int) + 1) = ((i + 1 : Nat) : Int) := wrapN (i + 1) (by omega) (by omega)
      have e3 := impl_SameChain_1_v x y (hx' x (List.mem_of_getElem? hx))
      by_cases hxy : x = y
      · subst hxy
        rw [decide_eq_true rfl] at e3
        simp only [slices_EqualFunc_____string_____string___string___string__b0, e3, h1, h2, h15, h16, h17, hin, e1, e2, wi, VX, Nat.reduceEqDiff, Nat.reduceAdd]
        refine ⟨i + 1, by omega, by omega, ?_⟩
        rw [List.take_add_one, List.take_add_one, hx, hy, ht]
        (repeat' apply And.intro) <;> first | rfl | trivial | assumption
      · rw [decide_eq_false hxy] at e3
        simp only [slices_EqualFunc_____string_____string___string___string__b0, e3, h1, h2, h15, h16, h17, hin, e1, e2, hxy, VX, Nat.reduceEqDiff, Nat.reduceAdd]
        have : ¬ xs = ys := fun h => hxy (by rw [h, hy] at hx; injection hx with hx; exact hx.symm)
        simp only [this, decide_false]
        exact fz_res rfl
    · simp only [slices_EqualFunc_____string_____string___string___string__b0, h1, h2, h15, h16, h17, hin, VX, Nat.reduceEqDiff, Nat.reduceAdd]
      have : xs = ys := by
        rw [List.take_of_length_le (by omega), List.take_of_length_le (by omega)] at ht
        exact ht
      simp only [this, decide_true]
      exact fz_res rfl
  · simp only [slices_EqualFunc_____string_____string___string___string_, slices_EqualFunc_____string_____string___string___string__c, hl, VX, Nat.reduceEqDiff, Nat.reduceAdd]
    have : ¬ xs = ys := fun h => hl (by rw [h])
    simp only [this, decide_false]
    exact fz_res rfl

theorem chV_pure (xs : List (List ByteArray)) : pureV (.agg [strssV xs]) = true := by
  show pureL [strssV xs] = true
  simp only [pureL, strss_pure, Bool.and_self]
theorem impl_SameChain_v (xs ys : List (List ByteArray)) (hx' : ∀ x ∈ xs, x.length ≤ 1000000000) (hn : xs.length ≤ 1000000000) : TC 73 [.agg [strssV xs], .agg [strssV ys]] (.sc (.bool (decide (xs = ys)))) := by
  refine TC.walk ⟨true, false⟩ impl_SameChain_t rfl (Nat.le_of_ble_eq_true rfl) (by simp only [pureL, chV_pure, Bool.and_self]) rfl ?_
  have e := slices_EqualFunc_ss_v xs ys hx' hn
  simp only [impl_SameChain, impl_SameChain_c, e, VX, Nat.reduceEqDiff, Nat.reduceAdd, vload_pdef, vstore_pdef, viaddr_rdef, vlen_rdef, vfaddr_pdef, vchk_pdef, visnil_rdef, visnil_nil, visnil_cons, vrow_zero, vrow_succ, List.set_cons_zero, List.set_cons_succ, elemOf_one, elemOf_two, vresult, vresAll, vres1, vfill, isAny_sc, isAny_tree, isAny_ref, isAny_agg, isAny_clo, List.take_zero, List.take_succ_cons, List.take_nil, List.drop_zero, List.drop_succ_cons, List.drop_nil, List.append_nil, Nat.reduceLeDiff, Nat.le_refl, vsplice, Nat.reduceLT, Int.toNat_natCast, eq_self, ge_iff_le, Bool.and_eq_true, Nat.reduceSub]
  exact fz_res rfl
instance : DecidableEq Svc := fun a b => by
  cases a; cases b
  rw [Svc.mk.injEq]
  infer_instance
theorem svc_eq {a b : Svc} : (decide (a.b = b.b) && decide (a.e = b.e) && decide (a.g = b.g)) = decide (a = b) := by
  have : a = b ↔ a.b = b.b ∧ a.g = b.g ∧ a.e = b.e := by cases a; cases b; simp
  by_cases h1 : a.b = b.b <;> by_cases h2 : a.e = b.e <;> by_cases h3 : a.g = b.g <;> simp [this, h1, h2, h3]
theorem impl_SameService_v (a b : Svc) (hb : a.b.length ≤ 1000000000) (hg : a.g.length ≤ 1000000000 ∧ ∀ x ∈ a.g, x.length ≤ 1000000000) (he : a.e.length ≤ 1000000000) : TC 37 [svV a, svV b] (.sc (.bool (decide (a = b)))) := by
  refine TC.walk ⟨true, false⟩ impl_SameService_t rfl (Nat.le_of_ble_eq_true rfl) (by simp only [pureL, svV_pure, Bool.and_self]) rfl ?_
  have e0 := slices_Equal_str_v a.b b.b hb
  have e1 := impl_SameChain_v a.g b.g hg.2 hg.1
  have e2 := slices_Equal_str_v a.e b.e he
  rw [← svc_eq]
  by_cases h0 : a.b = b.b
  · by_cases h2 : a.e = b.e
    · simp only [impl_SameService, impl_SameService_c, svV, e0, e1, e2, decide_eq_true h0, decide_eq_true h2, Bool.true_and, VX, Nat.reduceEqDiff, Nat.reduceAdd, vload_pdef, vstore_pdef, viaddr_rdef, vlen_rdef, vfaddr_pdef, vchk_pdef, visnil_rdef, visnil_nil, visnil_cons, vrow_zero, vrow_succ, List.set_cons_zero, List.set_cons_succ, elemOf_one, elemOf_two, vresult, vresAll, vres1, vfill, isAny_sc, isAny_tree, isAny_ref, isAny_agg, isAny_clo, List.take_zero, List.take_succ_cons, List.take_nil, List.drop_zero, List.drop_succ_cons, List.drop_nil, List.append_nil, Nat.reduceLeDiff, Nat.le_refl, vsplice, Nat.reduceLT, Int.toNat_natCast, eq_self, ge_iff_le, Bool.and_eq_true, Nat.reduceSub]
      exact fz_res rfl
    · simp only [impl_SameService, impl_SameService_c, svV, e0, e1, e2, decide_eq_true h0, decide_eq_false h2, Bool.false_and, Bool.and_false, VX, Nat.reduceEqDiff, Nat.reduceAdd, vload_pdef, vstore_pdef, viaddr_rdef, vlen_rdef, vfaddr_pdef, vchk_pdef, visnil_rdef, visnil_nil, visnil_cons, vrow_zero, vrow_succ, List.set_cons_zero, List.set_cons_succ, elemOf_one, elemOf_two, vresult, vresAll, vres1, vfill, isAny_sc, isAny_tree, isAny_ref, isAny_agg, isAny_clo, List.take_zero, List.take_succ_cons, List.take_nil, List.drop_zero, List.drop_succ_cons, List.drop_nil, List.append_nil, Nat.reduceLeDiff, Nat.le_refl, vsplice, Nat.reduceLT, Int.toNat_natCast, eq_self, ge_iff_le, Bool.and_eq_true, Nat.reduceSub]
      exact fz_res rfl
  · simp only [impl_SameService, impl_SameService_c, svV, e0, e1, e2, decide_eq_false h0, Bool.false_and, VX, Nat.reduceEqDiff, Nat.reduceAdd, vload_pdef, vstore_pdef, viaddr_rdef, vlen_rdef, vfaddr_pdef, vchk_pdef, visnil_rdef, visnil_nil, visnil_cons, vrow_zero, vrow_succ, List.set_cons_zero, List.set_cons_succ, elemOf_one, elemOf_two, vresult, vresAll, vres1, vfill, isAny_sc, isAny_tree, isAny_ref, isAny_agg, isAny_clo, List.take_zero, List.take_succ_cons, List.take_nil, List.drop_zero, List.drop_succ_cons, List.drop_nil, List.append_nil, Nat.reduceLeDiff, Nat.le_refl, vsplice, Nat.reduceLT, Int.toNat_natCast, eq_self, ge_iff_le, Bool.and_eq_true, Nat.reduceSub]
    exact fz_res rfl
theorem spec_SameService_v (a b : Svc) (hb : a.b.length ≤ 1000000000) (hg : a.g.length ≤ 1000000000 ∧ ∀ x ∈ a.g, x.length ≤ 1000000000) (he : a.e.length ≤ 1000000000) : TC 35 [svV a, svV b] (.sc (.bool (decide (a = b)))) := by
  refine TC.walk ⟨true, false⟩ spec_SameService_t rfl (Nat.le_of_ble_eq_true rfl) (by simp only [pureL, svV_pure, Bool.and_self]) rfl ?_
  have e0 := spec_l02Texts_v a.b b.b hb
  have e2 := spec_l02Texts_v a.e b.e he
  rw [← svc_eq]
  by_cases h0 : a.b = b.b
  · by_cases h2 : a.e = b.e
    · by_cases hl : (a.g.length : Int) = (b.g.length : Int)
      · simp only [spec_SameService, spec_SameService_c, svV, e0, e2, decide_eq_true h0, decide_eq_true h2, hl, Bool.true_and, VX, Nat.reduceEqDiff, Nat.reduceAdd, vload_pdef, vstore_pdef, viaddr_rdef, vlen_rdef, vfaddr_pdef, vchk_pdef, visnil_rdef, visnil_nil, visnil_cons, vrow_zero, vrow_succ, List.set_cons_zero, List.set_cons_succ, elemOf_one, elemOf_two, vresult, vresAll, vres1, vfill, isAny_sc, isAny_tree, isAny_ref, isAny_agg, isAny_clo, List.take_zero, List.take_succ_cons, List.take_nil, List.drop_zero, List.drop_succ_cons, List.drop_nil, List.append_nil, Nat.reduceLeDiff, Nat.le_refl, vsplice, Nat.reduceLT, Int.toNat_natCast, eq_self, ge_iff_le, Bool.and_eq_true, Nat.reduceSub]
        refine VW_loop (fun (i : Nat) ρ H => i ≤ a.g.length ∧ H = [] ∧ a.g.take i = b.g.take i ∧ ρ 2 = .tptr (svV a) 0 ∧ ρ 3 = .tptr (svV b) 0 ∧ ρ 5 = VI i) (fun i => a.g.length - i) 0 ⟨Nat.zero_le _, rfl, by simp, rfl, rfl, rfl⟩ ?_
        rintro i ρ H ⟨hi, rfl, ht, h2', h3', h5⟩
        by_cases hin : (i : Int) < (a.g.length : Int)
        · obtain ⟨x, hx⟩ : ∃ x, a.g[i]? = some x := ⟨_, List.getElem?_eq_getElem (by omega)⟩
          obtain ⟨y, hy⟩ : ∃ y, b.g[i]? = some y := ⟨_, List.getElem?_eq_getElem (by omega)⟩
          have e1 := viaddr_map (f := strsV) (t := .op) (H := []) (size := 1) (k := .i64) hx rfl
          have e4 := viaddr_map (f := strsV) (t := .op) (H := []) (size := 1) (k := .i64) hy rfl
          have wi : IntKind.i64.wrap ((i : Int) + 1) = ((i + 1 : Nat) : Int) := wrapN (i + 1) (by omega) (by omega)
          have e3 := spec_l02Texts_v x y (hg.2 x (List.mem_of_getElem? hx))
          by_cases hxy : x = y
          · subst hxy
            rw [decide_eq_true rfl] at e3
            simp only [spec_SameService_b0, svV, e3, h2', h3', h5, hin, e1, e4, wi, VX, Nat.reduceEqDiff, Nat.reduceAdd, vload_pdef, vstore_pdef, viaddr_rdef, vlen_rdef, vfaddr_pdef, vchk_pdef, visnil_rdef, visnil_nil, visnil_cons, vrow_zero, vrow_succ, List.set_cons_zero, List.set_cons_succ, elemOf_one, elemOf_two, vresult, vresAll, vres1, vfill, isAny_sc, isAny_tree, isAny_ref, isAny_agg, isAny_clo, List.take_zero, List.take_succ_cons, List.take_nil, List.drop_zero, List.drop_succ_cons, List.drop_nil, List.append_nil, Nat.reduceLeDiff, Nat.le_refl, vsplice, Nat.reduceLT, Int.toNat_natCast, eq_self, ge_iff_le, Bool.and_eq_true, Nat.reduceSub]
            refine ⟨i + 1, by omega, by omega, ?_⟩
            rw [List.take_add_one, List.take_add_one, hx, hy, ht]
            (repeat' apply And.intro) <;> first | rfl | trivial | assumption
          · rw [decide_eq_false hxy] at e3
            simp only [spec_SameService_b0, svV, e3, h2', h3', h5, hin, e1, e4, hxy, VX, Nat.reduceEqDiff, Nat.reduceAdd, vload_pdef, vstore_pdef, viaddr_rdef, vlen_rdef, vfaddr_pdef, vchk_pdef, visnil_rdef, visnil_nil, visnil_cons, vrow_zero, vrow_succ, List.set_cons_zero, List.set_cons_succ, elemOf_one, elemOf_two, vresult, vresAll, vres1, vfill, isAny_sc, isAny_tree, isAny_ref, isAny_agg, isAny_clo, List.take_zero, List.take_succ_cons, List.take_nil, List.drop_zero, List.drop_succ_cons, List.drop_nil, List.append_nil, Nat.reduceLeDiff, Nat.le_refl, vsplice, Nat.reduceLT, Int.toNat_natCast, eq_self, ge_iff_le, Bool.and_eq_true, Nat.reduceSub]
            have : ¬ a.g = b.g := fun h => hxy (by rw [h, hy] at hx; injection hx with hx; exact hx.symm)
            rw [decide_eq_false this]
            exact fz_res rfl
        · simp only [spec_SameService_b0, svV, h2', h3', h5, hin, VX, Nat.reduceEqDiff, Nat.reduceAdd, vload_pdef, vstore_pdef, viaddr_rdef, vlen_rdef, vfaddr_pdef, vchk_pdef, visnil_rdef, visnil_nil, visnil_cons, vrow_zero, vrow_succ, List.set_cons_zero, List.set_cons_succ, elemOf_one, elemOf_two, vresult, vresAll, vres1, vfill, isAny_sc, isAny_tree, isAny_ref, isAny_agg, isAny_clo, List.take_zero, List.take_succ_cons, List.take_nil, List.drop_zero, List.drop_succ_cons, List.drop_nil, List.append_nil, Nat.reduceLeDiff, Nat.le_refl, vsplice, Nat.reduceLT, Int.toNat_natCast, eq_self, ge_iff_le, Bool.and_eq_true, Nat.reduceSub]
          have : a.g = b.g := by
            rw [List.take_of_length_le (by omega), List.take_of_length_le (by omega)] at ht
            exact ht
          rw [decide_eq_true this]
          exact fz_res rfl
      · simp only [spec_SameService, spec_SameService_c, svV, e0, e2, decide_eq_true h0, decide_eq_true h2, hl, Bool.true_and, VX, Nat.reduceEqDiff, Nat.reduceAdd, vload_pdef, vstore_pdef, viaddr_rdef, vlen_rdef, vfaddr_pdef, vchk_pdef, visnil_rdef, visnil_nil, visnil_cons, vrow_zero, vrow_succ, List.set_cons_zero, List.set_cons_succ, elemOf_one, elemOf_two, vresult, vresAll, vres1, vfill, isAny_sc, isAny_tree, isAny_ref, isAny_agg, isAny_clo, List.take_zero, List.take_succ_cons, List.take_nil, List.drop_zero, List.drop_succ_cons, List.drop_nil, List.append_nil, Nat.reduceLeDiff, Nat.le_refl, vsplice, Nat.reduceLT, Int.toNat_natCast, eq_self, ge_iff_le, Bool.and_eq_true, Nat.reduceSub]
        have : ¬ a.g = b.g := fun h => hl (by rw [h])
        rw [decide_eq_false this]
        exact fz_res rfl
    · simp only [spec_SameService, spec_SameService_c, svV, e0, e2, decide_eq_true h0, decide_eq_false h2, Bool.false_and, Bool.and_false, VX, Nat.reduceEqDiff, Nat.reduceAdd, vload_pdef, vstore_pdef, viaddr_rdef, vlen_rdef, vfaddr_pdef, vchk_pdef, visnil_rdef, visnil_nil, visnil_cons, vrow_zero, vrow_succ, List.set_cons_zero, List.set_cons_succ, elemOf_one, elemOf_two, vresult, vresAll, vres1, vfill, isAny_sc, isAny_tree, isAny_ref, isAny_agg, isAny_clo, List.take_zero, List.take_succ_cons, List.take_nil, List.drop_zero, List.drop_succ_cons, List.drop_nil, List.append_nil, Nat.reduceLeDiff, Nat.le_refl, vsplice, Nat.reduceLT, Int.toNat_natCast, eq_self, ge_iff_le, Bool.and_eq_true, Nat.reduceSub]
      exact fz_res rfl
  · simp only [spec_SameService, spec_SameService_c, svV, e0, e2, decide_eq_false h0, Bool.false_and, VX, Nat.reduceEqDiff, Nat.reduceAdd, vload_pdef, vstore_pdef, viaddr_rdef, vlen_rdef, vfaddr_pdef, vchk_pdef, visnil_rdef, visnil_nil, visnil_cons, vrow_zero, vrow_succ, List.set_cons_zero, List.set_cons_succ, elemOf_one, elemOf_two, vresult, vresAll, vres1, vfill, isAny_sc, isAny_tree, isAny_ref, isAny_agg, isAny_clo, List.take_zero, List.take_succ_cons, List.take_nil, List.drop_zero, List.drop_succ_cons, List.drop_nil, List.append_nil, Nat.reduceLeDiff, Nat.le_refl, vsplice, Nat.reduceLT, Int.toNat_natCast, eq_self, ge_iff_le, Bool.and_eq_true, Nat.reduceSub]
    exact fz_res rfl
end Go.PM
