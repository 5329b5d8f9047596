/- Texts of a claim, in one: part 13. -/
import Derived.Test.YtkoiolkkceknhaaKTl

/- Starts, leaves and waits: the program and the reference, walked. -/
set_option linter.unusedSimpArgs false
set_option linter.unusedVariables false
namespace Go.PM

def stOk (rule srv : Int) (cs : List Cust) : Prop := (0 ≤ rule ∧ rule ≤ 3) ∧ (1 ≤ srv ∧ srv ≤ 8) ∧ custsOk cs
noncomputable instance (rule srv : Int) (cs : List Cust) : Decidable (stOk rule srv cs) := Classical.propDecidable _
noncomputable def stV (rule srv : Int) (cs : List Cust) : List Int := if stOk rule srv cs then stL rule srv cs else []
theorem stV_len (rule srv : Int) (cs : List Cust) : (stV rule srv cs).length ≤ cs.length := by
  unfold stV
  split
  · rw [stL_len]; exact Nat.le_refl _
  · exact Nat.zero_le _
theorem stL_mem {rule srv : Int} {cs : List Cust} : ∀ s ∈ stL rule srv cs, -1 ≤ s ∧ s ≤ 100000 := by
  have h1 : ∀ (n : Nat) (t : Int) (st : List Int), 0 ≤ t ∧ t ≤ 100000 → (∀ s ∈ st, -1 ≤ s ∧ s ≤ 100000) → ∀ s ∈ fill rule srv cs t n st, -1 ≤ s ∧ s ≤ 100000 := by
    intro n
    induction n with
    | zero => intro t st _ h; exact h
    | succ n ih =>
      intro t st ht h
      rw [fill]
      split
      · split
        · exact h
        · refine ih t _ ht fun s hs => ?_
          rcases List.mem_or_eq_of_mem_set hs with hs | rfl
          · exact h s hs
          · omega
      · exact h
  have h2 : ∀ (n : Nat) (t : Int) (st : List Int), 0 ≤ t → t + n ≤ 100000 → (∀ s ∈ st, -1 ≤ s ∧ s ≤ 100000) → ∀ s ∈ runT rule srv cs t n st, -1 ≤ s ∧ s ≤ 100000 := by
    intro n
    induction n with
    | zero => intro t st _ _ h; exact h
    | succ n ih =>
      intro t st ht hn h
      rw [runT]
      exact ih (t + 1) _ (by omega) (by omega) (h1 _ t st ⟨ht, by omega⟩ h)
  exact h2 _ _ _ (Int.le_refl _) (by simp) fun s hs => by
    have := List.eq_of_mem_replicate hs
    omega

theorem impl_pathOk_v (rule srv : Int) (cs : List Cust) (hn : cs.length ≤ 1000000000) : TC 86 [VI rule, VI srv, custsV cs] (.sc (.bool (decide (stOk rule srv cs)))) := by
  refine TC.walk ⟨true, false⟩ impl_pathOk_t rfl (Nat.le_of_ble_eq_true rfl) (by simp only [pureL, custsV_pure]; rfl) rfl ?_
  have eA := impl_AreCustomers_v cs hn
  unfold stOk
  by_cases h1 : 0 ≤ rule ∧ rule ≤ 3
  · by_cases h2 : 1 ≤ srv ∧ srv ≤ 8
    · by_cases h3 : custsOk cs <;> simp only [impl_pathOk, impl_pathOk_c, impl_in_v, eA, h1, h2, h3, VX, Nat.reduceEqDiff, Nat.reduceAdd] <;> exact fz_res rfl
    · simp only [impl_pathOk, impl_pathOk_c, impl_in_v, h1, h2, VX, Nat.reduceEqDiff, Nat.reduceAdd]
      exact fz_res rfl
  · simp only [impl_pathOk, impl_pathOk_c, impl_in_v, h1, VX, Nat.reduceEqDiff, Nat.reduceAdd]
    exact fz_res rfl
theorem spec_l05Fits_v (rule srv : Int) (cs : List Cust) (hn : cs.length ≤ 1000000000) : TC 84 [VI rule, VI srv, custsV cs] (.sc (.bool (decide (stOk rule srv cs)))) := by
  refine TC.walk ⟨true, false⟩ spec_l05Fits_t rfl (Nat.le_of_ble_eq_true rfl) (by simp only [pureL, custsV_pure]; rfl) rfl ?_
  have eA := spec_l05Are_v cs hn
  unfold stOk
  by_cases h1 : 0 ≤ rule ∧ rule ≤ 3
  · by_cases h2 : 1 ≤ srv ∧ srv ≤ 8
    · by_cases h3 : custsOk cs <;> simp only [spec_l05Fits, spec_l05Fits_c, spec_l00In_v, eA, h1, h2, h3, VX, Nat.reduceEqDiff, Nat.reduceAdd] <;> exact fz_res rfl
    · simp only [spec_l05Fits, spec_l05Fits_c, spec_l00In_v, h1, h2, VX, Nat.reduceEqDiff, Nat.reduceAdd]
      exact fz_res rfl
  · simp only [spec_l05Fits, spec_l05Fits_c, spec_l00In_v, h1, VX, Nat.reduceEqDiff, Nat.reduceAdd]
    exact fz_res rfl

/-- At the end all have started. -/
theorem ImpI.all {rule srv : Int} {cs : List Cust} {st : List Int} {t : Int} {come : Nat} {ws : List Nat} {ends : List Int} (h : ImpI rule srv cs st t come ws ends) (hcome : ¬ come < cs.length) (hw : ¬ 0 < ws.length) : ∀ i, i < cs.length → 0 ≤ stC st i := by
  intro i hi
  have hcl := h.cle
  rcases Int.lt_or_le (stC st i) 0 with h1 | h1
  · have h2 : i ∈ wt cs st t := wt_mem.2 ⟨hi, h1, h.past i (by omega)⟩
    rw [← h.wsq, List.eq_nil_of_length_eq_zero (by omega : ws.length = 0)] at h2
    cases h2
  · exact h1
theorem impl_starts_pos {rule srv : Int} {cs : List Cust} (hc : custsOk cs) (hr : 0 ≤ rule ∧ rule ≤ 3) (hs : 1 ≤ srv ∧ srv ≤ 8) : FC 87 [VI rule, VI srv, VI 24, custsV cs] fun n r L => stR (stL rule srv cs) n r L ∧ ∀ s ∈ stL rule srv cs, 0 ≤ s := by
  intro n
  refine (impl_starts_w (stSys hc hr hs.1 (Int.le_refl 24)) hc hr hs.2 n).mono ?_
  rintro r H ⟨L, h1, h2, h3, m, come, ws, ends, st, ⟨_, t, hI⟩, hcome, hw, h4, h5⟩
  have h6 := hI.done hcome hw
  refine ⟨L, h1, h2, h3, ⟨?_, ?_⟩, fun s hs => ?_⟩
  · rw [h4, stL_len]
  · rw [h5, h6]
  · rw [← h6] at hs
    obtain ⟨i, hi⟩ := List.getElem?_of_mem hs
    have hil := (List.getElem?_eq_some_iff.1 hi).1
    have := hI.all hcome hw i (by rw [← hI.len]; exact hil)
    rw [stC_of hi] at this
    exact this

theorem LR.of {vals : List Int} {ok : Bool} {n : Nat} {r : VV} {L : VHeap} (h : stR vals n r L) : LR vals ok n (.tup [r, .sc (.bool ok)]) L := ⟨r, rfl, .inr ⟨0, 0, vals.length, h.1, Nat.le_refl _, h.2⟩⟩
theorem impl_StartsOf_w (rule srv : Int) (cs : List Cust) (hn : cs.length ≤ 1000000000) : FC 51 [VI rule, VI srv, custsV cs] fun n r L => LR (stV rule srv cs) (decide (stOk rule srv cs)) n r L ∧ ∀ s ∈ stV rule srv cs, 0 ≤ s := by
  refine FC.walk ⟨true, false⟩ impl_StartsOf_t (Nat.le_of_ble_eq_true rfl) fun n => ?_
  have eA := impl_pathOk_v rule srv cs hn
  by_cases hok : stOk rule srv cs
  · simp only [impl_StartsOf, impl_StartsOf_c, eA, hok, VX, Nat.reduceEqDiff, Nat.reduceAdd]
    refine FC.callO (impl_starts_pos hok.2.2 hok.1 hok.2.1) rfl (fz4 (fz_res rfl) (fz_res rfl) (fz_res rfl) (fz_res (custsV_pure _))) ?_
    rw [List.length_replicate]
    rintro r L ⟨hR, hpos⟩ ho hL
    have hv : stV rule srv cs = stL rule srv cs := if_pos hok
    simp only [VX, Nat.reduceEqDiff, Nat.reduceAdd]
    refine ⟨L, rfl, by simp only [ownV, ownL, ho, isSc, Bool.and_self], hL, ?_, ?_⟩
    · rw [hv]
      exact LR.of hR
    · rw [hv]
      exact hpos
  · simp only [impl_StartsOf, impl_StartsOf_c, eA, hok, VX, Nat.reduceEqDiff, Nat.reduceAdd]
    have hv : stV rule srv cs = [] := if_neg hok
    refine ⟨[], by simp, rfl, rfl, ⟨_, rfl, .inl ⟨rfl, hv⟩⟩, ?_⟩
    rw [hv]
    intro s hs
    cases hs
theorem FC.mono {f : Nat} {args : List VV} {R R' : Nat → VV → VHeap → Prop} (h : FC f args R) (hR : ∀ n r L, R n r L → R' n r L) : FC f args R' := fun n => (h n).mono fun _ _ ⟨L, h1, h2, h3, h4⟩ => ⟨L, h1, h2, h3, hR _ _ _ h4⟩
theorem impl_StartsOf_v (rule srv : Int) (cs : List Cust) (hn : cs.length ≤ 1000000000) : FC 51 [VI rule, VI srv, custsV cs] (LR (stV rule srv cs) (decide (stOk rule srv cs))) := (impl_StartsOf_w rule srv cs hn).mono fun _ _ _ h => h.1
theorem spec_StartsOf_v (rule srv : Int) (cs : List Cust) (hn : cs.length ≤ 1000000000) : FC 50 [VI rule, VI srv, custsV cs] (LR (stV rule srv cs) (decide (stOk rule srv cs))) := by
  refine FC.walk ⟨true, false⟩ spec_StartsOf_t (Nat.le_of_ble_eq_true rfl) fun n => ?_
  have eA := spec_l05Fits_v rule srv cs hn
  by_cases hok : stOk rule srv cs
  · simp only [spec_StartsOf, spec_StartsOf_c, eA, hok, VX, Nat.reduceEqDiff, Nat.reduceAdd]
    refine FC.callO (spec_l05Starts_v hok.2.2 hok.1) rfl (fz3 (fz_res rfl) (fz_res rfl) (fz_res (custsV_pure _))) ?_
    rw [List.length_replicate]
    rintro r L hR ho hL
    have hv : stV rule srv cs = stL rule srv cs := if_pos hok
    simp only [VX, Nat.reduceEqDiff, Nat.reduceAdd]
    refine ⟨L, rfl, by simp only [ownV, ownL, ho, isSc, Bool.and_self], hL, ?_⟩
    rw [hv]
    exact LR.of hR
  · simp only [spec_StartsOf, spec_StartsOf_c, eA, hok, VX, Nat.reduceEqDiff, Nat.reduceAdd]
    have hv : stV rule srv cs = [] := if_neg hok
    exact ⟨[], by simp, rfl, rfl, ⟨_, rfl, .inl ⟨rfl, hv⟩⟩⟩
end Go.PM
