/- Texts of a claim, in one: part 13. -/
import Derived.Test.YtkoiolkkceknhaaKUl

/- Starts, leaves and waits: the program and the reference, walked. -/
set_option linter.unusedSimpArgs false
set_option linter.unusedVariables false
namespace Go.PM

def stOk (rule srv : Int) (cs : List Cust) : Prop := (0 ≤ rule ∧ rule ≤ 3) ∧ (1 ≤ srv ∧ srv ≤ 8) ∧ custsOk cs
noncomputable instance (rule srv : Int) (cs : List Cust) : Decidable (stOk rule srv cs) := Classical.propDecidable _
noncomputable def stV (rule srv : Int) (cs : List Cust) : List Int := if stOk rule srv cs then stL rule srv cs else []
theorem stV_len (rule srv : Int) (cs : List Cust) : (stV rule srv cs).length ≤ cs.length := by
  unfold stV
  split
  · rw [stL_len]; exact Nat.le_refl _
  · exact Nat.zero_le _
theorem stL_mem {rule srv : Int} {cs : List Cust} : ∀ s ∈ stL rule srv cs, -1 ≤ s ∧ s ≤ 100000 := by
  have h1 : ∀ (n : Nat) (t : Int) (st : List Int), 0 ≤ t ∧ t ≤ 100000 → (∀ s ∈ st, -1 ≤ s ∧ s ≤ 100000) → ∀ s ∈ fill rule srv cs t n st, -1 ≤ s ∧ s ≤ 100000 := by
    intro n
    induction n with
    | zero => intro t st _ h; exact h
    | succ n ih =>
      intro t st ht h
      rw [fill]
      split
      · split
        · exact h
        · refine ih t _ ht fun s hs => ?_
          rcases List.mem_or_eq_of_mem_set hs with hs | rfl
          · exact h s hs
          · omega
      · exact h
  have h2 : ∀ (n : Nat) (t : Int) (st : List Int), 0 ≤ t → t + n ≤ 100000 → (∀ s ∈ st, -1 ≤ s ∧ s ≤ 100000) → ∀ s ∈ runT rule srv cs t n st, -1 ≤ s ∧ s ≤ 100000 := by
    intro n
    induction n with
    | zero => intro t st _ _ h; exact h
    | succ n ih =>
      intro t st ht hn h
      rw [runT]
      exact ih (t + 1) _ (by omega) (by omega) (h1 _ t st ⟨ht, by omega⟩ h)
  exact h2 _ _ _ (Int.le_refl _) (by simp) fun s hs => by
    have := List.eq_of_mem_replicate hs
    omega

theorem impl_pathOk_v (rule srv : Int) (cs : List Cust) (hn : cs.length ≤ 1000000000) : TC 86 [VI rule, VI srv, custsV cs] (.sc (.bool (decide (stOk rule srv cs)))) := by
  refine TC.walk ⟨true, false⟩ impl_pathOk_t rfl (Nat.le_of_ble_eq_true rfl) (by simp only [pureL, custsV_pure]; rfl) rfl ?_
  have eA := impl_AreCustomers_v cs hn
  unfold stOk
  by_cases h1 : 0 ≤ rule ∧ rule ≤ 3
  · by_cases h2 : 1 ≤ srv ∧ srv ≤ 8
    · by_cases h3 : custsOk cs <;> simp only [impl_pathOk, impl_pathOk_c, impl_in_v, eA, h1, h2, h3, VX, Nat.reduceEqDiff, Nat.reduceAdd] <;> exact fz_res rfl
    · simp only [impl_pathOk, impl_pathOk_c, impl_in_v, h1, h2, VX, Nat.reduceEqDiff, Nat.reduceAdd]
      exact fz_res rfl
  · simp only [impl_pathOk, impl_pathOk_c, impl_in_v, h1, VX, Nat.reduceEqDiff, Nat.reduceAdd]
    exact fz_res rfl
theorem spec_l05Fits_v (rule srv : Int) (cs : List Cust) (hn : cs.length ≤ 1000000000) : TC 84 [VI rule, VI srv, custsV cs] (.sc (.bool (decide (stOk rule srv cs)))) := by
  refine TC.walk ⟨true, false⟩ spec_l05Fits_t rfl (Nat.le_of_ble_eq_true rfl) (by simp only [pureL, custsV_pure]; rfl) rfl ?_
  have eA := spec_l05Are_v cs hn
  unfold stOk
  by_cases h1 : 0 ≤ rule ∧ rule ≤ 3
  · by_cases h2 : 1 ≤ srv ∧ srv ≤ 8
    · by_cases h3 : custsOk cs <;> simp only [spec_l05Fits, spec_l05Fits_c, spec_l00In_v, eA, h1, h2, h3, VX, Nat.reduceEqDiff, Nat.reduceAdd] <;> exact fz_res rfl
    · simp only [spec_l05Fits, spec_l05Fits_c, spec_l00In_v, h1, h2, VX, Nat.reduceEqDiff, Nat.reduceAdd]
      exact fz_res rfl
  · simp only [spec_l05Fits, spec_l05Fits_c, spec_l00In_v, h1, VX, Nat.reduceEqDiff, Nat.reduceAdd]
    exact fz_res rfl

/-- At the end all have started. -/
theorem ImpI.all {rule srv : Int} {cs : List Cust} {st : List Int} {t : Int} {come : Nat} {ws : List Nat} {ends : List Int} (h : ImpI rule srv cs st t come ws ends) (hcome : ¬ come < cs.length) (hw : ¬ 0 < ws.length) : ∀ i, i < cs.length → 0 ≤ stC st i := by
  intro i hi
  have hcl := h.cle
  rcases Int.lt_or_le (stC st i) 0 with h1 | h1
  · have h2 : i ∈ wt cs st t := wt_mem.2 ⟨hi, h1, h.past i (by omega)⟩
    rw [← h.wsq, List.eq_nil_of_length_eq_zero (by omega : ws.length = 0)] at h2
    cases h2
  · exact h1
theorem impl_starts_pos {rule srv : Int} {cs : List Cust} (hc : custsOk cs) (hr : 0 ≤ rule ∧ rule ≤ 3) (hs : 1 ≤ srv ∧ srv ≤ 8) : FC 87 [VI rule, VI srv, VI 24, custsV cs] fun n r L => stR (stL rule srv cs) n r L ∧ ∀ s ∈ stL rule srv cs, 0 ≤ s := by
  intro n
  refine (impl_starts_w (stSys hc hr hs.1 (Int.le_refl 24)) hc hr hs.2 n).mono ?_
  rintro r H ⟨L, h1, h2, h3, m, come, ws, ends, st, ⟨_, t, hI⟩, hcome, hw, h4, h5⟩
  have h6 := hI.done hcome hw
  refine ⟨L, h1, h2, h3, ⟨?_, ?_⟩, fun s hs => ?_⟩
  · rw [h4, stL_len]
  · rw [h5, h6]
  · rw [← h6] at hs
    obtain ⟨i, hi⟩ := List.getElem?_of_mem hs
    have hil := (List.getElem?_eq_some_iff.1 hi).1
    have := hI.all hcome hw i (by rw [← hI.len]; exact hil)
    rw [stC_of hi] at this
    exact this

theorem LR.of {vals : List Int} {ok : Bool} {n : Nat} {r : VV} {L : VHeap} (h : stR vals n r L) : LR vals ok n (.tup [r, .sc (.bool ok)]) L := ⟨r, rfl, .inr ⟨0, 0, vals.length, h.1, Nat.le_refl _, h.2⟩⟩
theorem impl_StartsOf_w (rule srv : Int) (cs : List Cust) (hn : cs.length ≤ 1000000000) : FC 51 [VI rule, VI srv, custsV cs] fun n r L => LR (stV rule srv cs) (decide (stOk rule srv cs)) n r L ∧ ∀ s ∈ stV rule srv cs, 0 ≤ s := by
  refine FC.walk ⟨true, false⟩ impl_StartsOf_t (Nat.le_of_ble_eq_true rfl) fun n => ?_
  have eA := impl_pathOk_v rule srv cs hn
  by_cases hok : stOk rule srv cs
  · simp only [impl_StartsOf, impl_StartsOf_c, eA, hok, VX, Nat.reduceEqDiff, Nat.reduceAdd]
    refine FC.callO (impl_starts_pos hok.2.2 hok.1 hok.2.1) rfl (fz4 (fz_res rfl) (fz_res rfl) (fz_res rfl) (fz_res (custsV_pure _))) ?_
    rw [List.length_replicate]
    rintro r L ⟨hR, hpos⟩ ho hL
    have hv : stV rule srv cs = stL rule srv cs := if_pos hok
    simp only [VX, Nat.reduceEqDiff, Nat.reduceAdd]
    refine ⟨L, rfl, by simp only [ownV, ownL, ho, isSc, Bool.and_self], hL, ?_, ?_⟩
    · rw [hv]
      exact LR.of hR
    · rw [hv]
      exact hpos
  · simp only [impl_StartsOf, impl_StartsOf_c, eA, hok, VX, Nat.reduceEqDiff, Nat.reduceAdd]
    have hv : stV rule srv cs = [] := if_neg hok
    refine ⟨[], by simp, rfl, rfl, ⟨_, rfl, .inl ⟨rfl, hv⟩⟩, ?_⟩
    rw [hv]
    intro s hs
    cases hs
theorem FC.mono {f : Nat} {args : List VV} {R R' : Nat → VV → VHeap → Prop} (h : FC f args R) (hR : ∀ n r L, R n r L → R' n r L) : FC f args R' := fun n => (h n).mono fun _ _ ⟨L, h1, h2, h3, h4⟩ => ⟨L, h1, h2, h3, hR _ _ _ h4⟩
theorem impl_StartsOf_v (rule srv : Int) (cs : List Cust) (hn : cs.length ≤ 1000000000) : FC 51 [VI rule, VI srv, custsV cs] (LR (stV rule srv cs) (decide (stOk rule srv cs))) := (impl_StartsOf_w rule srv cs hn).mono fun _ _ _ h => h.1
theorem spec_StartsOf_v (rule srv : Int) (cs : List Cust) (hn : cs.length ≤ 1000000000) : FC 50 [VI rule, VI srv, custsV cs] (LR (stV rule srv cs) (decide (stOk rule srv cs))) := by
  refine FC.walk ⟨true, false⟩ spec_StartsOf_t (Nat.le_of_ble_eq_true rfl) fun n => ?_
  have eA := spec_l05Fits_v rule srv cs hn
  by_cases hok : stOk rule srv cs
  · simp only [spec_StartsOf, spec_StartsOf_c, eA, hok, VX, Nat.reduceEqDiff, Nat.reduceAdd]
    refine FC.callO (spec_l05Starts_v hok.2.2 hok.1) rfl (fz3 (fz_res rfl) (fz_res rfl) (fz_res (custsV_pure _))) ?_
    rw [List.length_replicate]
    rintro r L hR ho hL
    have hv : stV rule srv cs = stL rule srv cs := if_pos hok
    simp only [VX, Nat.reduceEqDiff, Nat.reduceAdd]
    refine ⟨L, rfl, by simp only [ownV, ownL, ho, isSc, Bool.and_self], hL, ?_⟩
    rw [hv]
    exact LR.of hR.to
  · simp only [spec_StartsOf, spec_StartsOf_c, eA, hok, VX, Nat.reduceEqDiff, Nat.reduceAdd]
    have hv : stV rule srv cs = [] := if_neg hok
    exact ⟨[], by simp, rfl, rfl, ⟨_, rfl, .inl ⟨rfl, hv⟩⟩⟩
end Go.PM

/- Leaves and waits: the program and the reference, walked. -/
namespace Go.PM

def mvL (g : Cust → Int) : List Cust → List Int → List Int
  | c :: cs, s :: st => (s + g c) :: mvL g cs st
  | _, _ => []
theorem mvL_len {g : Cust → Int} : ∀ {cs : List Cust} {st : List Int}, st.length = cs.length → (mvL g cs st).length = cs.length
  | [], [], _ => rfl
  | c :: cs, s :: st, h => by
    have h' : st.length = cs.length := by simpa using h
    rw [mvL, List.length_cons, mvL_len h', List.length_cons]
theorem mvL_get {g : Cust → Int} : ∀ {cs : List Cust} {st : List Int} {i : Nat} {c : Cust} {s : Int}, cs[i]? = some c → st[i]? = some s → (mvL g cs st)[i]? = some (s + g c)
  | [], _, _, _, _, h, _ => by simp at h
  | _ :: _, [], _, _, _, _, h => by simp at h
  | c :: cs, s :: st, 0, _, _, h1, h2 => by
    injection h1 with h1
    injection h2 with h2
    subst h1; subst h2
    rfl
  | c :: cs, s :: st, i + 1, _, _, h1, h2 => by
    rw [List.getElem?_cons_succ] at h1 h2
    rw [mvL, List.getElem?_cons_succ]
    exact mvL_get h1 h2
theorem mvL_nil {g : Cust → Int} : ∀ {cs : List Cust}, mvL g cs [] = []
  | [] => rfl
  | _ :: _ => rfl

set_option maxHeartbeats 1000000 in
theorem impl_moved_v (g : Cust → Int) (fc : Nat) (cs : List Cust) (vals : List Int) (hf : vals ≠ [] → ∀ c ∈ cs, TC fc [cV c] (VI (g c)) ∧ -100000 ≤ g c ∧ g c ≤ 100000) (hl : vals.length = cs.length ∨ vals = []) (hv : ∀ s ∈ vals, 0 ≤ s ∧ s ≤ 100000) (hn : vals.length ≤ 1000000) :
    FC 88 [custsV cs, numsV vals, .clo fc []] fun n r L => r = .ref n vals.length 0 vals.length vals.length ∧ L = [.row vals.length ((mvL g cs vals).map nV) 1 true] ∧ (mvL g cs vals).length = vals.length := by
  refine FC.walk ⟨true, false⟩ impl_moved_t (Nat.le_of_ble_eq_true rfl) fun n => ?_
  have hvl : vals.length ≤ cs.length := by rcases hl with h | h <;> simp [h]
  have hml : (mvL g cs vals).length = vals.length := by
    rcases hl with h | h
    · rw [mvL_len h, h]
    · subst h
      rw [mvL_nil]
  have e0 := fun H => vlit_nil (H := H) (lr := false) (z := [.int .i64 0]) rfl
  simp only [impl_moved, impl_moved_c, e0, VX, Nat.reduceEqDiff, Nat.reduceAdd, vrow_D0, vrow_Dk, set_D0, set_Dk, len_D, List.append_assoc, Nat.le_add_right, take_Dk, take_D0, List.length_replicate]
  refine VW_loop (fun (i : Nat) ρ H => i ≤ vals.length ∧ H = List.replicate n VBlk.dead ++ [.row i (((mvL g cs vals).take i).map nV) 1 true] ∧ ρ 0 = custsV cs ∧ ρ 2 = .clo fc [] ∧ ρ 7 = .ref n i 0 i i ∧ ρ 11 = numsV vals ∧ ρ 12 = VI vals.length ∧ ρ 13 = VI i) (fun i => vals.length - i) 0 ⟨Nat.zero_le _, rfl, rfl, rfl, rfl, rfl, rfl, rfl⟩ ?_
  rintro i ρ H ⟨hi, rfl, h0, h2, h7, h11, h12, h13⟩
  by_cases hin : (i : Int) < (vals.length : Int)
  · obtain ⟨s, hs⟩ : ∃ s, vals[i]? = some s := ⟨_, List.getElem?_eq_getElem (by omega)⟩
    obtain ⟨c, hc⟩ : ∃ c, cs[i]? = some c := ⟨_, List.getElem?_eq_getElem (by omega)⟩
    have hb := hv s (List.mem_of_getElem? hs)
    have hgb := hf (fun he => by rw [he] at hs; simp at hs) c (List.mem_of_getElem? hc)
    have e1 := fun H => viaddr_map (f := nV) (t := .op) (H := H) (size := 1) (k := .i64) hs rfl
    have e2 := fun H => viaddr_map (f := cV) (t := .op) (H := H) (size := 3) (k := .i64) hc rfl
    have wi : IntKind.i64.wrap ((i : Int) + 1) = ((i + 1 : Nat) : Int) := wrapN (i + 1) (by omega) (by omega)
    have ws : IntKind.i64.wrap (s + g c) = s + g c := wrap64 (by omega) (by omega)
    have hge : 0 ≤ s := hb.1
    have eF := hgb.1
    have eL : ∀ (v : Int) H, vlit false [.int .i64 0] 1 [(0, VI v)] H = some (.tree [VI v] (.cl 1), H) := fun v H => vlit_one rfl rfl rfl
    have eS : ∀ (v : Int) H, vsource 1 (.tree [VI v] (.cl 1)) H = some [VI v] := fun v H => vsource_one rfl rfl
    have hX : (mvL g cs vals).take i ++ [s + g c] = (mvL g cs vals).take (i + 1) := by
      rw [List.take_add_one, mvL_get hc hs]
      rfl
    have eP := vappend_row (f := nV) (xs := (mvL g cs vals).take i) (x := s + g c) (lo := n) (b := n) (g := i) (n := i) (e := 1) (bytes := 8) (H := List.replicate n VBlk.dead ++ [.row i (((mvL g cs vals).take i).map nV) 1 true]) (by rw [vrow_D0, vrow_zero]) (by simp; omega) (Nat.le_refl _) (by decide) (by decide) (by omega)
    rw [set_D0, hX] at eP
    have ag : rdCells true 3 (cV c) 0 = some (cV c) := rfl
    simp only [impl_moved_b0, h0, h2, h7, h11, h12, h13, hin, e1, e2, ag, eF, ws, wi, hge, ge_iff_le, eL, eS, eP, List.append_nil, VX, Nat.reduceEqDiff, Nat.reduceAdd]
    exact ⟨i + 1, by omega, by omega, rfl, by (repeat' apply And.intro) <;> first | rfl | trivial⟩
  · have hie : i = vals.length := by omega
    subst hie
    simp only [impl_moved_b0, h7, h12, h13, hin, VX, Nat.reduceEqDiff, Nat.reduceAdd]
    refine ⟨_, rfl, by simp [ownV], ?_, ?_⟩
    · simp only [rowsOwn, List.all_cons, List.all_nil, Bool.and_true]
      exact ownL_map (f := nV) (fun _ => rfl) _
    · rw [List.take_of_length_le (by omega)]
      exact ⟨rfl, hml⟩

theorem impl_LeavesOf_1_v (c : Cust) : TC 89 [cV c] (VI c.w) := by
  refine TC.walk ⟨true, false⟩ impl_LeavesOf_1_t rfl (Nat.le_of_ble_eq_true rfl) rfl rfl ?_
  simp only [impl_LeavesOf_1, impl_LeavesOf_1_c, rd_cV, cV, VX, Nat.reduceEqDiff, Nat.reduceAdd]
  exact fz_res rfl
theorem impl_WaitsOf_1_v (c : Cust) (h : 0 ≤ c.t ∧ c.t ≤ 10000) : TC 91 [cV c] (VI (0 - c.t)) := by
  refine TC.walk ⟨true, false⟩ impl_WaitsOf_1_t rfl (Nat.le_of_ble_eq_true rfl) rfl rfl ?_
  have w : IntKind.i64.wrap (0 - c.t) = 0 - c.t := wrap64 (by omega) (by omega)
  simp only [impl_WaitsOf_1, impl_WaitsOf_1_c, rd_cV, cV, w, VX, Nat.reduceEqDiff, Nat.reduceAdd]
  exact fz_res rfl
noncomputable def mvV (g : Cust → Int) (rule srv : Int) (cs : List Cust) : List Int := if stOk rule srv cs then mvL g cs (stL rule srv cs) else []
theorem mvV_is {g : Cust → Int} {rule srv : Int} {cs : List Cust} : mvL g cs (stV rule srv cs) = mvV g rule srv cs := by
  unfold stV mvV
  split
  · rfl
  · exact mvL_nil
theorem mvV_len (g : Cust → Int) (rule srv : Int) (cs : List Cust) : (mvV g rule srv cs).length ≤ cs.length := by
  unfold mvV
  split
  · rw [mvL_len stL_len]; exact Nat.le_refl _
  · exact Nat.zero_le _
/-- Starts, moved: the end of a walk. -/
theorem moved_end {g : Cust → Int} {rule srv : Int} {cs : List Cust} {n : Nat} {L : VHeap} (hL : rowsOwn n L = true) (hml : (mvL g cs (stV rule srv cs)).length = (stV rule srv cs).length) :
    ∃ L', (List.replicate n VBlk.dead ++ L) ++ [.row (stV rule srv cs).length ((mvL g cs (stV rule srv cs)).map nV) 1 true] = List.replicate n VBlk.dead ++ L' ∧ ownV n (.tup [.ref (List.replicate n VBlk.dead ++ L).length (stV rule srv cs).length 0 (stV rule srv cs).length (stV rule srv cs).length, .sc (.bool (decide (stOk rule srv cs)))]) = true ∧ rowsOwn n L' = true ∧
      LR (mvV g rule srv cs) (decide (stOk rule srv cs)) n (.tup [.ref (List.replicate n VBlk.dead ++ L).length (stV rule srv cs).length 0 (stV rule srv cs).length (stV rule srv cs).length, .sc (.bool (decide (stOk rule srv cs)))]) L' := by
  rw [mvV_is] at *
  refine ⟨L ++ [.row (stV rule srv cs).length ((mvV g rule srv cs).map nV) 1 true], by rw [List.append_assoc], by simp [ownV, ownL, isSc], ?_, _, rfl, .inr ⟨L.length, (stV rule srv cs).length, (stV rule srv cs).length, ?_, ?_, ?_⟩⟩
  · unfold rowsOwn at hL ⊢
    rw [List.all_append, hL]
    simp only [List.all_cons, List.all_nil, Bool.and_true, Bool.true_and]
    exact ownL_map (f := nV) (fun _ => rfl) _
  · rw [hml]
    simp
  · rw [hml]
    exact Nat.le_refl _
  · rw [List.getElem?_append_right (Nat.le_refl _), Nat.sub_self]
    rfl
theorem LR.fz {vals : List Int} {ok : Bool} {n : Nat} {v : VV} {L : VHeap} (h : (v = .tree [] .nil ∧ vals = []) ∨ ∃ i g c, v = .ref (n + i) g 0 vals.length c ∧ vals.length ≤ c ∧ L[i]? = some (.row g (vals.map nV) 1 true)) : PM.fz depth (List.replicate n VBlk.dead ++ L) v = some (numsV vals) := by
  rcases h with ⟨rfl, rfl⟩ | ⟨i, g, c, rfl, h2, h3⟩
  · exact fz_niltree
  · exact fz_live (fun _ => rfl) (by rw [vrow_Dk]; exact vrow_some.2 h3) h2
theorem stV_mv {rule srv : Int} {cs : List Cust} (hpos : ∀ s ∈ stV rule srv cs, 0 ≤ s) : ((stV rule srv cs).length = cs.length ∨ stV rule srv cs = []) ∧ (∀ s ∈ stV rule srv cs, 0 ≤ s ∧ s ≤ 100000) ∧ (stV rule srv cs ≠ [] → custsOk cs) ∧ (stV rule srv cs).length ≤ 1000000 := by
  unfold stV at *
  split
  · rename_i hok
    rw [if_pos hok] at hpos
    have := hok.2.2.2
    exact ⟨.inl stL_len, fun s hs => ⟨hpos s hs, (stL_mem s hs).2⟩, fun _ => hok.2.2, by rw [stL_len]; omega⟩
  · exact ⟨.inr rfl, fun s hs => (by cases hs), fun h => absurd rfl h, Nat.zero_le _⟩
theorem custsOk.mem {cs : List Cust} (h : custsOk cs) {c : Cust} (hc : c ∈ cs) : (0 ≤ c.t ∧ c.t ≤ 10000) ∧ (1 ≤ c.w ∧ c.w ≤ 1000) ∧ (0 ≤ c.k ∧ c.k ≤ 9) := by
  obtain ⟨i, hi⟩ := List.getElem?_of_mem hc
  exact h.at hi
theorem impl_LeavesOf_v (rule srv : Int) (cs : List Cust) (hn : cs.length ≤ 1000000000) : FC 53 [VI rule, VI srv, custsV cs] (LR (mvV (·.w) rule srv cs) (decide (stOk rule srv cs))) := by
  refine FC.walk ⟨true, false⟩ impl_LeavesOf_t (Nat.le_of_ble_eq_true rfl) fun n => ?_
  simp only [impl_LeavesOf, impl_LeavesOf_c, VX, Nat.reduceEqDiff, Nat.reduceAdd]
  refine FC.callO (impl_StartsOf_w rule srv cs hn) rfl (fz3 (fz_res rfl) (fz_res rfl) (fz_res (custsV_pure _))) ?_
  rw [List.length_replicate]
  rintro r L ⟨⟨v, rfl, hv⟩, hpos⟩ ho hL
  obtain ⟨k1, k2, k3, k4⟩ := stV_mv hpos
  simp only [List.getElem?_cons_zero, List.getElem?_cons_succ, VX, Nat.reduceEqDiff, Nat.reduceAdd]
  refine FC.callO (impl_moved_v (·.w) 89 cs (stV rule srv cs) (fun hne c hc => ⟨impl_LeavesOf_1_v c, by have := (k3 hne).mem hc; omega, by have := (k3 hne).mem hc; omega⟩) k1 k2 k4) rfl (fz3 (fz_res (custsV_pure _)) (LR.fz (ok := true) hv) (fz_res rfl)) ?_
  rintro r' L' ⟨rfl, rfl, hml⟩ _ _
  simp only [VX, Nat.reduceEqDiff, Nat.reduceAdd]
  exact moved_end hL hml
theorem impl_WaitsOf_v (rule srv : Int) (cs : List Cust) (hn : cs.length ≤ 1000000000) : FC 55 [VI rule, VI srv, custsV cs] (LR (mvV (fun c => 0 - c.t) rule srv cs) (decide (stOk rule srv cs))) := by
  refine FC.walk ⟨true, false⟩ impl_WaitsOf_t (Nat.le_of_ble_eq_true rfl) fun n => ?_
  simp only [impl_WaitsOf, impl_WaitsOf_c, VX, Nat.reduceEqDiff, Nat.reduceAdd]
  refine FC.callO (impl_StartsOf_w rule srv cs hn) rfl (fz3 (fz_res rfl) (fz_res rfl) (fz_res (custsV_pure _))) ?_
  rw [List.length_replicate]
  rintro r L ⟨⟨v, rfl, hv⟩, hpos⟩ ho hL
  obtain ⟨k1, k2, k3, k4⟩ := stV_mv hpos
  simp only [List.getElem?_cons_zero, List.getElem?_cons_succ, VX, Nat.reduceEqDiff, Nat.reduceAdd]
  refine FC.callO (impl_moved_v (fun c => 0 - c.t) 91 cs (stV rule srv cs) (fun hne c hc => ⟨impl_WaitsOf_1_v c ((k3 hne).mem hc).1, by have := (k3 hne).mem hc; omega, by have := (k3 hne).mem hc; omega⟩) k1 k2 k4) rfl (fz3 (fz_res (custsV_pure _)) (LR.fz (ok := true) hv) (fz_res rfl)) ?_
  rintro r' L' ⟨rfl, rfl, hml⟩ _ _
  simp only [VX, Nat.reduceEqDiff, Nat.reduceAdd]
  exact moved_end hL hml

theorem mv_step {g : Cust → Int} {cs : List Cust} {st : List Int} (hl : st.length = cs.length) {i : Nat} {c : Cust} {s : Int} (hc : cs[i]? = some c) (hs : st[i]? = some s) : ((mvL g cs st).take i ++ st.drop i).set i (s + g c) = (mvL g cs st).take (i + 1) ++ st.drop (i + 1) := by
  have hi := (List.getElem?_eq_some_iff.1 hs).1
  have hml := mvL_len (g := g) hl
  rw [List.set_append_right _ _ (by simp; omega), List.length_take, Nat.min_eq_left (by omega), Nat.sub_self, drop_cons hs, List.set_cons_zero, List.take_add_one, mvL_get hc hs, List.append_assoc]
  rfl
theorem mv_at {g : Cust → Int} {cs : List Cust} {st : List Int} (hl : st.length = cs.length) {i : Nat} {s : Int} (hs : st[i]? = some s) : ((mvL g cs st).take i ++ st.drop i)[i]? = some s := by
  have hi := (List.getElem?_eq_some_iff.1 hs).1
  have hml := mvL_len (g := g) hl
  rw [List.getElem?_append_right (by simp; omega), List.length_take, Nat.min_eq_left (by omega), Nat.sub_self, drop_cons hs]
  rfl
theorem spec_LeavesOf_v (rule srv : Int) (cs : List Cust) (hn : cs.length ≤ 1000000000) : FC 52 [VI rule, VI srv, custsV cs] (LR (mvV (·.w) rule srv cs) (decide (stOk rule srv cs))) := by
  refine FC.walk ⟨true, false⟩ spec_LeavesOf_t (Nat.le_of_ble_eq_true rfl) fun n => ?_
  have eA := spec_l05Fits_v rule srv cs hn
  by_cases hok : stOk rule srv cs
  · simp only [spec_LeavesOf, spec_LeavesOf_c, eA, hok, VX, Nat.reduceEqDiff, Nat.reduceAdd]
    refine FC.callO (spec_l05Starts_v hok.2.2 hok.1) rfl (fz3 (fz_res rfl) (fz_res rfl) (fz_res (custsV_pure _))) ?_
    rintro r L hR ho hL
    obtain ⟨rfl, rfl⟩ := hR
    rw [List.length_replicate, stL_len]
    have hlen := hok.2.2.2
    have hv : mvV (·.w) rule srv cs = mvL (·.w) cs (stL rule srv cs) := if_pos hok
    have hl := stL_len (rule := rule) (srv := srv) (cs := cs)
    have hmem := stL_mem (rule := rule) (srv := srv) (cs := cs)
    generalize stL rule srv cs = st at *
    have hml := mvL_len (g := (·.w)) hl
    simp only [VX, Nat.reduceEqDiff, Nat.reduceAdd, vrow_D0, vrow_Dk, set_D0, set_Dk, len_D, List.append_assoc, Nat.le_add_right, take_Dk, take_D0, List.length_replicate, vload_pdef, vstore_pdef, viaddr_rdef, vlen_rdef, vfaddr_pdef, vchk_pdef, visnil_rdef, visnil_nil, visnil_cons, vrow_zero, vrow_succ, List.set_cons_zero, List.set_cons_succ, elemOf_one, elemOf_two, vresult, vresAll, vres1, vfill, isAny_sc, isAny_tree, isAny_ref, isAny_agg, isAny_clo, List.take_zero, List.take_succ_cons, List.take_nil, List.drop_zero, List.drop_succ_cons, List.drop_nil, List.append_nil, Nat.reduceLeDiff, Nat.le_refl, vsplice, Nat.reduceLT, Int.toNat_natCast, eq_self, ge_iff_le, Bool.and_eq_true, Nat.reduceSub]
    refine VW_loop (fun (i : Nat) ρ H => i ≤ cs.length ∧ ρ 2 = custsV cs ∧ ρ 8 = .ref n 0 0 cs.length cs.length ∧ ρ 20 = VI cs.length ∧ ρ 21 = VI i ∧ H = List.replicate n VBlk.dead ++ [.row 0 (((mvL (·.w) cs st).take i ++ st.drop i).map nV) 1 true]) (fun i => cs.length - i) 0 ⟨Nat.zero_le _, rfl, rfl, rfl, rfl, by simp⟩ ?_
    rintro i ρ H ⟨hi, h2, h8, h20, h21, rfl⟩
    by_cases hin : (i : Int) < (cs.length : Int)
    · obtain ⟨s, hs⟩ : ∃ s, st[i]? = some s := ⟨_, List.getElem?_eq_getElem (by omega)⟩
      obtain ⟨c, hc⟩ : ∃ c, cs[i]? = some c := ⟨_, List.getElem?_eq_getElem (by omega)⟩
      have hb := hmem s (List.mem_of_getElem? hs)
      have hcb := hok.2.2.mem (List.mem_of_getElem? hc)
      have e2 := fun H => viaddr_map (f := cV) (t := .op) (H := H) (size := 3) (k := .i64) hc rfl
      have wi : IntKind.i64.wrap ((i : Int) + 1) = ((i + 1 : Nat) : Int) := wrapN (i + 1) (by omega) (by omega)
      have ws : IntKind.i64.wrap (s + c.w) = s + c.w := wrap64 (by omega) (by omega)
      have hge : (0 : Int) ≤ (i : Int) := by omega
      have hXi : (((mvL (·.w) cs st).take i ++ st.drop i).map nV)[i]? = some (VI s) := by rw [List.getElem?_map, mv_at hl hs]; rfl
      have hst := vstore_map (f := nV) (xs := (mvL (·.w) cs st).take i ++ st.drop i) (x := s + c.w) (e := 1) (g := 0) (j := i) (b := n) (lo := n) (H := List.replicate n VBlk.dead ++ [.row 0 (((mvL (·.w) cs st).take i ++ st.drop i).map nV) 1 true]) (by rw [vrow_D0, vrow_zero]) (by simp; omega) (Nat.le_refl _) rfl rfl
      rw [set_D0, mv_step (g := (·.w)) hl hc hs] at hst
      have rds : ∀ v : Int, rdCells false 1 (VI v) 0 = some (VI v) := fun _ => rfl
      simp only [spec_LeavesOf_b0, h2, h8, h20, h21, hin, hge, e2, rd_cV, cV, rds, hXi, ws, wi, hst, VX, Nat.reduceEqDiff, Nat.reduceAdd, vload_pdef, vstore_pdef, viaddr_rdef, vlen_rdef, vfaddr_pdef, vchk_pdef, visnil_rdef, visnil_nil, visnil_cons, vrow_zero, vrow_succ, List.set_cons_zero, List.set_cons_succ, elemOf_one, elemOf_two, vresult, vresAll, vres1, vfill, isAny_sc, isAny_tree, isAny_ref, isAny_agg, isAny_clo, List.take_zero, List.take_succ_cons, List.take_nil, List.drop_zero, List.drop_succ_cons, List.drop_nil, List.append_nil, Nat.reduceLeDiff, Nat.le_refl, vsplice, Nat.reduceLT, Int.toNat_natCast, eq_self, ge_iff_le, Bool.and_eq_true, Nat.reduceSub, vrow_D0, vrow_Dk, set_D0, set_Dk, len_D, List.append_assoc, Nat.le_add_right, take_Dk, take_D0, List.length_replicate]
      exact ⟨i + 1, by omega, by omega, by (repeat' apply And.intro) <;> first | rfl | trivial⟩
    · have hie : i = cs.length := by omega
      subst hie
      simp only [spec_LeavesOf_b0, h8, h20, h21, hin, VX, Nat.reduceEqDiff, Nat.reduceAdd]
      rw [List.take_of_length_le (by omega), List.drop_of_length_le (by omega), List.append_nil, ← hv]
      refine ⟨_, rfl, by simp [ownV, ownL, isSc], ?_, _, rfl, .inr ⟨0, 0, cs.length, by rw [hv, hml]; rfl, by rw [hv, hml]; exact Nat.le_refl _, rfl⟩⟩
      simp only [rowsOwn, List.all_cons, List.all_nil, Bool.and_true]
      exact ownL_map (f := nV) (fun _ => rfl) _
  · simp only [spec_LeavesOf, spec_LeavesOf_c, eA, hok, VX, Nat.reduceEqDiff, Nat.reduceAdd]
    have hv : mvV (·.w) rule srv cs = [] := if_neg hok
    exact ⟨[], by simp, rfl, rfl, ⟨_, rfl, .inl ⟨rfl, hv⟩⟩⟩
theorem spec_l05Waits_v {rule srv : Int} {cs : List Cust} (hc0 : custsOk cs) (hr : 0 ≤ rule ∧ rule ≤ 3) : FC 90 [VI rule, VI srv, custsV cs] (stR1 (mvL (fun c => 0 - c.t) cs (stL rule srv cs))) := by
  refine FC.walk ⟨true, false⟩ spec_l05Waits_t (Nat.le_of_ble_eq_true rfl) fun n => ?_
  simp only [spec_l05Waits, spec_l05Waits_c, VX, Nat.reduceEqDiff, Nat.reduceAdd]
  refine FC.callO (spec_l05Starts_v hc0 hr) rfl (fz3 (fz_res rfl) (fz_res rfl) (fz_res (custsV_pure _))) ?_
  rintro r L hR ho hL
  obtain ⟨rfl, rfl⟩ := hR
  rw [List.length_replicate, stL_len]
  have hlen := hc0.2
  have hl := stL_len (rule := rule) (srv := srv) (cs := cs)
  have hmem := stL_mem (rule := rule) (srv := srv) (cs := cs)
  generalize stL rule srv cs = st at *
  have hml := mvL_len (g := fun c => 0 - c.t) hl
  simp only [VX, Nat.reduceEqDiff, Nat.reduceAdd, vrow_D0, vrow_Dk, set_D0, set_Dk, len_D, List.append_assoc, Nat.le_add_right, take_Dk, take_D0, List.length_replicate, vload_pdef, vstore_pdef, viaddr_rdef, vlen_rdef, vfaddr_pdef, vchk_pdef, visnil_rdef, visnil_nil, visnil_cons, vrow_zero, vrow_succ, List.set_cons_zero, List.set_cons_succ, elemOf_one, elemOf_two, vresult, vresAll, vres1, vfill, isAny_sc, isAny_tree, isAny_ref, isAny_agg, isAny_clo, List.take_zero, List.take_succ_cons, List.take_nil, List.drop_zero, List.drop_succ_cons, List.drop_nil, List.append_nil, Nat.reduceLeDiff, Nat.le_refl, vsplice, Nat.reduceLT, Int.toNat_natCast, eq_self, ge_iff_le, Bool.and_eq_true, Nat.reduceSub]
  refine VW_loop (fun (i : Nat) ρ H => i ≤ cs.length ∧ ρ 2 = custsV cs ∧ ρ 7 = .ref n 0 0 cs.length cs.length ∧ ρ 14 = VI cs.length ∧ ρ 15 = VI i ∧ H = List.replicate n VBlk.dead ++ [.row 0 (((mvL (fun c => 0 - c.t) cs st).take i ++ st.drop i).map nV) 1 true]) (fun i => cs.length - i) 0 ⟨Nat.zero_le _, rfl, rfl, rfl, rfl, by simp⟩ ?_
  rintro i ρ H ⟨hi, h2, h7, h14, h15, rfl⟩
  by_cases hin : (i : Int) < (cs.length : Int)
  · obtain ⟨s, hs⟩ : ∃ s, st[i]? = some s := ⟨_, List.getElem?_eq_getElem (by omega)⟩
    obtain ⟨c, hc⟩ : ∃ c, cs[i]? = some c := ⟨_, List.getElem?_eq_getElem (by omega)⟩
    have hb := hmem s (List.mem_of_getElem? hs)
    have hcb := hc0.mem (List.mem_of_getElem? hc)
    have e2 := fun H => viaddr_map (f := cV) (t := .op) (H := H) (size := 3) (k := .i64) hc rfl
    have wi : IntKind.i64.wrap ((i : Int) + 1) = ((i + 1 : Nat) : Int) := wrapN (i + 1) (by omega) (by omega)
    have ws : IntKind.i64.wrap (s - c.t) = s + (0 - c.t) := by rw [show s - c.t = s + (0 - c.t) by omega]; exact wrap64 (by omega) (by omega)
    have hge : (0 : Int) ≤ (i : Int) := by omega
    have hXi : (((mvL (fun c => 0 - c.t) cs st).take i ++ st.drop i).map nV)[i]? = some (VI s) := by rw [List.getElem?_map, mv_at hl hs]; rfl
    have hst := vstore_map (f := nV) (xs := (mvL (fun c => 0 - c.t) cs st).take i ++ st.drop i) (x := s + (0 - c.t)) (e := 1) (g := 0) (j := i) (b := n) (lo := n) (H := List.replicate n VBlk.dead ++ [.row 0 (((mvL (fun c => 0 - c.t) cs st).take i ++ st.drop i).map nV) 1 true]) (by rw [vrow_D0, vrow_zero]) (by rw [List.length_append, List.length_take, List.length_drop]; omega) (Nat.le_refl _) rfl rfl
    rw [set_D0, mv_step (g := fun c => 0 - c.t) hl hc hs] at hst
    have rds : ∀ v : Int, rdCells false 1 (VI v) 0 = some (VI v) := fun _ => rfl
    simp only [spec_l05Waits_b0, h2, h7, h14, h15, hin, hge, e2, rd_cV, cV, rds, hXi, ws, wi, hst, VX, Nat.reduceEqDiff, Nat.reduceAdd, vload_pdef, vstore_pdef, viaddr_rdef, vlen_rdef, vfaddr_pdef, vchk_pdef, visnil_rdef, visnil_nil, visnil_cons, vrow_zero, vrow_succ, List.set_cons_zero, List.set_cons_succ, elemOf_one, elemOf_two, vresult, vresAll, vres1, vfill, isAny_sc, isAny_tree, isAny_ref, isAny_agg, isAny_clo, List.take_zero, List.take_succ_cons, List.take_nil, List.drop_zero, List.drop_succ_cons, List.drop_nil, List.append_nil, Nat.reduceLeDiff, Nat.le_refl, vsplice, Nat.reduceLT, Int.toNat_natCast, eq_self, ge_iff_le, Bool.and_eq_true, Nat.reduceSub, vrow_D0, vrow_Dk, set_D0, set_Dk, len_D, List.append_assoc, Nat.le_add_right, take_Dk, take_D0, List.length_replicate]
    exact ⟨i + 1, by omega, by omega, by (repeat' apply And.intro) <;> first | rfl | trivial⟩
  · have hie : i = cs.length := by omega
    subst hie
    simp only [spec_l05Waits_b0, h7, h14, h15, hin, VX, Nat.reduceEqDiff, Nat.reduceAdd]
    rw [List.take_of_length_le (by omega), List.drop_of_length_le (by omega), List.append_nil]
    refine ⟨_, rfl, by simp [ownV], ?_, by rw [hml], rfl⟩
    simp only [rowsOwn, List.all_cons, List.all_nil, Bool.and_true]
    exact ownL_map (f := nV) (fun _ => rfl) _
theorem spec_WaitsOf_v (rule srv : Int) (cs : List Cust) (hn : cs.length ≤ 1000000000) : FC 54 [VI rule, VI srv, custsV cs] (LR (mvV (fun c => 0 - c.t) rule srv cs) (decide (stOk rule srv cs))) := by
  refine FC.walk ⟨true, false⟩ spec_WaitsOf_t (Nat.le_of_ble_eq_true rfl) fun n => ?_
  have eA := spec_l05Fits_v rule srv cs hn
  by_cases hok : stOk rule srv cs
  · simp only [spec_WaitsOf, spec_WaitsOf_c, eA, hok, VX, Nat.reduceEqDiff, Nat.reduceAdd]
    refine FC.callO (spec_l05Waits_v hok.2.2 hok.1) rfl (fz3 (fz_res rfl) (fz_res rfl) (fz_res (custsV_pure _))) ?_
    rw [List.length_replicate]
    rintro r L hR ho hL
    have hv : mvV (fun c => 0 - c.t) rule srv cs = mvL (fun c => 0 - c.t) cs (stL rule srv cs) := if_pos hok
    simp only [VX, Nat.reduceEqDiff, Nat.reduceAdd]
    refine ⟨L, rfl, by simp only [ownV, ownL, ho, isSc, Bool.and_self], hL, ?_⟩
    rw [hv]
    exact LR.of hR.to
  · simp only [spec_WaitsOf, spec_WaitsOf_c, eA, hok, VX, Nat.reduceEqDiff, Nat.reduceAdd]
    have hv : mvV (fun c => 0 - c.t) rule srv cs = [] := if_neg hok
    exact ⟨[], by simp, rfl, rfl, ⟨_, rfl, .inl ⟨rfl, hv⟩⟩⟩
end Go.PM
