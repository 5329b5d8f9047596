/- Texts of a claim, in one: part 13. -/
import Derived.Test.YthoncidphopjjaaKLl

/- Starts, leaves and waits: the program and the reference, walked. -/
set_option linter.unusedSimpArgs false
set_option linter.unusedVariables false
namespace Go.PM

noncomputable def stV (rule srv : Int) (cs : List Cust) : List Int := if stOk rule srv cs then stL rule srv cs else []
theorem stV_len (rule srv : Int) (cs : List Cust) : (stV rule srv cs).length ≤ cs.length := by
  unfold stV
  split
  · rw [stL_len]; exact Nat.le_refl _
  · exact Nat.zero_le _
theorem impl_starts_pos {rule srv : Int} {cs : List Cust} (hc : custsOk cs) (hr : 0 ≤ rule ∧ rule ≤ 3) (hs : 1 ≤ srv ∧ srv ≤ 8) : FC 31 [VI rule, VI srv, VI 24, custsV cs] fun n r L => stR (stL rule srv cs) n r L ∧ ∀ s ∈ stL rule srv cs, 0 ≤ s := by
  intro n
  refine (impl_starts_w (stSys hc hr hs.1 (Int.le_refl 24)) hc hr hs.2 n).mono ?_
  rintro r H ⟨L, h1, h2, h3, m, come, ws, ends, st, ⟨_, t, hI⟩, hcome, hw, h4, h5⟩
  have h6 := hI.done hcome hw
  refine ⟨L, h1, h2, h3, ⟨?_, ?_⟩, fun s hs => ?_⟩
  · rw [h4, stL_len]
  · rw [h5, h6]
  · rw [← h6] at hs
    obtain ⟨i, hi⟩ := List.getElem?_of_mem hs
    have hil := (List.getElem?_eq_some_iff.1 hi).1
    have := hI.all hcome hw i (by rw [← hI.len]; exact hil)
    rw [stC_of hi] at this
    exact this

theorem LR.of {vals : List Int} {ok : Bool} {n : Nat} {r : VV} {L : VHeap} (h : stR vals n r L) : LR vals ok n (.tup [r, .sc (.bool ok)]) L := ⟨r, rfl, .inr ⟨0, 0, vals.length, h.1, Nat.le_refl _, h.2⟩⟩
theorem impl_StartsOf_w (rule srv : Int) (cs : List Cust) (hn : cs.length ≤ 1000000000) : FC 21 [VI rule, VI srv, custsV cs] fun n r L => LR (stV rule srv cs) (decide (stOk rule srv cs)) n r L ∧ ∀ s ∈ stV rule srv cs, 0 ≤ s := by
  refine FC.walk ⟨true, false⟩ impl_StartsOf_t (Nat.le_of_ble_eq_true rfl) fun n => ?_
  have eA := impl_pathOk_v rule srv cs hn
  by_cases hok : stOk rule srv cs
  · simp only [impl_StartsOf, impl_StartsOf_c, eA, hok, VX, Nat.reduceEqDiff, Nat.reduceAdd]
    refine FC.callO (impl_starts_pos hok.2.2 hok.1 hok.2.1) rfl (fz4 (fz_res rfl) (fz_res rfl) (fz_res rfl) (fz_res (custsV_pure _))) ?_
    rw [List.length_replicate]
    rintro r L ⟨hR, hpos⟩ ho hL
    have hv : stV rule srv cs = stL rule srv cs := if_pos hok
    simp only [VX, Nat.reduceEqDiff, Nat.reduceAdd]
    refine ⟨L, rfl, by simp only [ownV, ownL, ho, isSc, Bool.and_self], hL, ?_, ?_⟩
    · rw [hv]
      exact LR.of hR
    · rw [hv]
      exact hpos
  · simp only [impl_StartsOf, impl_StartsOf_c, eA, hok, VX, Nat.reduceEqDiff, Nat.reduceAdd]
    have hv : stV rule srv cs = [] := if_neg hok
    refine ⟨[], by simp, rfl, rfl, ⟨_, rfl, .inl ⟨rfl, hv⟩⟩, ?_⟩
    rw [hv]
    intro s hs
    cases hs
theorem impl_StartsOf_v (rule srv : Int) (cs : List Cust) (hn : cs.length ≤ 1000000000) : FC 21 [VI rule, VI srv, custsV cs] (LR (stV rule srv cs) (decide (stOk rule srv cs))) := (impl_StartsOf_w rule srv cs hn).mono fun _ _ _ h => h.1
end Go.PM

/- Leaves and waits: the program and the reference, walked. -/
namespace Go.PM

def mvL (g : Cust → Int) : List Cust → List Int → List Int
  | c :: cs, s :: st => (s + g c) :: mvL g cs st
  | _, _ => []
theorem mvL_len {g : Cust → Int} : ∀ {cs : List Cust} {st : List Int}, st.length = cs.length → (mvL g cs st).length = cs.length
  | [], [], _ => rfl
  | c :: cs, s :: st, h => by
    have h' : st.length = cs.length := by simpa using h
    rw [mvL, List.length_cons, mvL_len h', List.length_cons]
theorem mvL_get {g : Cust → Int} : ∀ {cs : List Cust} {st : List Int} {i : Nat} {c : Cust} {s : Int}, cs[i]? = some c → st[i]? = some s → (mvL g cs st)[i]? = some (s + g c)
  | [], _, _, _, _, h, _ => by simp at h
  | _ :: _, [], _, _, _, _, h => by simp at h
  | c :: cs, s :: st, 0, _, _, h1, h2 => by
    injection h1 with h1
    injection h2 with h2
    subst h1; subst h2
    rfl
  | c :: cs, s :: st, i + 1, _, _, h1, h2 => by
    rw [List.getElem?_cons_succ] at h1 h2
    rw [mvL, List.getElem?_cons_succ]
    exact mvL_get h1 h2
theorem mvL_nil {g : Cust → Int} : ∀ {cs : List Cust}, mvL g cs [] = []
  | [] => rfl
  | _ :: _ => rfl

set_option maxHeartbeats 1000000 in
theorem impl_moved_v (g : Cust → Int) (fc : Nat) (cs : List Cust) (vals : List Int) (hf : vals ≠ [] → ∀ c ∈ cs, TC fc [cV c] (VI (g c)) ∧ -100000 ≤ g c ∧ g c ≤ 100000) (hl : vals.length = cs.length ∨ vals = []) (hv : ∀ s ∈ vals, 0 ≤ s ∧ s ≤ 100000) (hn : vals.length ≤ 1000000) :
    FC 32 [custsV cs, numsV vals, .clo fc []] fun n r L => r = .ref n vals.length 0 vals.length vals.length ∧ L = [.row vals.length ((mvL g cs vals).map nV) 1 true] ∧ (mvL g cs vals).length = vals.length := by
  refine FC.walk ⟨true, false⟩ impl_moved_t (Nat.le_of_ble_eq_true rfl) fun n => ?_
  have hvl : vals.length ≤ cs.length := by rcases hl with h | h <;> simp [h]
  have hml : (mvL g cs vals).length = vals.length := by
    rcases hl with h | h
    · rw [mvL_len h, h]
    · subst h
      rw [mvL_nil]
  have e0 := fun H => vlit_nil (H := H) (lr := false) (z := [.int .i64 0]) rfl
  simp only [impl_moved, impl_moved_c, e0, VX, Nat.reduceEqDiff, Nat.reduceAdd, vrow_D0, vrow_Dk, set_D0, set_Dk, len_D, List.append_assoc, Nat.le_add_right, take_Dk, take_D0, List.length_replicate]
  refine VW_loop (fun (i : Nat) ρ H => i ≤ vals.length ∧ H = List.replicate n VBlk.dead ++ [.row i (((mvL g cs vals).take i).map nV) 1 true] ∧ ρ 0 = custsV cs ∧ ρ 2 = .clo fc [] ∧ ρ 7 = .ref n i 0 i i ∧ ρ 11 = numsV vals ∧ ρ 12 = VI vals.length ∧ ρ 13 = VI i) (fun i => vals.length - i) 0 ⟨Nat.zero_le _, rfl, rfl, rfl, rfl, rfl, rfl, rfl⟩ ?_
  rintro i ρ H ⟨hi, rfl, h0, h2, h7, h11, h12, h13⟩
  by_cases hin : (i : Int) < (vals.length : Int)
  · obtain ⟨s, hs⟩ : ∃ s, vals[i]? = some s := ⟨_, List.getElem?_eq_getElem (by omega)⟩
    obtain ⟨c, hc⟩ : ∃ c, cs[i]? = some c := ⟨_, List.getElem?_eq_getElem (by omega)⟩
    have hb := hv s (List.mem_of_getElem? hs)
    have hgb := hf (fun he => by rw [he] at hs; simp at hs) c (List.mem_of_getElem? hc)
    have e1 := fun H => viaddr_map (f := nV) (t := .op) (H := H) (size := 1) (k := .i64) hs rfl
    have e2 := fun H => viaddr_map (f := cV) (t := .op) (H := H) (size := 3) (k := .i64) hc rfl
    have wi : IntKind.i64.wrap ((i : Int) + 1) = ((i + 1 : Nat) : Int) := wrapN (i + 1) (by omega) (by omega)
    have ws : IntKind.i64.wrap (s + g c) = s + g c := wrap64 (by omega) (by omega)
    have hge : 0 ≤ s := hb.1
    have eF := hgb.1
    have eL : ∀ (v : Int) H, vlit false [.int .i64 0] 1 [(0, VI v)] H = some (.tree [VI v] (.cl 1), H) := fun v H => vlit_one rfl rfl rfl
    have eS : ∀ (v : Int) H, vsource 1 (.tree [VI v] (.cl 1)) H = some [VI v] := fun v H => vsource_one rfl rfl
    have hX : (mvL g cs vals).take i ++ [s + g c] = (mvL g cs vals).take (i + 1) := by
      rw [List.take_add_one, mvL_get hc hs]
      rfl
    have eP := vappend_row (f := nV) (xs := (mvL g cs vals).take i) (x := s + g c) (lo := n) (b := n) (g := i) (n := i) (e := 1) (bytes := 8) (H := List.replicate n VBlk.dead ++ [.row i (((mvL g cs vals).take i).map nV) 1 true]) (by rw [vrow_D0, vrow_zero]) (by simp; omega) (Nat.le_refl _) (by decide) (by decide) (by omega)
    rw [set_D0, hX] at eP
    have ag : rdCells true 3 (cV c) 0 = some (cV c) := rfl
    simp only [impl_moved_b0, h0, h2, h7, h11, h12, h13, hin, e1, e2, ag, eF, ws, wi, hge, ge_iff_le, eL, eS, eP, List.append_nil, VX, Nat.reduceEqDiff, Nat.reduceAdd]
    exact ⟨i + 1, by omega, by omega, rfl, by (repeat' apply And.intro) <;> first | rfl | trivial⟩
  · have hie : i = vals.length := by omega
    subst hie
    simp only [impl_moved_b0, h7, h12, h13, hin, VX, Nat.reduceEqDiff, Nat.reduceAdd]
    refine ⟨_, rfl, by simp [ownV], ?_, ?_⟩
    · simp only [rowsOwn, List.all_cons, List.all_nil, Bool.and_true]
      exact ownL_map (f := nV) (fun _ => rfl) _
    · rw [List.take_of_length_le (by omega)]
      exact ⟨rfl, hml⟩

theorem impl_LeavesOf_1_v (c : Cust) : TC 37 [cV c] (VI c.w) := by
  refine TC.walk ⟨true, false⟩ impl_LeavesOf_1_t rfl (Nat.le_of_ble_eq_true rfl) rfl rfl ?_
  simp only [impl_LeavesOf_1, impl_LeavesOf_1_c, rd_cV, cV, VX, Nat.reduceEqDiff, Nat.reduceAdd]
  exact fz_res rfl
noncomputable def mvV (g : Cust → Int) (rule srv : Int) (cs : List Cust) : List Int := if stOk rule srv cs then mvL g cs (stL rule srv cs) else []
theorem mvV_is {g : Cust → Int} {rule srv : Int} {cs : List Cust} : mvL g cs (stV rule srv cs) = mvV g rule srv cs := by
  unfold stV mvV
  split
  · rfl
  · exact mvL_nil
theorem mvV_len (g : Cust → Int) (rule srv : Int) (cs : List Cust) : (mvV g rule srv cs).length ≤ cs.length := by
  unfold mvV
  split
  · rw [mvL_len stL_len]; exact Nat.le_refl _
  · exact Nat.zero_le _
/-- Starts, moved: the end of a walk. -/
theorem moved_end {g : Cust → Int} {rule srv : Int} {cs : List Cust} {n : Nat} {L : VHeap} (hL : rowsOwn n L = true) (hml : (mvL g cs (stV rule srv cs)).length = (stV rule srv cs).length) :
    ∃ L', (List.replicate n VBlk.dead ++ L) ++ [.row (stV rule srv cs).length ((mvL g cs (stV rule srv cs)).map nV) 1 true] = List.replicate n VBlk.dead ++ L' ∧ ownV n (.tup [.ref (List.replicate n VBlk.dead ++ L).length (stV rule srv cs).length 0 (stV rule srv cs).length (stV rule srv cs).length, .sc (.bool (decide (stOk rule srv cs)))]) = true ∧ rowsOwn n L' = true ∧
      LR (mvV g rule srv cs) (decide (stOk rule srv cs)) n (.tup [.ref (List.replicate n VBlk.dead ++ L).length (stV rule srv cs).length 0 (stV rule srv cs).length (stV rule srv cs).length, .sc (.bool (decide (stOk rule srv cs)))]) L' := by
  rw [mvV_is] at *
  refine ⟨L ++ [.row (stV rule srv cs).length ((mvV g rule srv cs).map nV) 1 true], by rw [List.append_assoc], by simp [ownV, ownL, isSc], ?_, _, rfl, .inr ⟨L.length, (stV rule srv cs).length, (stV rule srv cs).length, ?_, ?_, ?_⟩⟩
  · unfold rowsOwn at hL ⊢
    rw [List.all_append, hL]
    simp only [List.all_cons, List.all_nil, Bool.and_true, Bool.true_and]
    exact ownL_map (f := nV) (fun _ => rfl) _
  · rw [hml]
    simp
  · rw [hml]
    exact Nat.le_refl _
  · rw [List.getElem?_append_right (Nat.le_refl _), Nat.sub_self]
    rfl
theorem LR.fz {vals : List Int} {ok : Bool} {n : Nat} {v : VV} {L : VHeap} (h : (v = .tree [] .nil ∧ vals = []) ∨ ∃ i g c, v = .ref (n + i) g 0 vals.length c ∧ vals.length ≤ c ∧ L[i]? = some (.row g (vals.map nV) 1 true)) : PM.fz depth (List.replicate n VBlk.dead ++ L) v = some (numsV vals) := by
  rcases h with ⟨rfl, rfl⟩ | ⟨i, g, c, rfl, h2, h3⟩
  · exact fz_niltree
  · exact fz_live (fun _ => rfl) (by rw [vrow_Dk]; exact vrow_some.2 h3) h2
theorem stV_mv {rule srv : Int} {cs : List Cust} (hpos : ∀ s ∈ stV rule srv cs, 0 ≤ s) : ((stV rule srv cs).length = cs.length ∨ stV rule srv cs = []) ∧ (∀ s ∈ stV rule srv cs, 0 ≤ s ∧ s ≤ 100000) ∧ (stV rule srv cs ≠ [] → custsOk cs) ∧ (stV rule srv cs).length ≤ 1000000 := by
  unfold stV at *
  split
  · rename_i hok
    rw [if_pos hok] at hpos
    have := hok.2.2.2
    exact ⟨.inl stL_len, fun s hs => ⟨hpos s hs, (stL_mem s hs).2⟩, fun _ => hok.2.2, by rw [stL_len]; omega⟩
  · exact ⟨.inr rfl, fun s hs => (by cases hs), fun h => absurd rfl h, Nat.zero_le _⟩
theorem impl_LeavesOf_v (rule srv : Int) (cs : List Cust) (hn : cs.length ≤ 1000000000) : FC 17 [VI rule, VI srv, custsV cs] (LR (mvV (·.w) rule srv cs) (decide (stOk rule srv cs))) := by
  refine FC.walk ⟨true, false⟩ impl_LeavesOf_t (Nat.le_of_ble_eq_true rfl) fun n => ?_
  simp only [impl_LeavesOf, impl_LeavesOf_c, VX, Nat.reduceEqDiff, Nat.reduceAdd]
  refine FC.callO (impl_StartsOf_w rule srv cs hn) rfl (fz3 (fz_res rfl) (fz_res rfl) (fz_res (custsV_pure _))) ?_
  rw [List.length_replicate]
  rintro r L ⟨⟨v, rfl, hv⟩, hpos⟩ ho hL
  obtain ⟨k1, k2, k3, k4⟩ := stV_mv hpos
  simp only [List.getElem?_cons_zero, List.getElem?_cons_succ, VX, Nat.reduceEqDiff, Nat.reduceAdd]
  refine FC.callO (impl_moved_v (·.w) 37 cs (stV rule srv cs) (fun hne c hc => ⟨impl_LeavesOf_1_v c, by have := (k3 hne).mem hc; omega, by have := (k3 hne).mem hc; omega⟩) k1 k2 k4) rfl (fz3 (fz_res (custsV_pure _)) (LR.fz (ok := true) hv) (fz_res rfl)) ?_
  rintro r' L' ⟨rfl, rfl, hml⟩ _ _
  simp only [VX, Nat.reduceEqDiff, Nat.reduceAdd]
  exact moved_end hL hml

theorem mv_step {g : Cust → Int} {cs : List Cust} {st : List Int} (hl : st.length = cs.length) {i : Nat} {c : Cust} {s : Int} (hc : cs[i]? = some c) (hs : st[i]? = some s) : ((mvL g cs st).take i ++ st.drop i).set i (s + g c) = (mvL g cs st).take (i + 1) ++ st.drop (i + 1) := by
  have hi := (List.getElem?_eq_some_iff.1 hs).1
  have hml := mvL_len (g := g) hl
  rw [List.set_append_right _ _ (by simp; omega), List.length_take, Nat.min_eq_left (by omega), Nat.sub_self, drop_cons hs, List.set_cons_zero, List.take_add_one, mvL_get hc hs, List.append_assoc]
  rfl
theorem mv_at {g : Cust → Int} {cs : List Cust} {st : List Int} (hl : st.length = cs.length) {i : Nat} {s : Int} (hs : st[i]? = some s) : ((mvL g cs st).take i ++ st.drop i)[i]? = some s := by
  have hi := (List.getElem?_eq_some_iff.1 hs).1
  have hml := mvL_len (g := g) hl
  rw [List.getElem?_append_right (by simp; omega), List.length_take, Nat.min_eq_left (by omega), Nat.sub_self, drop_cons hs]
  rfl
end Go.PM

/- Limits: plain words. -/
namespace Go.PM

section
variable {srv room : Int} {cs : List Cust}
theorem spK_filter (n : Nat) : spK srv room cs n = (List.range n).filter (keptB srv room cs) := by
  induction n with
  | zero => rfl
  | succ n ih =>
    rw [spK_one, List.range_succ, List.filter_append, ← ih]
    cases hk : keptB srv room cs n with
    | true => rw [if_pos rfl, List.filter_cons_of_pos hk]; rfl
    | false => rw [if_neg (by decide), List.filter_cons_of_neg (by rw [hk]; decide)]; simp
/-! ### room for all -/
theorem kept_all {i : Nat} (hi : i < 24) : keptB srv 24 cs i = true := by
  rw [keptB_is]
  have h1 : cntL srv (subC cs (spK srv 24 cs i)) (atC cs i) ≤ (subC cs (spK srv 24 cs i)).length := by
    unfold cntL
    have := List.countP_le_length (p := fun j => decide (atC cs i < stC (stL 0 srv (subC cs (spK srv 24 cs i))) j + wkC (subC cs (spK srv 24 cs i)) j)) (l := List.range (subC cs (spK srv 24 cs i)).length)
    simpa using this
  have h2 := spK_len (srv := srv) (room := 24) (cs := cs) i
  rw [subC_len] at h1
  omega
theorem spK_all {n : Nat} (hn : n ≤ 24) : spK srv 24 cs n = List.range n := by
  rw [spK_filter, List.filter_eq_self]
  intro i hi
  rw [List.mem_range] at hi
  exact kept_all (by omega)
theorem subC_all : subC cs (List.range cs.length) = cs := by
  apply List.ext_getElem?
  intro i
  by_cases hi : i < cs.length
  · rw [subC_get (List.getElem?_range hi) hi]
  · rw [List.getElem?_eq_none (by rw [subC_len]; simp; omega), List.getElem?_eq_none (by omega)]
theorem rm_all (hc : custsOk cs) : rmLv srv 24 cs = mvL (·.w) cs (stL 0 srv cs) ∧ rmLo srv 24 cs cs.length = [] := by
  have h24 := hc.2
  have hS : rmS srv 24 cs = stL 0 srv cs := by
    unfold rmS
    rw [spK_all h24, subC_all]
  constructor
  · apply List.ext_getElem?
    intro i
    by_cases hi : i < cs.length
    · obtain ⟨x, hx⟩ : ∃ x, cs[i]? = some x := ⟨_, List.getElem?_eq_getElem hi⟩
      obtain ⟨s, hs⟩ : ∃ s, (stL 0 srv cs)[i]? = some s := ⟨_, List.getElem?_eq_getElem (by rw [stL_len]; exact hi)⟩
      rw [mvL_get hx hs, rmLv, List.getElem?_map, List.getElem?_range hi]
      simp only [Option.map_some]
      unfold rmAt
      rw [if_pos (kept_all (by omega)), hS, spK_all (by omega), List.length_range, stC_of hs, wkC_of hx]
    · rw [List.getElem?_eq_none (by simp [rmLv]; omega), List.getElem?_eq_none (by rw [mvL_len stL_len]; omega)]
  · unfold rmLo
    rw [List.filter_eq_nil_iff]
    intro i hi
    rw [List.mem_range] at hi
    rw [kept_all (by omega)]
    decide
/-! ### nobody starts ahead of coming -/
theorem fill_ge {rule t : Int} : ∀ (n : Nat) (st : List Int), st.length = cs.length → (∀ i, i < cs.length → 0 ≤ stC st i → atC cs i ≤ stC st i) → ∀ i, i < cs.length → 0 ≤ stC (fill rule srv cs t n st) i → atC cs i ≤ stC (fill rule srv cs t n st) i := by
  intro n
  induction n with
  | zero => intro st _ h; exact h
  | succ n ih =>
    intro st hl h
    rw [fill]
    split
    · split
      · exact h
      · rename_i k hk
        obtain ⟨h2, h3, h4⟩ := wt_mem.1 (nxt_mem hk)
        refine ih _ (by simp [hl]) fun i hi => ?_
        rw [stC_set (by omega)]
        split
        · rename_i he
          subst he
          intro _
          exact h4
        · exact h i hi
    · exact h
theorem runT_ge {rule : Int} : ∀ (n : Nat) (t : Int) (st : List Int), 0 ≤ t → st.length = cs.length → (∀ i, i < cs.length → 0 ≤ stC st i → atC cs i ≤ stC st i) → ∀ i, i < cs.length → 0 ≤ stC (runT rule srv cs t n st) i → atC cs i ≤ stC (runT rule srv cs t n st) i := by
  intro n
  induction n with
  | zero => intro t st _ _ h; exact h
  | succ n ih =>
    intro t st h0 hl h
    rw [runT]
    exact ih _ _ (by omega) (fill_keep h0 cs.length st hl).1 (fill_ge _ _ hl h)
theorem stL_ge {rule : Int} {i : Nat} (hi : i < cs.length) (h : 0 ≤ stC (stL rule srv cs) i) : atC cs i ≤ stC (stL rule srv cs) i :=
  runT_ge 100000 0 _ (Int.le_refl _) (by simp) (fun j hj h0 => by rw [stC_rep hj] at h0; omega) i hi h
theorem rmAt_is (hc : custsOk cs) (hs : 1 ≤ srv) {i : Nat} (hi : i < cs.length) : (rmAt srv room cs i < 0 ↔ ¬ keptB srv room cs i = true) ∧ (0 ≤ rmAt srv room cs i → atC cs i + wkC cs i ≤ rmAt srv room cs i) := by
  unfold rmAt
  by_cases hk : keptB srv room cs i = true
  · obtain ⟨h1, h2, h3⟩ := rmS_ok hc hs hi hk
    have hw := hc.bnd hi
    have h4 := stL_ge (rule := 0) (srv := srv) (cs := subC cs (spK srv room cs cs.length)) h1 h2
    rw [atC_sub (kept_at hi hk) hi] at h4
    rw [if_pos hk]
    unfold rmS at *
    exact ⟨⟨fun h => by omega, fun h => absurd hk h⟩, fun _ => by omega⟩
  · rw [if_neg hk]
    exact ⟨⟨fun _ => hk, fun _ => by decide⟩, fun h => absurd h (by decide)⟩
/-! ### never more than the room -/
theorem runT_apps {K : List Cust} {now : Int} (h0 : 0 ≤ now) : ∀ (n : Nat) (X : List Cust), X.length = n → (∀ x ∈ X, now ≤ x.t) → runT 0 srv (K ++ X) 0 now.toNat (List.replicate (K ++ X).length (-1)) = runT 0 srv K 0 now.toNat (List.replicate K.length (-1)) ++ List.replicate X.length (-1) := by
  intro n
  induction n with
  | zero =>
    intro X hX _
    have : X = [] := List.eq_nil_of_length_eq_zero hX
    subst this
    simp
  | succ n ih =>
    intro X hX hx
    rcases List.eq_nil_or_concat X with rfl | ⟨Y, y, rfl⟩
    · simp at hX
    · rw [List.concat_eq_append] at *
      have hY : Y.length = n := by simpa using hX
      rw [← List.append_assoc]
      have e1 : List.replicate ((K ++ Y) ++ [y]).length (-1 : Int) = List.replicate (K ++ Y).length (-1) ++ [-1] := by
        have : (K ++ Y ++ [y]).length = (K ++ Y).length + 1 := by simp; omega
        rw [this, List.replicate_succ']
      rw [e1, runT_app now.toNat 0 _ (Int.le_refl _) (by have := hx y (by simp); omega) (by simp), ih Y hY fun x h => hx x (List.mem_append_left _ h), List.append_assoc]
      congr 1
      rw [List.length_append, List.length_cons, List.length_nil, List.replicate_succ']
theorem noninterf {K X : List Cust} {now : Int} (hKX : custsOk (K ++ X)) (hK : custsOk K) (hs : 1 ≤ srv) (h0 : 0 ≤ now ∧ now ≤ 100000) (hx : ∀ x ∈ X, now ≤ x.t) {j : Nat} (hj : j < K.length) (h : now < stC (stL 0 srv (K ++ X)) j + wkC (K ++ X) j) : now < stC (stL 0 srv K) j + wkC K j := by
  have hw : wkC (K ++ X) j = wkC K j := by unfold wkC; rw [List.getElem?_append_left hj]
  have hwk := (hK.bnd hj).2
  have hpK := stL_pos (rule := 0) (srv := srv) hK ⟨by decide, by decide⟩ hs j hj
  have e1 : stL 0 srv K = runT 0 srv K now (100000 - now).toNat (runT 0 srv K 0 now.toNat (List.replicate K.length (-1))) := by
    unfold stL
    have e0 : (0 : Int) + (now.toNat : Int) = now := by omega
    have e9 : (100000 : Nat) = now.toNat + (100000 - now).toNat := by omega
    conv => lhs; rw [e9, runT_add, e0]
  have e2 : stL 0 srv (K ++ X) = runT 0 srv (K ++ X) now (100000 - now).toNat (runT 0 srv (K ++ X) 0 now.toNat (List.replicate (K ++ X).length (-1))) := by
    unfold stL
    have e0 : (0 : Int) + (now.toNat : Int) = now := by omega
    have e9 : (100000 : Nat) = now.toNat + (100000 - now).toNat := by omega
    conv => lhs; rw [e9, runT_add, e0]
  have hl := (runT_keep (rule := 0) (srv := srv) (cs := K) now.toNat 0 (List.replicate K.length (-1)) (Int.le_refl _) (by simp)).1
  have k1 := (runT_keep (rule := 0) (srv := srv) (cs := K) (100000 - now).toNat now _ h0.1 hl).2 j hj
  rw [← e1] at k1
  have hl2 := (runT_keep (rule := 0) (srv := srv) (cs := K ++ X) now.toNat 0 (List.replicate (K ++ X).length (-1)) (Int.le_refl _) (by simp)).1
  have k2 := (runT_keep (rule := 0) (srv := srv) (cs := K ++ X) (100000 - now).toNat now _ h0.1 hl2).2 j (by rw [List.length_append]; omega)
  rw [← e2] at k2
  rw [runT_apps h0.1 X.length X rfl hx] at k2
  have hst : stC (runT 0 srv K 0 now.toNat (List.replicate K.length (-1)) ++ List.replicate X.length (-1)) j = stC (runT 0 srv K 0 now.toNat (List.replicate K.length (-1))) j := by
    unfold stC
    rw [List.getElem?_append_left (by omega)]
  rw [hst] at k2
  rw [hw] at h
  by_cases hq : 0 ≤ stC (runT 0 srv K 0 now.toNat (List.replicate K.length (-1))) j
  · rw [k1.1 hq]
    rw [k2.1 hq] at h
    exact h
  · have := k1.2 (by omega)
    omega
theorem countP_places {p : Nat → Bool} (l : List Nat) : l.countP p = (List.range l.length).countP fun j => p ((l[j]?).getD 0) := by
  have h : l = (List.range l.length).map fun j => (l[j]?).getD 0 := by
    apply List.ext_getElem?
    intro i
    rw [List.getElem?_map]
    by_cases hi : i < l.length
    · rw [List.getElem?_range hi, Option.map_some, List.getElem?_eq_getElem hi, Option.getD_some]
    · rw [List.getElem?_eq_none (by omega), List.getElem?_eq_none (by simp; omega)]
      rfl
  conv => lhs; rw [h, List.countP_map]
  rfl
def inRm (srv room : Int) (cs : List Cust) (t : Int) (i : Nat) : Bool := decide (atC cs i ≤ t) && decide (t < rmAt srv room cs i)
theorem in_room (hc : custsOk cs) (hs : 1 ≤ srv) (hroom : 0 ≤ room) {t : Int} (ht : 0 ≤ t) : ∀ n, n ≤ cs.length → ((List.range n).countP (inRm srv room cs t) : Int) ≤ room := by
  intro n
  induction n with
  | zero => intro _; exact hroom
  | succ n ih =>
    intro hn
    have hnl : n < cs.length := by omega
    rw [List.range_succ, List.countP_append, List.countP_singleton]
    cases hp : inRm srv room cs t n with
    | false =>
      have := ih (by omega)
      simpa using this
    | true =>
      have h24 := hc.2
      simp only [inRm, Bool.and_eq_true, decide_eq_true_eq] at hp
      have hkn : keptB srv room cs n = true := by
        by_cases hk : keptB srv room cs n = true
        · exact hk
        · have := ((rmAt_is (room := room) hc hs hnl).1).2 hk
          omega
      have hcnt := keptB_is.1 hkn
      have hbn := hc.bnd hnl
      have hKn : custsOk (subC cs (spK srv room cs n)) := sub_ok hc (spK_inc n) (fun j hj => by have := spK_mem hj; omega) (by have := spK_len (srv := srv) (room := room) (cs := cs) n; omega)
      have hKN : custsOk (subC cs (spK srv room cs cs.length)) := sub_ok hc (spK_inc _) (fun j hj => spK_mem hj) (by have := spK_len (srv := srv) (room := room) (cs := cs) cs.length; omega)
      obtain ⟨rest, hrest⟩ := spK_pre (srv := srv) (room := room) (cs := cs) (by omega : n ≤ cs.length)
      have hrm : ∀ i ∈ rest, n ≤ i ∧ i < cs.length := by
        intro i hi
        have h1 : i ∈ spK srv room cs cs.length := by rw [← hrest]; exact List.mem_append_right _ hi
        refine ⟨?_, spK_mem h1⟩
        rcases Nat.lt_or_ge i n with h2 | h2
        · exfalso
          have h3 : i ∈ spK srv room cs n := (keptB_mem h2).2 ((keptB_mem (spK_mem h1)).1 h1)
          have h4 := spK_inc (srv := srv) (room := room) (cs := cs) cs.length
          rw [← hrest, List.pairwise_append] at h4
          exact Nat.lt_irrefl _ (h4.2.2 i h3 i hi)
        · exact h2
      have hsplit : subC cs (spK srv room cs cs.length) = subC cs (spK srv room cs n) ++ subC cs rest := by rw [← hrest]; simp [subC]
      have hX : ∀ x ∈ subC cs rest, atC cs n ≤ x.t := by
        intro x hx
        obtain ⟨i, hi, rfl⟩ := List.mem_map.1 hx
        obtain ⟨g1, g2⟩ := hrm i hi
        have := hc.sorted g1 g2
        rw [atC_of (List.getElem?_eq_getElem g2)] at this
        rw [List.getElem?_eq_getElem g2]
        exact this
      have hle : (List.range n).countP (inRm srv room cs t) ≤ cntL srv (subC cs (spK srv room cs n)) (atC cs n) := by
        have e1 : (List.range n).countP (inRm srv room cs t) = (spK srv room cs n).countP (inRm srv room cs t) := by
          rw [spK_filter, List.countP_filter]
          refine List.countP_congr fun i hi => ?_
          rw [List.mem_range] at hi
          refine ⟨fun h => ?_, fun h => ?_⟩
          · rw [Bool.and_eq_true]
            refine ⟨h, ?_⟩
            simp only [inRm, Bool.and_eq_true, decide_eq_true_eq] at h
            by_cases hk : keptB srv room cs i = true
            · exact hk
            · have := ((rmAt_is (room := room) hc hs (by omega : i < cs.length)).1).2 hk
              omega
          · rw [Bool.and_eq_true] at h
            exact h.1
        rw [e1, countP_places]
        unfold cntL
        rw [subC_len]
        refine List.countP_mono_left fun j hj hpj => ?_
        rw [List.mem_range] at hj
        obtain ⟨i, hi⟩ : ∃ i, (spK srv room cs n)[j]? = some i := ⟨_, List.getElem?_eq_getElem hj⟩
        rw [hi] at hpj
        simp only [Option.getD_some, inRm, Bool.and_eq_true, decide_eq_true_eq] at hpj
        rw [decide_eq_true_eq]
        have hin : i < n := spK_mem (List.mem_of_getElem? hi)
        have hki : keptB srv room cs i = true := (keptB_mem hin).1 (List.mem_of_getElem? hi)
        have hpos := kept_at hin hki
        have hjj : (spK srv room cs i).length = j := by
          have h1 := List.getElem?_eq_some_iff.1 hi
          have h2 := List.getElem?_eq_some_iff.1 hpos
          have h3 := List.pairwise_iff_getElem.1 (spK_inc (srv := srv) (room := room) (cs := cs) n)
          rcases Nat.lt_trichotomy (spK srv room cs i).length j with h4 | h4 | h4
          · have := h3 _ _ h2.1 h1.1 h4
            rw [h1.2, h2.2] at this
            omega
          · exact h4
          · have := h3 _ _ h1.1 h2.1 h4
            rw [h1.2, h2.2] at this
            omega
        have hra : rmAt srv room cs i = stC (rmS srv room cs) j + wkC cs i := by unfold rmAt; rw [if_pos hki, hjj]
        have hwi : wkC (subC cs (spK srv room cs n)) j = wkC cs i := wkC_sub hi (by omega)
        refine noninterf (X := subC cs rest) (by rw [← hsplit]; exact hKN) hKn hs ⟨by omega, by omega⟩ hX (by rw [subC_len]; exact hj) ?_
        have hw2 : wkC (subC cs (spK srv room cs n) ++ subC cs rest) j = wkC (subC cs (spK srv room cs n)) j := by unfold wkC; rw [List.getElem?_append_left (by rw [subC_len]; exact hj)]
        rw [hw2, hwi, ← hsplit]
        unfold rmS at hra
        omega
      simp only [if_true]
      omega
end
end Go.PM

/- One server, first come first: plain words. -/
namespace Go.PM

def fcL : List Cust → Int → List Int
  | [], _ => []
  | c :: cs, f => max c.t f :: fcL cs (max c.t f + c.w)
theorem fcL_len : ∀ (cs : List Cust) (f : Int), (fcL cs f).length = cs.length
  | [], _ => rfl
  | c :: cs, f => by rw [fcL, List.length_cons, fcL_len, List.length_cons]
theorem pt_fc (p : Int) : ∀ (cs : List Cust) (f : Int), (∀ c ∈ cs, 0 ≤ c.t ∧ c.t ≤ 75 ∧ c.w ≤ 7) → max f 75 + 7 * (cs.length : Int) ≤ p → ptList cs (List.replicate cs.length p) f = fcL cs f
  | [], _, _, _ => rfl
  | c :: cs, f, h, hb => by
    have hc := h c List.mem_cons_self
    rw [List.length_cons] at hb
    rw [List.length_cons, List.replicate_succ, ptList, if_neg (by omega), fcL, pt_fc p cs _ (fun x hx => h x (List.mem_cons_of_mem _ hx)) (by omega)]
theorem fcL_ge : ∀ (cs : List Cust) (f : Int) {i : Nat} {c : Cust} {s : Int}, cs[i]? = some c → (fcL cs f)[i]? = some s → (∀ x ∈ cs, 1 ≤ x.w) → f ≤ s ∧ c.t ≤ s
  | c :: cs, f, 0, _, _, h1, h2, hw => by
    injection h1 with h1
    injection h2 with h2
    subst h1; subst h2
    omega
  | c :: cs, f, i + 1, _, _, h1, h2, hw => by
    rw [List.getElem?_cons_succ] at h1
    rw [fcL, List.getElem?_cons_succ] at h2
    have := fcL_ge cs _ h1 h2 fun x hx => hw x (List.mem_cons_of_mem _ hx)
    have := hw c List.mem_cons_self
    omega
/-- Who comes later starts when the one ahead has left, or when he comes. -/
theorem fcL_next : ∀ (cs : List Cust) (f : Int) {i : Nat} {c d : Cust} {s u : Int}, cs[i]? = some c → cs[i + 1]? = some d → (fcL cs f)[i]? = some s → (fcL cs f)[i + 1]? = some u → u = max d.t (s + c.w)
  | c :: [], f, 0, _, d, _, _, h1, h2, _, _ => by simp at h2
  | c :: d :: cs, f, 0, _, _, _, _, h1, h2, h3, h4 => by
    injection h1 with h1
    injection h3 with h3
    rw [List.getElem?_cons_succ] at h2
    rw [fcL, List.getElem?_cons_succ, fcL] at h4
    injection h2 with h2
    injection h4 with h4
    subst h1; subst h2; subst h3
    exact h4.symm
  | c :: cs, f, i + 1, _, _, _, _, h1, h2, h3, h4 => by
    rw [List.getElem?_cons_succ] at h1 h2
    rw [fcL, List.getElem?_cons_succ] at h3 h4
    exact fcL_next cs _ h1 h2 h3 h4
section
variable {cs : List Cust}
abbrev fcAt (cs : List Cust) (i : Nat) : Int := stC (fcL cs 0) i
theorem fcAt_get {i : Nat} (hi : i < cs.length) : (fcL cs 0)[i]? = some (fcAt cs i) := by
  rw [List.getElem?_eq_getElem (by rw [fcL_len]; exact hi)]
  congr 1
  exact (stC_of (List.getElem?_eq_getElem (by rw [fcL_len]; exact hi))).symm
theorem fcAt_succ {i : Nat} (hi : i + 1 < cs.length) : fcAt cs (i + 1) = max (atC cs (i + 1)) (fcAt cs i + wkC cs i) := by
  have h1 : cs[i]? = some cs[i] := List.getElem?_eq_getElem (by omega)
  have h2 : cs[i + 1]? = some cs[i + 1] := List.getElem?_eq_getElem hi
  rw [fcL_next cs 0 h1 h2 (fcAt_get (by omega)) (fcAt_get hi), atC_of h2, wkC_of h1]
theorem fcAt_zero (h : 0 < cs.length) : fcAt cs 0 = max (atC cs 0) 0 := by
  cases cs with
  | nil => simp at h
  | cons c cs => rfl
theorem fcAt_ge (hc : custsOk cs) {i : Nat} (hi : i < cs.length) : 0 ≤ fcAt cs i ∧ atC cs i ≤ fcAt cs i := by
  have h1 : cs[i]? = some cs[i] := List.getElem?_eq_getElem hi
  have := fcL_ge cs 0 h1 (fcAt_get hi) fun x hx => by have := hc.mem hx; omega
  rw [atC_of h1]
  exact this
theorem fcAt_mono (hc : custsOk cs) {i : Nat} : ∀ {j : Nat}, i < j → j < cs.length → fcAt cs i + wkC cs i ≤ fcAt cs j := by
  intro j
  induction j with
  | zero => intro h _; omega
  | succ j ih =>
    intro h hj
    have h1 := fcAt_succ hj
    rcases Nat.lt_or_ge i j with h2 | h2
    · have := ih h2 (by omega)
      have := hc.bnd (i := j) (by omega)
      omega
    · have : i = j := by omega
      subst this
      omega
theorem fcAt_bound (hc : custsOk cs) {i : Nat} (hi : i < cs.length) : fcAt cs i ≤ 10000 + 1000 * (i : Int) := by
  induction i with
  | zero =>
    rw [fcAt_zero hi]
    have := hc.bnd hi
    omega
  | succ i ih =>
    have := ih (by omega)
    rw [fcAt_succ hi]
    have := hc.bnd hi
    have := hc.bnd (i := i) (by omega)
    omega
/-- The state ahead of a tick. -/
def fcSt (cs : List Cust) (t : Int) : List Int := (List.range cs.length).map fun i => if fcAt cs i < t then fcAt cs i else -1
theorem fcSt_len {t : Int} : (fcSt cs t).length = cs.length := by simp [fcSt]
theorem fcSt_at {t : Int} {i : Nat} (hi : i < cs.length) : stC (fcSt cs t) i = if fcAt cs i < t then fcAt cs i else -1 := stC_of (by rw [fcSt, List.getElem?_map, List.getElem?_range hi]; rfl)
theorem nxt_least {st : List Int} {t : Int} {i : Nat} (hi : i ∈ wt cs st t) (hl : ∀ j ∈ wt cs st t, i ≤ j) : nxt 0 cs st t = some i := by
  have hs : (wt cs st t).Pairwise (· < ·) := List.Pairwise.filter _ List.pairwise_lt_range
  unfold nxt
  cases hw : wt cs st t with
  | nil => rw [hw] at hi; cases hi
  | cons x l =>
    rw [hw] at hi hl hs
    have h1 := hl x List.mem_cons_self
    have h2 : x = i := by
      rcases List.mem_cons.1 hi with h | h
      · exact h.symm
      · have := (List.pairwise_cons.1 hs).1 i h
        omega
    rw [List.foldl_cons, show pickW 0 cs none x = some x from rfl, pick_first (fun a b => rfl), h2]
theorem fc_fill (hc : custsOk cs) {t : Int} (h0 : 0 ≤ t) : fill 0 1 cs t cs.length (fcSt cs t) = fcSt cs (t + 1) := by
  by_cases hex : ∃ i, i < cs.length ∧ fcAt cs i = t
  · obtain ⟨i, hi, he⟩ := hex
    have hs : stC (fcSt cs t) i < 0 := by rw [fcSt_at hi, if_neg (by omega)]; decide
    have hge := fcAt_ge hc hi
    have hbz : bz cs (fcSt cs t) t = 0 := by
      unfold bz
      rw [(List.countP_eq_zero (p := inS cs (fcSt cs t) t)).2]
      intro j hj
      rw [List.mem_range] at hj
      simp only [inS, fcSt_at hj, Bool.and_eq_true, decide_eq_true_eq]
      rintro ⟨⟨g1, _⟩, g3⟩
      by_cases hjt : fcAt cs j < t
      · rw [if_pos hjt] at g1 g3
        have hji : j < i := by
          rcases Nat.lt_trichotomy j i with h | h | h
          · exact h
          · subst h; omega
          · have := fcAt_mono hc h hj
            have := (hc.bnd hi).2
            omega
        have := fcAt_mono hc hji hi
        omega
      · rw [if_neg hjt] at g1
        omega
    have hnx : nxt 0 cs (fcSt cs t) t = some i := by
      refine nxt_least (wt_mem.2 ⟨hi, hs, by omega⟩) fun j hj => ?_
      obtain ⟨g1, g2, g3⟩ := wt_mem.1 hj
      rw [fcSt_at g1] at g2
      have hjt : ¬ fcAt cs j < t := fun h => by
        rw [if_pos h] at g2
        have := fcAt_ge hc g1
        omega
      rcases Nat.lt_or_ge j i with h | h
      · have := fcAt_mono hc h hi
        have := (hc.bnd g1).2
        omega
      · exact h
    rw [← fill_step fcSt_len h0 (by rw [hbz]; decide) hnx, fill_full]
    · apply List.ext_getElem?
      intro j
      by_cases hj : j < cs.length
      · have e1 : ((fcSt cs t).set i t)[j]? = some (if j = i then t else if fcAt cs j < t then fcAt cs j else -1) := by
          have hl : j < ((fcSt cs t).set i t).length := by rw [List.length_set, fcSt_len]; exact hj
          rw [List.getElem?_eq_getElem hl]
          congr 1
          rw [← stC_of (List.getElem?_eq_getElem hl), stC_set (by rw [fcSt_len]; exact hi), fcSt_at hj]
        have e2 : (fcSt cs (t + 1))[j]? = some (if fcAt cs j < t + 1 then fcAt cs j else -1) := by rw [fcSt, List.getElem?_map, List.getElem?_range hj]; rfl
        rw [e1, e2]
        congr 1
        by_cases hji : j = i
        · rw [if_pos hji, hji, he, if_pos (by omega)]
        · rw [if_neg hji]
          have hne : fcAt cs j ≠ t := by
            intro h
            rcases Nat.lt_or_gt_of_ne hji with h' | h'
            · have := fcAt_mono hc h' hi
              have := (hc.bnd hj).2
              omega
            · have := fcAt_mono hc h' hj
              have := (hc.bnd hi).2
              omega
          by_cases hjt : fcAt cs j < t
          · rw [if_pos hjt, if_pos (by omega)]
          · rw [if_neg hjt, if_neg (by omega)]
      · rw [List.getElem?_eq_none (by rw [List.length_set, fcSt_len]; omega), List.getElem?_eq_none (by rw [fcSt_len]; omega)]
    · left
      rw [bz_set hi fcSt_len hs h0, hbz, if_pos ⟨Int.le_refl _, by have := (hc.bnd hi).2; omega⟩]
      decide
  · have hne : ∀ i, i < cs.length → fcAt cs i ≠ t := fun i hi he => hex ⟨i, hi, he⟩
    have hsame : fcSt cs (t + 1) = fcSt cs t := by
      unfold fcSt
      refine List.map_congr_left fun i hi => ?_
      rw [List.mem_range] at hi
      have := hne i hi
      by_cases hjt : fcAt cs i < t
      · rw [if_pos hjt, if_pos (by omega)]
      · rw [if_neg hjt, if_neg (by omega)]
    rw [hsame]
    refine fill_full ?_ _
    by_cases hw : wt cs (fcSt cs t) t = []
    · exact .inr (nxt_none.2 hw)
    · left
      obtain ⟨m, hm⟩ := List.exists_mem_of_ne_nil _ hw
      obtain ⟨m1, m2, m3⟩ := wt_mem.1 hm
      have hmt : t ≤ fcAt cs m := by
        rcases Int.lt_or_le (fcAt cs m) t with h | h
        · rw [fcSt_at m1, if_pos h] at m2
          have := fcAt_ge hc m1
          omega
        · exact h
      -- the least who has not started
      have key : ∀ n, n < cs.length → t ≤ fcAt cs n → ∃ i, i ≤ n ∧ t ≤ fcAt cs i ∧ ∀ j, j < i → fcAt cs j < t := by
        intro n
        induction n with
        | zero => intro _ h; exact ⟨0, Nat.le_refl _, h, fun j hj => by omega⟩
        | succ n ih =>
          intro hn h
          rcases Int.lt_or_le (fcAt cs n) t with h1 | h1
          · refine ⟨n + 1, Nat.le_refl _, h, fun j hj => ?_⟩
            rcases Nat.lt_or_ge j n with h2 | h2
            · have := fcAt_mono hc h2 (by omega)
              have := (hc.bnd (i := j) (by omega)).2
              omega
            · have : j = n := by omega
              subst this
              exact h1
          · obtain ⟨i, g1, g2, g3⟩ := ih (by omega) h1
            exact ⟨i, by omega, g2, g3⟩
      obtain ⟨i, g1, g2, g3⟩ := key m m1 hmt
      have hiN : i < cs.length := by omega
      have hat := hc.sorted g1 m1
      have hni := hne i hiN
      cases i with
      | zero =>
        have := fcAt_zero (cs := cs) (by omega)
        omega
      | succ i =>
        have h1 := fcAt_succ hiN
        have h2 := g3 i (by omega)
        have hiN' : i < cs.length := by omega
        have hin : inS cs (fcSt cs t) t i = true := by
          have := fcAt_ge hc hiN'
          simp only [inS, fcSt_at hiN', if_pos h2, Bool.and_eq_true, decide_eq_true_eq]
          omega
        have : 0 < bz cs (fcSt cs t) t := by
          unfold bz
          rw [List.countP_pos_iff]
          exact ⟨i, List.mem_range.2 hiN', hin⟩
        omega
theorem fc_run (hc : custsOk cs) : ∀ (n : Nat) (t : Int), 0 ≤ t → runT 0 1 cs t n (fcSt cs t) = fcSt cs (t + n) := by
  intro n
  induction n with
  | zero => intro t _; simp [runT]
  | succ n ih =>
    intro t h0
    rw [runT, fc_fill hc h0, ih _ (by omega)]
    congr 1
    omega
theorem fc_stL (hc : custsOk cs) : stL 0 1 cs = fcL cs 0 := by
  have h24 := hc.2
  have e0 : List.replicate cs.length (-1) = fcSt cs 0 := by
    apply List.ext_getElem?
    intro i
    by_cases hi : i < cs.length
    · rw [List.getElem?_replicate, if_pos hi, fcSt, List.getElem?_map, List.getElem?_range hi, Option.map_some, if_neg (by have := fcAt_ge hc hi; omega)]
    · rw [List.getElem?_eq_none (by simp; omega), List.getElem?_eq_none (by rw [fcSt_len]; omega)]
  unfold stL
  rw [e0, fc_run hc _ 0 (Int.le_refl _)]
  apply List.ext_getElem?
  intro i
  by_cases hi : i < cs.length
  · rw [fcSt, List.getElem?_map, List.getElem?_range hi, Option.map_some, fcAt_get hi, if_pos]
    have := fcAt_bound hc hi
    omega
  · rw [List.getElem?_eq_none (by rw [fcSt_len]; omega), List.getElem?_eq_none (by rw [fcL_len]; omega)]
end
theorem pt_facts : ∀ (cs : List Cust) (ps : List Int) (f : Int) {i : Nat} {c : Cust} {p s : Int}, cs[i]? = some c → ps[i]? = some p → (ptList cs ps f)[i]? = some s → s = -1 ∨ (c.t ≤ s ∧ s - c.t ≤ p)
  | [], _, _, _, _, _, _, h, _, _ => by simp at h
  | _ :: _, [], _, _, _, _, _, _, h, _ => by simp at h
  | c :: cs, p :: ps, f, 0, _, _, _, h1, h2, h3 => by
    injection h1 with h1
    injection h2 with h2
    subst h1; subst h2
    rw [ptList] at h3
    split at h3
    · injection h3 with h3
      exact .inl h3.symm
    · injection h3 with h3
      right
      omega
  | c :: cs, p :: ps, f, i + 1, _, _, _, h1, h2, h3 => by
    rw [List.getElem?_cons_succ] at h1 h2
    rw [ptList] at h3
    split at h3
    · rw [List.getElem?_cons_succ] at h3
      exact pt_facts cs ps _ h1 h2 h3
    · rw [List.getElem?_cons_succ] at h3
      exact pt_facts cs ps _ h1 h2 h3
theorem ptList_len' : ∀ (cs : List Cust) (ps : List Int) (f : Int), ps.length = cs.length → (ptList cs ps f).length = cs.length
  | [], [], _, _ => rfl
  | c :: cs, p :: ps, f, h => by
    have h' : ps.length = cs.length := by simpa using h
    rw [ptList]
    split
    · rw [List.length_cons, ptList_len' cs ps _ h', List.length_cons]
    · rw [List.length_cons, ptList_len' cs ps _ h', List.length_cons]
end Go.PM

/- Room for some: the reference, walked. -/
namespace Go.PM

theorem spec_l00Has_ids (ws : List Nat) (k : Nat) (hn : ws.length ≤ 1000000) : TC 25 [idsV ws, VI k] (.sc (.bool (decide (k ∈ ws)))) := by
  refine TC.walk ⟨true, false⟩ spec_l00Has_t rfl (Nat.le_of_ble_eq_true rfl) (by simp only [pureL, ids_pure]; rfl) rfl ?_
  simp only [spec_l00Has, spec_l00Has_c, VX, Nat.reduceEqDiff, Nat.reduceAdd]
  refine VW_loop (fun (i : Nat) ρ H => i ≤ ws.length ∧ H = [] ∧ (∀ j x, j < i → ws[j]? = some x → x ≠ k) ∧ ρ 0 = idsV ws ∧ ρ 1 = VI k ∧ ρ 5 = VI i) (fun i => ws.length - i) 0 ⟨Nat.zero_le _, rfl, fun j x h => by omega, rfl, rfl, rfl⟩ ?_
  rintro i ρ H ⟨hi, rfl, hall, h0, h1, h5⟩
  by_cases hin : (i : Int) < (ws.length : Int)
  · obtain ⟨x, hx⟩ : ∃ x, ws[i]? = some x := ⟨_, List.getElem?_eq_getElem (by omega)⟩
    have e1 := viaddr_map (f := kV) (t := .op) (H := []) (size := 1) (k := .i64) hx rfl
    have rds : rdCells false 1 (kV x) 0 = some (VI x) := rfl
    have wi : IntKind.i64.wrap ((i : Int) + 1) = ((i + 1 : Nat) : Int) := wrapN (i + 1) (by omega) (by omega)
    by_cases hk : x = k
    · have hk' : ((x : Nat) : Int) = (k : Int) := by rw [hk]
      simp only [spec_l00Has_b0, h0, h1, h5, hin, e1, rds, hk', VX, Nat.reduceEqDiff, Nat.reduceAdd]
      rw [decide_eq_true (hk ▸ List.mem_of_getElem? hx)]
      exact fz_res rfl
    · have hk' : ¬ ((x : Nat) : Int) = (k : Int) := by omega
      simp only [spec_l00Has_b0, h0, h1, h5, hin, e1, rds, hk', wi, VX, Nat.reduceEqDiff, Nat.reduceAdd]
      refine ⟨i + 1, by omega, by omega, fun j y hj hy => ?_, by (repeat' apply And.intro) <;> first | rfl | trivial⟩
      rcases Nat.lt_or_ge j i with hji | hji
      · exact hall j y hji hy
      · have : j = i := by omega
        subst this
        rw [hx] at hy
        injection hy with hy
        exact hy ▸ hk
  · simp only [spec_l00Has_b0, h0, h1, h5, hin, VX, Nat.reduceEqDiff, Nat.reduceAdd]
    have : ¬ k ∈ ws := fun hm => by
      obtain ⟨j, hj⟩ := List.getElem?_of_mem hm
      exact hall j k (by have := (List.getElem?_eq_some_iff.1 hj).1; omega) hj rfl
    rw [decide_eq_false this]
    exact fz_res rfl
theorem rmLo_mem {srv room : Int} {cs : List Cust} {i n : Nat} (h : i < n) : i ∈ rmLo srv room cs n ↔ ¬ keptB srv room cs i = true := by
  unfold rmLo
  rw [List.mem_filter, List.mem_range]
  simp [h]
def custE (cs : List Cust) (i : Nat) : Cust := (cs[i]?).getD ⟨0, 0, 0⟩
theorem spK_sub_one {srv room : Int} {cs : List Cust} {i : Nat} {x : Cust} (hx : cs[i]? = some x) (hk : keptB srv room cs i = true) : subC cs (spK srv room cs (i + 1)) = subC cs (spK srv room cs i) ++ [x] := by
  rw [spK_one, if_pos hk, subC_app, hx]
  rfl

def wrH (n : Nat) (lo : List Nat) (K : List Cust) : VHeap := [.row 0 [] 1 true, .row lo.length (lo.map kV) 1 true, .row K.length (K.map cV) 3 true]
set_option maxHeartbeats 1000000 in
/-- How many of the kept are there. -/
theorem spec_WithRoom_b0_w {srv : Int} {cs K : List Cust} {S : List Int} {n lo i : Nat} {los : List Nat} {x : Cust} {ρ : VEnv} (hx : cs[i]? = some x) (hc : custsOk cs) (hK : custsOk K) (hS : S.length = K.length) (hSb : ∀ s ∈ S, -1 ≤ s ∧ s ≤ 100000) (h2 : ρ 2 = custsV cs) (h11 : ρ 11 = .ref (n + 2) K.length 0 K.length K.length) (h12 : ρ 12 = VI i) (h13 : ρ 13 = .ref (n + 3) 0 0 K.length K.length) (h14 : ρ 14 = VI 0) (h41 : ρ 41 = VI K.length) (h42 : ρ 42 = VI 0)
    (g0 : ρ 0 = VI srv) {room : Int} (g1 : ρ 1 = VI room) (g9 : ρ 9 = .ref n 0 0 0 0) (g10 : ρ 10 = .ref (n + 1) los.length 0 los.length los.length) (g33 : ρ 33 = VI cs.length) (g34 : ρ 34 = VI i) :
    VW ⟨true, false⟩ lo (.block 2 (.loop spec_WithRoom_b0)) (fun e ρ' H => e = .normal ∧ H = List.replicate n VBlk.dead ++ (wrH n los K ++ [.row 0 (S.map nV) 1 true]) ∧ ρ' 14 = VI ((List.range K.length).countP fun j => decide (x.t < stC S j + wkC K j)) ∧ ρ' 0 = VI srv ∧ ρ' 1 = VI room ∧ ρ' 2 = custsV cs ∧ ρ' 9 = .ref n 0 0 0 0 ∧ ρ' 10 = .ref (n + 1) los.length 0 los.length los.length ∧ ρ' 11 = .ref (n + 2) K.length 0 K.length K.length ∧ ρ' 12 = VI i ∧ ρ' 33 = VI cs.length ∧ ρ' 34 = VI i) ρ (List.replicate n VBlk.dead ++ (wrH n los K ++ [.row 0 (S.map nV) 1 true])) := by
  have hK24 := hK.2
  rw [VW_block]
  refine VW_loop (fun (j : Nat) ρ' H => j ≤ K.length ∧ H = List.replicate n VBlk.dead ++ (wrH n los K ++ [.row 0 (S.map nV) 1 true]) ∧ ρ' 14 = VI ((List.range j).countP fun j => decide (x.t < stC S j + wkC K j)) ∧ ρ' 13 = .ref (n + 3) 0 0 K.length K.length ∧ ρ' 41 = VI K.length ∧ ρ' 42 = VI j ∧ ρ' 0 = VI srv ∧ ρ' 1 = VI room ∧ ρ' 2 = custsV cs ∧ ρ' 9 = .ref n 0 0 0 0 ∧ ρ' 10 = .ref (n + 1) los.length 0 los.length los.length ∧ ρ' 11 = .ref (n + 2) K.length 0 K.length K.length ∧ ρ' 12 = VI i ∧ ρ' 33 = VI cs.length ∧ ρ' 34 = VI i) (fun j => K.length - j) 0 ⟨Nat.zero_le _, rfl, h14, h13, h41, h42, g0, g1, h2, g9, g10, h11, h12, g33, g34⟩ ?_
  clear h2 h11 h12 h13 h14 h41 h42 g0 g1 g9 g10 g33 g34 ρ
  rintro j ρ H ⟨hj, rfl, h14, h13, h41, h42, g0, g1, h2, g9, g10, h11, h12, g33, g34⟩
  by_cases hin : (j : Int) < (K.length : Int)
  · obtain ⟨s, hs⟩ : ∃ s, S[j]? = some s := ⟨_, List.getElem?_eq_getElem (by omega)⟩
    obtain ⟨c, hcj⟩ : ∃ c, K[j]? = some c := ⟨_, List.getElem?_eq_getElem (by omega)⟩
    have hb := hSb s (List.mem_of_getElem? hs)
    have hcb := hK.mem (List.mem_of_getElem? hcj)
    have hge : (0 : Int) ≤ (j : Int) := by omega
    have hSm : (S.map nV)[j]? = some (VI s) := by rw [List.getElem?_map, hs]; rfl
    have hKm : (K.map cV)[j]? = some (.agg [nV c.t, nV c.w, nV c.k]) := by rw [List.getElem?_map, hcj]; rfl
    have rds : ∀ v : Int, rdCells false 1 (VI v) 0 = some (VI v) := fun _ => rfl
    have rdw : rdCells false 1 (.agg [nV c.t, nV c.w, nV c.k]) 1 = some (VI c.w) := rfl
    have e1 := fun H => viaddr_map (f := cV) (t := .op) (H := H) (size := 3) (k := .i64) hx rfl
    have wi : IntKind.i64.wrap ((j : Int) + 1) = ((j + 1 : Nat) : Int) := wrapN (j + 1) (by omega) (by omega)
    have ws : IntKind.i64.wrap (s + c.w) = s + c.w := wrap64 (by omega) (by omega)
    have hstep : (List.range (j + 1)).countP (fun j => decide (x.t < stC S j + wkC K j)) = (List.range j).countP (fun j => decide (x.t < stC S j + wkC K j)) + if x.t < s + c.w then 1 else 0 := by
      rw [List.range_succ, List.countP_append, List.countP_singleton, stC_of hs, wkC_of hcj]
      simp only [decide_eq_true_eq]
    have hcl : (List.range j).countP (fun j => decide (x.t < stC S j + wkC K j)) ≤ j := by
      have := List.countP_le_length (p := fun j => decide (x.t < stC S j + wkC K j)) (l := List.range j)
      simpa using this
    have wn : IntKind.i64.wrap (((List.range j).countP (fun j => decide (x.t < stC S j + wkC K j)) : Int) + 1) = (((List.range j).countP (fun j => decide (x.t < stC S j + wkC K j)) + 1 : Nat) : Int) := wrapN _ (by omega) (by omega)
    by_cases q : x.t < s + c.w
    · rw [if_pos q] at hstep
      simp only [spec_WithRoom_b0, wrH, h14, h13, h41, h42, g0, g1, h2, g9, g10, h11, h12, g33, g34, hin, hge, hSm, hKm, rds, rdw, e1, rd_cV, cV, wi, ws, wn, q, List.cons_append, List.nil_append, VX, Nat.reduceEqDiff, Nat.reduceAdd, vload_pdef, vstore_pdef, viaddr_rdef, vlen_rdef, vfaddr_pdef, vchk_pdef, visnil_rdef, visnil_nil, visnil_cons, vrow_zero, vrow_succ, List.set_cons_zero, List.set_cons_succ, elemOf_one, elemOf_two, vresult, vresAll, vres1, vfill, isAny_sc, isAny_tree, isAny_ref, isAny_agg, isAny_clo, List.take_zero, List.take_succ_cons, List.take_nil, List.drop_zero, List.drop_succ_cons, List.drop_nil, List.append_nil, Nat.reduceLeDiff, Nat.le_refl, vsplice, Nat.reduceLT, Int.toNat_natCast, eq_self, ge_iff_le, Bool.and_eq_true, Nat.reduceSub, vrow_D0, vrow_Dk, set_D0, set_Dk, len_D, List.append_assoc, Nat.le_add_right, take_Dk, take_D0, List.length_replicate]
      exact ⟨j + 1, by omega, by omega, by rw [hstep]; (repeat' apply And.intro) <;> first | rfl | trivial⟩
    · rw [if_neg q] at hstep
      simp only [spec_WithRoom_b0, wrH, h14, h13, h41, h42, g0, g1, h2, g9, g10, h11, h12, g33, g34, hin, hge, hSm, hKm, rds, rdw, e1, rd_cV, cV, wi, ws, q, List.cons_append, List.nil_append, VX, Nat.reduceEqDiff, Nat.reduceAdd, vload_pdef, vstore_pdef, viaddr_rdef, vlen_rdef, vfaddr_pdef, vchk_pdef, visnil_rdef, visnil_nil, visnil_cons, vrow_zero, vrow_succ, List.set_cons_zero, List.set_cons_succ, elemOf_one, elemOf_two, vresult, vresAll, vres1, vfill, isAny_sc, isAny_tree, isAny_ref, isAny_agg, isAny_clo, List.take_zero, List.take_succ_cons, List.take_nil, List.drop_zero, List.drop_succ_cons, List.drop_nil, List.append_nil, Nat.reduceLeDiff, Nat.le_refl, vsplice, Nat.reduceLT, Int.toNat_natCast, eq_self, ge_iff_le, Bool.and_eq_true, Nat.reduceSub, vrow_D0, vrow_Dk, set_D0, set_Dk, len_D, List.append_assoc, Nat.le_add_right, take_Dk, take_D0, List.length_replicate]
      exact ⟨j + 1, by omega, by omega, by rw [hstep]; (repeat' apply And.intro) <;> first | rfl | trivial⟩
  · have hje : j = K.length := by omega
    subst hje
    simp only [spec_WithRoom_b0, h41, h42, hin, VX, Nat.reduceEqDiff, Nat.reduceAdd]
    exact ⟨h14, g0, g1, h2, g9, g10, h11, h12, g33, g34⟩

theorem rmAt_last {srv room : Int} {cs : List Cust} {i : Nat} (hi : i < cs.length) : (rmLv srv room cs).take i ++ [rmAt srv room cs i] = (rmLv srv room cs).take (i + 1) := by
  rw [List.take_add_one, rmLv, List.getElem?_map, List.getElem?_range hi]
  rfl
set_option maxHeartbeats 2000000 in
theorem spec_WithRoom_v (srv room : Int) (cs : List Cust) (hn : cs.length ≤ 1000000000) : FC 6 [VI srv, VI room, custsV cs] (LR2 (rmA srv room cs) (rmB srv room cs) (decide (rmOk srv room cs))) := by
  refine FC.walk ⟨true, false⟩ spec_WithRoom_t (Nat.le_of_ble_eq_true rfl) fun n => ?_
  have eA := spec_l05Fits_v 0 srv cs hn
  have bad : ¬ rmOk srv room cs → ∃ L, List.replicate n VBlk.dead = List.replicate n VBlk.dead ++ L ∧ ownV n (.tup [.tree [] .nil, .tree [] .nil, .sc (.bool false)]) = true ∧ rowsOwn n L = true ∧ LR2 (rmA srv room cs) (rmB srv room cs) (decide (rmOk srv room cs)) n (.tup [.tree [] .nil, .tree [] .nil, .sc (.bool false)]) L := fun h => by
    refine ⟨[], by simp, rfl, rfl, _, _, by rw [decide_eq_false h], .inl ⟨rfl, if_neg h, rfl, if_neg h⟩⟩
  by_cases h1 : stOk 0 srv cs
  rotate_left
  · simp only [spec_WithRoom, spec_WithRoom_c, eA, h1, VX, Nat.reduceEqDiff, Nat.reduceAdd]
    exact bad fun h => h1 h.1
  by_cases h2 : srv ≤ room ∧ room ≤ 24
  rotate_left
  · simp only [spec_WithRoom, spec_WithRoom_c, eA, spec_l00In_v, h1, h2, VX, Nat.reduceEqDiff, Nat.reduceAdd]
    exact bad fun h => h2 h.2
  have hok : rmOk srv room cs := ⟨h1, h2⟩
  have hc := h1.2.2
  have hs := h1.2.1
  have hlen := hc.2
  have e0 := fun H => vlit_nil (H := H) (lr := false) (z := [.int .i64 0]) rfl
  have e0' := fun H => vlit_nil (H := H) (lr := false) (z := [.int .i64 0, .int .i64 0, .int .i64 0]) rfl
  have hKok : ∀ i, i ≤ cs.length → custsOk (subC cs (spK srv room cs i)) := fun i hi => by
    have := spK_len (srv := srv) (room := room) (cs := cs) i
    exact sub_ok hc (spK_inc i) (fun j hj => by have := spK_mem hj; omega) (by omega)
  simp only [spec_WithRoom, spec_WithRoom_c, eA, spec_l00In_v, h1, h2, e0, e0', List.length_cons, List.length_nil, List.cons_append, List.nil_append, VX, Nat.reduceEqDiff, Nat.reduceAdd, vload_pdef, vstore_pdef, viaddr_rdef, vlen_rdef, vfaddr_pdef, vchk_pdef, visnil_rdef, visnil_nil, visnil_cons, vrow_zero, vrow_succ, List.set_cons_zero, List.set_cons_succ, elemOf_one, elemOf_two, vresult, vresAll, vres1, vfill, isAny_sc, isAny_tree, isAny_ref, isAny_agg, isAny_clo, List.take_zero, List.take_succ_cons, List.take_nil, List.drop_zero, List.drop_succ_cons, List.drop_nil, List.append_nil, Nat.reduceLeDiff, Nat.le_refl, vsplice, Nat.reduceLT, Int.toNat_natCast, eq_self, ge_iff_le, Bool.and_eq_true, Nat.reduceSub, vrow_D0, vrow_Dk, set_D0, set_Dk, len_D, List.append_assoc, Nat.le_add_right, take_Dk, take_D0, List.length_replicate]
  refine VW_loopT (fun (i : Nat) ρ H => i ≤ cs.length ∧ ρ 0 = VI srv ∧ ρ 1 = VI room ∧ ρ 2 = custsV cs ∧ ρ 9 = .ref n 0 0 0 0 ∧ ρ 10 = .ref (n + 1) (rmLo srv room cs i).length 0 (rmLo srv room cs i).length (rmLo srv room cs i).length ∧ ρ 11 = .ref (n + 2) (subC cs (spK srv room cs i)).length 0 (subC cs (spK srv room cs i)).length (subC cs (spK srv room cs i)).length ∧ ρ 33 = VI cs.length ∧ ρ 34 = VI i ∧
    H = List.replicate n VBlk.dead ++ wrH n (rmLo srv room cs i) (subC cs (spK srv room cs i))) (fun i => cs.length - i) 0 ⟨Nat.zero_le _, rfl, rfl, rfl, rfl, rfl, rfl, rfl, rfl, rfl⟩ ?_
  rintro i ρ H ⟨hi, g0, g1, g2, g9, g10, g11, g33, g34, rfl⟩
  by_cases hin : (i : Int) < (cs.length : Int)
  · obtain ⟨x, hx⟩ : ∃ x, cs[i]? = some x := ⟨_, List.getElem?_eq_getElem (by omega)⟩
    have hKi := hKok i hi
    have hkl := hKi.2
    have hll := rmLo_len (srv := srv) (room := room) (cs := cs) i
    have r2 : ∀ K', vrow (List.replicate n VBlk.dead ++ (wrH n (rmLo srv room cs i) (subC cs (spK srv room cs i)) ++ K')) (n + 2) (subC cs (spK srv room cs i)).length = some ((subC cs (spK srv room cs i)).map cV, 3, true) := fun K' => by rw [vrow_Dk]; simp only [wrH, List.cons_append, vrow_succ, vrow_zero]
    have hfz : fz depth (List.replicate n VBlk.dead ++ wrH n (rmLo srv room cs i) (subC cs (spK srv room cs i))) (.ref (n + 2) (subC cs (spK srv room cs i)).length 0 (subC cs (spK srv room cs i)).length (subC cs (spK srv room cs i)).length) = some (custsV (subC cs (spK srv room cs i))) := by
      have := r2 []
      rw [List.append_nil] at this
      exact fz_live (fun _ => rfl) this (Nat.le_refl _)
    simp only [spec_WithRoom_b1, g0, g1, g2, g9, g10, g11, g33, g34, hin, VX, Nat.reduceEqDiff, Nat.reduceAdd]
    refine FC.callO (spec_l05Starts_v (srv := srv) hKi ⟨Int.le_refl 0, by decide⟩) rfl (fz3 (fz_res rfl) (fz_res rfl) hfz) ?_
    rintro r L ⟨rfl, rfl⟩ _ _
    have hHl : (List.replicate n VBlk.dead ++ wrH n (rmLo srv room cs i) (subC cs (spK srv room cs i))).length = n + 3 := by rw [len_D]; rfl
    rw [hHl, stL_len, List.append_assoc]
    have el := vlen_ref (o := 0) (n := (subC cs (spK srv room cs i)).length) (c := (subC cs (spK srv room cs i)).length) (r2 [.row 0 ((stL 0 srv (subC cs (spK srv room cs i))).map nV) 1 true])
    simp only [g11, el, VX, Nat.reduceEqDiff, Nat.reduceAdd]
    refine VW_use (spec_WithRoom_b0_w (srv := srv) (room := room) (los := rmLo srv room cs i) hx hc hKi (stL_len (rule := 0) (srv := srv)) stL_mem ?_ ?_ ?_ ?_ ?_ ?_ ?_ ?_ ?_ ?_ ?_ ?_ ?_) ?_
    all_goals first | (simp only [g0, g1, g2, g9, g10, g11, g33, g34, VX, Nat.reduceEqDiff, Nat.reduceAdd]; done) | skip
    clear g0 g1 g2 g9 g10 g11 g33 g34
    rintro ρ1 H1 ⟨rfl, q14, g0, g1, g2, g9, g10, g11, q12, g33, g34⟩
    have hcnt : (List.range (subC cs (spK srv room cs i)).length).countP (fun j => decide (x.t < stC (stL 0 srv (subC cs (spK srv room cs i))) j + wkC (subC cs (spK srv room cs i)) j)) = cntL srv (subC cs (spK srv room cs i)) (atC cs i) := by rw [atC_of hx]; rfl
    rw [hcnt] at q14
    have wi : IntKind.i64.wrap ((i : Int) + 1) = ((i + 1 : Nat) : Int) := wrapN (i + 1) (by omega) (by omega)
    have hkb := keptB_is (srv := srv) (room := room) (cs := cs) (i := i)
    have post : ∀ (ρ' : VEnv) (B : VHeap), ρ' 0 = VI srv → ρ' 1 = VI room → ρ' 2 = custsV cs → ρ' 9 = .ref n 0 0 0 0 → ρ' 10 = .ref (n + 1) (rmLo srv room cs (i + 1)).length 0 (rmLo srv room cs (i + 1)).length (rmLo srv room cs (i + 1)).length → ρ' 11 = .ref (n + 2) (subC cs (spK srv room cs (i + 1))).length 0 (subC cs (spK srv room cs (i + 1))).length (subC cs (spK srv room cs (i + 1))).length → ρ' 33 = VI cs.length → ρ' 34 = VI (i + 1 : Nat) →
        ∃ s', cs.length - s' < cs.length - i ∧ rowsBelow (n + 3) ((List.replicate n VBlk.dead ++ (wrH n (rmLo srv room cs (i + 1)) (subC cs (spK srv room cs (i + 1))) ++ B)).take (n + 3)) = true ∧ s' ≤ cs.length ∧ scrubE (n + 3) ρ' 0 = VI srv ∧ scrubE (n + 3) ρ' 1 = VI room ∧ scrubE (n + 3) ρ' 2 = custsV cs ∧ scrubE (n + 3) ρ' 9 = .ref n 0 0 0 0 ∧ scrubE (n + 3) ρ' 10 = .ref (n + 1) (rmLo srv room cs s').length 0 (rmLo srv room cs s').length (rmLo srv room cs s').length ∧ scrubE (n + 3) ρ' 11 = .ref (n + 2) (subC cs (spK srv room cs s')).length 0 (subC cs (spK srv room cs s')).length (subC cs (spK srv room cs s')).length ∧ scrubE (n + 3) ρ' 33 = VI cs.length ∧ scrubE (n + 3) ρ' 34 = VI s' ∧
          (List.replicate n VBlk.dead ++ (wrH n (rmLo srv room cs (i + 1)) (subC cs (spK srv room cs (i + 1))) ++ B)).take (n + 3) = List.replicate n VBlk.dead ++ wrH n (rmLo srv room cs s') (subC cs (spK srv room cs s')) := by
      intro ρ' B k0 k1 k2 k9 k10 k11 k33 k34
      have ht : (List.replicate n VBlk.dead ++ (wrH n (rmLo srv room cs (i + 1)) (subC cs (spK srv room cs (i + 1))) ++ B)).take (n + 3) = List.replicate n VBlk.dead ++ wrH n (rmLo srv room cs (i + 1)) (subC cs (spK srv room cs (i + 1))) := by
        rw [take_Dk]
        rfl
      refine ⟨i + 1, by omega, ?_, by omega, ?_, ?_, ?_, ?_, ?_, ?_, ?_, ?_, ht⟩
      · rw [ht, below_D]
        unfold wrH
        rw [below_row rfl, below_row (below_pureL _ (pure_map (f := kV) fun _ => rfl)), below_row (below_pureL _ (pure_map (f := cV) fun _ => rfl)), below_nil]
      · rw [scrubE_app, k0]; rfl
      · rw [scrubE_app, k1]; rfl
      · rw [scrubE_app, k2, scrub_of (custsV_pure _)]
      · rw [scrubE_app, k9, scrub_ref (by omega)]
      · rw [scrubE_app, k10, scrub_ref (by omega)]
      · rw [scrubE_app, k11, scrub_ref (by omega)]
      · rw [scrubE_app, k33]; rfl
      · rw [scrubE_app, k34]; rfl
    by_cases hq : room ≤ (cntL srv (subC cs (spK srv room cs i)) (atC cs i) : Int)
    · have hk : ¬ keptB srv room cs i = true := fun h => hkb.1 h hq
      have hlo := rmLo_one (srv := srv) (room := room) (cs := cs) i
      rw [if_neg hk] at hlo
      have hsp := spK_one (srv := srv) (room := room) (cs := cs) i
      rw [if_neg hk] at hsp
      have eL : ∀ H, vlit false [.int .i64 0] 1 [(0, VI i)] H = some (.tree [VI i] (.cl 1), H) := fun H => vlit_one rfl rfl rfl
      have eS : ∀ H, vsource 1 (.tree [VI i] (.cl 1)) H = some [VI i] := fun H => vsource_one rfl rfl
      have eP := vappend_row (f := kV) (xs := rmLo srv room cs i) (x := i) (lo := n) (b := n + 1) (g := (rmLo srv room cs i).length) (n := (rmLo srv room cs i).length) (e := 1) (bytes := 8) (H := List.replicate n VBlk.dead ++ (wrH n (rmLo srv room cs i) (subC cs (spK srv room cs i)) ++ [VBlk.row 0 ((stL 0 srv (subC cs (spK srv room cs i))).map nV) 1 true])) (by rw [vrow_Dk]; simp only [wrH, List.cons_append, vrow_succ, vrow_zero]) rfl (by omega) (by decide) (by decide) (by omega)
      have hset : (List.replicate n VBlk.dead ++ (wrH n (rmLo srv room cs i) (subC cs (spK srv room cs i)) ++ [VBlk.row 0 ((stL 0 srv (subC cs (spK srv room cs i))).map nV) 1 true])).set (n + 1) (.row ((rmLo srv room cs i).length + 1) ((rmLo srv room cs i ++ [i]).map kV) 1 true) = List.replicate n VBlk.dead ++ (wrH n (rmLo srv room cs (i + 1)) (subC cs (spK srv room cs (i + 1))) ++ [VBlk.row 0 ((stL 0 srv (subC cs (spK srv room cs i))).map nV) 1 true]) := by
        rw [set_Dk, hlo, hsp]
        unfold wrH
        rw [List.length_append]
        rfl
      rw [hset] at eP
      simp only [g0, g1, g2, g9, g10, g11, g33, g34, q12, q14, hq, ge_iff_le, eL, eS, eP, wi, VX, Nat.reduceEqDiff, Nat.reduceAdd]
      refine post _ _ ?_ ?_ ?_ ?_ ?_ ?_ ?_ ?_
      all_goals simp only [g0, g1, g2, g9, g10, g11, g33, g34, hlo, hsp, List.length_append, List.length_cons, List.length_nil, Nat.zero_add, VX, Nat.reduceEqDiff, Nat.reduceAdd]
    · have hk : keptB srv room cs i = true := hkb.2 hq
      have hlo := rmLo_one (srv := srv) (room := room) (cs := cs) i
      rw [if_pos hk] at hlo
      have hsp := spK_sub_one (srv := srv) (room := room) hx hk
      have e1 := fun H => viaddr_map (f := cV) (t := .op) (H := H) (size := 3) (k := .i64) hx rfl
      have ag : rdCells true 3 (cV x) 0 = some (cV x) := rfl
      have eL : ∀ H, vlit false [.int .i64 0, .int .i64 0, .int .i64 0] 1 [(0, cV x)] H = some (.tree [cV x] (.cl 3), H) := fun H => vlit_one rfl rfl rfl
      have eS : ∀ H, vsource 3 (.tree [cV x] (.cl 3)) H = some [cV x] := fun H => vsource_one rfl rfl
      have eP := vappend_row (f := cV) (xs := subC cs (spK srv room cs i)) (x := x) (lo := n) (b := n + 2) (g := (subC cs (spK srv room cs i)).length) (n := (subC cs (spK srv room cs i)).length) (e := 3) (bytes := 24) (H := List.replicate n VBlk.dead ++ (wrH n (rmLo srv room cs i) (subC cs (spK srv room cs i)) ++ [VBlk.row 0 ((stL 0 srv (subC cs (spK srv room cs i))).map nV) 1 true])) (r2 _) rfl (by omega) (by decide) (by decide) (by omega)
      have hset : (List.replicate n VBlk.dead ++ (wrH n (rmLo srv room cs i) (subC cs (spK srv room cs i)) ++ [VBlk.row 0 ((stL 0 srv (subC cs (spK srv room cs i))).map nV) 1 true])).set (n + 2) (.row ((subC cs (spK srv room cs i)).length + 1) ((subC cs (spK srv room cs i) ++ [x]).map cV) 3 true) = List.replicate n VBlk.dead ++ (wrH n (rmLo srv room cs (i + 1)) (subC cs (spK srv room cs (i + 1))) ++ [VBlk.row 0 ((stL 0 srv (subC cs (spK srv room cs i))).map nV) 1 true]) := by
        rw [set_Dk, hlo, hsp]
        unfold wrH
        rw [List.length_append]
        rfl
      rw [hset] at eP
      simp only [g0, g1, g2, g9, g10, g11, g33, g34, q12, q14, hq, ge_iff_le, e1, ag, eL, eS, eP, wi, VX, Nat.reduceEqDiff, Nat.reduceAdd]
      refine post _ _ ?_ ?_ ?_ ?_ ?_ ?_ ?_ ?_
      all_goals simp only [g0, g1, g2, g9, g10, g11, g33, g34, hlo, hsp, List.length_append, List.length_cons, List.length_nil, Nat.zero_add, VX, Nat.reduceEqDiff, Nat.reduceAdd]
  · have hie : i = cs.length := by omega
    subst hie
    have hKi := hKok cs.length hi
    have hkl := hKi.2
    have hll := rmLo_len (srv := srv) (room := room) (cs := cs) cs.length
    have hfz : fz depth (List.replicate n VBlk.dead ++ wrH n (rmLo srv room cs cs.length) (subC cs (spK srv room cs cs.length))) (.ref (n + 2) (subC cs (spK srv room cs cs.length)).length 0 (subC cs (spK srv room cs cs.length)).length (subC cs (spK srv room cs cs.length)).length) = some (custsV (subC cs (spK srv room cs cs.length))) :=
      fz_live (e := 3) (fun _ => rfl) (by rw [vrow_Dk]; simp only [wrH, vrow_succ, vrow_zero]) (Nat.le_refl _)
    simp only [spec_WithRoom_b1, g0, g1, g2, g9, g10, g11, g33, g34, hin, VX, Nat.reduceEqDiff, Nat.reduceAdd]
    refine FC.callO (spec_l05Starts_v (srv := srv) hKi ⟨Int.le_refl 0, by decide⟩) rfl (fz3 (fz_res rfl) (fz_res rfl) hfz) ?_
    rintro r L ⟨rfl, rfl⟩ _ _
    have hHl : (List.replicate n VBlk.dead ++ wrH n (rmLo srv room cs cs.length) (subC cs (spK srv room cs cs.length))).length = n + 3 := by rw [len_D]; rfl
    rw [hHl, stL_len, List.append_assoc]
    change VS _ _ _ _ _ (List.replicate n VBlk.dead ++ (wrH n (rmLo srv room cs cs.length) (subC cs (spK srv room cs cs.length)) ++ [VBlk.row 0 ((rmS srv room cs).map nV) 1 true]))
    have hS : (rmS srv room cs).length = (subC cs (spK srv room cs cs.length)).length := stL_len
    simp only [g2, VX, Nat.reduceEqDiff, Nat.reduceAdd]
    refine VW_loop (fun (i : Nat) ρ H => i ≤ cs.length ∧ ρ 9 = .ref n i 0 i i ∧ ρ 10 = .ref (n + 1) (rmLo srv room cs cs.length).length 0 (rmLo srv room cs cs.length).length (rmLo srv room cs cs.length).length ∧ ρ 11 = .ref (n + 2) (subC cs (spK srv room cs cs.length)).length 0 (subC cs (spK srv room cs cs.length)).length (subC cs (spK srv room cs cs.length)).length ∧ ρ 16 = .ref (n + 3) 0 0 (subC cs (spK srv room cs cs.length)).length (subC cs (spK srv room cs cs.length)).length ∧ ρ 17 = VI (spK srv room cs i).length ∧ ρ 83 = VI cs.length ∧ ρ 84 = VI i ∧
      H = List.replicate n VBlk.dead ++ [.row i (((rmLv srv room cs).take i).map nV) 1 true, .row (rmLo srv room cs cs.length).length ((rmLo srv room cs cs.length).map kV) 1 true, .row (subC cs (spK srv room cs cs.length)).length ((subC cs (spK srv room cs cs.length)).map cV) 3 true, .row 0 ((rmS srv room cs).map nV) 1 true]) (fun i => cs.length - i) 0 ⟨Nat.zero_le _, ?_, ?_, ?_, rfl, rfl, rfl, rfl, rfl⟩ ?_
    · simp only [g9, VX, Nat.reduceEqDiff, Nat.reduceAdd]
    · simp only [g10, VX, Nat.reduceEqDiff, Nat.reduceAdd]
    · simp only [g11, VX, Nat.reduceEqDiff, Nat.reduceAdd]
    clear g0 g1 g2 g9 g10 g11 g33 g34 hin hi ρ
    rintro i ρ H ⟨hi, g9, g10, g11, g16, g17, g83, g84, rfl⟩
    have hlv : (rmLv srv room cs).length = cs.length := by simp [rmLv]
    by_cases hin : (i : Int) < (cs.length : Int)
    · have hil : i < cs.length := by omega
      have hnx := rmAt_last (srv := srv) (room := room) hil
      have wi : IntKind.i64.wrap ((i : Int) + 1) = ((i + 1 : Nat) : Int) := wrapN (i + 1) (by omega) (by omega)
      have hmem := rmLo_mem (srv := srv) (room := room) (cs := cs) hil
      have r1 : vrow (List.replicate n VBlk.dead ++ [VBlk.row i (((rmLv srv room cs).take i).map nV) 1 true, .row (rmLo srv room cs cs.length).length ((rmLo srv room cs cs.length).map kV) 1 true, .row (subC cs (spK srv room cs cs.length)).length ((subC cs (spK srv room cs cs.length)).map cV) 3 true, .row 0 ((rmS srv room cs).map nV) 1 true]) (n + 1) (rmLo srv room cs cs.length).length = some ((rmLo srv room cs cs.length).map kV, 1, true) := by rw [vrow_Dk]; simp only [vrow_succ, vrow_zero]
      have eH := fun lo K => TC.flat (spec_l00Has_ids (rmLo srv room cs cs.length) i (by omega)) rfl (by simp only [pureL, ids_pure]; rfl) (fz2 (fz_live (fun _ => rfl) r1 (Nat.le_refl _)) (fz_res rfl)) rfl lo K
      have eL : ∀ (v : Int) H, vlit false [.int .i64 0] 1 [(0, VI v)] H = some (.tree [VI v] (.cl 1), H) := fun v H => vlit_one rfl rfl rfl
      have eS : ∀ (v : Int) H, vsource 1 (.tree [VI v] (.cl 1)) H = some [VI v] := fun v H => vsource_one rfl rfl
      have eP := vappend_row (f := nV) (xs := (rmLv srv room cs).take i) (x := rmAt srv room cs i) (lo := n) (b := n) (g := i) (n := i) (e := 1) (bytes := 8) (H := List.replicate n VBlk.dead ++ [VBlk.row i (((rmLv srv room cs).take i).map nV) 1 true, .row (rmLo srv room cs cs.length).length ((rmLo srv room cs cs.length).map kV) 1 true, .row (subC cs (spK srv room cs cs.length)).length ((subC cs (spK srv room cs cs.length)).map cV) 3 true, .row 0 ((rmS srv room cs).map nV) 1 true])
        (by rw [vrow_D0, vrow_zero]) (by simp; omega) (Nat.le_refl _) (by decide) (by decide) (by omega)
      rw [set_D0, List.set_cons_zero, hnx] at eP
      by_cases hk : keptB srv room cs i = true
      · rw [decide_eq_false (fun h => hmem.1 h hk)] at eH
        have hsp : (spK srv room cs (i + 1)).length = (spK srv room cs i).length + 1 := by rw [spK_one, if_pos hk, List.length_append]; rfl
        obtain ⟨o1, o2, o3⟩ := rmS_ok hc hs.1 hil hk
        have hat := kept_at hil hk
        obtain ⟨x, hx⟩ : ∃ x, cs[i]? = some x := ⟨_, List.getElem?_eq_getElem hil⟩
        have hKx : (subC cs (spK srv room cs cs.length))[(spK srv room cs i).length]? = some x := by rw [subC_get hat hil, hx]
        obtain ⟨s, hsx⟩ : ∃ s, (rmS srv room cs)[(spK srv room cs i).length]? = some s := ⟨_, List.getElem?_eq_getElem (by omega)⟩
        rw [stC_of hsx] at o2 o3
        have hxb := hc.mem (List.mem_of_getElem? hx)
        have hrm : rmAt srv room cs i = s + x.w := by unfold rmAt; rw [if_pos hk, stC_of hsx, wkC_of hx]
        rw [hrm] at eP
        have hSm : ((rmS srv room cs).map nV)[(spK srv room cs i).length]? = some (VI s) := by rw [List.getElem?_map, hsx]; rfl
        have hKm : ((subC cs (spK srv room cs cs.length)).map cV)[(spK srv room cs i).length]? = some (.agg [nV x.t, nV x.w, nV x.k]) := by rw [List.getElem?_map, hKx]; rfl
        have rds : ∀ v : Int, rdCells false 1 (VI v) 0 = some (VI v) := fun _ => rfl
        have rdw : rdCells false 1 (.agg [nV x.t, nV x.w, nV x.k]) 1 = some (VI x.w) := rfl
        have ws : IntKind.i64.wrap (s + x.w) = s + x.w := wrap64 (by omega) (by omega)
        have wa : IntKind.i64.wrap (((spK srv room cs i).length : Int) + 1) = (((spK srv room cs i).length + 1 : Nat) : Int) := wrapN _ (by omega) (by have := spK_len (srv := srv) (room := room) (cs := cs) i; omega)
        have hge : (0 : Int) ≤ ((spK srv room cs i).length : Int) := by omega
        have hlt : ((spK srv room cs i).length : Int) < ((subC cs (spK srv room cs cs.length)).length : Int) := by omega
        simp only [spec_WithRoom_b2, g9, g10, g11, g16, g17, g83, g84, hin, eH, hSm, hKm, rds, rdw, ws, wa, hge, hlt, wi, eL, eS, eP, VX, Nat.reduceEqDiff, Nat.reduceAdd, vload_pdef, vstore_pdef, viaddr_rdef, vlen_rdef, vfaddr_pdef, vchk_pdef, visnil_rdef, visnil_nil, visnil_cons, vrow_zero, vrow_succ, List.set_cons_zero, List.set_cons_succ, elemOf_one, elemOf_two, vresult, vresAll, vres1, vfill, isAny_sc, isAny_tree, isAny_ref, isAny_agg, isAny_clo, List.take_zero, List.take_succ_cons, List.take_nil, List.drop_zero, List.drop_succ_cons, List.drop_nil, List.append_nil, Nat.reduceLeDiff, Nat.le_refl, vsplice, Nat.reduceLT, Int.toNat_natCast, eq_self, ge_iff_le, Bool.and_eq_true, Nat.reduceSub, vrow_D0, vrow_Dk, set_D0, set_Dk, len_D, List.append_assoc, Nat.le_add_right, take_Dk, take_D0, List.length_replicate]
        exact ⟨i + 1, by omega, by omega, by rw [hsp]; (repeat' apply And.intro) <;> first | rfl | trivial⟩
      · rw [decide_eq_true (hmem.2 hk)] at eH
        have hsp : spK srv room cs (i + 1) = spK srv room cs i := by rw [spK_one, if_neg hk]
        have hrm : rmAt srv room cs i = -1 := by unfold rmAt; rw [if_neg hk]
        rw [hrm] at eP
        simp only [spec_WithRoom_b2, g9, g10, g11, g16, g17, g83, g84, hin, eH, wi, eL, eS, eP, VX, Nat.reduceEqDiff, Nat.reduceAdd, vload_pdef, vstore_pdef, viaddr_rdef, vlen_rdef, vfaddr_pdef, vchk_pdef, visnil_rdef, visnil_nil, visnil_cons, vrow_zero, vrow_succ, List.set_cons_zero, List.set_cons_succ, elemOf_one, elemOf_two, vresult, vresAll, vres1, vfill, isAny_sc, isAny_tree, isAny_ref, isAny_agg, isAny_clo, List.take_zero, List.take_succ_cons, List.take_nil, List.drop_zero, List.drop_succ_cons, List.drop_nil, List.append_nil, Nat.reduceLeDiff, Nat.le_refl, vsplice, Nat.reduceLT, Int.toNat_natCast, eq_self, ge_iff_le, Bool.and_eq_true, Nat.reduceSub, vrow_D0, vrow_Dk, set_D0, set_Dk, len_D, List.append_assoc, Nat.le_add_right, take_Dk, take_D0, List.length_replicate]
        exact ⟨i + 1, by omega, by omega, by rw [hsp]; (repeat' apply And.intro) <;> first | rfl | trivial⟩
    · have hie : i = cs.length := by omega
      subst hie
      simp only [spec_WithRoom_b2, g9, g10, g83, g84, hin, VX, Nat.reduceEqDiff, Nat.reduceAdd]
      have hA : rmA srv room cs = rmLv srv room cs := if_pos hok
      have hB : rmB srv room cs = (rmLo srv room cs cs.length).map fun i : Nat => (i : Int) := if_pos hok
      rw [List.take_of_length_le (by omega)]
      refine ⟨_, rfl, by simp [ownV, ownL, isSc], ?_, _, _, by rw [decide_eq_true hok], .inr ⟨0, cs.length, cs.length, 1, (rmLo srv room cs cs.length).length, (rmLo srv room cs cs.length).length, by decide, ?_, ?_, ?_, ?_, ?_, ?_⟩⟩
      · simp only [rowsOwn, List.all_cons, List.all_nil, Bool.and_true, Bool.and_eq_true]
        exact ⟨ownL_map (f := nV) (fun _ => rfl) _, ownL_map (f := kV) (fun _ => rfl) _, ownL_map (f := cV) (fun _ => rfl) _, ownL_map (f := nV) (fun _ => rfl) _⟩
      · rw [hA, hlv]; rfl
      · rw [hA, hlv]; exact Nat.le_refl _
      · rw [hA]; rfl
      · rw [hB, List.length_map]
      · rw [hB, List.length_map]; exact Nat.le_refl _
      · rw [hB, List.map_map]; rfl
end Go.PM

/- Two lists of numbers that are handed back: compared, marked, held. -/
namespace Go.PM

/-- Two lists do not share their row. -/
def Apart (v w : VV) : Prop := ∀ b g n c g' n' c', v = .ref b g 0 n c → w ≠ .ref b g' 0 n' c'
/-- Rows that no reference of this list names are kept. -/
def Kept (v : VV) (H H' : VHeap) : Prop := ∀ b g x, (∀ g0 n0 c0, v ≠ .ref b g0 0 n0 c0) → vrow H b g = some x → vrow H' b g = some x
theorem lr2_call {F lo : Nat} {args args' : List VV} {us bs : List Int} {ok : Bool} {H : VHeap} {K : VV → VHeap → Prop} (h : FC F args' (LR2 us bs ok)) (hraw : raws.contains F = true) (hf : args.mapM (fz depth H) = some args')
    (hk : ∀ v w H', H <+: H' → LV H.length H'.length us H' v → LV H.length H'.length bs H' w → Apart v w → K (.tup [v, w, .sc (.bool ok)]) H') : vcallP F args lo H K := by
  refine h.call hraw hf ?_
  rintro r L ⟨v, w, rfl, hv⟩
  rcases hv with ⟨rfl, h1, rfl, h2⟩ | ⟨i, g, c, i', g', c', hn, rfl, h2, h3, rfl, h5, h6⟩
  · exact hk _ _ _ (List.prefix_append _ _) (.inl ⟨rfl, h1⟩) (.inl ⟨rfl, h2⟩) fun b g n c g' n' c' h => by cases h
  · have hi := (List.getElem?_eq_some_iff.1 h3).1
    have hi' := (List.getElem?_eq_some_iff.1 h6).1
    refine hk _ _ _ (List.prefix_append _ _) (.inr ⟨_, g, c, Nat.le_add_right _ _, by rw [List.length_append]; omega, rfl, h2, vrow_of_app h3⟩) (.inr ⟨_, g', c', Nat.le_add_right _ _, by rw [List.length_append]; omega, rfl, h5, vrow_of_app h6⟩) ?_
    intro b g n c g' n' c' h h'
    injection h with h
    injection h' with h'
    omega
theorem mark_LV2 {lo hi lo' : Nat} {vals : List Int} {H : VHeap} {v : VV} {k : Int} {K : VV → VHeap → Prop} (hv : LV lo hi vals H v) (hlo : lo' ≤ lo) (hk : 0 ≤ k ∧ k ≤ 1000000000) (hn : vals.length ≤ 1000000000)
    (hK : ∀ H', H'.length = H.length → LV lo hi (iota k vals.length) H' v → Kept v H H' → K (VI (k + vals.length)) H') :
    vcallP 12 [v, VI k] lo' H K := by
  rcases hv with ⟨rfl, rfl⟩ | ⟨b, g, c, h1, h2, rfl, h4, h5⟩
  · refine vcall_raw rfl ((laws_markInt64S_nil k).mono ?_)
    rintro r H' ⟨rfl, rfl⟩
    have := hK H' rfl (.inl ⟨rfl, rfl⟩) fun _ _ _ _ h => h
    simpa using this
  · refine vcall_raw rfl ((laws_markInt64S_v vals k h5 (Nat.le_refl _) (Nat.le_trans hlo h1) hk hn).mono ?_)
    rintro r H' ⟨rfl, rfl⟩
    refine hK _ (by simp) (.inr ⟨b, g, c, h1, h2, by rw [iota_len], by rw [iota_len]; exact h4, ?_⟩) fun b' g' x hb' h => vrow_set_ne (fun he => by subst he; exact hb' _ _ _ rfl) h
    rw [List.drop_length, List.append_nil]
    exact vrow_set_eq h5
theorem LV.keepD {lo hi : Nat} {vals : List Int} {H H' : VHeap} {v w : VV} (h : LV lo hi vals H w) (hd : Apart v w) (hk : Kept v H H') : LV lo hi vals H' w := by
  rcases h with h | ⟨b, g, c, h1, h2, rfl, h4, h5⟩
  · exact .inl h
  · exact .inr ⟨b, g, c, h1, h2, rfl, h4, hk _ _ _ (fun g0 n0 c0 he => hd _ _ _ _ _ _ _ he rfl) h5⟩
theorem LV.keepR {lo hi lo2 hi2 : Nat} {vals us : List Int} {H H' H0 : VHeap} {v w : VV} (h : LV lo2 hi2 vals H w) (hv : LV lo hi us H0 v) (hd : hi2 ≤ lo ∨ hi ≤ lo2) (hk : Kept v H H') : LV lo2 hi2 vals H' w := by
  rcases h with h | ⟨b, g, c, h1, h2, rfl, h4, h5⟩
  · exact .inl h
  · refine .inr ⟨b, g, c, h1, h2, rfl, h4, hk _ _ _ (fun g0 n0 c0 he => ?_) h5⟩
    rcases hv with ⟨rfl, _⟩ | ⟨b', g', c', k1, k2, rfl, k4, k5⟩
    · cases he
    · injection he with he
      omega
theorem Apart.symm {v w : VV} (h : Apart v w) : Apart w v := fun b g n c g' n' c' h1 h2 => h b g' n' c' g n c h2 h1
end Go.PM
