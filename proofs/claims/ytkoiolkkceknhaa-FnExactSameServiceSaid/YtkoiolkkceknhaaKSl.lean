/- Texts of a claim, in one: part 12. -/
import Derived.KernelRfl
import Derived.Test.YtkoiolkkceknhaaKSk

/- Lists of lists of texts, handed over. -/
set_option linter.unusedSimpArgs false
set_option linter.unusedVariables false
namespace Go.PM

/-- A list of texts in a row of its own, with room behind; or none. -/
def SCell (n : Nat) (H : VHeap) (bare : Bool) (x : List ByteArray) (c : VV) : Prop :=
  (bare = true ∧ x = [] ∧ c = .tree [] .nil) ∨ ∃ b, n < b ∧ c = .ref b 0 0 x.length (x.length + room x.length) ∧ vrow H b 0 = some ((filledS fillS x).map sV, 1, true)
def FCell (n : Nat) (H : VHeap) (c : VV) : Prop := ∃ b, n < b ∧ c = .ref b 0 0 1 1 ∧ vrow H b 0 = some ([sV fillS], 1, true)
theorem SCell.keep {n : Nat} {H H' : VHeap} {bare : Bool} {x : List ByteArray} {c : VV} (h : SCell n H bare x c) (hk : ∀ b g x, n < b → vrow H b g = some x → vrow H' b g = some x) : SCell n H' bare x c := by
  rcases h with h | ⟨b, h1, h2, h3⟩
  · exact .inl h
  · exact .inr ⟨b, h1, h2, hk _ _ _ h1 h3⟩
theorem FCell.keep {n : Nat} {H H' : VHeap} {c : VV} (h : FCell n H c) (hk : ∀ b g x, n < b → vrow H b g = some x → vrow H' b g = some x) : FCell n H' c := by
  obtain ⟨b, h1, h2, h3⟩ := h
  exact ⟨b, h1, h2, hk _ _ _ h1 h3⟩
theorem SCell.cell {n : Nat} {H : VHeap} {bare : Bool} {x : List ByteArray} {c : VV} (h : SCell n H bare x c) : vcells c = [c] ∧ vscal c = true ∧ ∀ k, k ≤ n → ownV k c = true := by
  rcases h with ⟨_, _, rfl⟩ | ⟨b, h1, rfl, _⟩
  · exact ⟨rfl, rfl, fun _ _ => rfl⟩
  · exact ⟨rfl, rfl, fun k hk => by simp [ownV]; omega⟩
theorem FCell.cell {n : Nat} {H : VHeap} {c : VV} (h : FCell n H c) : vcells c = [c] ∧ vscal c = true ∧ ∀ k, k ≤ n → ownV k c = true := by
  obtain ⟨b, h1, rfl, _⟩ := h
  exact ⟨rfl, rfl, fun k hk => by simp [ownV]; omega⟩

theorem SCell.fz {n d : Nat} {H : VHeap} {bare : Bool} {x : List ByteArray} {c : VV} (h : SCell n H bare x c) : PM.fz (d + 2) H c = some (strsV x) := by
  rcases h with ⟨_, rfl, rfl⟩ | ⟨b, h1, rfl, h3⟩
  · show PM.fz ((d + 1) + 1) H _ = _
    unfold PM.fz
    have : pureV (.tree [] .nil) = false := rfl
    simp only [this, Bool.false_eq_true, if_false]
    rfl
  · show PM.fz ((d + 1) + 1) H _ = _
    unfold PM.fz
    have : pureV (.ref b 0 0 x.length (x.length + room x.length)) = false := rfl
    simp only [this, h3, Bool.false_eq_true, if_false]
    rw [if_pos ⟨by simp [filledS], Nat.le_add_right _ _⟩, List.drop_zero, ← List.map_take, filledS_take, mapM_pure (n := d) (pure_map fun _ => rfl)]
    rfl
theorem FCell.fz {n d : Nat} {H : VHeap} {c : VV} (h : FCell n H c) : PM.fz (d + 2) H c = some (strsV [fillS]) := by
  obtain ⟨b, h1, rfl, h3⟩ := h
  show PM.fz ((d + 1) + 1) H _ = _
  unfold PM.fz
  have : pureV (.ref b 0 0 1 1) = false := rfl
  simp only [this, h3, Bool.false_eq_true, if_false]
  rw [if_pos ⟨by simp, Nat.le_refl _⟩, List.drop_zero, List.take_of_length_le (by simp), mapM_pure (n := d) (by rfl)]
  rfl

/-- A row of rows that was handed over. -/
def SSRow (H : VHeap) (bare : Bool) (xs : List (List ByteArray)) (b : Nat) : Prop :=
  ∃ cells fills, vrow H b 0 = some (cells ++ fills, 1, true) ∧ cells.length = xs.length ∧ fills.length = room xs.length ∧ (∀ (i : Nat) x, xs[i]? = some x → ∃ c, cells[i]? = some c ∧ SCell b H bare x c) ∧ ∀ c ∈ fills, FCell b H c
theorem SSRow.keep {H H' : VHeap} {bare : Bool} {xs : List (List ByteArray)} {b : Nat} (h : SSRow H bare xs b) (hk : ∀ b' g x, b ≤ b' → vrow H b' g = some x → vrow H' b' g = some x) : SSRow H' bare xs b := by
  obtain ⟨cells, fills, h1, h2, h3, h4, h5⟩ := h
  exact ⟨cells, fills, hk _ _ _ (Nat.le_refl _) h1, h2, h3, fun i x hx => by
    obtain ⟨c, k1, k2⟩ := h4 i x hx
    exact ⟨c, k1, k2.keep fun b' g x hb => hk b' g x (Nat.le_of_lt hb)⟩, fun c hc => (h5 c hc).keep fun b' g x hb => hk b' g x (Nat.le_of_lt hb)⟩
theorem SSRow.pre {H H' : VHeap} {bare : Bool} {xs : List (List ByteArray)} {b : Nat} (h : SSRow H bare xs b) (hh : H <+: H') : SSRow H' bare xs b := h.keep fun _ _ _ _ => vrow_pre hh
/-- What is handed over. -/
def ToRR (xs : List (List ByteArray)) (bare : Bool) (n : Nat) (r : VV) (L : VHeap) : Prop :=
  (bare = true ∧ xs = [] ∧ r = .tree [] .nil ∧ L = []) ∨ (r = .ref n 0 0 xs.length (xs.length + room xs.length) ∧ SSRow (List.replicate n .dead ++ L) bare xs n)

theorem OwnH.pre {n : Nat} {H L : VHeap} (h : OwnH n H) (hL : rowsOwn n L = true) : OwnH n (H ++ L) := by
  obtain ⟨L0, rfl, h0⟩ := h
  refine ⟨L0 ++ L, by rw [List.append_assoc], ?_⟩
  unfold rowsOwn at *
  rw [List.all_append, h0, hL]
  rfl

/-- One list of texts. -/
theorem to_cell {n : Nat} {x : List ByteArray} {bare : Bool} {H : VHeap} {K : VV → VHeap → Prop} (hx : x.length ≤ 1000000000) (hH : OwnH n H) (hlt : n < H.length)
    (hk : ∀ c H', H <+: H' → OwnH n H' → SCell n H' bare x c → K c H') : vcallP 70 [strsV x, .sc (.bool bare)] n H K := by
  refine (laws_toStringS_v x bare hx).call rfl (mapM_pure (n := 7) (by simp [pureL, strsV_pure]; rfl)) ?_
  rintro r L (⟨hb, rfl, rfl, rfl⟩ | ⟨rfl, rfl⟩)
  · rw [List.append_nil]
    exact hk _ _ (List.prefix_refl _) hH (.inl ⟨hb, rfl, rfl⟩)
  · exact hk _ _ (List.prefix_append _ _) (hH.app (ownL_map (fun _ => rfl) _)) (.inr ⟨_, hlt, rfl, vrow_of_app (i := 0) rfl⟩)

set_option maxHeartbeats 2000000 in
theorem laws_toStringSS_v (xs : List (List ByteArray)) (bare : Bool) (hn : xs.length ≤ 1000000000) (hx : ∀ x ∈ xs, x.length ≤ 1000000000) : FC 71 [strssV xs, .sc (.bool bare)] (ToRR xs bare) := by
  refine FC.walk ⟨true, true⟩ laws_toStringSS_t (Nat.le_of_ble_eq_true rfl) fun n => ?_
  have hr := room_le xs.length
  by_cases hb : bare = true ∧ (xs.length : Int) = 0
  · obtain ⟨rfl, h0⟩ := hb
    simp only [laws_toStringSS, laws_toStringSS_c, h0, VX, Nat.reduceEqDiff, Nat.reduceAdd]
    refine ⟨[], by simp, rfl, rfl, .inl ⟨rfl, ?_, rfl, rfl⟩⟩
    cases xs with
    | nil => rfl
    | cons x xs => simp at h0; omega
  have hb' : bare = true → ¬ (xs.length : Int) = 0 := fun h h' => hb ⟨h, h'⟩
  clear hb
  have w1 : IntKind.i64.wrap ((xs.length : Int) + (room xs.length : Int)) = ((xs.length + room xs.length : Nat) : Int) := wrapN _ (by omega) (by omega)
  have em := vmake_map (H := List.replicate n VBlk.dead) (z := [.slice none 0 0]) (bytes := 24) (n := xs.length + room xs.length) (f := fun v : VV => v) (x := .tree [] .nil) rfl (by omega) (by omega)
  rw [List.length_replicate, List.map_id'] at em
  have main : ∀ ρ : VEnv, ρ 0 = strssV xs → ρ 1 = .sc (.bool bare) → ρ 5 = .ref n 0 0 (xs.length + room xs.length) (xs.length + room xs.length) → ρ 6 = VI 0 → ∀ Q : VQ,
      (∀ (ρ' : VEnv) (H : VHeap) (cells : List VV), ρ' 0 = strssV xs → ρ' 5 = .ref n 0 0 (xs.length + room xs.length) (xs.length + room xs.length) → OwnH n H → cells.length = xs.length → vrow H n 0 = some (cells ++ List.replicate (room xs.length) (.tree [] .nil), 1, true) →
        (∀ (i : Nat) x, xs[i]? = some x → ∃ c, cells[i]? = some c ∧ SCell n H bare x c) → Q (.exit 0) ρ' H) →
      VW ⟨true, true⟩ n (.loop laws_toStringSS_b0) Q ρ (List.replicate n VBlk.dead ++ [.row 0 (List.replicate (xs.length + room xs.length) (.tree [] .nil)) 1 true]) := by
    intro ρ h0 h1 h5 h6 Q hQ
    refine VW_loop (fun (s : Nat × List VV) ρ H => s.1 ≤ xs.length ∧ s.2.length = s.1 ∧ OwnH n H ∧ vrow H n 0 = some (s.2 ++ List.replicate (xs.length + room xs.length - s.1) (.tree [] .nil), 1, true) ∧ (∀ (i : Nat) x, i < s.1 → xs[i]? = some x → ∃ c, s.2[i]? = some c ∧ SCell n H bare x c) ∧
      ρ 0 = strssV xs ∧ ρ 1 = .sc (.bool bare) ∧ ρ 5 = .ref n 0 0 (xs.length + room xs.length) (xs.length + room xs.length) ∧ ρ 6 = VI s.1) (fun s => xs.length - s.1) (0, [])
      ⟨Nat.zero_le _, rfl, ⟨_, rfl, by simp [rowsOwn, ownL_mem, ownV]⟩, by rw [vrow_D0, vrow_zero]; rfl, fun i x h => absurd h (Nat.not_lt_zero _), h0, h1, h5, h6⟩ ?_
    rintro ⟨i, cells⟩ ρ H ⟨hi, hcl, hO, hrow, hcells, h0, h1, h5, h6⟩
    simp only at hi hcl hrow hcells h6
    by_cases hin : (i : Int) < (xs.length : Int)
    · obtain ⟨x, hx'⟩ : ∃ x, xs[i]? = some x := ⟨_, List.getElem?_eq_getElem (by omega)⟩
      have e1 := viaddr_map (f := strsV) (t := .op) (H := H) (size := 1) (k := .i64) hx' rfl
      have wi : IntKind.i64.wrap ((i : Int) + 1) = ((i + 1 : Nat) : Int) := wrapN (i + 1) (by omega) (by omega)
      simp only [laws_toStringSS_b0, h0, h1, h5, h6, hin, e1, VX, Nat.reduceEqDiff, Nat.reduceAdd]
      refine to_cell (hx x (List.mem_of_getElem? hx')) hO (vrow_lt hrow) fun c H' hh hO' hc => ?_
      have hrow' := vrow_pre hh hrow
      have e3 := viaddr_row (o := 0) (n := xs.length + room xs.length) (c := xs.length + room xs.length) (i := i) (k := .i64) hrow' (by omega)
      have e4 := vstore_all (j := i) (lo := n) (v := c) hrow' (by simp; omega) (Nat.le_refl _) (by rw [hc.cell.1]; rfl) (by rw [hc.cell.1]; simp [hc.cell.2.1])
      have hst := set_step cells (xs.length + room xs.length - (i + 1)) (.tree [] .nil) c
      rw [hcl, show xs.length + room xs.length - (i + 1) + 1 = xs.length + room xs.length - i by omega] at hst
      rw [hst] at e4
      simp only [h6, e3, e4, wi, Nat.zero_add, VX, Nat.reduceEqDiff, Nat.reduceAdd]
      refine ⟨(i + 1, cells ++ [c]), by simp only; omega, by simp only; omega, by simp [hcl], ?_, vrow_set_eq hrow', ?_, h0, h1, by (repeat' apply And.intro) <;> first | rfl | trivial⟩
      · refine hO'.set (Nat.le_refl _) (ownL_mem.2 fun y hy => ?_)
        rcases List.mem_append.1 hy with hy | hy
        · rcases List.mem_append.1 hy with hy | hy
          · obtain ⟨j, hj⟩ := List.getElem?_of_mem hy
            have hjl := (List.getElem?_eq_some_iff.1 hj).1
            obtain ⟨z, hz⟩ : ∃ z, xs[j]? = some z := ⟨_, List.getElem?_eq_getElem (by omega)⟩
            obtain ⟨c', k1, k2⟩ := hcells j z (by omega) hz
            rw [hj] at k1
            injection k1 with k1
            subst k1
            exact k2.cell.2.2 _ (Nat.le_refl _)
          · rw [List.mem_singleton] at hy
            subst hy
            exact hc.cell.2.2 _ (Nat.le_refl _)
        · rw [List.eq_of_mem_replicate hy]
          rfl
      · intro j z hj hz
        by_cases hji : j < i
        · obtain ⟨c', k1, k2⟩ := hcells j z hji hz
          exact ⟨c', by rw [List.getElem?_append_left (by omega)]; exact k1, k2.keep fun b g y hb h => vrow_set_ne (Nat.ne_of_lt hb) (vrow_pre hh h)⟩
        · have : j = i := by simp only at hj; omega
          subst this
          rw [hx'] at hz
          injection hz with hz
          subst hz
          exact ⟨c, by rw [List.getElem?_append_right (by omega), hcl, Nat.sub_self]; rfl, hc.keep fun b g y hb h => vrow_set_ne (Nat.ne_of_lt hb) h⟩
    · have hie : i = xs.length := by omega
      subst hie
      simp only [laws_toStringSS_b0, h0, h1, h5, h6, hin, VX, Nat.reduceEqDiff, Nat.reduceAdd]
      rw [Nat.add_sub_cancel_left] at hrow
      exact hQ _ _ cells h0 h5 hO hcl hrow fun i x hx => hcells i x (List.getElem?_eq_some_iff.1 hx).1 hx
  have main2 : ∀ (ρ : VEnv) (H : VHeap) (cells : List VV), ρ 0 = strssV xs → ρ 5 = .ref n 0 0 (xs.length + room xs.length) (xs.length + room xs.length) → ρ 7 = VI xs.length → OwnH n H → cells.length = xs.length → vrow H n 0 = some (cells ++ List.replicate (room xs.length) (.tree [] .nil), 1, true) →
        (∀ (i : Nat) x, xs[i]? = some x → ∃ c, cells[i]? = some c ∧ SCell n H bare x c) → ∀ Q : VQ,
      (∀ (ρ' : VEnv) (H : VHeap), ρ' 0 = strssV xs → ρ' 5 = .ref n 0 0 (xs.length + room xs.length) (xs.length + room xs.length) → OwnH n H → SSRow H bare xs n → Q (.exit 2) ρ' H) →
      VW ⟨true, true⟩ n (.loop laws_toStringSS_b1) Q ρ H := by
    intro ρ H cells h0 h5 h7 hO hcl hrow hcells Q hQ
    have hown : ∀ y ∈ cells, ownV n y = true := fun y hy => by
      obtain ⟨j, hj⟩ := List.getElem?_of_mem hy
      have hjl := (List.getElem?_eq_some_iff.1 hj).1
      obtain ⟨z, hz⟩ : ∃ z, xs[j]? = some z := ⟨_, List.getElem?_eq_getElem (by omega)⟩
      obtain ⟨c', k1, k2⟩ := hcells j z hz
      rw [hj] at k1
      injection k1 with k1
      subst k1
      exact k2.cell.2.2 _ (Nat.le_refl _)
    refine VW_loop (fun (s : Nat × List VV) ρ H => s.1 ≤ room xs.length ∧ s.2.length = s.1 ∧ OwnH n H ∧ vrow H n 0 = some (cells ++ s.2 ++ List.replicate (room xs.length - s.1) (.tree [] .nil), 1, true) ∧ (∀ (i : Nat) x, xs[i]? = some x → ∃ c, cells[i]? = some c ∧ SCell n H bare x c) ∧ (∀ c ∈ s.2, FCell n H c) ∧
      ρ 0 = strssV xs ∧ ρ 5 = .ref n 0 0 (xs.length + room xs.length) (xs.length + room xs.length) ∧ ρ 7 = VI (xs.length + s.1 : Nat)) (fun s => room xs.length - s.1) (0, [])
      ⟨Nat.zero_le _, rfl, hO, by rw [List.append_nil]; exact hrow, hcells, fun c hc => (by cases hc), h0, h5, h7⟩ ?_
    rintro ⟨i, fs⟩ ρ H ⟨hi, hfl, hO, hrow, hcells, hfs, h0, h5, h7⟩
    simp only at hi hfl hrow hcells h7 hfs
    have el := vlen_ref (o := 0) (n := xs.length + room xs.length) (c := xs.length + room xs.length) hrow
    by_cases hin : ((xs.length + i : Nat) : Int) < ((xs.length + room xs.length : Nat) : Int)
    · have eL : vlit true [.string ⟨#[]⟩] 1 [(0, .sc (.string ⟨#[126, 115, 112, 97, 114, 101, 126]⟩))] H = some (.ref H.length 0 0 1 1, H ++ [.row 0 [sV fillS] 1 true]) := vlit_row1 rfl rfl rfl
      have hrow' := vrow_app (L := [.row 0 [sV fillS] 1 true]) hrow
      have hlt := vrow_lt hrow
      have e3 := viaddr_row (o := 0) (n := xs.length + room xs.length) (c := xs.length + room xs.length) (i := xs.length + i) (k := .i64) hrow' (by omega)
      have e4 := vstore_all (j := xs.length + i) (lo := n) (v := .ref H.length 0 0 1 1) hrow' (by simp; omega) (Nat.le_refl _) rfl rfl
      have hst := set_step (cells ++ fs) (room xs.length - (i + 1)) (.tree [] .nil) (.ref H.length 0 0 1 1)
      rw [show (cells ++ fs).length = xs.length + i by simp [hcl, hfl], show room xs.length - (i + 1) + 1 = room xs.length - i by omega] at hst
      rw [hst] at e4
      have wi : IntKind.i64.wrap (((xs.length + i : Nat) : Int) + 1) = ((xs.length + (i + 1) : Nat) : Int) := wrapN _ (by omega) (by omega)
      simp only [laws_toStringSS_b1, h0, h5, h7, hin, el, eL, e3, e4, wi, Nat.zero_add, VX, Nat.reduceEqDiff, Nat.reduceAdd]
      have hkeep : ∀ b g x, n < b → vrow H b g = some x → vrow ((H ++ [VBlk.row 0 [sV fillS] 1 true]).set n (VBlk.row 0 (cells ++ fs ++ [VV.ref H.length 0 0 1 1] ++ List.replicate (room xs.length - (i + 1)) (VV.tree [] TK.nil)) 1 true)) b g = some x := fun b g x hb h => vrow_set_ne (Nat.ne_of_lt hb) (vrow_app h)
      refine ⟨(i + 1, fs ++ [.ref H.length 0 0 1 1]), by simp only; omega, by simp only; omega, by simp [hfl], ?_, ?_, ?_, ?_, by (repeat' apply And.intro) <;> first | rfl | trivial | assumption⟩
      · refine (hO.app rfl).set (Nat.le_refl _) (ownL_mem.2 fun y hy => ?_)
        rcases List.mem_append.1 hy with hy | hy
        · rcases List.mem_append.1 hy with hy | hy
          · rcases List.mem_append.1 hy with hy | hy
            · exact hown y hy
            · exact (hfs y hy).cell.2.2 _ (Nat.le_refl _)
          · rw [List.mem_singleton] at hy
            subst hy
            simp [ownV]; omega
        · rw [List.eq_of_mem_replicate hy]
          rfl
      · rw [vrow_set_eq hrow']
        simp only [List.append_assoc]
      · intro j z hz
        obtain ⟨c', k1, k2⟩ := hcells j z hz
        exact ⟨c', k1, k2.keep hkeep⟩
      · intro c hc
        rcases List.mem_append.1 hc with hc | hc
        · exact (hfs c hc).keep hkeep
        · rw [List.mem_singleton] at hc
          subst hc
          exact ⟨_, hlt, rfl, vrow_set_ne (Nat.ne_of_lt hlt) vrow_last⟩
    · have hie : i = room xs.length := by omega
      subst hie
      simp only [laws_toStringSS_b1, h0, h5, h7, hin, el, VX, Nat.reduceEqDiff, Nat.reduceAdd]
      rw [Nat.sub_self, List.replicate_zero, List.append_nil] at hrow
      exact hQ _ _ h0 h5 hO ⟨cells, fs, hrow, hcl, hfl, hcells, hfs⟩
  have goal : ∀ (ρ0 : VEnv), ρ0 0 = strssV xs → ρ0 1 = .sc (.bool bare) → ρ0 5 = .ref n 0 0 (xs.length + room xs.length) (xs.length + room xs.length) → True := fun _ _ _ _ => trivial
  cases bare with
  | true =>
    have hb0 := hb' rfl
    simp only [laws_toStringSS, laws_toStringSS_c, hb0, w1, em, laws_roomBehind_v, VX, Nat.reduceEqDiff, Nat.reduceAdd]
    refine main _ rfl rfl rfl rfl _ fun ρ' H cells h0 h5 hO hcl hrow hcells => ?_
    simp only [h0, h5, VX, Nat.reduceEqDiff, Nat.reduceAdd]
    refine main2 _ _ cells (by exact h0) (by exact h5) rfl hO hcl hrow hcells _ fun ρ'' H h0 h5 hO hS => ?_
    obtain ⟨cs, fs, k1, k2⟩ := hS
    have es := vsub_ref_to (o := 0) (n := xs.length + room xs.length) (c := xs.length + room xs.length) (h := xs.length) (k2 := .i64) k1 (by omega)
    simp only [h0, h5, es, VX, Nat.reduceEqDiff, Nat.reduceAdd]
    obtain ⟨L, rfl, hL⟩ := hO
    exact ⟨L, rfl, by simp [ownV], hL, .inr ⟨rfl, cs, fs, k1, k2⟩⟩
  | false =>
    simp only [laws_toStringSS, laws_toStringSS_c, w1, em, laws_roomBehind_v, VX, Nat.reduceEqDiff, Nat.reduceAdd]
    refine main _ rfl rfl rfl rfl _ fun ρ' H cells h0 h5 hO hcl hrow hcells => ?_
    simp only [h0, h5, VX, Nat.reduceEqDiff, Nat.reduceAdd]
    refine main2 _ _ cells (by exact h0) (by exact h5) rfl hO hcl hrow hcells _ fun ρ'' H h0 h5 hO hS => ?_
    obtain ⟨cs, fs, k1, k2⟩ := hS
    have es := vsub_ref_to (o := 0) (n := xs.length + room xs.length) (c := xs.length + room xs.length) (h := xs.length) (k2 := .i64) k1 (by omega)
    simp only [h0, h5, es, VX, Nat.reduceEqDiff, Nat.reduceAdd]
    obtain ⟨L, rfl, hL⟩ := hO
    exact ⟨L, rfl, by simp [ownV], hL, .inr ⟨rfl, cs, fs, k1, k2⟩⟩
end Go.PM

/- Services, handed over. -/
namespace Go.PM

/-- A service: how it begins, goes on and ends. -/
structure Svc where
  b : List ByteArray
  g : List (List ByteArray)
  e : List ByteArray
def svV (s : Svc) : VV := .agg [strsV s.b, strssV s.g, strsV s.e]
theorem svV_pure (s : Svc) : pureV (svV s) = true := by
  show pureL [strsV s.b, strssV s.g, strsV s.e] = true
  simp only [pureL, strsV_pure, strss_pure, Bool.and_self]
def okSv (s : Svc) : Prop := okS s.b ∧ okSS s.g ∧ okS s.e

mutual
theorem ownV_mono {n n' : Nat} (h : n ≤ n') (v : VV) (hv : ownV n' v = true) : ownV n v = true := by
  cases v with
  | any => cases hv
  | sc v => exact hv
  | agg cs => exact ownL_mono h cs hv
  | tup cs => exact ownL_mono h cs hv
  | tree es k => exact hv
  | tptr => cases hv
  | ref b g o n c => simp only [ownV, decide_eq_true_eq] at hv ⊢; omega
  | ptr b g j o => simp only [ownV, decide_eq_true_eq] at hv ⊢; omega
  | clo => cases hv
theorem ownL_mono {n n' : Nat} (h : n ≤ n') (vs : List VV) (hv : ownL n' vs = true) : ownL n vs = true := by
  cases vs with
  | nil => rfl
  | cons x xs =>
    simp only [ownL, Bool.and_eq_true] at hv ⊢
    exact ⟨ownV_mono h x hv.1, ownL_mono h xs hv.2⟩
end
/-- The rows from k on are one's own. -/
def OwnT (n k : Nat) (H : VHeap) : Prop := ∀ (b g : Nat) (es : List VV) (e : Nat) (w : Bool), k ≤ b → H[b]? = some (.row g es e w) → ownL n es = true
theorem OwnT.app {n k : Nat} {H L : VHeap} (h : OwnT n k H) (hn : n ≤ H.length) (hL : rowsOwn H.length L = true) : OwnT n k (H ++ L) := by
  intro b g es e w hb hr
  rcases Nat.lt_or_ge b H.length with hlt | hge
  · rw [List.getElem?_append_left hlt] at hr
    exact h b g es e w hb hr
  · rw [List.getElem?_append_right hge] at hr
    exact ownL_mono hn _ (List.all_eq_true.1 hL _ (List.mem_of_getElem? hr))
theorem OwnT.set {n k b : Nat} {H : VHeap} {x : VBlk} (h : OwnT n k H) (hb : b < k) : OwnT n k (H.set b x) := by
  intro b' g es e w hb' hr
  rw [List.getElem?_set_ne (by omega)] at hr
  exact h b' g es e w hb' hr
theorem kill_low {n k : Nat} {H : VHeap} (hk : n ≤ k) (hl : k ≤ H.length) (hO : OwnT n k H) : ∃ L, Kills H (List.replicate n .dead ++ L) ∧ rowsOwn n L = true ∧ ∀ b g x, k ≤ b → vrow H b g = some x → vrow (List.replicate n .dead ++ L) b g = some x := by
  have e : List.replicate n VBlk.dead ++ (List.replicate (k - n) .dead ++ H.drop k) = List.replicate k .dead ++ H.drop k := by
    rw [← List.append_assoc, List.replicate_append_replicate, Nat.add_sub_cancel' hk]
  have get : ∀ b, k ≤ b → (List.replicate k VBlk.dead ++ H.drop k)[b]? = H[b]? := fun b hb => by
    rw [List.getElem?_append_right (by simpa using hb), List.length_replicate, List.getElem?_drop]
    congr 1
    omega
  refine ⟨List.replicate (k - n) .dead ++ H.drop k, ⟨?_, ?_⟩, ?_, ?_⟩
  · rw [e]; simp; omega
  · intro b g es e' w hb
    rw [e] at hb
    rcases Nat.lt_or_ge b k with h | h
    · rw [List.getElem?_append_left (by simpa using h)] at hb
      have := List.eq_of_mem_replicate (List.mem_of_getElem? hb)
      cases this
    · rw [get b h] at hb
      exact hb
  · unfold rowsOwn
    rw [List.all_append, Bool.and_eq_true]
    constructor
    · rw [List.all_eq_true]
      intro x hx
      rw [List.eq_of_mem_replicate hx]
    · rw [List.all_eq_true]
      intro x hx
      obtain ⟨j, hj⟩ := List.getElem?_of_mem hx
      rw [List.getElem?_drop] at hj
      cases x with
      | dead => rfl
      | row g es e' w => exact hO _ _ _ _ _ (Nat.le_add_right _ _) hj
  · intro b g x hb h
    obtain ⟨es, e', w⟩ := x
    rw [vrow_some] at h ⊢
    rw [e, get b hb]
    exact h

/-- Lists of lists as they are handed over. -/
def SSCell (n : Nat) (H : VHeap) (bare : Bool) (xs : List (List ByteArray)) (c : VV) : Prop :=
  (bare = true ∧ xs = [] ∧ c = .tree [] .nil) ∨ ∃ b, n < b ∧ c = .ref b 0 0 xs.length (xs.length + room xs.length) ∧ SSRow H bare xs b
theorem SSCell.keep {n : Nat} {H H' : VHeap} {bare : Bool} {xs : List (List ByteArray)} {c : VV} (h : SSCell n H bare xs c) (hk : ∀ b g x, n < b → vrow H b g = some x → vrow H' b g = some x) : SSCell n H' bare xs c := by
  rcases h with h | ⟨b, h1, h2, h3⟩
  · exact .inl h
  · exact .inr ⟨b, h1, h2, h3.keep fun b' g x hb => hk b' g x (by omega)⟩
theorem SSCell.cell {n : Nat} {H : VHeap} {bare : Bool} {x : List (List ByteArray)} {c : VV} (h : SSCell n H bare x c) : vcells c = [c] ∧ vscal c = true := by
  rcases h with ⟨_, _, rfl⟩ | ⟨b, h1, rfl, _⟩
  · exact ⟨rfl, rfl⟩
  · exact ⟨rfl, rfl⟩
theorem SSRow.fz {d b : Nat} {H : VHeap} {bare : Bool} {xs : List (List ByteArray)} (h : SSRow H bare xs b) : PM.fz (d + 3) H (.ref b 0 0 xs.length (xs.length + room xs.length)) = some (strssV xs) := by
  obtain ⟨cells, fills, h1, h2, h3, h4, h5⟩ := h
  show PM.fz ((d + 2) + 1) H _ = _
  unfold PM.fz
  have : pureV (.ref b 0 0 xs.length (xs.length + room xs.length)) = false := rfl
  simp only [this, h1, Bool.false_eq_true, if_false]
  rw [if_pos ⟨by simp; omega, Nat.le_add_right _ _⟩, List.drop_zero, List.take_left' h2]
  have : ∀ (xs : List (List ByteArray)) (cells : List VV), cells.length = xs.length → (∀ (i : Nat) x, xs[i]? = some x → ∃ c, cells[i]? = some c ∧ SCell b H bare x c) → cells.mapM (PM.fz (d + 2) H) = some (xs.map strsV) := by
    intro xs
    induction xs with
    | nil => intro cells hl _; cases cells with
      | nil => rfl
      | cons => cases hl
    | cons x xs ih =>
      intro cells hl hc
      cases cells with
      | nil => cases hl
      | cons c cells =>
        obtain ⟨c', k1, k2⟩ := hc 0 x rfl
        injection k1 with k1
        subst k1
        rw [List.mapM_cons, k2.fz, ih cells (by simpa using hl) fun i x hx => hc (i + 1) x hx]
        rfl
  rw [this xs cells h2 h4]
  rfl
theorem fz_nil_n {d : Nat} {H : VHeap} : PM.fz (d + 1) H (.tree [] .nil) = some (.tree [] .op) := by
  unfold PM.fz
  have : pureV (.tree [] .nil) = false := rfl
  simp only [this, Bool.false_eq_true, if_false]
  rfl
theorem SSCell.fz {n d : Nat} {H : VHeap} {bare : Bool} {xs : List (List ByteArray)} {c : VV} (h : SSCell n H bare xs c) : PM.fz (d + 3) H c = some (strssV xs) := by
  rcases h with ⟨_, rfl, rfl⟩ | ⟨b, h1, rfl, h3⟩
  · exact fz_nil_n
  · exact h3.fz
/-- A service as it is handed over. -/
def SvCell (n : Nat) (H : VHeap) (bare : Bool) (s : Svc) (r : VV) : Prop := ∃ c0 c1 c2, r = .agg [c0, c1, c2] ∧ SCell n H bare s.b c0 ∧ SSCell n H bare s.g c1 ∧ SCell n H bare s.e c2
theorem SvCell.keep {n : Nat} {H H' : VHeap} {bare : Bool} {s : Svc} {c : VV} (h : SvCell n H bare s c) (hk : ∀ b g x, n < b → vrow H b g = some x → vrow H' b g = some x) : SvCell n H' bare s c := by
  obtain ⟨c0, c1, c2, rfl, h0, h1, h2⟩ := h
  exact ⟨c0, c1, c2, rfl, h0.keep hk, h1.keep hk, h2.keep hk⟩
theorem SvCell.pre {n : Nat} {H H' : VHeap} {bare : Bool} {s : Svc} {c : VV} (h : SvCell n H bare s c) (hh : H <+: H') : SvCell n H' bare s c := h.keep fun _ _ _ _ => vrow_pre hh
theorem SvCell.fz {n : Nat} {H : VHeap} {bare : Bool} {s : Svc} {c : VV} (h : SvCell n H bare s c) : PM.fz depth H c = some (svV s) := by
  obtain ⟨c0, c1, c2, rfl, h0, h1, h2⟩ := h
  cases hp : pureV (.agg [c0, c1, c2]) with
  | true =>
    simp only [pureV, pureL, Bool.and_eq_true] at hp
    have f0 := h0.fz (d := 0)
    have f1 := h1.fz (d := 0)
    have f2 := h2.fz (d := 0)
    rw [fz_pure hp.1] at f0
    rw [fz_pure hp.2.1] at f1
    rw [fz_pure hp.2.2.1] at f2
    injection f0 with f0
    injection f1 with f1
    injection f2 with f2
    subst f0 f1 f2
    exact fz_res (svV_pure s)
  | false =>
    show PM.fz (7 + 1) H _ = _
    unfold PM.fz
    simp only [hp, Bool.false_eq_true, if_false]
    rw [List.mapM_cons, h0.fz (d := 5), List.mapM_cons, h1.fz (d := 4), List.mapM_cons, h2.fz (d := 5)]
    rfl

/-- One list of texts, or lists of them, for a value of one's own. -/
theorem to_s {n m lo : Nat} {x : List ByteArray} {bare : Bool} {H : VHeap} {K : VV → VHeap → Prop} (hx : x.length ≤ 1000000000) (hn : n ≤ H.length) (hm : m < H.length) (hO : OwnT n (m + 1) H)
    (hk : ∀ c H', H <+: H' → OwnT n (m + 1) H' → SCell m H' bare x c → ownV n c = true → K c H') : vcallP 70 [strsV x, .sc (.bool bare)] lo H K := by
  refine (laws_toStringS_v x bare hx).callO rfl (mapM_pure (n := 7) (by simp [pureL, strsV_pure]; rfl)) ?_
  rintro r L hR hv hL
  refine hk r _ (List.prefix_append _ _) (hO.app hn hL) ?_ (ownV_mono hn _ hv)
  rcases hR with ⟨hb, rfl, rfl, rfl⟩ | ⟨rfl, rfl⟩
  · exact .inl ⟨hb, rfl, rfl⟩
  · exact .inr ⟨_, hm, rfl, vrow_of_app (i := 0) rfl⟩
theorem to_ss {n m lo : Nat} {xs : List (List ByteArray)} {bare : Bool} {H : VHeap} {K : VV → VHeap → Prop} (hl : xs.length ≤ 1000000000) (hx : ∀ x ∈ xs, x.length ≤ 1000000000) (hn : n ≤ H.length) (hm : m < H.length) (hO : OwnT n (m + 1) H)
    (hk : ∀ c H', H <+: H' → OwnT n (m + 1) H' → SSCell m H' bare xs c → ownV n c = true → K c H') : vcallP 71 [strssV xs, .sc (.bool bare)] lo H K := by
  refine (laws_toStringSS_v xs bare hl hx).callO rfl (mapM_pure (n := 7) (by simp [pureL, strss_pure]; rfl)) ?_
  rintro r L hR hv hL
  refine hk r _ (List.prefix_append _ _) (hO.app hn hL) ?_ (ownV_mono hn _ hv)
  rcases hR with ⟨hb, rfl, rfl, rfl⟩ | ⟨rfl, h⟩
  · exact .inl ⟨hb, rfl, rfl⟩
  · exact .inr ⟨_, hm, rfl, h.keep fun b' g x hb h => vrow_move hb h⟩
end Go.PM

/- The statements' arguments on services, opened. -/
namespace Go.Proofs.Ytkoiolkkceknhaa
open Go.ChangeShapes Go.WideShapes Go.ChangeAt Go.RowKit Go.PM

theorem slice_none {P : Program} {W : World} {base : Nat} {u e : TypeId} {v : Value} (ht : P.underlying u = some (.slice e)) (h : Cell.okWide P W .any base u v) (hB : ¬ SomeBlk W) : v = .slice none 0 0 := by
  simp only [Cell.okWide, ht, Cell.ok] at h
  split at h
  case h_7 => rfl
  case h_9 =>
    obtain ⟨_, _, _, _, row, n, hs, _⟩ := h
    exfalso
    apply hB
    unfold World.shape? at hs
    split at hs
    · rename_i arr e' fz hb
      exact ⟨_, arr, e', fz, hb⟩
    · cases hs
  all_goals first | exact h.elim | (rename_i hx; cases hx) | (rename_i hx _; cases hx)

theorem opens_strs {T : Type} {encT : TypeId × Value → T} {W : World} (hB : SomeBlk W) : Opens encT Try.prog W 45 1 fun vs => ∃ s : List ByteArray, s.length ≤ maxLen ∧ (∀ x ∈ s, x.size ≤ maxLen) ∧ vs = [strsV s] :=
  opens_slice (f := sV) (good := fun x => x.size ≤ maxLen) Try.underlying45 (by kernel_rfl) (by decide) hB sV_len (opens_string Try.underlying9)
theorem opens_strss {T : Type} {encT : TypeId × Value → T} {W : World} (hB : SomeBlk W) : Opens encT Try.prog W 46 1 fun vs => ∃ s : List (List ByteArray), s.length ≤ maxLen ∧ (∀ x ∈ s, x.length ≤ maxLen ∧ ∀ y ∈ x, y.size ≤ maxLen) ∧ vs = [strssV s] := by
  refine opens_slice (f := strsV) (good := fun x => x.length ≤ maxLen ∧ ∀ y ∈ x, y.size ≤ maxLen) Try.underlying46 (by kernel_rfl) (by decide) hB (fun _ => rfl) ?_
  intro fuel cs y h m H hI
  obtain ⟨hl, m', L, pcs, vs, ho, s, h1, h2, rfl⟩ := opens_strs hB fuel cs y h m H hI
  exact ⟨hl, m', L, pcs, _, ho, s, ⟨h1, h2⟩, rfl⟩
theorem opens_svc {T : Type} {encT : TypeId × Value → T} {W : World} (hB : SomeBlk W) : Opens encT Try.prog W 48 3 fun vs => ∃ s : Svc, okSv s ∧ vs = vcells (svV s) := by
  intro fuel cs y h m H hI
  obtain ⟨hl, m', L, pcs, vs, ho, a, b, c, ⟨sa, a1, a2, rfl⟩, ⟨sb, b1, b2, rfl⟩, ⟨sc, c1, c2, rfl⟩, rfl⟩ := opens_three Try.underlying48 (by kernel_rfl) ⟨_, rfl, rfl, rfl⟩ ⟨_, rfl, rfl, rfl⟩ ⟨_, rfl, rfl, rfl⟩ rfl (by kernel_rfl) (by kernel_rfl) (by kernel_rfl)
    (opens_strs hB) (opens_strss hB) (opens_strs hB) fuel cs y h m H hI
  exact ⟨hl, m', L, pcs, _, ho, ⟨sa, sb, sc⟩, ⟨⟨a1, a2⟩, ⟨b1, b2⟩, ⟨c1, c2⟩⟩, rfl⟩

theorem getD_arr (xs : List Value) (i : Nat) : xs.toArray.getD i Go.undef = xs.getD i Go.undef := by
  simp [Array.getD_eq_getD_getElem?, List.getD_eq_getElem?_getD]
set_option maxRecDepth 100000 in
/-- A service that is handed over. -/
theorem open_svc {T : Type} {encT : TypeId × Value → T} {W : World} {v : Value} {d : DataW T} {ps : List MemPlace} {base : Nat} {m : PMap} {H : Heap} (h : DataW.Trod encT Try.prog W 0 (fun _ => true) true 48 v d ps) (hv : Value.okWide Try.prog W .any base 48 v) (hI : In m H W) :
    ∃ m' L pv s, In m' (H ++ L) W ∧ (∀ b l, m b = some l → m' b = some l) ∧ RV m' pv v ∧ VR (bare (· < (H ++ L).length) (H ++ L)) (svV s) pv ∧ okSv s := by
  have hv' := hv
  obtain ⟨cs, rfl, hcs⟩ := okWide_struct Try.underlying48 hv
  by_cases hB : SomeBlk W
  · obtain ⟨fuel, hf⟩ := h
    have e : (Value.agg cs).cells.toList = cs.toList := rfl
    rw [e] at hf
    obtain ⟨hl, m', L, pcs, vs, ho, s, hs, rfl⟩ := opens_svc hB fuel _ _ hf m H hI
    refine ⟨m', L, .agg pcs.toArray, s, ho.inn, ho.ext, .agg _ _ ?_ fun i hi => ?_, .agg _ _ ho.tree, hs⟩
    · have := ho.len
      simpa using this
    · have hi' : i < cs.toList.length := by have := ho.len; simp at hi ⊢; simp at this; omega
      have := ho.rv i hi'
      rw [getD_arr]
      have e2 : cs.getD i Go.undef = cs.toList.getD i Go.undef := by
        rw [← getD_arr]
      rw [e2]
      exact this
  · have hts : Try.prog.cellTypes Try.prog.depth 48 = some [45, 46, 45] := by kernel_rfl
    have h3 : Try.prog.cellsOf 48 = 3 := by kernel_rfl
    rw [h3] at hcs
    simp only [Value.okWide, Try.underlying48] at hv'
    obtain ⟨cs', e1, _, ts, e2, _, hc⟩ := hv'
    cases e1
    rw [hts] at e2
    cases e2
    have c0 : cs[0]? = some (.slice none 0 0) := by
      have e : cs[0]? = some cs[0] := Array.getElem?_eq_getElem (by omega)
      obtain ⟨u, hu, hk⟩ := hc 0 _ e
      cases hu
      rw [e, slice_none Try.underlying45 hk hB]
    have c1 : cs[1]? = some (.slice none 0 0) := by
      have e : cs[1]? = some cs[1] := Array.getElem?_eq_getElem (by omega)
      obtain ⟨u, hu, hk⟩ := hc 1 _ e
      cases hu
      rw [e, slice_none Try.underlying46 hk hB]
    have c2 : cs[2]? = some (.slice none 0 0) := by
      have e : cs[2]? = some cs[2] := Array.getElem?_eq_getElem (by omega)
      obtain ⟨u, hu, hk⟩ := hc 2 _ e
      cases hu
      rw [e, slice_none Try.underlying45 hk hB]
    refine ⟨m, [], .agg #[.slice none 0 0, .slice none 0 0, .slice none 0 0], ⟨[], [], []⟩, by rw [List.append_nil]; exact hI, fun _ _ h => h, .agg _ _ (by rw [hcs]; rfl) fun i hi => ?_, .agg [.tree [] .op, .tree [] .op, .tree [] .op] [.slice none 0 0, .slice none 0 0, .slice none 0 0] (.cons _ _ _ _ (.tnil _ (.inl rfl)) (.cons _ _ _ _ (.tnil _ (.inl rfl)) (.cons _ _ _ _ (.tnil _ (.inl rfl)) .nil))), ⟨Nat.zero_le _, fun x hx => (by cases hx)⟩, ⟨Nat.zero_le _, fun x hx => (by cases hx)⟩, ⟨Nat.zero_le _, fun x hx => (by cases hx)⟩⟩
    match i, hi with
    | 0, _ => rw [show cs.getD 0 Go.undef = .slice none 0 0 by rw [Array.getD_eq_getD_getElem?, c0]; rfl]; exact .snil
    | 1, _ => rw [show cs.getD 1 Go.undef = .slice none 0 0 by rw [Array.getD_eq_getD_getElem?, c1]; rfl]; exact .snil
    | 2, _ => rw [show cs.getD 2 Go.undef = .slice none 0 0 by rw [Array.getD_eq_getD_getElem?, c2]; rfl]; exact .snil
end Go.Proofs.Ytkoiolkkceknhaa

/- Services: handed over, measured, looked at. -/
namespace Go.PM

theorem set_fld3 {lo b : Nat} {H : VHeap} {c x y z : VV} (k : Nat) (h : vrow H b 0 = some ([.agg [x, y, z]], 3, true)) (hlo : lo ≤ b) (hc : vcells c = [c]) (hs : vscal c = true) (hk : k < 3) :
    vstore lo 1 (.ptr b 0 0 k) c H = some (H.set b (.row 0 [.agg ([x, y, z].set k c)] 3 true)) := by
  rw [vstore_pdef, h]
  simp only [List.getElem?_cons_zero, hc, List.length_cons, List.length_nil, List.all_cons, List.all_nil, hs, List.set_cons_zero]
  rw [if_pos ⟨by decide, hlo, by decide⟩, if_neg (by omega), if_pos ⟨by decide, by omega⟩]
  match k, hk with
  | 0, _ => rfl
  | 1, _ => rfl
  | 2, _ => rfl

set_option maxHeartbeats 1000000 in
theorem laws_toService_v (s : Svc) (bare : Bool) (hb : s.b.length ≤ 1000000000) (hg : s.g.length ≤ 1000000000 ∧ ∀ x ∈ s.g, x.length ≤ 1000000000) (he : s.e.length ≤ 1000000000) : FC 36 [svV s, .sc (.bool bare)] fun n r L => SvCell n (List.replicate n .dead ++ L) bare s r := by
  refine FC.walkK ⟨true, false⟩ laws_toService_t (Nat.le_of_ble_eq_true rfl) fun n => ?_
  simp only [laws_toService, laws_toService_c, svV, VX, Nat.reduceEqDiff, Nat.reduceAdd, vload_pdef, vstore_pdef, viaddr_rdef, vlen_rdef, vfaddr_pdef, vchk_pdef, visnil_rdef, visnil_nil, visnil_cons, vrow_zero, vrow_succ, List.set_cons_zero, List.set_cons_succ, elemOf_one, elemOf_two, vresult, vresAll, vres1, vfill, isAny_sc, isAny_tree, isAny_ref, isAny_agg, isAny_clo, List.take_zero, List.take_succ_cons, List.take_nil, List.drop_zero, List.drop_succ_cons, List.drop_nil, List.append_nil, Nat.reduceLeDiff, Nat.le_refl, vsplice, Nat.reduceLT, Int.toNat_natCast, eq_self, ge_iff_le, Bool.and_eq_true, Nat.reduceSub, vrow_D0, vrow_Dk, set_D0, set_Dk, len_D, List.append_assoc, Nat.le_add_right, take_Dk, take_D0, List.length_replicate]
  refine to_s (n := n) (m := n + 1) hb (by simp) (by simp) ?_ fun c0 H1 p1 O1 s0 w0 => ?_
  · intro b g es e w hb hr
    rw [List.getElem?_eq_none (by simp; omega)] at hr
    cases hr
  have hl1 : n + 2 ≤ H1.length := by have := p1.length_le; simpa using this
  have a1 : vrow H1 (n + 1) 0 = some ([.agg [.tree [] .nil, .tree [] .nil, .tree [] .nil]], 3, true) := vrow_pre p1 (by rw [vrow_Dk]; rfl)
  have b1 : vrow H1 n 0 = some ([.agg [.tree [] .nil, .tree [] .nil, .tree [] .nil]], 3, true) := vrow_pre p1 (by rw [vrow_D0]; rfl)
  have e1 := set_fld3 (lo := n) 0 a1 (Nat.le_succ n) s0.cell.1 s0.cell.2.1 (by decide)
  simp only [a1, e1, vfaddr_pdef, Nat.add_zero, VX, Nat.reduceEqDiff, Nat.reduceAdd]
  refine to_ss (n := n) (m := n + 1) hg.1 hg.2 (by rw [List.length_set]; omega) (by rw [List.length_set]; omega) (O1.set (by omega)) fun c1 H2 p2 O2 s1 w1 => ?_
  have hl2 : n + 2 ≤ H2.length := by have := p2.length_le; rw [List.length_set] at this; omega
  have a2 : vrow H2 (n + 1) 0 = some ([.agg [c0, .tree [] .nil, .tree [] .nil]], 3, true) := vrow_pre p2 (vrow_set_eq a1)
  have b2 : vrow H2 n 0 = some ([.agg [.tree [] .nil, .tree [] .nil, .tree [] .nil]], 3, true) := vrow_pre p2 (vrow_set_ne (by omega) b1)
  have s0' := s0.keep (H' := H2) fun b g x hb h => vrow_pre p2 (vrow_set_ne (by omega) h)
  have e2 := set_fld3 (lo := n) 1 a2 (Nat.le_succ n) s1.cell.1 s1.cell.2 (by decide)
  simp only [a2, e2, vfaddr_pdef, Nat.zero_add, VX, Nat.reduceEqDiff, Nat.reduceAdd]
  refine to_s (n := n) (m := n + 1) he (by rw [List.length_set]; omega) (by rw [List.length_set]; omega) (O2.set (by omega)) fun c2 H3 p3 O3 s2 w2 => ?_
  have hl3 : n + 2 ≤ H3.length := by have := p3.length_le; rw [List.length_set] at this; omega
  have a3 : vrow H3 (n + 1) 0 = some ([.agg [c0, c1, .tree [] .nil]], 3, true) := vrow_pre p3 (vrow_set_eq a2)
  have b3 : vrow H3 n 0 = some ([.agg [.tree [] .nil, .tree [] .nil, .tree [] .nil]], 3, true) := vrow_pre p3 (vrow_set_ne (by omega) b2)
  have s0'' := s0'.keep (H' := H3) fun b g x hb h => vrow_pre p3 (vrow_set_ne (by omega) h)
  have s1'' := s1.keep (H' := H3) fun b g x hb h => vrow_pre p3 (vrow_set_ne (by omega) h)
  have e3 := set_fld3 (lo := n) 2 a3 (Nat.le_succ n) s2.cell.1 s2.cell.2.1 (by decide)
  have e4 : vload true 3 (.ptr (n + 1) 0 0 0) (H3.set (n + 1) (.row 0 [.agg [c0, c1, c2]] 3 true)) = some (.agg [c0, c1, c2]) := by
    rw [vload_pdef, vrow_set_eq a3]
    rfl
  have hv : vcells c0 = [c0] ∧ vcells c1 = [c1] ∧ vcells c2 = [c2] := ⟨s0.cell.1, s1.cell.1, s2.cell.1⟩
  have e5 := vstore_all (lo := n) (v := .agg [c0, c1, c2]) (j := 0) (vrow_set_ne (x := .row 0 [.agg [c0, c1, c2]] 3 true) (b' := n + 1) (by omega) b3) (by decide) (Nat.le_refl _) (by rfl) (by simp [vcells, s0.cell.2.1, s1.cell.2, s2.cell.2.1])
  have e6 : vload true 3 (.ptr n 0 0 0) ((H3.set (n + 1) (.row 0 [.agg [c0, c1, c2]] 3 true)).set n (.row 0 [.agg [c0, c1, c2]] 3 true)) = some (.agg [c0, c1, c2]) := by
    rw [vload_pdef, vrow_set_eq (vrow_set_ne (x := .row 0 [.agg [c0, c1, c2]] 3 true) (b' := n + 1) (by omega) b3)]
    rfl
  simp only [a3, e3, e4, e5, e6, vfaddr_pdef, Nat.zero_add, List.set_cons_zero, List.set_cons_succ, vresult, vresAll, vres1, VX, Nat.reduceEqDiff, Nat.reduceAdd]
  obtain ⟨L, k1, k2, k3⟩ := kill_low (n := n) (k := n + 2) (H := (H3.set (n + 1) (.row 0 [.agg [c0, c1, c2]] 3 true)).set n (.row 0 [.agg [c0, c1, c2]] 3 true)) (by omega) (by rw [List.length_set, List.length_set]; exact hl3) ((O3.set (by omega)).set (by omega))
  have hkeep : ∀ b g x, n + 1 < b → vrow H3 b g = some x → vrow (List.replicate n .dead ++ L) b g = some x := fun b g x hb h => k3 b g x hb (vrow_set_ne (by omega) (vrow_set_ne (by omega) h))
  have up : ∀ {H c x}, SCell (n + 1) H bare x c → SCell n H bare x c := fun h => by
    rcases h with h | ⟨b, h1, h2, h3⟩
    · exact .inl h
    · exact .inr ⟨b, by omega, h2, h3⟩
  have up2 : ∀ {H c x}, SSCell (n + 1) H bare x c → SSCell n H bare x c := fun h => by
    rcases h with h | ⟨b, h1, h2, h3⟩
    · exact .inl h
    · exact .inr ⟨b, by omega, h2, h3⟩
  refine ⟨L, k1, by simp [ownV, ownL, w0, w1, w2], k2, c0, c1, c2, rfl, up (s0''.keep hkeep), up2 (s1''.keep hkeep), up (s2.keep hkeep)⟩
theorem laws_szService_v (s : Svc) (left : Int) (hx : okSv s) (hl : 0 ≤ left ∧ left ≤ 1000000) : TC 34 [svV s, VI left] (VI (if szS s.b left < 0 then -1 else if szSS s.g (szS s.b left) < 0 then -1 else if szS s.e (szSS s.g (szS s.b left)) < 0 then -1 else szS s.e (szSS s.g (szS s.b left)))) := by
  refine TC.walk ⟨true, false⟩ laws_szService_t rfl (Nat.le_of_ble_eq_true rfl) (by simp [pureL, svV_pure]; rfl) rfl ?_
  have e0 := laws_szStringS_v s.b left hx.1 hl
  by_cases h0 : szS s.b left < 0
  · simp only [laws_szService, laws_szService_c, svV, e0, h0, if_true, VX, Nat.reduceEqDiff, Nat.reduceAdd, vload_pdef, vstore_pdef, viaddr_rdef, vlen_rdef, vfaddr_pdef, vchk_pdef, visnil_rdef, visnil_nil, visnil_cons, vrow_zero, vrow_succ, List.set_cons_zero, List.set_cons_succ, elemOf_one, elemOf_two, vresult, vresAll, vres1, vfill, isAny_sc, isAny_tree, isAny_ref, isAny_agg, isAny_clo, List.take_zero, List.take_succ_cons, List.take_nil, List.drop_zero, List.drop_succ_cons, List.drop_nil, List.append_nil, Nat.reduceLeDiff, Nat.le_refl, vsplice, Nat.reduceLT, Int.toNat_natCast, eq_self, ge_iff_le, Bool.and_eq_true, Nat.reduceSub]
    exact fz_res rfl
  have b0 := szS_le (xs := s.b) (l := left) (by omega)
  have e1 := laws_szStringSS_v s.g _ hx.2.1 ⟨Int.not_lt.1 h0, by omega⟩
  by_cases h1 : szSS s.g (szS s.b left) < 0
  · simp only [laws_szService, laws_szService_c, svV, e0, e1, h0, h1, if_true, if_false, VX, Nat.reduceEqDiff, Nat.reduceAdd, vload_pdef, vstore_pdef, viaddr_rdef, vlen_rdef, vfaddr_pdef, vchk_pdef, visnil_rdef, visnil_nil, visnil_cons, vrow_zero, vrow_succ, List.set_cons_zero, List.set_cons_succ, elemOf_one, elemOf_two, vresult, vresAll, vres1, vfill, isAny_sc, isAny_tree, isAny_ref, isAny_agg, isAny_clo, List.take_zero, List.take_succ_cons, List.take_nil, List.drop_zero, List.drop_succ_cons, List.drop_nil, List.append_nil, Nat.reduceLeDiff, Nat.le_refl, vsplice, Nat.reduceLT, Int.toNat_natCast, eq_self, ge_iff_le, Bool.and_eq_true, Nat.reduceSub]
    exact fz_res rfl
  have b1 := szSS_le (xs := s.g) (l := szS s.b left) (by omega)
  have e2 := laws_szStringS_v s.e _ hx.2.2 ⟨Int.not_lt.1 h1, by omega⟩
  by_cases h2 : szS s.e (szSS s.g (szS s.b left)) < 0
  · simp only [laws_szService, laws_szService_c, svV, e0, e1, e2, h0, h1, h2, if_true, if_false, VX, Nat.reduceEqDiff, Nat.reduceAdd, vload_pdef, vstore_pdef, viaddr_rdef, vlen_rdef, vfaddr_pdef, vchk_pdef, visnil_rdef, visnil_nil, visnil_cons, vrow_zero, vrow_succ, List.set_cons_zero, List.set_cons_succ, elemOf_one, elemOf_two, vresult, vresAll, vres1, vfill, isAny_sc, isAny_tree, isAny_ref, isAny_agg, isAny_clo, List.take_zero, List.take_succ_cons, List.take_nil, List.drop_zero, List.drop_succ_cons, List.drop_nil, List.append_nil, Nat.reduceLeDiff, Nat.le_refl, vsplice, Nat.reduceLT, Int.toNat_natCast, eq_self, ge_iff_le, Bool.and_eq_true, Nat.reduceSub]
    exact fz_res rfl
  · simp only [laws_szService, laws_szService_c, svV, e0, e1, e2, h0, h1, h2, if_false, VX, Nat.reduceEqDiff, Nat.reduceAdd, vload_pdef, vstore_pdef, viaddr_rdef, vlen_rdef, vfaddr_pdef, vchk_pdef, visnil_rdef, visnil_nil, visnil_cons, vrow_zero, vrow_succ, List.set_cons_zero, List.set_cons_succ, elemOf_one, elemOf_two, vresult, vresAll, vres1, vfill, isAny_sc, isAny_tree, isAny_ref, isAny_agg, isAny_clo, List.take_zero, List.take_succ_cons, List.take_nil, List.drop_zero, List.drop_succ_cons, List.drop_nil, List.append_nil, Nat.reduceLeDiff, Nat.le_refl, vsplice, Nat.reduceLT, Int.toNat_natCast, eq_self, ge_iff_le, Bool.and_eq_true, Nat.reduceSub]
    exact fz_res rfl
end Go.PM

/- Services: looked at, whether they are intact. -/
namespace Go.PM

theorem fz_fills {b d : Nat} {H : VHeap} : ∀ {fills : List VV}, (∀ c ∈ fills, FCell b H c) → fills.mapM (PM.fz (d + 2) H) = some ((List.replicate fills.length [fillS]).map strsV)
  | [], _ => rfl
  | c :: fills, h => by
    rw [List.mapM_cons, (h c List.mem_cons_self).fz, fz_fills fun c hc => h c (List.mem_cons_of_mem _ hc)]
    rfl
theorem SSRow.fz_room {b : Nat} {H : VHeap} {bare : Bool} {xs : List (List ByteArray)} (h : SSRow H bare xs b) : PM.fz depth H (.ref b 0 xs.length (room xs.length) (room xs.length)) = some (strssV (List.replicate (room xs.length) [fillS])) := by
  obtain ⟨cells, fills, h1, h2, h3, h4, h5⟩ := h
  show PM.fz (7 + 1) H _ = _
  unfold PM.fz
  have : pureV (.ref b 0 xs.length (room xs.length) (room xs.length)) = false := rfl
  simp only [this, h1, Bool.false_eq_true, if_false]
  rw [if_pos ⟨by simp; omega, Nat.le_refl _⟩, List.drop_left' h2, List.take_of_length_le (by omega), fz_fills (d := 5) h5, h3]
  rfl
theorem SSRow.get {b i : Nat} {H : VHeap} {xs : List (List ByteArray)} {x : List ByteArray} (h : SSRow H false xs b) (hx : xs[i]? = some x) :
    ∃ b', vload false 1 (.ptr b 0 i 0) H = some (.ref b' 0 0 x.length (x.length + room x.length)) ∧ vrow H b' 0 = some ((filledS fillS x).map sV, 1, true) := by
  obtain ⟨cells, fills, h1, h2, h3, h4, h5⟩ := h
  obtain ⟨c, k1, k2⟩ := h4 i x hx
  rcases k2 with ⟨k, _⟩ | ⟨b', _, rfl, k3⟩
  · cases k
  · refine ⟨b', ?_, k3⟩
    rw [vload_pdef, h1]
    simp only [List.getElem?_append_left (List.getElem?_eq_some_iff.1 k1).1, k1]
    rfl
theorem laws_intactStringSS_v {lo b b' : Nat} {H : VHeap} (xs : List (List ByteArray)) (hn : xs.length ≤ 400000000) (hx : ∀ x ∈ xs, x.length ≤ 400000000) (hX : SSRow H false xs b) (hY : SSRow H false xs b') {K : VV → VHeap → Prop} (hk : K (.sc (.bool true)) H) :
    vcallP 75 [.ref b 0 0 xs.length (xs.length + room xs.length), .ref b' 0 0 xs.length (xs.length + room xs.length)] lo H K := by
  refine vcall_raw rfl (VRaw.walk ⟨true, false⟩ laws_intactStringSS_t (Nat.le_of_ble_eq_true rfl) ?_)
  have hr := room_le xs.length
  have w1 : IntKind.i64.wrap ((xs.length : Int) + (room xs.length : Int)) = ((xs.length + room xs.length : Nat) : Int) := wrapN _ (by omega) (by omega)
  have gX := fun i x h => hX.get (i := i) (x := x) h
  have gY := fun i x h => hY.get (i := i) (x := x) h
  have fX := hX.fz_room
  have fY := hY.fz_room
  obtain ⟨cX, eX, rX, _⟩ := hX
  obtain ⟨cY, eY, rY, _⟩ := hY
  have l1 := vlen_ref (o := 0) (n := xs.length) (c := xs.length + room xs.length) rX
  have l2 := vlen_ref (o := 0) (n := xs.length) (c := xs.length + room xs.length) rY
  have e1 := vsub_ref (o := 0) (n := xs.length) (c := xs.length + room xs.length) (l := xs.length) (h := xs.length + room xs.length) (k1 := .i64) (k2 := .i64) rX (Nat.le_add_right _ _) (Nat.le_refl _)
  have e2 := vsub_ref (o := 0) (n := xs.length) (c := xs.length + room xs.length) (l := xs.length) (h := xs.length + room xs.length) (k1 := .i64) (k2 := .i64) rY (Nat.le_add_right _ _) (Nat.le_refl _)
  rw [Nat.add_sub_cancel_left, Nat.zero_add] at e1 e2
  have e3 := (laws_eqStringSS_v (List.replicate (room xs.length) [fillS]) (List.replicate (room xs.length) [fillS]) (by simp; omega) (fun x hx => by rw [List.eq_of_mem_replicate hx]; decide)).flat (H := H) rfl (by simp [pureL, strss_pure]) (fz2 fX fY) rfl
  simp only [laws_intactStringSS, laws_intactStringSS_c, laws_roomBehind_v, l1, l2, w1, eq_self, VX, Nat.reduceEqDiff, Nat.reduceAdd]
  refine VW_loop (fun (i : Nat) ρ H1 => i ≤ xs.length ∧ H1 = H ∧ ρ 0 = .ref b 0 0 xs.length (xs.length + room xs.length) ∧ ρ 1 = .ref b' 0 0 xs.length (xs.length + room xs.length) ∧ ρ 5 = VI (xs.length + room xs.length : Nat) ∧ ρ 6 = VI i) (fun i => xs.length - i) 0 ⟨Nat.zero_le _, rfl, rfl, rfl, rfl, rfl⟩ ?_
  rintro i ρ H1 ⟨hi, rfl, h0, h1, h5, h6⟩
  by_cases hin : (i : Int) < (xs.length : Int)
  · obtain ⟨x, hx'⟩ : ∃ x, xs[i]? = some x := ⟨_, List.getElem?_eq_getElem (by omega)⟩
    obtain ⟨bx, vx, ux⟩ := gX i x hx'
    obtain ⟨bY, vy, uy⟩ := gY i x hx'
    have a1 := viaddr_row (o := 0) (n := xs.length) (c := xs.length + room xs.length) (i := i) (k := .i64) rX (by omega)
    have a2 := viaddr_row (o := 0) (n := xs.length) (c := xs.length + room xs.length) (i := i) (k := .i64) rY (by omega)
    have wi : IntKind.i64.wrap ((i : Int) + 1) = ((i + 1 : Nat) : Int) := wrapN (i + 1) (by omega) (by omega)
    simp only [laws_intactStringSS_b0, h0, h1, h6, hin, l2, a1, a2, vx, vy, Nat.zero_add, VX, Nat.reduceEqDiff, Nat.reduceAdd]
    refine laws_intactStringS_v x (hx x (List.mem_of_getElem? hx')) ux uy ?_
    simp only [h6, wi, VX, Nat.reduceEqDiff, Nat.reduceAdd]
    exact ⟨i + 1, by omega, by omega, by (repeat' apply And.intro) <;> first | rfl | trivial | assumption⟩
  · have hie : i = xs.length := by omega
    subst hie
    simp only [laws_intactStringSS_b0, h0, h1, h5, h6, hin, l2, e1, e2, e3, VX, Nat.reduceEqDiff, Nat.reduceAdd]
    exact hk

theorem SCell.ref {n : Nat} {H : VHeap} {x : List ByteArray} {c : VV} (h : SCell n H false x c) : ∃ b, c = .ref b 0 0 x.length (x.length + room x.length) ∧ vrow H b 0 = some ((filledS fillS x).map sV, 1, true) := by
  rcases h with ⟨k, _⟩ | ⟨b', _, rfl, k3⟩
  · cases k
  · exact ⟨b', rfl, k3⟩
theorem SSCell.ref {n : Nat} {H : VHeap} {x : List (List ByteArray)} {c : VV} (h : SSCell n H false x c) : ∃ b, c = .ref b 0 0 x.length (x.length + room x.length) ∧ SSRow H false x b := by
  rcases h with ⟨k, _⟩ | ⟨b', _, rfl, k3⟩
  · cases k
  · exact ⟨b', rfl, k3⟩
theorem laws_intactService_v {lo n n' : Nat} {H : VHeap} {c c' : VV} (s : Svc) (hb : s.b.length ≤ 400000000) (hg : s.g.length ≤ 400000000 ∧ ∀ x ∈ s.g, x.length ≤ 400000000) (he : s.e.length ≤ 400000000) (hX : SvCell n H false s c) (hY : SvCell n' H false s c') {K : VV → VHeap → Prop} (hk : K (.sc (.bool true)) H) :
    vcallP 38 [c, c'] lo H K := by
  refine vcall_raw rfl (VRaw.walk ⟨true, false⟩ laws_intactService_t (Nat.le_of_ble_eq_true rfl) ?_)
  obtain ⟨x0, x1, x2, rfl, hx0, hx1, hx2⟩ := hX
  obtain ⟨y0, y1, y2, rfl, hy0, hy1, hy2⟩ := hY
  obtain ⟨b0, rfl, r0⟩ := hx0.ref
  obtain ⟨b1, rfl, r1⟩ := hx1.ref
  obtain ⟨b2, rfl, r2⟩ := hx2.ref
  obtain ⟨d0, rfl, q0⟩ := hy0.ref
  obtain ⟨d1, rfl, q1⟩ := hy1.ref
  obtain ⟨d2, rfl, q2⟩ := hy2.ref
  simp only [laws_intactService, laws_intactService_c, VX, Nat.reduceEqDiff, Nat.reduceAdd, vload_pdef, vstore_pdef, viaddr_rdef, vlen_rdef, vfaddr_pdef, vchk_pdef, visnil_rdef, visnil_nil, visnil_cons, vrow_zero, vrow_succ, List.set_cons_zero, List.set_cons_succ, elemOf_one, elemOf_two, vresult, vresAll, vres1, vfill, isAny_sc, isAny_tree, isAny_ref, isAny_agg, isAny_clo, List.take_zero, List.take_succ_cons, List.take_nil, List.drop_zero, List.drop_succ_cons, List.drop_nil, List.append_nil, Nat.reduceLeDiff, Nat.le_refl, vsplice, Nat.reduceLT, Int.toNat_natCast, eq_self, ge_iff_le, Bool.and_eq_true, Nat.reduceSub, vrow_H0, vrow_Hk, set_H0, set_Hk, List.append_assoc, List.cons_append, List.nil_append, List.length_append, List.length_cons, List.length_nil, Nat.zero_add, Nat.reduceAdd]
  refine laws_intactStringS_v s.b hb r0 q0 ?_
  simp only [VX, Nat.reduceEqDiff, Nat.reduceAdd, vload_pdef, vstore_pdef, viaddr_rdef, vlen_rdef, vfaddr_pdef, vchk_pdef, visnil_rdef, visnil_nil, visnil_cons, vrow_zero, vrow_succ, List.set_cons_zero, List.set_cons_succ, elemOf_one, elemOf_two, vresult, vresAll, vres1, vfill, isAny_sc, isAny_tree, isAny_ref, isAny_agg, isAny_clo, List.take_zero, List.take_succ_cons, List.take_nil, List.drop_zero, List.drop_succ_cons, List.drop_nil, List.append_nil, Nat.reduceLeDiff, Nat.le_refl, vsplice, Nat.reduceLT, Int.toNat_natCast, eq_self, ge_iff_le, Bool.and_eq_true, Nat.reduceSub]
  refine laws_intactStringSS_v s.g hg.1 hg.2 r1 q1 ?_
  simp only [VX, Nat.reduceEqDiff, Nat.reduceAdd, vload_pdef, vstore_pdef, viaddr_rdef, vlen_rdef, vfaddr_pdef, vchk_pdef, visnil_rdef, visnil_nil, visnil_cons, vrow_zero, vrow_succ, List.set_cons_zero, List.set_cons_succ, elemOf_one, elemOf_two, vresult, vresAll, vres1, vfill, isAny_sc, isAny_tree, isAny_ref, isAny_agg, isAny_clo, List.take_zero, List.take_succ_cons, List.take_nil, List.drop_zero, List.drop_succ_cons, List.drop_nil, List.append_nil, Nat.reduceLeDiff, Nat.le_refl, vsplice, Nat.reduceLT, Int.toNat_natCast, eq_self, ge_iff_le, Bool.and_eq_true, Nat.reduceSub]
  refine laws_intactStringS_v s.e he r2 q2 ?_
  simp only [VX, Nat.reduceEqDiff, Nat.reduceAdd, vload_pdef, vstore_pdef, viaddr_rdef, vlen_rdef, vfaddr_pdef, vchk_pdef, visnil_rdef, visnil_nil, visnil_cons, vrow_zero, vrow_succ, List.set_cons_zero, List.set_cons_succ, elemOf_one, elemOf_two, vresult, vresAll, vres1, vfill, isAny_sc, isAny_tree, isAny_ref, isAny_agg, isAny_clo, List.take_zero, List.take_succ_cons, List.take_nil, List.drop_zero, List.drop_succ_cons, List.drop_nil, List.append_nil, Nat.reduceLeDiff, Nat.le_refl, vsplice, Nat.reduceLT, Int.toNat_natCast, eq_self, ge_iff_le, Bool.and_eq_true, Nat.reduceSub]
  exact hk
end Go.PM

/- The pure machine's form of functions, as the settings give it: I6. -/
namespace Go.PM
def impl_SameService_c : PCode := (.seq (.reg [⟨(some 2), (.box (.tmp 0)), none, false, []⟩, ⟨(some 3), (.box (.tmp 1)), none, false, []⟩, ⟨(some 4), (.mv (.const (.bool false))), none, false, []⟩]) (.seq (.reg [⟨(some 5), (.faddr 0 (.tmp 2)), none, false, []⟩, ⟨(some 6), (.load false 1 (.tmp 5)), none, false, []⟩, ⟨(some 7), (.faddr 0 (.tmp 3)), none, false, []⟩, ⟨(some 8), (.load false 1 (.tmp 7)), none, false, []⟩, ⟨(some 9), (.call 72 [(.tmp 6), (.tmp 8)]), none, false, []⟩, ⟨(some 10), (.mv (.tmp 9)), none, false, []⟩, ⟨(some 11), (.faddr 2 (.tmp 2)), (some (10, true)), false, []⟩, ⟨(some 12), (.load false 1 (.tmp 11)), (some (10, true)), false, []⟩, ⟨(some 13), (.faddr 2 (.tmp 3)), (some (10, true)), false, []⟩, ⟨(some 14), (.load false 1 (.tmp 13)), (some (10, true)), false, []⟩, ⟨(some 15), (.call 72 [(.tmp 12), (.tmp 14)]), (some (10, true)), false, []⟩, ⟨(some 16), (.pick (.tmp 10) (.tmp 15) (.const (.bool false))), none, false, []⟩, ⟨(some 17), (.mv (.tmp 16)), none, false, []⟩, ⟨(some 18), (.faddr 1 (.tmp 2)), (some (17, true)), false, []⟩, ⟨(some 19), (.load false 1 (.tmp 18)), (some (17, true)), false, []⟩, ⟨(some 20), (.build [(.slice none 0 0)] [(0, 1)] [(0, (.tmp 19))]), (some (17, true)), false, []⟩, ⟨(some 21), (.faddr 1 (.tmp 3)), (some (17, true)), false, []⟩, ⟨(some 22), (.load false 1 (.tmp 21)), (some (17, true)), false, []⟩, ⟨(some 23), (.build [(.slice none 0 0)] [(0, 1)] [(0, (.tmp 22))]), (some (17, true)), false, []⟩, ⟨(some 24), (.call 73 [(.tmp 20), (.tmp 23)]), (some (17, true)), false, []⟩, ⟨(some 25), (.pick (.tmp 17) (.tmp 24) (.const (.bool false))), none, false, []⟩, ⟨(some 4), (.mv (.tmp 25)), none, false, []⟩]) .ret))
def impl_SameService : PFunc := ⟨26, [(.tmp 4)], impl_SameService_c⟩
theorem impl_SameService_t : tab 37 = some impl_SameService := by kernel_rfl
end Go.PM

/- The pure machine's form of functions, as the settings give it: I3. -/
namespace Go.PM
def impl_SameChain_c : PCode := (.seq (.reg [⟨(some 2), (.box (.tmp 0)), none, false, []⟩, ⟨(some 3), (.box (.tmp 1)), none, false, []⟩, ⟨(some 4), (.mv (.const (.bool false))), none, false, []⟩]) (.seq (.reg [⟨(some 5), (.faddr 0 (.tmp 2)), none, false, []⟩, ⟨(some 6), (.load false 1 (.tmp 5)), none, false, []⟩, ⟨(some 7), (.faddr 0 (.tmp 3)), none, false, []⟩, ⟨(some 8), (.load false 1 (.tmp 7)), none, false, []⟩, ⟨(some 9), (.call 93 [(.tmp 6), (.tmp 8), (.func 94)]), none, false, []⟩, ⟨(some 4), (.mv (.tmp 9)), none, false, []⟩]) .ret))
def impl_SameChain : PFunc := ⟨10, [(.tmp 4)], impl_SameChain_c⟩
theorem impl_SameChain_t : tab 73 = some impl_SameChain := by kernel_rfl
def impl_SameChain_1_c : PCode := (.seq (.reg [⟨(some 4), (.mv (.const (.bool false))), none, false, []⟩]) (.seq (.reg [⟨(some 5), (.mv (.tmp 0)), none, false, []⟩, ⟨(some 6), (.mv (.tmp 1)), none, false, []⟩, ⟨(some 7), (.call 72 [(.tmp 5), (.tmp 6)]), none, false, []⟩, ⟨(some 4), (.mv (.tmp 7)), none, false, []⟩]) .ret))
def impl_SameChain_1 : PFunc := ⟨8, [(.tmp 4)], impl_SameChain_1_c⟩
theorem impl_SameChain_1_t : tab 94 = some impl_SameChain_1 := by kernel_rfl
end Go.PM

/- The pure machine's form of functions, as the settings give it: S6. -/
namespace Go.PM
def spec_SameService_b0 : PCode := (.seq (.seq (.reg [⟨(some 29), (.mv (.tmp 5)), none, false, []⟩, ⟨(some 30), (.faddr 1 (.tmp 2)), none, false, []⟩, ⟨(some 31), (.load false 1 (.tmp 30)), none, false, []⟩, ⟨(some 32), (.len (.tmp 31)), none, false, []⟩, ⟨(some 33), (.bin .lss (.tmp 29) (.tmp 32)), none, false, []⟩]) (.cond (.tmp 33) .skip (.exit 0))) (.seq (.block 1 (.seq (.reg [⟨(some 36), (.faddr 1 (.tmp 2)), none, false, []⟩, ⟨(some 37), (.load false 1 (.tmp 36)), none, false, []⟩, ⟨(some 38), (.mv (.tmp 5)), none, false, []⟩, ⟨(some 39), (.iaddr 1 (.tmp 37) (.tmp 38)), none, false, []⟩, ⟨(some 40), (.load false 1 (.tmp 39)), none, false, []⟩, ⟨(some 41), (.faddr 1 (.tmp 3)), none, false, []⟩, ⟨(some 42), (.load false 1 (.tmp 41)), none, false, []⟩, ⟨(some 43), (.mv (.tmp 5)), none, false, []⟩, ⟨(some 44), (.iaddr 1 (.tmp 42) (.tmp 43)), none, false, []⟩, ⟨(some 45), (.load false 1 (.tmp 44)), none, false, []⟩, ⟨(some 46), (.call 69 [(.tmp 40), (.tmp 45)]), none, true, []⟩, ⟨(some 47), (.un .not (.tmp 46)), none, false, []⟩]) (.cond (.tmp 47) (.seq (.reg [⟨(some 4), (.mv (.const (.bool false))), none, false, []⟩]) .ret) .skip))) (.reg [⟨(some 34), (.mv (.tmp 5)), none, false, []⟩, ⟨(some 35), (.bin .add (.tmp 34) (.const (.int .i64 1))), none, false, []⟩, ⟨(some 5), (.mv (.tmp 35)), none, false, []⟩])))
def spec_SameService_c : PCode := (.seq (.reg [⟨(some 2), (.box (.tmp 0)), none, false, []⟩, ⟨(some 3), (.box (.tmp 1)), none, false, []⟩, ⟨(some 4), (.mv (.const (.bool false))), none, false, []⟩]) (.seq (.seq (.reg [⟨(some 6), (.faddr 0 (.tmp 2)), none, false, []⟩, ⟨(some 7), (.load false 1 (.tmp 6)), none, false, []⟩, ⟨(some 8), (.faddr 0 (.tmp 3)), none, false, []⟩, ⟨(some 9), (.load false 1 (.tmp 8)), none, false, []⟩, ⟨(some 10), (.call 69 [(.tmp 7), (.tmp 9)]), none, false, []⟩, ⟨(some 11), (.un .not (.tmp 10)), none, false, []⟩, ⟨(some 12), (.mv (.tmp 11)), none, false, []⟩, ⟨(some 13), (.faddr 2 (.tmp 2)), (some (12, false)), false, []⟩, ⟨(some 14), (.load false 1 (.tmp 13)), (some (12, false)), false, []⟩, ⟨(some 15), (.faddr 2 (.tmp 3)), (some (12, false)), false, []⟩, ⟨(some 16), (.load false 1 (.tmp 15)), (some (12, false)), false, []⟩, ⟨(some 17), (.call 69 [(.tmp 14), (.tmp 16)]), (some (12, false)), false, []⟩, ⟨(some 18), (.un .not (.tmp 17)), (some (12, false)), false, []⟩, ⟨(some 19), (.pick (.tmp 12) (.const (.bool true)) (.tmp 18)), none, false, []⟩, ⟨(some 20), (.mv (.tmp 19)), none, false, []⟩, ⟨(some 21), (.faddr 1 (.tmp 2)), (some (20, false)), false, []⟩, ⟨(some 22), (.load false 1 (.tmp 21)), (some (20, false)), false, []⟩, ⟨(some 23), (.len (.tmp 22)), (some (20, false)), false, []⟩, ⟨(some 24), (.faddr 1 (.tmp 3)), (some (20, false)), false, []⟩, ⟨(some 25), (.load false 1 (.tmp 24)), (some (20, false)), false, []⟩, ⟨(some 26), (.len (.tmp 25)), (some (20, false)), false, []⟩, ⟨(some 27), (.bin .neq (.tmp 23) (.tmp 26)), (some (20, false)), false, []⟩, ⟨(some 28), (.pick (.tmp 20) (.const (.bool true)) (.tmp 27)), none, false, []⟩]) (.cond (.tmp 28) (.seq (.reg [⟨(some 4), (.mv (.const (.bool false))), none, false, []⟩]) .ret) .skip)) (.seq (.seq (.reg [⟨(some 5), (.mv (.const (.int .i64 0))), none, false, []⟩]) (.block 0 (.loop spec_SameService_b0))) (.seq (.reg [⟨(some 4), (.mv (.const (.bool true))), none, false, []⟩]) .ret))))
def spec_SameService : PFunc := ⟨48, [(.tmp 4)], spec_SameService_c⟩
theorem spec_SameService_t : tab 35 = some spec_SameService := by kernel_rfl
end Go.PM
