/- The pure machine's heap against the model's: making, writing, moving, dropping a block. -/
import Derived.Test.YtkoiolkkceknhaaPmSimD
namespace Go.PM

section
variable {m : PMap} {L0 : Nat} {H : Heap} {w : World}

def bindAt (m : PMap) (b : Nat) (l : Loc) : PMap := fun b' => if b' = b then some l else m b'
theorem bindAt_same (m : PMap) (b : Nat) (l : Loc) : bindAt m b l b = some l := by simp [bindAt]
theorem bindAt_ne {m : PMap} {b b' : Nat} {l : Loc} (h : b' ≠ b) : bindAt m b l b' = m b' := by simp [bindAt, h]
theorem bindAt_ext {m : PMap} {b : Nat} {l : Loc} (hf : m b = none) : ∀ b' l', m b' = some l' → bindAt m b l b' = some l' := by
  intro b' l' h
  rw [bindAt_ne]
  · exact h
  · rintro rfl; rw [hf] at h; cases h

theorem cell_heap {w w' : World} {a : Addr} (h : w'.heap[a.block]? = w.heap[a.block]?) : w'.cell? a = w.cell? a := by simp [World.cell?, h]
theorem cell_arr {w : World} {g i : Nat} {arr : Array Value} {e : TypeId} {fz : Nat × Nat} (h : w.heap[g]? = some (.cells arr e fz)) : w.cell? ⟨g, i, none⟩ = arr[i]? := by simp [World.cell?, h]

theorem live_append_old {H : Heap} {x : Blk} {b : Nat} (h : Live (H ++ [x]) b) (hb : b < H.length) : Live H b := by
  obtain ⟨cs, e, p, h1, h2⟩ := h
  rw [List.getElem?_append_left hb] at h1
  exact ⟨cs, e, p, h1, h2⟩

theorem ext_alloc (lo : Nat) (H : Heap) (x : Blk) : Ext lo H (H ++ [x]) :=
  ⟨by simp, fun b _ hl => List.getElem?_append_left hl, fun _ hb h => live_append_old h hb⟩

/-- A block is made. -/
theorem alloc_rel (hR : Rel m L0 H w) (hf : m H.length = none) {w' : World} {arr : Array Value} {e : TypeId} {fz : Nat × Nat} (hw : w'.heap = w.heap.push (.cells arr e fz))
    (hs : w'.os = w.os ∧ w'.output = w.output ∧ w'.tape = w.tape) {cs : List Value} {esz : Nat} {opn : Bool} (hlen : cs.length ≤ arr.size)
    (hc : ∀ i, i < cs.length → RV m (cs.getD i undef) (arr.getD i undef)) (hsc : cs.all scal = true) (hfz : ∀ j, j < arr.size → ¬ (fz.1 ≤ j ∧ j < fz.2)) :
    Rel (bindAt m H.length ⟨w.heap.size, 0, esz, arr.size, opn⟩) L0 (H ++ [.row cs esz opn]) w' ∧
    ∀ lo, Trans lo m H w (bindAt m H.length ⟨w.heap.size, 0, esz, arr.size, opn⟩) (H ++ [.row cs esz opn]) w' := by
  have hold : ∀ g, g < w.heap.size → w'.heap[g]? = w.heap[g]? := fun g hg => by rw [hw, Array.getElem?_push]; simp [Nat.ne_of_lt hg]
  have hnew : w'.heap[w.heap.size]? = some (.cells arr e fz) := by rw [hw]; simp
  have hlt : ∀ b l, m b = some l → l.rb < w.heap.size := fun b l h => by
    obtain ⟨arr, e, fz, h1, _⟩ := hR.valid b l h
    exact (Array.getElem?_eq_some_iff.1 h1).1
  have hext := bindAt_ext (l := ⟨w.heap.size, 0, esz, arr.size, opn⟩) hf
  constructor
  · refine ⟨fun b l h => ?_, fun b l cs' e' p' h hH => ?_, fun b1 b2 l1 l2 hb h1 h2 hl1 hl2 hrb => ?_⟩
    · by_cases hb : b = H.length
      · subst hb
        rw [bindAt_same] at h
        cases h
        exact ⟨arr, e, fz, hnew, rfl, fun _ j _ hj => hfz j hj⟩
      · rw [bindAt_ne hb] at h
        obtain ⟨arr', e', fz', g1, g2, g3⟩ := hR.valid b l h
        exact ⟨arr', e', fz', by rw [hold _ (hlt b l h)]; exact g1, g2, g3⟩
    · by_cases hb : b = H.length
      · subst hb
        rw [bindAt_same] at h
        cases h
        simp only [List.getElem?_append_right (Nat.le_refl _), Nat.sub_self, List.getElem?_cons_zero, Option.some.injEq, Blk.row.injEq] at hH
        obtain ⟨rfl, rfl, rfl⟩ := hH
        refine ⟨rfl, rfl, by simpa using hlen, fun i hi => ?_⟩
        refine ⟨arr.getD i undef, ?_, (hc i hi).mono hext, ?_⟩
        · rw [Nat.zero_add, cell_arr hnew]
          have : i < arr.size := Nat.lt_of_lt_of_le hi hlen
          simp [this]
        · have := List.all_eq_true.1 hsc cs[i] (List.getElem_mem hi)
          simpa [List.getD_eq_getElem?_getD, List.getElem?_eq_getElem hi] using this
      · rw [bindAt_ne hb] at h
        have hlt2 : b < H.length := by
          have := (List.getElem?_eq_some_iff.1 hH).1
          simp at this
          omega
        rw [List.getElem?_append_left hlt2] at hH
        obtain ⟨g1, g2, g3, g4⟩ := hR.row b l cs' e' p' h hH
        refine ⟨g1, g2, g3, fun i hi => ?_⟩
        obtain ⟨rv, h1, h2, h3⟩ := g4 i hi
        exact ⟨rv, by rw [cell_heap (hold _ (hlt b l h))]; exact h1, h2.mono hext, h3⟩
    · by_cases e1 : b1 = H.length <;> by_cases e2 : b2 = H.length
      · omega
      · subst e1
        rw [bindAt_same] at h1
        rw [bindAt_ne e2] at h2
        cases h1
        have := hlt b2 l2 h2
        simp only at hrb
        omega
      · subst e2
        rw [bindAt_same] at h2
        rw [bindAt_ne e1] at h1
        cases h2
        have := hlt b1 l1 h1
        simp only at hrb
        omega
      · rw [bindAt_ne e1] at h1
        rw [bindAt_ne e2] at h2
        have k1 := hl1.lt
        have k2 := hl2.lt
        simp at k1 k2
        exact hR.inj b1 b2 l1 l2 hb h1 h2 (live_append_old hl1 (by omega)) (live_append_old hl2 (by omega)) hrb
  · intro lo
    refine ⟨hext, fun b l h hn => ?_, by rw [hw]; simp, fun rb hrb _ => hold rb hrb, hs⟩
    by_cases hb : b = H.length
    · subst hb
      rw [bindAt_same] at h
      cases h
      exact ⟨⟨Nat.le_refl _, by simp⟩, .inl (Nat.le_refl _)⟩
    · rw [bindAt_ne hb, hn] at h
      cases h

/-- Nothing happens but in the pure machine's own book: an empty block that lies nowhere. -/
theorem empty_rel (hR : Rel m L0 H w) (hf : m H.length = none) {b : Nat} {l : Loc} (hb : m b = some l) (esz : Nat) :
    Rel (bindAt m H.length ⟨l.rb, l.rsz, esz, l.rsz, false⟩) L0 (H ++ [.row [] esz false]) w ∧
    ∀ lo, Trans lo m H w (bindAt m H.length ⟨l.rb, l.rsz, esz, l.rsz, false⟩) (H ++ [.row [] esz false]) w := by
  have hext := bindAt_ext (l := ⟨l.rb, l.rsz, esz, l.rsz, false⟩) hf
  have hdead : ∀ b', Live (H ++ [.row [] esz false]) b' → b' < H.length := by
    intro b' h
    rcases Nat.lt_or_ge b' H.length with hl | hl
    · exact hl
    · obtain ⟨cs, e, p, h1, h2⟩ := h
      have hlt := (List.getElem?_eq_some_iff.1 h1).1
      simp at hlt
      have hbe : b' = H.length := by omega
      subst hbe
      simp only [List.getElem?_append_right (Nat.le_refl _), Nat.sub_self, List.getElem?_cons_zero, Option.some.injEq, Blk.row.injEq] at h1
      obtain ⟨rfl, _, rfl⟩ := h1
      rcases h2 with h2 | h2
      · exact absurd rfl h2
      · cases h2
  constructor
  · refine ⟨fun b' l' h => ?_, fun b' l' cs' e' p' h hH => ?_, fun b1 b2 l1 l2 hb1 h1 h2 hl1 hl2 hrb => ?_⟩
    · by_cases hbe : b' = H.length
      · subst hbe
        rw [bindAt_same] at h
        cases h
        obtain ⟨arr, e, fz, g1, g2, _⟩ := hR.valid b l hb
        exact ⟨arr, e, fz, g1, g2, fun _ j h1 h2 => by simp only at h1 h2; omega⟩
      · rw [bindAt_ne hbe] at h
        exact hR.valid b' l' h
    · by_cases hbe : b' = H.length
      · subst hbe
        rw [bindAt_same] at h
        cases h
        simp only [List.getElem?_append_right (Nat.le_refl _), Nat.sub_self, List.getElem?_cons_zero, Option.some.injEq, Blk.row.injEq] at hH
        obtain ⟨rfl, rfl, rfl⟩ := hH
        exact ⟨rfl, rfl, by simp, fun i hi => absurd hi (by simp)⟩
      · rw [bindAt_ne hbe] at h
        have hlt2 : b' < H.length := by
          have := (List.getElem?_eq_some_iff.1 hH).1
          simp at this
          omega
        rw [List.getElem?_append_left hlt2] at hH
        obtain ⟨g1, g2, g3, g4⟩ := hR.row b' l' cs' e' p' h hH
        refine ⟨g1, g2, g3, fun i hi => ?_⟩
        obtain ⟨rv, h1, h2, h3⟩ := g4 i hi
        exact ⟨rv, h1, h2.mono hext, h3⟩
    · have k1 := hdead b1 hl1
      have k2 := hdead b2 hl2
      rw [bindAt_ne (by omega)] at h1 h2
      exact hR.inj b1 b2 l1 l2 hb1 h1 h2 (live_append_old hl1 k1) (live_append_old hl2 k2) hrb
  · intro lo
    refine ⟨hext, fun b' l' h hn => ?_, Nat.le_refl _, fun rb hrb _ => rfl, rfl, rfl, rfl⟩
    by_cases hbe : b' = H.length
    · subst hbe
      exact ⟨⟨Nat.le_refl _, by simp⟩, .inr (.inl fun hl => by have := hdead _ hl; omega)⟩
    · rw [bindAt_ne hbe, hn] at h
      cases h

theorem setCell_same {w : World} {g i : Nat} {arr : Array Value} {e : TypeId} {fz : Nat × Nat} (h : w.heap[g]? = some (.cells arr e fz)) (v : Value) :
    (w.setCell ⟨g, i, none⟩ v).heap[g]? = some (.cells (arr.setIfInBounds i v) e fz) := by
  simp only [World.setCell, Array.getElem?_modify, h, if_true, Option.map_some]
  rfl
theorem setCell_other {w : World} {g i k : Nat} (h : k ≠ g) (v : Value) : (w.setCell ⟨g, i, none⟩ v).heap[k]? = w.heap[k]? := by
  simp [World.setCell, Array.getElem?_modify, Ne.symm h]

theorem run_stores (P : Program) (g o : Nat) : ∀ (vs : List Value) (i : Nat) (w : World) (arr : Array Value) (e : TypeId) (fz : Nat × Nat),
    w.heap[g]? = some (.cells arr e fz) → o + i + vs.length ≤ arr.size → vs.all scal = true → (∀ j, o + i ≤ j → j < o + i + vs.length → ¬ (fz.1 ≤ j ∧ j < fz.2)) →
    ∃ w' arr', (storeCells ⟨g, o, none⟩ vs i).run P w = .ok () w' ∧ w'.heap[g]? = some (.cells arr' e fz) ∧ arr'.size = arr.size ∧
      (∀ j, arr'.getD j undef = if o + i ≤ j ∧ j < o + i + vs.length then vs.getD (j - (o + i)) undef else arr.getD j undef) ∧
      (∀ k, k ≠ g → w'.heap[k]? = w.heap[k]?) ∧ w'.heap.size = w.heap.size ∧ w'.os = w.os ∧ w'.output = w.output ∧ w'.tape = w.tape
  | [], i, w, arr, e, fz, hg, _, _, _ => ⟨w, arr, rfl, hg, rfl, fun j => by rw [if_neg (by rintro ⟨h1, h2⟩; simp only [List.length_nil] at h2; omega)], fun _ _ => rfl, rfl, rfl, rfl, rfl⟩
  | v :: vs, i, w, arr, e, fz, hg, hl, hsc, hfz => by
    simp only [List.length_cons] at hl hfz
    simp only [List.all_cons, Bool.and_eq_true] at hsc
    have hlt : o + i < arr.size := by omega
    have hc : w.cell? ⟨g, o + i, none⟩ = some arr[o + i] := by rw [cell_arr hg]; simp [hlt]
    have hfr : w.frozen? ⟨g, o + i, none⟩ = false := by
      have := hfz (o + i) (by omega) (by omega)
      simp only [World.frozen?, hg]
      simpa using this
    have hst : (store ((⟨g, o, none⟩ : Addr).add i) v).run P w = .ok () (w.setCell ⟨g, o + i, none⟩ v) := by
      rw [Addr.add_lit, run_store P w _ v .plain (by rw [oneCell_scal]; exact hsc.1), hc]
      simp [hfr]
    obtain ⟨w', arr', h1, h2, h3, h4, h5, h6, h7⟩ := run_stores P g o vs (i + 1) (w.setCell ⟨g, o + i, none⟩ v) (arr.setIfInBounds (o + i) v) e fz (setCell_same hg v) (by simp; omega) hsc.2
      (fun j h1 h2 => hfz j (by omega) (by omega))
    refine ⟨w', arr', ?_, h2, by simpa using h3, fun j => ?_, fun k hk => by rw [h5 k hk, setCell_other hk], by rw [h6]; simp, h7⟩
    · rw [storeCells, Sem.run_bind, hst, Result.andThen_ok]
      exact h1
    · rw [h4]
      by_cases hj : j = o + i
      · subst hj
        rw [if_neg (by omega), if_pos (by simp)]
        simp [hlt]
      · by_cases hj2 : o + (i + 1) ≤ j ∧ j < o + (i + 1) + vs.length
        · rw [if_pos hj2, if_pos (by simp; omega)]
          have : j - (o + i) = j - (o + (i + 1)) + 1 := by omega
          rw [this]
          simp
        · rw [if_neg hj2, if_neg (by simp; omega)]
          simp [Ne.symm hj]

theorem splice_getD (cs new : List Value) (o i : Nat) (h : o + new.length ≤ cs.length) : (splice cs o new).getD i undef = if o ≤ i ∧ i < o + new.length then new.getD (i - o) undef else cs.getD i undef := by
  unfold splice
  simp only [List.getD_eq_getElem?_getD]
  by_cases h1 : i < o
  · rw [if_neg (by omega), List.append_assoc, List.getElem?_append_left (by simp; omega), List.getElem?_take_of_lt h1]
  · by_cases h2 : i < o + new.length
    · rw [if_pos (by omega), List.append_assoc, List.getElem?_append_right (by simp; omega), List.getElem?_append_left (by simp; omega)]
      congr 3
      simp
      omega
    · rw [if_neg (by omega), List.getElem?_append_right (by simp; omega), List.getElem?_drop]
      congr 2
      simp
      omega
theorem splice_length (cs new : List Value) (o : Nat) (h : o + new.length ≤ cs.length) : (splice cs o new).length = cs.length := by
  simp [splice]
  omega

theorem write_spec {lo b o : Nat} {new : List Value} {H H' : Heap} (h : H.write lo b o new = some H') :
    ∃ cs e p, H[b]? = some (.row cs e p) ∧ lo ≤ b ∧ o + new.length ≤ cs.length ∧ new.all scal = true ∧ H' = H.set b (.row (splice cs o new) e p) := by
  unfold Heap.write at h
  split at h
  · rename_i cs e p hb
    split at h
    · rename_i hc
      cases h
      exact ⟨cs, e, p, hb, hc.1, hc.2.1, hc.2.2, rfl⟩
    · cases h
  · cases h

theorem live_set_row {H : Heap} {b : Nat} {cs cs' : List Value} {e : Nat} {p : Bool} (hb : H[b]? = some (.row cs e p)) (hl : cs'.length = cs.length) {b' : Nat} (h : Live (H.set b (.row cs' e p)) b') : Live H b' := by
  obtain ⟨cs1, e1, p1, h1, h2⟩ := h
  by_cases hbb : b = b'
  · subst hbb
    rw [List.getElem?_set_self (List.getElem?_eq_some_iff.1 hb).1] at h1
    cases h1
    refine ⟨cs, _, _, hb, h2.imp (fun h => ?_) id⟩
    intro h0
    subst h0
    exact h (List.eq_nil_of_length_eq_zero hl)
  · rw [List.getElem?_set_ne hbb] at h1
    exact ⟨cs1, e1, p1, h1, h2⟩

theorem ext_write {lo b o : Nat} {new : List Value} {H H' : Heap} (h : H.write lo b o new = some H') : Ext lo H H' := by
  obtain ⟨cs, e, p, hb, hlo, hlen, hsc, rfl⟩ := write_spec h
  refine ⟨by simp, fun b' hb' _ => List.getElem?_set_ne (by omega), fun b' _ hl => live_set_row hb (splice_length cs new o hlen) hl⟩

/-- Cells are written in place. -/
theorem write_rel (P : Program) {lo b o : Nat} {l : Loc} {new rnew : List Value} {H' : Heap} (hR : Rel m L0 H w) (hlo : L0 ≤ lo) (hm : m b = some l) (hw : H.write lo b o new = some H') (hn : RL m new rnew) :
    ∃ w', (storeCells ⟨l.rb, l.base + o, none⟩ rnew).run P w = .ok () w' ∧ Rel m L0 H' w' ∧ Trans lo m H w m H' w' := by
  obtain ⟨cs, e, p, hb, hlb, hlen, hsc, rfl⟩ := write_spec hw
  by_cases hne : new = []
  · subst hne
    have e1 : rnew = [] := List.eq_nil_of_length_eq_zero hn.1.symm
    subst e1
    have e2 : splice cs o [] = cs := by simp [splice]
    have e3 : H.set b (.row cs e p) = H := by
      apply List.ext_getElem?
      intro i
      by_cases hi : b = i
      · subst hi; rw [List.getElem?_set_self (List.getElem?_eq_some_iff.1 hb).1, hb]
      · rw [List.getElem?_set_ne hi]
    rw [e2, e3]
    exact ⟨w, rfl, hR, Trans.refl lo m H w⟩
  have hlive : Live H b := ⟨cs, e, p, hb, .inl (by
    rintro rfl
    simp only [List.length_nil] at hlen
    exact hne (List.eq_nil_of_length_eq_zero (by omega)))⟩
  obtain ⟨g1, g2, g3, g4⟩ := hR.row b l cs e p hm hb
  obtain ⟨arr, et, fz, v1, v2, v3⟩ := hR.valid b l hm
  have hrl : rnew.length = new.length := hn.1.symm
  obtain ⟨w', arr', h1, h2, h3, h4, h5, h6, h7⟩ := run_stores P l.rb (l.base + o) rnew 0 w arr et fz v1 (by rw [hrl, v2]; omega) (by rw [hn.scal]; exact hsc)
    (fun j j1 j2 => v3 (Nat.le_trans hlo hlb) j (by omega) (by rw [hrl] at j2; omega))
  have hlt : ∀ b' l', m b' = some l' → l'.rb < w.heap.size := fun b' l' h => by
    obtain ⟨arr, e, fz, h1, _⟩ := hR.valid b' l' h
    exact (Array.getElem?_eq_some_iff.1 h1).1
  refine ⟨w', h1, ⟨fun b' l' h => ?_, fun b' l' cs' e' p' h hH => ?_, fun b1 b2 l1 l2 hb1 m1 m2 hl1 hl2 hrb => ?_⟩, ⟨fun _ _ h => h, fun b' l' h h' => (by rw [h] at h'; cases h'), by rw [h6]; exact Nat.le_refl _, fun rb hrb hk => ?_, h7⟩⟩
  · obtain ⟨arr1, e1, fz1, w1, w2, w3⟩ := hR.valid b' l' h
    by_cases hbb : l'.rb = l.rb
    · rw [hbb] at w1 ⊢
      rw [v1] at w1
      cases w1
      exact ⟨arr', et, fz, h2, by rw [h3]; exact w2, w3⟩
    · exact ⟨arr1, e1, fz1, by rw [h5 _ hbb]; exact w1, w2, w3⟩
  · by_cases hbb : b = b'
    · subst hbb
      rw [hm] at h
      cases h
      rw [List.getElem?_set_self (List.getElem?_eq_some_iff.1 hb).1] at hH
      cases hH
      refine ⟨g1, g2, by rw [splice_length _ _ _ hlen]; exact g3, fun i hi => ?_⟩
      rw [splice_length _ _ _ hlen] at hi
      refine ⟨arr'.getD (l.base + i) undef, ?_, ?_, ?_⟩
      · rw [cell_arr h2]
        have : l.base + i < arr'.size := by rw [h3, v2]; omega
        simp [this]
      · rw [h4, splice_getD _ _ _ _ hlen]
        by_cases hi2 : o ≤ i ∧ i < o + new.length
        · rw [if_pos hi2, if_pos (by rw [hrl]; omega)]
          have := hn.2 (i - o) (by omega)
          rw [show l.base + i - (l.base + o + 0) = i - o by omega]
          exact this
        · rw [if_neg hi2, if_neg (by rw [hrl]; omega)]
          obtain ⟨rv, c1, c2, _⟩ := g4 i hi
          rw [cell_arr v1] at c1
          simpa [Array.getD_eq_getD_getElem?, c1] using c2
      · rw [splice_getD _ _ _ _ hlen]
        split
        · rename_i hi2
          have := List.all_eq_true.1 hsc new[i - o] (List.getElem_mem (by omega))
          simpa [List.getD_eq_getElem?_getD, List.getElem?_eq_getElem (show i - o < new.length by omega)] using this
        · exact (g4 i hi).choose_spec.2.2
    · rw [List.getElem?_set_ne hbb] at hH
      obtain ⟨k1, k2, k3, k4⟩ := hR.row b' l' cs' e' p' h hH
      refine ⟨k1, k2, k3, fun i hi => ?_⟩
      obtain ⟨rv, c1, c2, c3⟩ := k4 i hi
      refine ⟨rv, ?_, c2, c3⟩
      rw [cell_heap]
      · exact c1
      · refine h5 _ fun hrb => ?_
        -- the same block of the model: then the same block, for both hold cells
        have hlive' : Live H b' := ⟨cs', e', p', hH, .inl (by rintro rfl; simp at hi)⟩
        exact hbb (hR.inj b b' l l' (Nat.le_trans hlo hlb) hm h hlive hlive' hrb.symm)
  · exact hR.inj b1 b2 l1 l2 hb1 m1 m2 (live_set_row hb (splice_length cs new o hlen) hl1) (live_set_row hb (splice_length cs new o hlen) hl2) hrb
  · exact h5 rb fun hrl2 => hk b l hlb hm hlive hrl2.symm

theorem live_kill {H : Heap} {b b' : Nat} (h : Live (H.set b .dead) b') : Live H b' ∧ b' ≠ b := by
  obtain ⟨cs, e, p, h1, h2⟩ := h
  by_cases hb : b = b'
  · subst hb
    have hlt := (List.getElem?_eq_some_iff.1 h1).1
    rw [List.getElem?_set_self (by simpa using hlt)] at h1
    cases h1
  · rw [List.getElem?_set_ne hb] at h1
    exact ⟨⟨cs, e, p, h1, h2⟩, Ne.symm hb⟩
theorem ext_kill {lo b : Nat} {H : Heap} (h : lo ≤ b) : Ext lo H (H.set b .dead) :=
  ⟨by simp, fun b' hb' _ => List.getElem?_set_ne (by omega), fun _ _ hl => (live_kill hl).1⟩
theorem kill_rel (hR : Rel m L0 H w) (b : Nat) : Rel m L0 (H.set b .dead) w ∧ ∀ lo, Trans lo m H w m (H.set b .dead) w := by
  refine ⟨⟨hR.valid, fun b' l' cs e p h hH => ?_, fun b1 b2 l1 l2 hb1 h1 h2 hl1 hl2 => hR.inj b1 b2 l1 l2 hb1 h1 h2 (live_kill hl1).1 (live_kill hl2).1⟩,
    fun lo => ⟨fun _ _ h => h, fun b' l' h h' => (by rw [h] at h'; cases h'), Nat.le_refl _, fun _ _ _ => rfl, rfl, rfl, rfl⟩⟩
  by_cases hb : b = b'
  · subst hb
    have hlt := (List.getElem?_eq_some_iff.1 hH).1
    rw [List.getElem?_set_self (by simpa using hlt)] at hH
    cases hH
  · rw [List.getElem?_set_ne hb] at hH
    exact hR.row b' l' cs e p h hH

theorem live_moved {H : Heap} {b b' : Nat} {x : Blk} (h : Live (H.set b .dead ++ [x]) b') (hb : b' ≠ H.length) : Live H b' ∧ b' ≠ b ∧ b' < H.length := by
  have hlt := h.lt
  simp at hlt
  have := live_append_old h (by simp; omega)
  exact ⟨(live_kill this).1, (live_kill this).2, by omega⟩
theorem ext_moved {lo b : Nat} {H : Heap} {x : Blk} (h : lo ≤ b) : Ext lo H (H.set b .dead ++ [x]) :=
  (ext_kill h).trans (ext_alloc lo _ x)

/-- More cells are written behind what a slice shows, in the same block of the model; the pure machine tells that as a new block, the old one being gone. -/
theorem move_rel (P : Program) {lo b o n e : Nat} {l : Loc} {cs new rnew : List Value} (hR : Rel m L0 H w) (hlo : L0 ≤ lo) (hlb : lo ≤ b) (hm : m b = some l) (hf : m H.length = none)
    (hb : H[b]? = some (.row cs e true)) (hlen : o + n ≤ cs.length) (hfit : l.base + o + n + new.length ≤ l.rsz) (hsc : new.all scal = true) (hn : RL m new rnew) :
    ∃ w', (storeCells ⟨l.rb, l.base + o + n, none⟩ rnew).run P w = .ok () w' ∧
      Rel (bindAt m H.length ⟨l.rb, l.base + o, e, l.rsz, true⟩) L0 (H.set b .dead ++ [.row ((cs.drop o).take n ++ new) e true]) w' ∧
      Trans lo m H w (bindAt m H.length ⟨l.rb, l.base + o, e, l.rsz, true⟩) (H.set b .dead ++ [.row ((cs.drop o).take n ++ new) e true]) w' := by
  have hlive : Live H b := ⟨cs, e, true, hb, .inr rfl⟩
  obtain ⟨g1, g2, g3, g4⟩ := hR.row b l cs e true hm hb
  obtain ⟨arr, et, fz, v1, v2, v3⟩ := hR.valid b l hm
  have hrl : rnew.length = new.length := hn.1.symm
  obtain ⟨w', arr', h1, h2, h3, h4, h5, h6, h7⟩ := run_stores P l.rb (l.base + o + n) rnew 0 w arr et fz v1 (by rw [hrl, v2]; omega) (by rw [hn.scal]; exact hsc)
    (fun j j1 j2 => v3 (Nat.le_trans hlo hlb) j (by omega) (by rw [hrl] at j2; omega))
  have hlt : ∀ b' l', m b' = some l' → l'.rb < w.heap.size := fun b' l' h => by
    obtain ⟨arr, e, fz, h1, _⟩ := hR.valid b' l' h
    exact (Array.getElem?_eq_some_iff.1 h1).1
  have hext := bindAt_ext (l := ⟨l.rb, l.base + o, e, l.rsz, true⟩) hf
  have hsz : (H.set b .dead).length = H.length := by simp
  have hnb : (H.set b .dead ++ [.row ((cs.drop o).take n ++ new) e true])[H.length]? = some (.row ((cs.drop o).take n ++ new) e true) := by
    rw [List.getElem?_append_right (by simp)]
    simp
  have holdb : ∀ b', b' ≠ H.length → b' ≠ b → (H.set b .dead ++ [.row ((cs.drop o).take n ++ new) e true])[b']? = H[b']? := by
    intro b' k1 k2
    rcases Nat.lt_or_ge b' H.length with k3 | k3
    · rw [List.getElem?_append_left (by simpa using k3), List.getElem?_set_ne (Ne.symm k2)]
    · rw [List.getElem?_eq_none (by simp; omega), List.getElem?_eq_none k3]
  have hapart : ∀ b' l', m b' = some l' → Live H b' → b' ≠ b → l'.rb ≠ l.rb := fun b' l' k1 k2 k3 k4 =>
    k3 (hR.inj b b' l l' (Nat.le_trans hlo hlb) hm k1 hlive k2 k4.symm).symm
  refine ⟨w', h1, ⟨fun b' l' h => ?_, fun b' l' cs' e' p' h hH => ?_, fun b1 b2 l1 l2 hb1 m1 m2 hl1 hl2 hrb => ?_⟩, ⟨hext, fun b' l' h hnn => ?_, by rw [h6]; exact Nat.le_refl _, fun rb hrb hk => ?_, h7⟩⟩
  · by_cases hbe : b' = H.length
    · subst hbe
      rw [bindAt_same] at h
      cases h
      exact ⟨arr', et, fz, h2, by rw [h3]; exact v2, fun _ j j1 j2 => v3 (Nat.le_trans hlo hlb) j (by simp only at j1; omega) j2⟩
    · rw [bindAt_ne hbe] at h
      obtain ⟨arr1, e1, fz1, w1, w2, w3⟩ := hR.valid b' l' h
      by_cases hbb : l'.rb = l.rb
      · rw [hbb] at w1 ⊢
        rw [v1] at w1
        cases w1
        exact ⟨arr', et, fz, h2, by rw [h3]; exact w2, w3⟩
      · exact ⟨arr1, e1, fz1, by rw [h5 _ hbb]; exact w1, w2, w3⟩
  · by_cases hbe : b' = H.length
    · subst hbe
      rw [bindAt_same] at h
      cases h
      rw [hnb] at hH
      cases hH
      have hold : ((cs.drop o).take n).length = n := by simp; omega
      refine ⟨rfl, rfl, by simp only [List.length_append, hold]; omega, fun i hi => ?_⟩
      simp only [List.length_append, hold] at hi
      refine ⟨arr'.getD (l.base + o + i) undef, ?_, ?_, ?_⟩
      · show w'.cell? ⟨l.rb, l.base + o + i, none⟩ = _
        rw [cell_arr h2]
        have : l.base + o + i < arr'.size := by rw [h3, v2]; omega
        simp [this]
      · rw [h4]
        refine RV.mono hext ?_
        by_cases hi2 : i < n
        · rw [if_neg (by omega)]
          have e1 : ((cs.drop o).take n ++ new).getD i undef = cs.getD (o + i) undef := by
            simp only [List.getD_eq_getElem?_getD]
            rw [List.getElem?_append_left (by rw [hold]; exact hi2), List.getElem?_take_of_lt hi2, List.getElem?_drop]
          rw [e1]
          obtain ⟨rv, c1, c2, _⟩ := g4 (o + i) (by omega)
          rw [cell_arr v1, ← Nat.add_assoc] at c1
          simpa [Array.getD_eq_getD_getElem?, c1] using c2
        · rw [if_pos (by rw [hrl]; omega)]
          have e1 : ((cs.drop o).take n ++ new).getD i undef = new.getD (i - n) undef := by
            simp only [List.getD_eq_getElem?_getD]
            rw [List.getElem?_append_right (by rw [hold]; omega), hold]
          rw [e1, show l.base + o + i - (l.base + o + n + 0) = i - n by omega]
          exact hn.2 (i - n) (by omega)
      · by_cases hi2 : i < n
        · have e1 : ((cs.drop o).take n ++ new).getD i undef = cs.getD (o + i) undef := by
            simp only [List.getD_eq_getElem?_getD]
            rw [List.getElem?_append_left (by rw [hold]; exact hi2), List.getElem?_take_of_lt hi2, List.getElem?_drop]
          rw [e1]
          exact (g4 (o + i) (by omega)).choose_spec.2.2
        · have e1 : ((cs.drop o).take n ++ new).getD i undef = new.getD (i - n) undef := by
            simp only [List.getD_eq_getElem?_getD]
            rw [List.getElem?_append_right (by rw [hold]; omega), hold]
          rw [e1]
          have := List.all_eq_true.1 hsc new[i - n] (List.getElem_mem (by omega))
          simpa [List.getD_eq_getElem?_getD, List.getElem?_eq_getElem (show i - n < new.length by omega)] using this
    · rw [bindAt_ne hbe] at h
      by_cases hbb : b' = b
      · subst hbb
        have hlt' := hlive.lt
        rw [List.getElem?_append_left (by simpa using hlt'), List.getElem?_set_self hlt'] at hH
        cases hH
      · rw [holdb b' hbe hbb] at hH
        obtain ⟨k1, k2, k3, k4⟩ := hR.row b' l' cs' e' p' h hH
        refine ⟨k1, k2, k3, fun i hi => ?_⟩
        obtain ⟨rv, c1, c2, c3⟩ := k4 i hi
        refine ⟨rv, ?_, c2.mono hext, c3⟩
        rw [cell_heap]
        · exact c1
        · exact h5 _ (hapart b' l' h ⟨cs', e', p', hH, .inl (by rintro rfl; simp at hi)⟩ hbb)
  · by_cases e1 : b1 = H.length <;> by_cases e2 : b2 = H.length
    · omega
    · subst e1
      rw [bindAt_same] at m1
      rw [bindAt_ne e2] at m2
      cases m1
      obtain ⟨k1, k2, _⟩ := live_moved hl2 e2
      exact absurd hrb.symm (hapart b2 l2 m2 k1 k2)
    · subst e2
      rw [bindAt_same] at m2
      rw [bindAt_ne e1] at m1
      cases m2
      obtain ⟨k1, k2, _⟩ := live_moved hl1 e1
      exact absurd hrb (hapart b1 l1 m1 k1 k2)
    · rw [bindAt_ne e1] at m1
      rw [bindAt_ne e2] at m2
      exact hR.inj b1 b2 l1 l2 hb1 m1 m2 (live_moved hl1 e1).1 (live_moved hl2 e2).1 hrb
  · by_cases hbe : b' = H.length
    · subst hbe
      rw [bindAt_same] at h
      cases h
      exact ⟨⟨Nat.le_refl _, by simp⟩, .inr (.inr ⟨b, l, hlb, hm, hlive, rfl⟩)⟩
    · rw [bindAt_ne hbe, hnn] at h
      cases h
  · exact h5 rb fun hrl2 => hk b l hlb hm hlive hrl2.symm

end
end Go.PM
