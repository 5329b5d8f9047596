/- Texts of a claim, in one: part 14. -/
import Derived.Test.YthoncidphopjjaaKWm

/- Two lists of numbers that are handed back: compared, marked, held. -/
set_option linter.unusedSimpArgs false
set_option linter.unusedVariables false
namespace Go.PM

/-- Two lists do not share their row. -/
def Apart (v w : VV) : Prop := ∀ b g n c g' n' c', v = .ref b g 0 n c → w ≠ .ref b g' 0 n' c'
/-- Rows that no reference of this list names are kept. -/
def Kept (v : VV) (H H' : VHeap) : Prop := ∀ b g x, (∀ g0 n0 c0, v ≠ .ref b g0 0 n0 c0) → vrow H b g = some x → vrow H' b g = some x
theorem lr2_call {F lo : Nat} {args args' : List VV} {us bs : List Int} {ok : Bool} {H : VHeap} {K : VV → VHeap → Prop} (h : FC F args' (LR2 us bs ok)) (hraw : raws.contains F = true) (hf : args.mapM (fz depth H) = some args')
    (hk : ∀ v w H', H <+: H' → LV H.length H'.length us H' v → LV H.length H'.length bs H' w → Apart v w → K (.tup [v, w, .sc (.bool ok)]) H') : vcallP F args lo H K := by
  refine h.call hraw hf ?_
  rintro r L ⟨v, w, rfl, hv⟩
  rcases hv with ⟨rfl, h1, rfl, h2⟩ | ⟨i, g, c, i', g', c', hn, rfl, h2, h3, rfl, h5, h6⟩
  · exact hk _ _ _ (List.prefix_append _ _) (.inl ⟨rfl, h1⟩) (.inl ⟨rfl, h2⟩) fun b g n c g' n' c' h => by cases h
  · have hi := (List.getElem?_eq_some_iff.1 h3).1
    have hi' := (List.getElem?_eq_some_iff.1 h6).1
    refine hk _ _ _ (List.prefix_append _ _) (.inr ⟨_, g, c, Nat.le_add_right _ _, by rw [List.length_append]; omega, rfl, h2, vrow_of_app h3⟩) (.inr ⟨_, g', c', Nat.le_add_right _ _, by rw [List.length_append]; omega, rfl, h5, vrow_of_app h6⟩) ?_
    intro b g n c g' n' c' h h'
    injection h with h
    injection h' with h'
    omega
theorem mark_LV2 {lo hi lo' : Nat} {vals : List Int} {H : VHeap} {v : VV} {k : Int} {K : VV → VHeap → Prop} (hv : LV lo hi vals H v) (hlo : lo' ≤ lo) (hk : 0 ≤ k ∧ k ≤ 1000000000) (hn : vals.length ≤ 1000000000)
    (hK : ∀ H', H'.length = H.length → LV lo hi (iota k vals.length) H' v → Kept v H H' → K (VI (k + vals.length)) H') :
    vcallP 12 [v, VI k] lo' H K := by
  rcases hv with ⟨rfl, rfl⟩ | ⟨b, g, c, h1, h2, rfl, h4, h5⟩
  · refine vcall_raw rfl ((laws_markInt64S_nil k).mono ?_)
    rintro r H' ⟨rfl, rfl⟩
    have := hK H' rfl (.inl ⟨rfl, rfl⟩) fun _ _ _ _ h => h
    simpa using this
  · refine vcall_raw rfl ((laws_markInt64S_v vals k h5 (Nat.le_refl _) (Nat.le_trans hlo h1) hk hn).mono ?_)
    rintro r H' ⟨rfl, rfl⟩
    refine hK _ (by simp) (.inr ⟨b, g, c, h1, h2, by rw [iota_len], by rw [iota_len]; exact h4, ?_⟩) fun b' g' x hb' h => vrow_set_ne (fun he => by subst he; exact hb' _ _ _ rfl) h
    rw [List.drop_length, List.append_nil]
    exact vrow_set_eq h5
theorem LV.keepD {lo hi : Nat} {vals : List Int} {H H' : VHeap} {v w : VV} (h : LV lo hi vals H w) (hd : Apart v w) (hk : Kept v H H') : LV lo hi vals H' w := by
  rcases h with h | ⟨b, g, c, h1, h2, rfl, h4, h5⟩
  · exact .inl h
  · exact .inr ⟨b, g, c, h1, h2, rfl, h4, hk _ _ _ (fun g0 n0 c0 he => hd _ _ _ _ _ _ _ he rfl) h5⟩
theorem LV.keepR {lo hi lo2 hi2 : Nat} {vals us : List Int} {H H' H0 : VHeap} {v w : VV} (h : LV lo2 hi2 vals H w) (hv : LV lo hi us H0 v) (hd : hi2 ≤ lo ∨ hi ≤ lo2) (hk : Kept v H H') : LV lo2 hi2 vals H' w := by
  rcases h with h | ⟨b, g, c, h1, h2, rfl, h4, h5⟩
  · exact .inl h
  · refine .inr ⟨b, g, c, h1, h2, rfl, h4, hk _ _ _ (fun g0 n0 c0 he => ?_) h5⟩
    rcases hv with ⟨rfl, _⟩ | ⟨b', g', c', k1, k2, rfl, k4, k5⟩
    · cases he
    · injection he with he
      omega
theorem Apart.symm {v w : VV} (h : Apart v w) : Apart w v := fun b g n c g' n' c' h1 h2 => h b g' n' c' g n c h2 h1
end Go.PM
