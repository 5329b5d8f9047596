/- A lower bound of what may be written changes nothing that comes to an end; what a call leaves of a heap. -/
import Derived.Test.YtkoiolkkceknhaaPmLim
namespace Go.PM

theorem write_low {H H' : Heap} {lo lo' b o : Nat} {new : List Value} (hl : lo' ≤ lo) (h : H.write lo b o new = some H') : H.write lo' b o new = some H' := by
  unfold Heap.write at h ⊢
  split at h
  · split at h
    · rename_i hc
      rw [if_pos ⟨by omega, hc.2⟩]
      exact h
    · cases h
  · cases h

theorem map_low {α β : Type} {a b : Option α} {f : α → β} {r : β} (hab : ∀ x, a = some x → b = some x) (h : a.map f = some r) : b.map f = some r := by
  cases a with
  | none => cases h
  | some x => rw [hab x rfl]; exact h

theorem pappend_low {lo lo' size bytes add : Nat} {x : Value} {new : List Value} {H : Heap} {r : Value × Heap} (hl : lo' ≤ lo) (h : pappend lo size bytes x add new H = some r) : pappend lo' size bytes x add new H = some r := by
  unfold pappend at h ⊢
  split at h
  case isFalse => cases h
  rename_i hc
  rw [if_pos hc]
  split at h
  · exact h
  · split at h
    · split at h
      · rename_i h1
        skip
        rw [if_pos h1]
        split at h
        · rename_i h2
          rw [if_pos h2]
          split at h
          · rename_i h3; rw [if_pos h3]; exact h
          · rename_i h3
            rw [if_neg h3]
            exact map_low (fun H' hw => write_low hl hw) h
        · rename_i h2
          rw [if_neg h2]
          split at h
          · rename_i h3
            rw [if_pos h3]
            split at h
            · rename_i h4
              rw [if_pos h4]
              split at h
              · rename_i h5; rw [if_pos (by omega)]; exact h
              · cases h
            · rename_i h4; rw [if_neg h4]; exact h
          · cases h
      · cases h
    · cases h
  · cases h

theorem pop_low {lo lo' : Nat} {p : POp} {ρ : Env} {H : Heap} {o : Out} (hl : lo' ≤ lo) (h : pop lo p ρ H = some o) : pop lo' p ρ H = some o := by
  cases p <;> first | exact h | skip
  case store size q v =>
    simp only [pop] at h ⊢
    split at h
    · split at h
      · rename_i h1
        skip
        rw [if_pos h1]
        exact map_low (fun H' hw => write_low hl hw) h
      · cases h
    · cases h
  case app size bytes x y =>
    simp only [pop] at h ⊢
    split at h
    · split at h
      · skip
        exact map_low (fun H' hw => pappend_low hl hw) h
      · cases h
    · cases h
  case appz z bytes x n =>
    simp only [pop] at h ⊢
    split at h
    · split at h
      · rename_i h1
        skip
        rw [if_pos h1]
        exact map_low (fun H' hw => pappend_low hl hw) h
      · cases h
    · cases h
  case copy size x y =>
    simp only [pop] at h ⊢
    split at h
    · exact h
    · split at h
      · skip
        exact map_low (fun H' hw => write_low hl hw) h
      · cases h
    · cases h
  case clear z x =>
    simp only [pop] at h ⊢
    split at h
    · exact h
    · skip
      split at h
      · rename_i h1; rw [if_pos h1]; exact h
      · rename_i h1
        rw [if_neg h1]
        exact map_low (fun H' hw => write_low hl hw) h
    · cases h

def LowOk (c : Caller) : Prop := ∀ f args lo lo' H r, lo' ≤ lo → c f args lo H = some r → c f args lo' H = some r

section
variable {c : Caller} {lo lo' : Nat}
theorem psteps_low (hc : LowOk c) (hl : lo' ≤ lo) : ∀ {is : List PI} {ρ : Env} {H : Heap} {r : Env × Heap}, psteps c lo is ρ H = some r → psteps c lo' is ρ H = some r
  | [], _, _, _, h => h
  | i :: is, ρ, H, r, h => by
    rw [psteps] at h ⊢
    split at h
    · rename_i ρ1 H1 h1
      have e : pstep c lo' i ρ H = some (ρ1, H1) := by
        unfold pstep at h1 ⊢
        split at h1
        · rename_i v H2 hv
          have : pval c lo' i ρ H = some (v, H2) := by
            unfold pval at hv ⊢
            split at hv
            · cases hv
            · exact hv
            · split at hv
              · rename_i hcf
                rw [if_pos hcf]
                split at hv
                · rename_i hp; rw [pop_low hl hp]; exact hv
                · rename_i hp
                  rw [pop_low hl hp]
                  show c _ _ (if i.quiet = true then H.length else lo') H = _
                  cases hq : i.quiet with
                  | true => rw [hq] at hv; exact hv
                  | false => rw [hq] at hv; exact hc _ _ _ _ _ _ hl hv
                · cases hv
              · cases hv
          rw [this]
          exact h1
        · cases h1
      rw [e]
      exact psteps_low hc hl h
    · cases h

theorem ploop_low {b b' : Env → Heap → Option (Ex × Env × Heap)} (h : ∀ ρ H r, b ρ H = some r → b' ρ H = some r) : ∀ {n : Nat} {ρ : Env} {H : Heap} {r : Ex × Env × Heap}, ploop b n ρ H = some r → ploop b' n ρ H = some r :=
  fun hr => ploop_mono h (Nat.le_refl _) hr

theorem pcode_low (hc : LowOk c) (hl : lo' ≤ lo) {n : Nat} : ∀ (p : PCode) {ρ : Env} {H : Heap} {r : Ex × Env × Heap}, pcode c lo n p ρ H = some r → pcode c lo' n p ρ H = some r
  | .skip, _, _, _, hr => hr
  | .reg ops, ρ, H, r, hr => by
    rw [pcode] at hr ⊢
    exact map_low (fun _ h => psteps_low hc hl h) hr
  | .seq a b, ρ, H, r, hr => by
    rw [pcode] at hr ⊢
    split at hr
    · rename_i h1
      rw [pcode_low hc hl a h1]
      exact pcode_low hc hl b hr
    · rename_i hne
      rw [pcode_low hc hl a hr]
      split
      · rename_i he; cases he; exact absurd hr (hne _ _)
      · rfl
  | .cond x a b, ρ, H, r, hr => by
    rw [pcode] at hr ⊢
    split at hr
    · split at hr
      · rename_i ht; rw [if_pos ht]; exact pcode_low hc hl a hr
      · rename_i ht; rw [if_neg ht]; exact pcode_low hc hl b hr
    · cases hr
  | .block id a, ρ, H, r, hr => by
    rw [pcode] at hr ⊢
    split at hr
    · rename_i h1
      rw [pcode_low hc hl a h1]
      exact hr
    · rename_i hne
      rw [pcode_low hc hl a hr]
      split
      · rename_i he; cases he; exact absurd hr (hne _ _ _)
      · rfl
  | .loop a, ρ, H, r, hr => by
    rw [pcode] at hr ⊢
    exact ploop_low (fun ρ H r hr => pcode_low hc hl a hr) hr
  | .exit id, _, _, _, hr => hr
  | .ret, _, _, _, hr => hr
end

theorem pcall_low (E : Cfg) (T : Tab) : ∀ n, LowOk (pcall E T n)
  | 0, _, _, _, _, _, _, _, h => by cases h
  | n + 1, f, args, lo, lo', H, r, hl, h => by
    rw [pcall] at h ⊢
    split at h
    · exact h
    · split at h
      · cases h
      · split at h
        · rename_i pf _ ha
          rw [if_pos ha]
          split at h
          · rename_i h1; rw [pcode_low (pcall_low E T n) hl pf.body h1]; exact h
          · rename_i h1; rw [pcode_low (pcall_low E T n) hl pf.body h1]; exact h
          · cases h
        · cases h

section
variable {E : Cfg} {T : Tab}
theorem call_low {f : Nat} {args : List Value} {lo lo' : Nat} {H : Heap} {r : Value × Heap} (hl : lo' ≤ lo) (h : call E T f args lo H = some r) : call E T f args lo' H = some r := by
  obtain ⟨n, hn⟩ := (call_iff E T).1 h
  exact (call_iff E T).2 ⟨n, pcall_low E T n f args lo lo' H r hl hn⟩

theorem call_ext {f : Nat} {args : List Value} {lo : Nat} {H H' : Heap} {v : Value} (h : call E T f args lo H = some (v, H')) : Ext lo H H' := by
  obtain ⟨n, hn⟩ := (call_iff E T).1 h
  exact ext_pcall E T n f args lo H v H' hn
theorem code_ext {c : PCode} {lo : Nat} {ρ ρ' : Env} {H H' : Heap} {x : Ex} (h : code E T lo c ρ H = some (x, ρ', H')) : Ext lo H H' := by
  obtain ⟨n, hn⟩ := (code_iff E T).1 h
  exact ext_pcode (ext_pcall E T n) c hn

/-- What is made only adds. -/
theorem Ext.more {H H' : Heap} (h : Ext H.length H H') : ∃ K, H' = H ++ K := by
  refine ⟨H'.drop H.length, ?_⟩
  apply List.ext_getElem?
  intro i
  rcases Nat.lt_or_ge i H.length with hi | hi
  · rw [List.getElem?_append_left hi]
    exact h.low i hi hi
  · rw [List.getElem?_append_right hi, List.getElem?_drop, show H.length + (i - H.length) = i by omega]

/-- A contract: a call with these arguments comes to an end, and what is said of its value and of what it has made. -/
def Gives (E : Cfg) (T : Tab) (f : Nat) (args : List Value) (H : Heap) (R : Value → Heap → Prop) : Prop :=
  ∃ v K, call E T f args H.length H = some (v, H ++ K) ∧ R v (H ++ K)
theorem Gives.at {f : Nat} {args : List Value} {H : Heap} {R : Value → Heap → Prop} (h : Gives E T f args H R) {lo : Nat} (hl : lo ≤ H.length) : ∃ v K, call E T f args lo H = some (v, H ++ K) ∧ R v (H ++ K) := by
  obtain ⟨v, K, h1, h2⟩ := h
  exact ⟨v, K, call_low hl h1, h2⟩
theorem Gives.mk {f : Nat} {args : List Value} {H H' : Heap} {v : Value} {R : Value → Heap → Prop} (h : call E T f args H.length H = some (v, H')) (hr : R v H') : Gives E T f args H R := by
  obtain ⟨K, rfl⟩ := (call_ext h).more
  exact ⟨v, K, h, hr⟩
end
end Go.PM
