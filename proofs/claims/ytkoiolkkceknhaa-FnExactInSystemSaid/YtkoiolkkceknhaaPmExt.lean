/- What a run of the pure machine leaves alone: everything below its bound; its heap only grows. -/
import Derived.Test.YtkoiolkkceknhaaPmSimH
namespace Go.PM

section
variable {H : Heap}

theorem ext_quiet {lo : Nat} {H' : Heap} (h : Ext H.length H H') : Ext lo H H' :=
  ⟨h.len, fun b _ hl => h.low b hl hl, h.liv⟩

theorem ext_pappend {lo size bytes add : Nat} {x v : Value} {new : List Value} {H' : Heap} (h : pappend lo size bytes x add new H = some (v, H')) : Ext lo H H' := by
  unfold pappend at h
  split at h
  case isFalse => cases h
  split at h
  · split at h
    · split at h
      · cases h; exact Ext.refl _ _
      · split at h
        · cases h; exact ext_alloc _ _ _
        · cases h
    · cases h
  · split at h
    · split at h
      · split at h
        · split at h
          · cases h; exact Ext.refl _ _
          · cases hw : Heap.write H lo _ _ new with
            | none => rw [hw] at h; cases h
            | some H1 => rw [hw] at h; cases h; exact ext_write hw
        · split at h
          · split at h
            · split at h
              · rename_i hlb
                cases h
                exact ext_moved hlb
              · cases h
            · cases h; exact ext_alloc _ _ _
          · cases h
      · cases h
    · cases h
  · cases h

theorem ext_psub {lo size : Nat} {x v : Value} {l h' mx : Option Value} {H' : Heap} (h : psub size x l h' mx H = some (v, H')) : Ext lo H H' := by
  unfold psub at h
  repeat' (split at h)
  all_goals first
    | (cases h; done)
    | (cases h; exact Ext.refl _ _)
    | (cases h; exact ext_alloc _ _ _)

theorem ext_pop {lo : Nat} {po : POp} {ρ : Env} {v : Value} {H' : Heap} (h : pop lo po ρ H = some (.val v H')) : Ext lo H H' := by
  by_cases hpure : looksPure po = true
  · rw [pop_pure hpure] at h
    obtain ⟨_, rfl⟩ := pure_out h
    exact Ext.refl _ _
  cases po <;> first | exact absurd rfl hpure | skip
  case load agg size p =>
    simp only [pop] at h
    cases hl : pload agg size (ev ρ p) H with
    | none => rw [hl] at h; cases h
    | some u => rw [hl] at h; cases h; exact Ext.refl _ _
  case sub size x l hh mx =>
    simp only [pop] at h
    cases hs : psub size (ev ρ x) (l.map (ev ρ)) (hh.map (ev ρ)) (mx.map (ev ρ)) H with
    | none => rw [hs] at h; cases h
    | some q =>
      obtain ⟨u, H1⟩ := q
      rw [hs] at h; cases h; exact ext_psub hs
  case b2s x =>
    simp only [pop] at h
    split at h
    · cases h; exact Ext.refl _ _
    · split at h
      · rename_i cs _
        cases hb : pbytes cs with
        | none => rw [hb] at h; cases h
        | some bs => rw [hb] at h; cases h; exact Ext.refl _ _
      · cases h
    · cases h
  case new z => cases h; exact ext_alloc _ _ _
  case box x =>
    simp only [pop] at h
    split at h
    · cases h; exact ext_alloc _ _ _
    · cases h
  case make z b l c =>
    simp only [pop] at h
    split at h
    · split at h
      · cases h; exact ext_alloc _ _ _
      · cases h
    · cases h
  case lit z n parts =>
    simp only [pop] at h
    split at h
    · split at h
      · cases h; exact ext_alloc _ _ _
      · cases h
    · cases h
  case call f args => cases h
  case callv f args =>
    simp only [pop] at h
    split at h <;> cases h
  case store size p x =>
    simp only [pop] at h
    split at h
    · rename_i b o _
      split at h
      · cases hw : H.write lo b o (pcells (ev ρ x)) with
        | none => rw [hw] at h; cases h
        | some H1 => rw [hw] at h; cases h; exact ext_write hw
      · cases h
    · cases h
  case app size bytes x y =>
    simp only [pop] at h
    split at h
    · rename_i n _
      split at h
      · rename_i new _
        cases ha : pappend lo size bytes (ev ρ x) n new H with
        | none => rw [ha] at h; cases h
        | some q =>
          obtain ⟨u, H1⟩ := q
          rw [ha] at h; cases h; exact ext_pappend ha
      · cases h
    · cases h
  case appz z bytes x n =>
    simp only [pop] at h
    split at h
    · rename_i k _
      split at h
      · cases ha : pappend lo z.length bytes (ev ρ x) k.toNat (zcells k.toNat z) H with
        | none => rw [ha] at h; cases h
        | some q =>
          obtain ⟨u, H1⟩ := q
          rw [ha] at h; cases h; exact ext_pappend ha
      · cases h
    · cases h
  case copy size x y =>
    simp only [pop] at h
    split at h
    · cases h; exact Ext.refl _ _
    · rename_i b o d _ s _ _
      split at h
      · rename_i new _
        cases hw : H.write lo b o new with
        | none => rw [hw] at h; cases h
        | some H1 => rw [hw] at h; cases h; exact ext_write hw
      · cases h
    · cases h
  case clear z x =>
    simp only [pop] at h
    split at h
    · cases h; exact Ext.refl _ _
    · rename_i b o n _ _
      split at h
      · cases h; exact Ext.refl _ _
      · cases hw : H.write lo b o (zcells n z) with
        | none => rw [hw] at h; cases h
        | some H1 => rw [hw] at h; cases h; exact ext_write hw
    · cases h

def ExtCaller (call : Caller) : Prop := ∀ f args lo H v H', call f args lo H = some (v, H') → Ext lo H H'

theorem ext_pval {call : Caller} (hc : ExtCaller call) {lo : Nat} {i : PI} {ρ : Env} {v : Value} {H' : Heap} (h : pval call lo i ρ H = some (v, H')) : Ext lo H H' := by
  unfold pval at h
  split at h
  · cases h
  · cases h; exact Ext.refl _ _
  · split at h
    · split at h
      · rename_i hp
        cases h
        exact ext_pop hp
      · rename_i f args _
        have := hc _ _ _ _ _ _ h
        split at this
        · exact ext_quiet this
        · exact this
      · cases h
    · cases h
theorem pstep_spec {call : Caller} {lo : Nat} {i : PI} {ρ ρ' : Env} {H' : Heap} (h : pstep call lo i ρ H = some (ρ', H')) : ∃ v, pval call lo i ρ H = some (v, H') ∧ ρ' = put ρ i.dst v := by
  unfold pstep at h
  split at h
  · rename_i v H1 hv
    cases h
    exact ⟨v, hv, rfl⟩
  · cases h
theorem ext_pstep {call : Caller} (hc : ExtCaller call) {lo : Nat} {i : PI} {ρ ρ' : Env} {H' : Heap} (h : pstep call lo i ρ H = some (ρ', H')) : Ext lo H H' := by
  obtain ⟨v, h1, _⟩ := pstep_spec h
  exact ext_pval hc h1

theorem ext_psteps {call : Caller} (hc : ExtCaller call) {lo : Nat} : ∀ (is : List PI) {ρ ρ' : Env} {H H' : Heap}, psteps call lo is ρ H = some (ρ', H') → Ext lo H H'
  | [], ρ, ρ', H, H', h => by cases h; exact Ext.refl _ _
  | i :: is, ρ, ρ', H, H', h => by
    rw [psteps] at h
    split at h
    · rename_i h1
      exact (ext_pstep hc h1).trans (ext_psteps hc is h)
    · cases h

theorem ext_ploop {lo : Nat} {body : Env → Heap → Option (Ex × Env × Heap)} (hb : ∀ ρ H x ρ' H', body ρ H = some (x, ρ', H') → Ext lo H H') : ∀ (n : Nat) {ρ ρ' : Env} {H H' : Heap} {x : Ex}, ploop body n ρ H = some (x, ρ', H') → Ext lo H H'
  | 0, _, _, _, _, _, h => by cases h
  | n + 1, ρ, ρ', H, H', x, h => by
    rw [ploop] at h
    split at h
    · rename_i h1
      exact (hb _ _ _ _ _ h1).trans (ext_ploop hb n h)
    · exact hb _ _ _ _ _ h

theorem ext_pcode {call : Caller} (hc : ExtCaller call) {lo n : Nat} : ∀ (c : PCode) {ρ ρ' : Env} {H H' : Heap} {x : Ex}, pcode call lo n c ρ H = some (x, ρ', H') → Ext lo H H'
  | .skip, _, _, _, _, _, h => by cases h; exact Ext.refl _ _
  | .reg ops, ρ, ρ', H, H', x, h => by
    rw [pcode] at h
    cases hp : psteps call lo ops ρ H with
    | none => rw [hp] at h; cases h
    | some q =>
      obtain ⟨ρ1, H1⟩ := q
      rw [hp] at h; cases h
      exact ext_psteps hc ops hp
  | .seq a b, ρ, ρ', H, H', x, h => by
    rw [pcode] at h
    split at h
    · rename_i h1
      exact (ext_pcode hc a h1).trans (ext_pcode hc b h)
    · exact ext_pcode hc a h
  | .cond c a b, ρ, ρ', H, H', x, h => by
    rw [pcode] at h
    split at h
    · split at h
      · exact ext_pcode hc a h
      · exact ext_pcode hc b h
    · cases h
  | .block id a, ρ, ρ', H, H', x, h => by
    rw [pcode] at h
    split at h
    · rename_i h1
      split at h <;> (cases h; exact ext_pcode hc a h1)
    · exact ext_pcode hc a h
  | .loop a, ρ, ρ', H, H', x, h => by
    rw [pcode] at h
    exact ext_ploop (fun ρ H x ρ' H' h => ext_pcode hc a h) n h
  | .exit id, _, _, _, _, _, h => by cases h; exact Ext.refl _ _
  | .ret, _, _, _, _, _, h => by cases h; exact Ext.refl _ _

theorem ext_pcall (E : Cfg) (T : Tab) : ∀ n, ExtCaller (pcall E T n)
  | 0 => fun _ _ _ _ _ _ h => by cases h
  | n + 1 => fun f args lo H v H' h => by
    rw [pcall] at h
    split at h
    · rename_i p _
      cases hp : p args H with
      | none => rw [hp] at h; cases h
      | some u => rw [hp] at h; cases h; exact Ext.refl _ _
    · split at h
      · cases h
      · rename_i pf _
        split at h
        · split at h
          · rename_i ρ1 H1 h1
            cases hr : presult pf.res ρ1 H1 with
            | none => rw [hr] at h; cases h
            | some u => rw [hr] at h; cases h; exact ext_pcode (ext_pcall E T n) _ h1
          · rename_i ρ1 H1 h1
            cases hr : presult pf.res ρ1 H1 with
            | none => rw [hr] at h; cases h
            | some u => rw [hr] at h; cases h; exact ext_pcode (ext_pcall E T n) _ h1
          · cases h
        · cases h

end
end Go.PM
