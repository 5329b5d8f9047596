/- A statement of open order: whatever order is drawn, the state behind it is the text's. First what the text's order goes through. -/
import Derived.Test.YtkoiolkkceknhaaPmOp
namespace Go.PM

theorem trace_exists {call : Caller} {lo : Nat} : ∀ {pis : List PI} {ρ ρ' : Env} {H H' : Heap}, psteps call lo pis ρ H = some (ρ', H') →
    ∃ st : Nat → Env × Heap, st 0 = (ρ, H) ∧ st pis.length = (ρ', H') ∧ ∀ i pi, pis[i]? = some pi → pstep call lo pi (st i).1 (st i).2 = some (st (i + 1))
  | [], ρ, ρ', H, H', h => by
    cases h
    exact ⟨fun _ => (ρ, H), rfl, rfl, fun i pi hi => by simp at hi⟩
  | x :: pis, ρ, ρ', H, H', h => by
    rw [psteps] at h
    split at h
    · rename_i ρ1 H1 h1
      obtain ⟨st, h2, h3, h4⟩ := trace_exists h
      refine ⟨fun i => match i with | 0 => (ρ, H) | i + 1 => st i, rfl, h3, fun i pi hi => ?_⟩
      cases i with
      | zero =>
        simp at hi
        subst hi
        show pstep call lo x ρ H = some (st 0)
        rw [h1, h2]
      | succ i => exact h4 i pi (by simpa using hi)
    · cases h

theorem live_congr {H1 H2 : Heap} {b : Nat} (h : H2[b]? = H1[b]?) : Live H2 b ↔ Live H1 b := by
  unfold Live
  rw [h]

/-- The relation on a part of a heap whose blocks are as they are in the whole. -/
theorem Rel.restrict {m : PMap} {L0 : Nat} {H1 H2 : Heap} {w : World} (h : Rel m L0 H2 w) (hs : ∀ b, b < H1.length → H2[b]? = H1[b]?) : Rel m L0 H1 w := by
  refine ⟨h.valid, fun b l cs e p hm hb => h.row b l cs e p hm ?_, fun b1 b2 l1 l2 hb h1 h2 hl1 hl2 => h.inj b1 b2 l1 l2 hb h1 h2 ((live_congr (hs b1 hl1.lt)).2 hl1) ((live_congr (hs b2 hl2.lt)).2 hl2)⟩
  rw [hs b (List.getElem?_eq_some_iff.1 hb).1]
  exact hb
/-- The relation on a heap that has grown by blocks of which it does not speak. -/
theorem Rel.grow {m : PMap} {L0 : Nat} {H1 H2 : Heap} {w : World} (h : Rel m L0 H1 w) (hs : ∀ b, b < H1.length → H2[b]? = H1[b]?) (hd : ∀ b, H1.length ≤ b → b < H2.length → m b = none) : Rel m L0 H2 w := by
  have lt : ∀ b l, m b = some l → b < H2.length → b < H1.length := fun b l hm hb => by
    rcases Nat.lt_or_ge b H1.length with h | h
    · exact h
    · rw [hd b h hb] at hm; cases hm
  refine ⟨h.valid, fun b l cs e p hm hb => h.row b l cs e p hm ?_, fun b1 b2 l1 l2 hb h1 h2 hl1 hl2 => h.inj b1 b2 l1 l2 hb h1 h2 ((live_congr (hs b1 (lt b1 l1 h1 hl1.lt))).1 hl1) ((live_congr (hs b2 (lt b2 l2 h2 hl2.lt))).1 hl2)⟩
  rw [← hs b (lt b l hm (List.getElem?_eq_some_iff.1 hb).1)]
  exact hb

/-- A text that has been run. -/
structure Text (P : Program) (E : Cfg) (n : Nat) (ops : Array Oper) (pis : List PI) (ps : List POp) (M : List Nat) (call : Caller) (lo : Nat) (st : Nat → Env × Heap) : Prop where
  ok : RegOk P E n ops.toList true pis ps M
  ext : ExtCaller call
  step : ∀ i pi, pis[i]? = some pi → pstep call lo pi (st i).1 (st i).2 = some (st (i + 1))

section
variable {P : Program} {E : Cfg} {n : Nat} {ops : Array Oper} {pis : List PI} {ps : List POp} {M : List Nat} {call : Caller} {lo : Nat} {st : Nat → Env × Heap}

theorem Text.at (T : Text P E n ops pis ps M call lo st) {i : Nat} (hi : i < ops.size) : ∃ o p pi, ops[i]? = some o ∧ ps[i]? = some p ∧ pis[i]? = some pi ∧ PIok P E n ops.toList i o p pi ∧ PIdraw E ops.toList ps M i o p pi ∧
    ∃ v, pval call lo pi (st i).1 (st i).2 = some (v, (st (i + 1)).2) ∧ (st (i + 1)).1 = put (st i).1 o.dst v := by
  have ho : ops.toList[i]? = some ops[i] := by simp [hi]
  obtain ⟨p, pi, h1, h2, h3, h4, _⟩ := T.ok.each i _ ho
  obtain ⟨v, h5, h6⟩ := pstep_spec (T.step i pi h2)
  exact ⟨ops[i], p, pi, by simp [hi], h1, h2, h3, h4 rfl, v, h5, by rw [h6, h3.dst]⟩

theorem Text.len1 (T : Text P E n ops pis ps M call lo st) {i : Nat} (hi : i < ops.size) : (st i).2.length ≤ (st (i + 1)).2.length := by
  obtain ⟨o, p, pi, _, _, _, _, _, v, hv, _⟩ := T.at hi
  exact (ext_pval T.ext hv).len
theorem Text.len (T : Text P E n ops pis ps M call lo st) {i : Nat} : ∀ {j : Nat}, i ≤ j → j ≤ ops.size → (st i).2.length ≤ (st j).2.length := by
  intro j hij
  induction j with
  | zero => intro _; have : i = 0 := by omega
            subst this; exact Nat.le_refl _
  | succ j ih =>
    intro hj
    rcases Nat.lt_or_ge i (j + 1) with h | h
    · exact Nat.le_trans (ih (by omega) (by omega)) (T.len1 (by omega))
    · have : i = j + 1 := by omega
      subst this; exact Nat.le_refl _

/-- An operation that does not write leaves every block as it is. -/
theorem Text.same1 (T : Text P E n ops pis ps M call lo st) {i : Nat} {p : POp} (hi : i < ops.size) (hp : ps[i]? = some p) (hw : clsOf E p ≠ .write) : ∀ b, b < (st i).2.length → (st (i + 1)).2[b]? = (st i).2[b]? := by
  intro b hb
  obtain ⟨o, p', pi, _, hp', _, hok, hdr, v, hv, _⟩ := T.at hi
  rw [hp] at hp'
  cases hp'
  rcases pval_cases hv with ⟨_, _, h⟩ | ⟨_, _, h | ⟨f, args, h1, h2⟩⟩
  · rw [h]
  · rw [hok.op] at h
    by_cases hq : clsOf E p = .quiet
    · rw [pop_lo (lo' := (st i).2.length) hq] at h
      exact (ext_pop h).low b hb hb
    · -- nothing is made: the heap is the same
      have : (st (i + 1)).2 = (st i).2 := by
        cases p <;> first
          | (exact absurd rfl hw)
          | (exact absurd rfl hq)
          | (rw [pop_pure rfl] at h; exact (pure_out h).2)
          | skip
        case load agg size q =>
          simp only [pop] at h
          cases hl : pload agg size (ev (st i).1 q) (st i).2 with
          | none => rw [hl] at h; cases h
          | some u => rw [hl] at h; injection h with h; injection h with _ h; exact h.symm
        case b2s x =>
          simp only [pop] at h
          split at h
          · injection h with h; injection h with _ h; exact h.symm
          · split at h
            · rename_i cs _
              cases hb : pbytes cs with
              | none => rw [hb] at h; cases h
              | some bs => rw [hb] at h; injection h with h; injection h with _ h; exact h.symm
            · cases h
          · cases h
        case sub size x l hh mx =>
          simp only [pop] at h
          cases mx with
          | some mx => exact absurd rfl hq
          | none =>
            cases hs : psub size (ev (st i).1 x) (l.map (ev (st i).1)) (hh.map (ev (st i).1)) ((none : Option Operand).map (ev (st i).1)) (st i).2 with
            | none => rw [hs] at h; cases h
            | some q =>
              obtain ⟨u, H1⟩ := q
              rw [hs] at h
              injection h with h; injection h with _ h
              subst h
              unfold psub at hs
              simp only [Option.map_none, Option.isSome_none, Bool.false_eq_true, false_and, if_false] at hs
              repeat' (split at hs)
              all_goals first
                | (cases hs; done)
                | (injection hs with hs; injection hs with _ hs; exact hs.symm)
        case call f args => cases h
      rw [this]
  · rw [hok.op] at h1
    have hq : pi.quiet = true := by
      rw [hdr.quiet]
      rcases pop_call_key h1 with ⟨g, as, rfl⟩ | ⟨g, as, rfl⟩
      · simp only [clsOf] at hw ⊢
        split at hw
        · exact absurd rfl hw
        · rename_i h; rw [if_neg h]
      · exact absurd rfl hw
    rw [hq] at h2
    exact (T.ext _ _ _ _ _ _ h2).low b hb hb

end
end Go.PM
