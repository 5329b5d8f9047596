/- The words of the chapter on paths. -/
import Derived.Test.YtkoiolkkceknhaaPmTop
namespace Go.PM

/-- Each customer is right, and none comes ahead of the one ahead. -/
def custOk (c : Cust) : Prop := (0 ≤ c.t ∧ c.t ≤ 10000) ∧ (1 ≤ c.w ∧ c.w ≤ 1000) ∧ (0 ≤ c.k ∧ c.k ≤ 9)
instance (c : Cust) : Decidable (custOk c) := by unfold custOk; infer_instance
def custAt (cs : List Cust) (i : Nat) (c : Cust) : Prop := custOk c ∧ ∀ b, 0 < i → cs[i - 1]? = some b → b.t ≤ c.t
def custsOk (cs : List Cust) : Prop := (∀ i c, cs[i]? = some c → custAt cs i c) ∧ cs.length ≤ 24
noncomputable instance (cs : List Cust) : Decidable (custsOk cs) := Classical.propDecidable _

theorem bool_is {p : Prop} [Decidable p] {t : Bool} (h : t = true ↔ p) : t = decide p := by
  by_cases hp : p
  · rw [h.2 hp]; simp [hp]
  · cases t
    · simp [hp]
    · exact absurd (h.1 rfl) hp

end Go.PM
