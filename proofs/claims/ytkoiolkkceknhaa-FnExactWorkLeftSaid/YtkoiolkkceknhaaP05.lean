/- The words of the chapter on paths. -/
import Derived.Test.YtkoiolkkceknhaaPmTop
namespace Go.PM

/-- Each customer is right, and none comes ahead of the one ahead. -/
def custOk (c : Cust) : Prop := (0 ≤ c.t ∧ c.t ≤ 10000) ∧ (1 ≤ c.w ∧ c.w ≤ 1000) ∧ (0 ≤ c.k ∧ c.k ≤ 9)
instance (c : Cust) : Decidable (custOk c) := by unfold custOk; infer_instance
def custAt (cs : List Cust) (i : Nat) (c : Cust) : Prop := custOk c ∧ ∀ b, 0 < i → cs[i - 1]? = some b → b.t ≤ c.t
def custsOk (cs : List Cust) : Prop := (∀ i c, cs[i]? = some c → custAt cs i c) ∧ cs.length ≤ 24
noncomputable instance (cs : List Cust) : Decidable (custsOk cs) := Classical.propDecidable _

theorem bool_is {p : Prop} [Decidable p] {t : Bool} (h : t = true ↔ p) : t = decide p := by
  by_cases hp : p
  · rw [h.2 hp]; simp [hp]
  · cases t
    · simp [hp]
    · exact absurd (h.1 rfl) hp

theorem custsOk.at {cs : List Cust} (h : custsOk cs) {i : Nat} {c : Cust} (hc : cs[i]? = some c) : (0 ≤ c.t ∧ c.t ≤ 10000) ∧ (1 ≤ c.w ∧ c.w ≤ 1000) ∧ (0 ≤ c.k ∧ c.k ≤ 9) := (h.1 i c hc).1

/-- Whole numbers of 64 bits. -/
def w64 (n : Int) : Prop := -9223372036854775808 ≤ n ∧ n ≤ 9223372036854775807

/-! ### the work that is left -/
def wl (time : Int) : List Cust → Int → Int → Int
  | [], l, s => max (l - (time - s)) 0
  | c :: cs, l, s => if time < c.t then max (l - (time - s)) 0 else wl time cs (max (l - (c.t - s)) 0 + c.w) c.t
def wlOk (cs : List Cust) (time : Int) : Prop := custsOk cs ∧ (0 ≤ time ∧ time ≤ 1000000000)
noncomputable instance (cs : List Cust) (time : Int) : Decidable (wlOk cs time) := Classical.propDecidable _
noncomputable def wlV (cs : List Cust) (time : Int) : Value := .tuple #[I (if wlOk cs time then wl time cs 0 0 else 0), .bool (decide (wlOk cs time))]

end Go.PM
