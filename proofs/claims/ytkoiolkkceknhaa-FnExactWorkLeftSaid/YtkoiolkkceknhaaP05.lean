/- The words of the chapter on paths. -/
import Derived.Test.YtkoiolkkceknhaaPmTop
namespace Go.PM

/-- Each customer is right, and none comes ahead of the one ahead. -/
def custOk (c : Cust) : Prop := (0 ≤ c.t ∧ c.t ≤ 10000) ∧ (1 ≤ c.w ∧ c.w ≤ 1000) ∧ (0 ≤ c.k ∧ c.k ≤ 9)
instance (c : Cust) : Decidable (custOk c) := by unfold custOk; infer_instance
def custAt (cs : List Cust) (i : Nat) (c : Cust) : Prop := custOk c ∧ ∀ b, 0 < i → cs[i - 1]? = some b → b.t ≤ c.t
def custsOk (cs : List Cust) : Prop := (∀ i c, cs[i]? = some c → custAt cs i c) ∧ cs.length ≤ 24
noncomputable instance (cs : List Cust) : Decidable (custsOk cs) := Classical.propDecidable _

theorem bool_is {p : Prop} [Decidable p] {t : Bool} (h : t = true ↔ p) : t = decide p := by
  by_cases hp : p
  · rw [h.2 hp]; simp [hp]
  · cases t
    · simp [hp]
    · exact absurd (h.1 rfl) hp

theorem custsOk.at {cs : List Cust} (h : custsOk cs) {i : Nat} {c : Cust} (hc : cs[i]? = some c) : (0 ≤ c.t ∧ c.t ≤ 10000) ∧ (1 ≤ c.w ∧ c.w ≤ 1000) ∧ (0 ≤ c.k ∧ c.k ≤ 9) := (h.1 i c hc).1

/-- Whole numbers of 64 bits. -/
def w64 (n : Int) : Prop := -9223372036854775808 ≤ n ∧ n ≤ 9223372036854775807

/-! ### the work that is left -/
def wl (time : Int) : List Cust → Int → Int → Int
  | [], l, s => max (l - (time - s)) 0
  | c :: cs, l, s => if time < c.t then max (l - (time - s)) 0 else wl time cs (max (l - (c.t - s)) 0 + c.w) c.t
def wlOk (cs : List Cust) (time : Int) : Prop := custsOk cs ∧ (0 ≤ time ∧ time ≤ 1000000000)
noncomputable instance (cs : List Cust) (time : Int) : Decidable (wlOk cs time) := Classical.propDecidable _
noncomputable def wlV (cs : List Cust) (time : Int) : Value := .tuple #[I (if wlOk cs time then wl time cs 0 0 else 0), .bool (decide (wlOk cs time))]

/-! ### leaves -/
def lvOk (cs : List Cust) (ls : List Int) : Prop := custsOk cs ∧ ls.length = cs.length ∧ ∀ x ∈ ls, 0 ≤ x ∧ x ≤ 1000000000
noncomputable instance (cs : List Cust) (ls : List Int) : Decidable (lvOk cs ls) := Classical.propDecidable _
def sumI : List Int → Int
  | [] => 0
  | x :: xs => x + sumI xs
def sumT : List Cust → Int
  | [] => 0
  | c :: cs => c.t + sumT cs
noncomputable def tisV (cs : List Cust) (ls : List Int) : Value := .tuple #[I (if lvOk cs ls then sumI ls - sumT cs else 0), .bool (decide (lvOk cs ls))]
/-- How many are there at a time. -/
def cntIn (time : Int) : List Cust → List Int → Int
  | c :: cs, l :: ls => (if c.t ≤ time ∧ time < l then 1 else 0) + cntIn time cs ls
  | _, _ => 0
def insOk (cs : List Cust) (ls : List Int) (time : Int) : Prop := lvOk cs ls ∧ (0 ≤ time ∧ time ≤ 1000000000)
noncomputable instance (cs : List Cust) (ls : List Int) (time : Int) : Decidable (insOk cs ls time) := Classical.propDecidable _
noncomputable def insV (cs : List Cust) (ls : List Int) (time : Int) : Value := .tuple #[I (if insOk cs ls time then cntIn time cs ls else 0), .bool (decide (insOk cs ls time))]

theorem drop_cons {α : Type} {l : List α} {i : Nat} {x : α} (h : l[i]? = some x) : l.drop i = x :: l.drop (i + 1) := by
  have hlt := List.getElem?_eq_some_iff.1 h
  rw [List.drop_eq_getElem_cons hlt.1, hlt.2]

end Go.PM
