/- Rules for guards and choices whose word is known; a choice told apart; calls told by one value. -/
import Derived.Test.YtkoiolkkceknhaaPmOps
namespace Go.PM

section
variable {lo : Nat} {Q : Ex → Env → Heap → Prop} {K : Env → Heap → Prop} {ρ : Env} {H : Heap} {q : Bool}
theorem W_cond_true {x : Operand} {a b : PCode} (h : ev ρ x = .bool true) : W lo (.cond x a b) Q ρ H = W lo a Q ρ H := by
  rw [W_cond]
  apply propext
  constructor
  · rintro ⟨t, ht, h1, _⟩
    rw [h] at ht
    cases ht
    exact h1 rfl
  · intro h1
    exact ⟨true, h, fun _ => h1, fun e => by cases e⟩
theorem W_cond_false {x : Operand} {a b : PCode} (h : ev ρ x = .bool false) : W lo (.cond x a b) Q ρ H = W lo b Q ρ H := by
  rw [W_cond]
  apply propext
  constructor
  · rintro ⟨t, ht, _, h2⟩
    rw [h] at ht
    cases ht
    exact h2 rfl
  · intro h1
    exact ⟨false, h, fun e => (by cases e), fun _ => h1⟩
theorem faddr_at {b o off : Nat} : faddrV off (.pointer (some ⟨b, o, none⟩)) = some (.pointer (some ⟨b, o + off, none⟩)) := rfl
end

theorem max_int {k : IntKind} {a b : Int} : maxV (.int k a) (.int k b) = some (.int k (max a b)) := by
  simp only [maxV]
  congr 2
  split <;> omega
theorem min_int {k : IntKind} {a b : Int} : minV (.int k a) (.int k b) = some (.int k (min a b)) := by
  simp only [minV]
  congr 2
  split <;> omega

theorem ext2_0 {a b : Value} : extV 0 (.tuple #[a, b]) = some a := rfl
theorem ext2_1 {a b : Value} : extV 1 (.tuple #[a, b]) = some b := rfl
theorem ext3_0 {a b c : Value} : extV 0 (.tuple #[a, b, c]) = some a := rfl
theorem ext3_1 {a b c : Value} : extV 1 (.tuple #[a, b, c]) = some b := rfl
theorem ext3_2 {a b c : Value} : extV 2 (.tuple #[a, b, c]) = some c := rfl

theorem call_eqv {lo : Nat} {H : Heap} {f : Nat} {pf : PFunc} {args : List Value} {u : Value} {H2 : Heap} (ht : tab f = some pf) (ha : args.length ≤ pf.ntmps) (h : W lo pf.body (retQ pf.res fun v H' => v = u ∧ H' = H2) (penv args) H) : pmCall f args lo H = some (u, H2) := by
  obtain ⟨v, H', h, h1, h2⟩ := call_W ht ha h
  rw [← h1, ← h2]
  exact h

end Go.PM
