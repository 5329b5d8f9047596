/- Texts of a claim, in one: part 9. -/
import Derived.KernelRfl
import Derived.Test.YthoncidphopjjaaKLh

/- The pure machine's form of functions, as the settings give it: I1. -/
set_option linter.unusedSimpArgs false
set_option linter.unusedVariables false
namespace Go.PM
def impl_in_c : PCode := (.seq (.reg [⟨(some 6), (.mv (.const (.bool false))), none, false, []⟩]) (.seq (.reg [⟨(some 7), (.mv (.tmp 0)), none, false, []⟩, ⟨(some 8), (.mv (.tmp 1)), none, false, []⟩, ⟨(some 9), (.bin .geq (.tmp 7) (.tmp 8)), none, false, []⟩, ⟨(some 10), (.mv (.tmp 9)), none, false, []⟩, ⟨(some 11), (.mv (.tmp 0)), (some (10, true)), false, []⟩, ⟨(some 12), (.mv (.tmp 2)), (some (10, true)), false, []⟩, ⟨(some 13), (.bin .leq (.tmp 11) (.tmp 12)), (some (10, true)), false, []⟩, ⟨(some 14), (.pick (.tmp 10) (.tmp 13) (.const (.bool false))), none, false, []⟩, ⟨(some 6), (.mv (.tmp 14)), none, false, []⟩]) .ret))
def impl_in : PFunc := ⟨15, [(.tmp 6)], impl_in_c⟩
theorem impl_in_t : tab 30 = some impl_in := by kernel_rfl
end Go.PM
