/- Texts of a claim, in one: part 7. -/
import Derived.KernelRfl
import Derived.Test.YtbgfeiagaieljaaGreatDoorKMf

/- The pure machine's form of functions, as the settings give it: I1. -/
set_option linter.unusedSimpArgs false
set_option linter.unusedVariables false
namespace Go.PM
def impl_MakeFraction_c : PCode := (.seq (.reg [⟨(some 4), (.mv (.const (.string ⟨#[]⟩))), none, false, []⟩, ⟨(some 5), (.mv (.const (.bool false))), none, false, []⟩]) (.seq (.seq (.reg [⟨(some 6), (.mv (.tmp 1)), none, false, []⟩, ⟨(some 7), (.bin .eql (.tmp 6) (.const (.int .i64 0))), none, false, []⟩]) (.cond (.tmp 7) (.seq (.reg [⟨(some 4), (.mv (.const (.string ⟨#[]⟩))), none, false, []⟩, ⟨(some 5), (.mv (.const (.bool false))), none, false, []⟩]) .ret) .skip)) (.seq (.reg [⟨(some 8), (.mv (.tmp 0)), none, false, []⟩, ⟨(some 9), (.bin .lss (.tmp 8) (.const (.int .i64 0))), none, false, []⟩, ⟨(some 10), (.mv (.tmp 1)), none, false, []⟩, ⟨(some 11), (.bin .lss (.tmp 10) (.const (.int .i64 0))), none, false, []⟩, ⟨(some 12), (.eqb true (.tmp 9) (.tmp 11)), none, false, []⟩, ⟨(some 13), (.mv (.tmp 0)), none, false, []⟩, ⟨(some 14), (.call 102 [(.tmp 13)]), none, false, []⟩, ⟨(some 15), (.call 101 [(.tmp 14)]), none, false, []⟩, ⟨(some 16), (.mv (.tmp 1)), none, false, []⟩, ⟨(some 17), (.call 102 [(.tmp 16)]), none, false, []⟩, ⟨(some 18), (.call 101 [(.tmp 17)]), none, false, []⟩, ⟨(some 19), (.call 100 [(.tmp 12), (.tmp 15), (.tmp 18)]), none, false, []⟩, ⟨(some 20), (.call 92 [(.tmp 19)]), none, false, []⟩, ⟨(some 21), (.ext (.tmp 20) 0), none, false, []⟩, ⟨(some 22), (.ext (.tmp 20) 1), none, false, []⟩, ⟨(some 4), (.mv (.tmp 21)), none, false, []⟩, ⟨(some 5), (.mv (.tmp 22)), none, false, []⟩]) .ret)))
def impl_MakeFraction : PFunc := ⟨23, [(.tmp 4), (.tmp 5)], impl_MakeFraction_c⟩
theorem impl_MakeFraction_t : tab 46 = some impl_MakeFraction := by kernel_rfl
def impl_in_c : PCode := (.seq (.reg [⟨(some 6), (.mv (.const (.bool false))), none, false, []⟩]) (.seq (.reg [⟨(some 7), (.mv (.tmp 0)), none, false, []⟩, ⟨(some 8), (.mv (.tmp 1)), none, false, []⟩, ⟨(some 9), (.bin .geq (.tmp 7) (.tmp 8)), none, false, []⟩, ⟨(some 10), (.mv (.tmp 9)), none, false, []⟩, ⟨(some 11), (.mv (.tmp 0)), (some (10, true)), false, []⟩, ⟨(some 12), (.mv (.tmp 2)), (some (10, true)), false, []⟩, ⟨(some 13), (.bin .leq (.tmp 11) (.tmp 12)), (some (10, true)), false, []⟩, ⟨(some 14), (.pick (.tmp 10) (.tmp 13) (.const (.bool false))), none, false, []⟩, ⟨(some 6), (.mv (.tmp 14)), none, false, []⟩]) .ret))
def impl_in : PFunc := ⟨15, [(.tmp 6)], impl_in_c⟩
theorem impl_in_t : tab 77 = some impl_in := by kernel_rfl
def impl_told_c : PCode := (.seq (.reg [⟨(some 1), (.box (.tmp 0)), none, false, []⟩, ⟨(some 2), (.mv (.const (.string ⟨#[]⟩))), none, false, []⟩, ⟨(some 3), (.mv (.const (.bool false))), none, false, []⟩]) (.seq (.reg [⟨(some 7), (.load true 3 (.tmp 1)), none, false, []⟩, ⟨(some 8), (.call 116 [(.tmp 7)]), none, false, []⟩, ⟨(some 6), (.mv (.tmp 8)), none, false, []⟩, ⟨(some 9), (.ext (.tmp 6) 0), none, false, []⟩, ⟨(some 10), (.ext (.tmp 6) 1), none, false, []⟩, ⟨(some 4), (.mv (.tmp 9)), none, false, []⟩, ⟨(some 5), (.mv (.tmp 10)), none, false, []⟩]) (.seq (.seq (.reg [⟨(some 11), (.mv (.tmp 5)), none, false, []⟩, ⟨(some 12), (.un .not (.tmp 11)), none, false, []⟩]) (.cond (.tmp 12) (.seq (.reg [⟨(some 2), (.mv (.const (.string ⟨#[]⟩))), none, false, []⟩, ⟨(some 3), (.mv (.const (.bool false))), none, false, []⟩]) .ret) .skip)) (.seq (.reg [⟨(some 13), (.mv (.tmp 4)), none, false, []⟩, ⟨(some 2), (.mv (.tmp 13)), none, false, []⟩, ⟨(some 3), (.mv (.const (.bool true))), none, false, []⟩]) .ret))))
def impl_told : PFunc := ⟨14, [(.tmp 2), (.tmp 3)], impl_told_c⟩
theorem impl_told_t : tab 92 = some impl_told := by kernel_rfl
def impl_lowest_c : PCode := (.seq (.reg [⟨(some 6), (.new [(.bool false), (.slice none 0 0), (.slice none 0 0)]), none, false, []⟩]) (.seq (.seq (.reg [⟨(some 8), (.mv (.tmp 1)), none, false, []⟩, ⟨(some 9), (.len (.tmp 8)), none, false, []⟩, ⟨(some 10), (.bin .eql (.tmp 9) (.const (.int .i64 0))), none, false, []⟩]) (.cond (.tmp 10) (.seq (.reg [⟨(some 11), (.call 101 [(.const (.int .u64 1))]), none, false, []⟩, ⟨(some 12), (.build [(.bool false), (.slice none 0 0), (.slice none 0 0)] [(0, 1), (1, 1), (2, 1)] [(2, (.tmp 11))]), none, false, []⟩, ⟨none, (.store 3 (.tmp 6) (.tmp 12)), none, false, []⟩]) .ret) .skip)) (.seq (.reg [⟨(some 13), (.mv (.tmp 1)), none, false, []⟩, ⟨(some 14), (.mv (.tmp 2)), none, false, []⟩, ⟨(some 15), (.call 131 [(.tmp 13), (.tmp 14)]), none, false, []⟩, ⟨(some 7), (.mv (.tmp 15)), none, false, []⟩]) (.seq (.seq (.reg [⟨(some 16), (.mv (.tmp 7)), none, false, []⟩, ⟨(some 17), (.len (.tmp 16)), none, false, []⟩, ⟨(some 18), (.bin .eql (.tmp 17) (.const (.int .i64 1))), none, false, []⟩, ⟨(some 19), (.mv (.tmp 18)), none, false, []⟩, ⟨(some 20), (.mv (.tmp 7)), (some (19, true)), false, []⟩, ⟨(some 21), (.iaddr 1 (.tmp 20) (.const (.int .i64 0))), (some (19, true)), false, []⟩, ⟨(some 22), (.load false 1 (.tmp 21)), (some (19, true)), false, []⟩, ⟨(some 23), (.bin .eql (.tmp 22) (.const (.int .u32 1))), (some (19, true)), false, []⟩, ⟨(some 24), (.pick (.tmp 19) (.tmp 23) (.const (.bool false))), none, false, []⟩]) (.cond (.tmp 24) (.seq (.reg [⟨(some 25), (.mv (.tmp 0)), none, false, []⟩, ⟨(some 26), (.mv (.tmp 1)), none, false, []⟩, ⟨(some 27), (.mv (.tmp 2)), none, false, []⟩, ⟨(some 28), (.build [(.bool false), (.slice none 0 0), (.slice none 0 0)] [(0, 1), (1, 1), (2, 1)] [(0, (.tmp 25)), (1, (.tmp 26)), (2, (.tmp 27))]), none, false, []⟩, ⟨none, (.store 3 (.tmp 6) (.tmp 28)), none, false, []⟩]) .ret) .skip)) (.seq (.reg [⟨(some 30), (.mv (.tmp 1)), none, false, []⟩, ⟨(some 31), (.mv (.tmp 7)), none, false, []⟩, ⟨(some 32), (.call 139 [(.tmp 30), (.tmp 31)]), none, false, []⟩, ⟨(some 29), (.mv (.tmp 32)), none, false, []⟩, ⟨(some 33), (.ext (.tmp 29) 0), none, false, []⟩, ⟨(some 34), (.ext (.tmp 29) 1), none, false, []⟩, ⟨(some 1), (.mv (.tmp 33)), none, false, []⟩]) (.seq (.reg [⟨(some 36), (.mv (.tmp 2)), none, false, []⟩, ⟨(some 37), (.mv (.tmp 7)), none, false, []⟩, ⟨(some 38), (.call 139 [(.tmp 36), (.tmp 37)]), none, false, []⟩, ⟨(some 35), (.mv (.tmp 38)), none, false, []⟩, ⟨(some 39), (.ext (.tmp 35) 0), none, false, []⟩, ⟨(some 40), (.ext (.tmp 35) 1), none, false, []⟩, ⟨(some 2), (.mv (.tmp 39)), none, false, []⟩]) (.seq (.reg [⟨(some 41), (.mv (.tmp 0)), none, false, []⟩, ⟨(some 42), (.mv (.tmp 1)), none, false, []⟩, ⟨(some 43), (.mv (.tmp 2)), none, false, []⟩, ⟨(some 44), (.build [(.bool false), (.slice none 0 0), (.slice none 0 0)] [(0, 1), (1, 1), (2, 1)] [(0, (.tmp 41)), (1, (.tmp 42)), (2, (.tmp 43))]), none, false, []⟩, ⟨none, (.store 3 (.tmp 6) (.tmp 44)), none, false, []⟩]) .ret)))))))
def impl_lowest : PFunc := ⟨45, [(.cell 6 true 3)], impl_lowest_c⟩
theorem impl_lowest_t : tab 100 = some impl_lowest := by kernel_rfl
def impl_natOf_c : PCode := (.seq (.reg [⟨(some 2), (.mv (.const (.slice none 0 0))), none, false, []⟩]) (.seq (.reg [⟨(some 3), (.mv (.tmp 0)), none, false, []⟩, ⟨(some 4), (.cvt .u32 (.tmp 3)), none, false, []⟩, ⟨(some 5), (.mv (.tmp 0)), none, false, []⟩, ⟨(some 6), (.bin .shr (.tmp 5) (.const (.int .u64 32))), none, false, []⟩, ⟨(some 7), (.cvt .u32 (.tmp 6)), none, false, []⟩, ⟨(some 8), (.lit [(.int .u32 0)] 2 [(0, (.tmp 4)), (1, (.tmp 7))]), none, false, []⟩, ⟨(some 9), (.call 140 [(.tmp 8)]), none, false, []⟩, ⟨(some 2), (.mv (.tmp 9)), none, false, []⟩]) .ret))
def impl_natOf : PFunc := ⟨10, [(.tmp 2)], impl_natOf_c⟩
theorem impl_natOf_t : tab 101 = some impl_natOf := by kernel_rfl
def impl_magnitude_c : PCode := (.seq (.reg [⟨(some 2), (.mv (.const (.int .u64 0))), none, false, []⟩]) (.seq (.seq (.reg [⟨(some 3), (.mv (.tmp 0)), none, false, []⟩, ⟨(some 4), (.bin .lss (.tmp 3) (.const (.int .i64 0))), none, false, []⟩]) (.cond (.tmp 4) (.seq (.reg [⟨(some 5), (.mv (.tmp 0)), none, false, []⟩, ⟨(some 6), (.cvt .u64 (.tmp 5)), none, false, []⟩, ⟨(some 7), (.un .neg (.tmp 6)), none, false, []⟩, ⟨(some 2), (.mv (.tmp 7)), none, false, []⟩]) .ret) .skip)) (.seq (.reg [⟨(some 8), (.mv (.tmp 0)), none, false, []⟩, ⟨(some 9), (.cvt .u64 (.tmp 8)), none, false, []⟩, ⟨(some 2), (.mv (.tmp 9)), none, false, []⟩]) .ret)))
def impl_magnitude : PFunc := ⟨10, [(.tmp 2)], impl_magnitude_c⟩
theorem impl_magnitude_t : tab 102 = some impl_magnitude := by kernel_rfl
def _impl_nat__cmp_b0 : PCode := (.seq (.seq (.reg [⟨(some 19), (.mv (.tmp 5)), none, false, []⟩, ⟨(some 20), (.bin .geq (.tmp 19) (.const (.int .i64 0))), none, false, []⟩]) (.cond (.tmp 20) .skip (.exit 0))) (.seq (.block 1 (.seq (.reg [⟨(some 23), (.mv (.tmp 0)), none, false, []⟩, ⟨(some 24), (.mv (.tmp 5)), none, false, []⟩, ⟨(some 25), (.iaddr 1 (.tmp 23) (.tmp 24)), none, false, []⟩, ⟨(some 26), (.load false 1 (.tmp 25)), none, false, []⟩, ⟨(some 27), (.mv (.tmp 1)), none, false, []⟩, ⟨(some 28), (.mv (.tmp 5)), none, false, []⟩, ⟨(some 29), (.iaddr 1 (.tmp 27) (.tmp 28)), none, false, []⟩, ⟨(some 30), (.load false 1 (.tmp 29)), none, false, []⟩, ⟨(some 31), (.bin .neq (.tmp 26) (.tmp 30)), none, false, []⟩]) (.cond (.tmp 31) (.seq (.seq (.reg [⟨(some 32), (.mv (.tmp 0)), none, false, []⟩, ⟨(some 33), (.mv (.tmp 5)), none, false, []⟩, ⟨(some 34), (.iaddr 1 (.tmp 32) (.tmp 33)), none, false, []⟩, ⟨(some 35), (.load false 1 (.tmp 34)), none, false, []⟩, ⟨(some 36), (.mv (.tmp 1)), none, false, []⟩, ⟨(some 37), (.mv (.tmp 5)), none, false, []⟩, ⟨(some 38), (.iaddr 1 (.tmp 36) (.tmp 37)), none, false, []⟩, ⟨(some 39), (.load false 1 (.tmp 38)), none, false, []⟩, ⟨(some 40), (.bin .lss (.tmp 35) (.tmp 39)), none, false, []⟩]) (.cond (.tmp 40) (.seq (.reg [⟨(some 4), (.mv (.const (.int .i64 (-1)))), none, false, []⟩]) .ret) .skip)) (.seq (.reg [⟨(some 4), (.mv (.const (.int .i64 1))), none, false, []⟩]) .ret)) .skip))) (.reg [⟨(some 21), (.mv (.tmp 5)), none, false, []⟩, ⟨(some 22), (.bin .sub (.tmp 21) (.const (.int .i64 1))), none, false, []⟩, ⟨(some 5), (.mv (.tmp 22)), none, false, []⟩])))
def _impl_nat__cmp_c : PCode := (.seq (.reg [⟨(some 4), (.mv (.const (.int .i64 0))), none, false, []⟩]) (.seq (.seq (.reg [⟨(some 6), (.mv (.tmp 0)), none, false, []⟩, ⟨(some 7), (.len (.tmp 6)), none, false, []⟩, ⟨(some 8), (.mv (.tmp 1)), none, false, []⟩, ⟨(some 9), (.len (.tmp 8)), none, false, []⟩, ⟨(some 10), (.bin .neq (.tmp 7) (.tmp 9)), none, false, []⟩]) (.cond (.tmp 10) (.seq (.seq (.reg [⟨(some 11), (.mv (.tmp 0)), none, false, []⟩, ⟨(some 12), (.len (.tmp 11)), none, false, []⟩, ⟨(some 13), (.mv (.tmp 1)), none, false, []⟩, ⟨(some 14), (.len (.tmp 13)), none, false, []⟩, ⟨(some 15), (.bin .lss (.tmp 12) (.tmp 14)), none, false, []⟩]) (.cond (.tmp 15) (.seq (.reg [⟨(some 4), (.mv (.const (.int .i64 (-1)))), none, false, []⟩]) .ret) .skip)) (.seq (.reg [⟨(some 4), (.mv (.const (.int .i64 1))), none, false, []⟩]) .ret)) .skip)) (.seq (.seq (.reg [⟨(some 16), (.mv (.tmp 0)), none, false, []⟩, ⟨(some 17), (.len (.tmp 16)), none, false, []⟩, ⟨(some 18), (.bin .sub (.tmp 17) (.const (.int .i64 1))), none, false, []⟩, ⟨(some 5), (.mv (.tmp 18)), none, false, []⟩]) (.block 0 (.loop _impl_nat__cmp_b0))) (.seq (.reg [⟨(some 4), (.mv (.const (.int .i64 0))), none, false, []⟩]) .ret))))
def _impl_nat__cmp : PFunc := ⟨41, [(.tmp 4)], _impl_nat__cmp_c⟩
theorem _impl_nat__cmp_t : tab 111 = some _impl_nat__cmp := by kernel_rfl
def _impl_rat__text_c : PCode := (.seq (.reg [⟨(some 1), (.box (.tmp 0)), none, false, []⟩, ⟨(some 2), (.mv (.const (.string ⟨#[]⟩))), none, false, []⟩, ⟨(some 3), (.mv (.const (.bool false))), none, false, []⟩]) (.seq (.reg [⟨(some 7), (.faddr 1 (.tmp 1)), none, false, []⟩, ⟨(some 8), (.load false 1 (.tmp 7)), none, false, []⟩, ⟨(some 9), (.call 143 [(.tmp 8)]), none, true, []⟩, ⟨(some 10), (.faddr 2 (.tmp 1)), none, false, []⟩, ⟨(some 11), (.load false 1 (.tmp 10)), none, false, []⟩, ⟨(some 12), (.call 143 [(.tmp 11)]), none, true, []⟩, ⟨(some 4), (.mv (.tmp 9)), none, false, []⟩, ⟨(some 5), (.mv (.tmp 12)), none, false, []⟩]) (.seq (.reg [⟨(some 13), (.mv (.tmp 4)), none, false, []⟩, ⟨(some 6), (.mv (.tmp 13)), none, false, []⟩]) (.seq (.seq (.reg [⟨(some 14), (.faddr 0 (.tmp 1)), none, false, []⟩, ⟨(some 15), (.load false 1 (.tmp 14)), none, false, []⟩]) (.cond (.tmp 15) (.reg [⟨(some 16), (.mv (.tmp 6)), none, false, []⟩, ⟨(some 17), (.bin .add (.const (.string ⟨#[45]⟩)) (.tmp 16)), none, false, []⟩, ⟨(some 6), (.mv (.tmp 17)), none, false, []⟩]) .skip)) (.seq (.seq (.reg [⟨(some 18), (.mv (.tmp 5)), none, false, []⟩, ⟨(some 19), (.bin .neq (.tmp 18) (.const (.string ⟨#[49]⟩))), none, false, []⟩]) (.cond (.tmp 19) (.reg [⟨(some 20), (.mv (.tmp 6)), none, false, []⟩, ⟨(some 21), (.mv (.tmp 5)), none, false, []⟩, ⟨(some 22), (.bin .add (.const (.string ⟨#[47]⟩)) (.tmp 21)), none, false, []⟩, ⟨(some 23), (.bin .add (.tmp 20) (.tmp 22)), none, false, []⟩, ⟨(some 6), (.mv (.tmp 23)), none, false, []⟩]) .skip)) (.seq (.reg [⟨(some 24), (.mv (.tmp 6)), none, false, []⟩, ⟨(some 25), (.mv (.tmp 4)), none, false, []⟩, ⟨(some 26), (.slen (.tmp 25)), none, false, []⟩, ⟨(some 27), (.bin .leq (.tmp 26) (.const (.int .i64 200))), none, false, []⟩, ⟨(some 28), (.mv (.tmp 27)), none, false, []⟩, ⟨(some 29), (.mv (.tmp 5)), (some (28, true)), false, []⟩, ⟨(some 30), (.slen (.tmp 29)), (some (28, true)), false, []⟩, ⟨(some 31), (.bin .leq (.tmp 30) (.const (.int .i64 200))), (some (28, true)), false, []⟩, ⟨(some 32), (.pick (.tmp 28) (.tmp 31) (.const (.bool false))), none, false, []⟩, ⟨(some 2), (.mv (.tmp 24)), none, false, []⟩, ⟨(some 3), (.mv (.tmp 32)), none, false, []⟩]) .ret))))))
def _impl_rat__text : PFunc := ⟨33, [(.tmp 2), (.tmp 3)], _impl_rat__text_c⟩
theorem _impl_rat__text_t : tab 116 = some _impl_rat__text := by kernel_rfl
def _impl_nat__gcd_b0 : PCode := (.seq (.seq (.reg [⟨(some 28), (.mv (.tmp 7)), none, false, []⟩, ⟨(some 29), (.bin .gtr (.tmp 28) (.const (.int .u64 0))), none, false, []⟩]) (.cond (.tmp 29) .skip (.exit 2))) (.block 3 (.reg [⟨(some 30), (.mv (.tmp 7)), none, false, []⟩, ⟨(some 31), (.mv (.tmp 5)), none, false, []⟩, ⟨(some 32), (.mv (.tmp 7)), none, false, []⟩, ⟨(some 33), (.bin .rem (.tmp 31) (.tmp 32)), none, false, []⟩, ⟨(some 5), (.mv (.tmp 30)), none, false, []⟩, ⟨(some 7), (.mv (.tmp 33)), none, false, []⟩])))
def _impl_nat__gcd_b1 : PCode := (.seq (.seq (.reg [⟨(some 11), (.mv (.tmp 1)), none, false, []⟩, ⟨(some 12), (.len (.tmp 11)), none, false, []⟩, ⟨(some 13), (.bin .gtr (.tmp 12) (.const (.int .i64 0))), none, false, []⟩]) (.cond (.tmp 13) .skip (.exit 0))) (.block 1 (.seq (.reg [⟨(some 15), (.mv (.tmp 0)), none, false, []⟩, ⟨(some 16), (.call 151 [(.tmp 15)]), none, false, []⟩, ⟨(some 14), (.mv (.tmp 16)), none, false, []⟩, ⟨(some 17), (.ext (.tmp 14) 0), none, false, []⟩, ⟨(some 18), (.ext (.tmp 14) 1), none, false, []⟩, ⟨(some 5), (.mv (.tmp 17)), none, false, []⟩, ⟨(some 6), (.mv (.tmp 18)), none, false, []⟩]) (.seq (.reg [⟨(some 20), (.mv (.tmp 1)), none, false, []⟩, ⟨(some 21), (.call 151 [(.tmp 20)]), none, false, []⟩, ⟨(some 19), (.mv (.tmp 21)), none, false, []⟩, ⟨(some 22), (.ext (.tmp 19) 0), none, false, []⟩, ⟨(some 23), (.ext (.tmp 19) 1), none, false, []⟩, ⟨(some 7), (.mv (.tmp 22)), none, false, []⟩, ⟨(some 8), (.mv (.tmp 23)), none, false, []⟩]) (.seq (.seq (.reg [⟨(some 24), (.mv (.tmp 6)), none, false, []⟩, ⟨(some 25), (.mv (.tmp 24)), none, false, []⟩, ⟨(some 26), (.mv (.tmp 8)), (some (25, true)), false, []⟩, ⟨(some 27), (.pick (.tmp 25) (.tmp 26) (.const (.bool false))), none, false, []⟩]) (.cond (.tmp 27) (.seq (.block 2 (.loop _impl_nat__gcd_b0)) (.seq (.reg [⟨(some 34), (.mv (.tmp 5)), none, false, []⟩, ⟨(some 35), (.call 101 [(.tmp 34)]), none, false, []⟩, ⟨(some 4), (.mv (.tmp 35)), none, false, []⟩]) .ret)) .skip)) (.seq (.reg [⟨(some 37), (.mv (.tmp 0)), none, false, []⟩, ⟨(some 38), (.mv (.tmp 1)), none, false, []⟩, ⟨(some 39), (.call 139 [(.tmp 37), (.tmp 38)]), none, false, []⟩, ⟨(some 36), (.mv (.tmp 39)), none, false, []⟩, ⟨(some 40), (.ext (.tmp 36) 0), none, false, []⟩, ⟨(some 41), (.ext (.tmp 36) 1), none, false, []⟩, ⟨(some 9), (.mv (.tmp 40)), none, false, []⟩, ⟨(some 10), (.mv (.tmp 41)), none, false, []⟩]) (.reg [⟨(some 42), (.mv (.tmp 1)), none, false, []⟩, ⟨(some 43), (.mv (.tmp 10)), none, false, []⟩, ⟨(some 0), (.mv (.tmp 42)), none, false, []⟩, ⟨(some 1), (.mv (.tmp 43)), none, false, []⟩])))))))
def _impl_nat__gcd_c : PCode := (.seq (.reg [⟨(some 4), (.mv (.const (.slice none 0 0))), none, false, []⟩]) (.seq (.block 0 (.loop _impl_nat__gcd_b1)) (.seq (.reg [⟨(some 44), (.mv (.tmp 0)), none, false, []⟩, ⟨(some 4), (.mv (.tmp 44)), none, false, []⟩]) .ret)))
def _impl_nat__gcd : PFunc := ⟨45, [(.tmp 4)], _impl_nat__gcd_c⟩
theorem _impl_nat__gcd_t : tab 131 = some _impl_nat__gcd := by kernel_rfl
def _impl_nat__div_b0 : PCode := (.seq (.seq (.reg [⟨(some 105), (.mv (.tmp 17)), none, false, []⟩, ⟨(some 106), (.bin .geq (.tmp 105) (.const (.int .u64 4294967296))), none, false, []⟩, ⟨(some 107), (.mv (.tmp 106)), none, false, []⟩, ⟨(some 108), (.mv (.tmp 17)), (some (107, false)), false, []⟩, ⟨(some 109), (.mv (.tmp 12)), (some (107, false)), false, []⟩, ⟨(some 110), (.bin .mul (.tmp 108) (.tmp 109)), (some (107, false)), false, []⟩, ⟨(some 111), (.mv (.tmp 18)), (some (107, false)), false, []⟩, ⟨(some 112), (.bin .shl (.tmp 111) (.const (.int .u64 32))), (some (107, false)), false, []⟩, ⟨(some 113), (.mv (.tmp 9)), (some (107, false)), false, []⟩, ⟨(some 114), (.mv (.tmp 15)), (some (107, false)), false, []⟩, ⟨(some 115), (.bin .sub (.tmp 114) (.const (.int .i64 2))), (some (107, false)), false, []⟩, ⟨(some 116), (.iaddr 1 (.tmp 113) (.tmp 115)), (some (107, false)), false, []⟩, ⟨(some 117), (.load false 1 (.tmp 116)), (some (107, false)), false, []⟩, ⟨(some 118), (.cvt .u64 (.tmp 117)), (some (107, false)), false, []⟩, ⟨(some 119), (.bin .add (.tmp 112) (.tmp 118)), (some (107, false)), false, []⟩, ⟨(some 120), (.bin .gtr (.tmp 110) (.tmp 119)), (some (107, false)), false, []⟩, ⟨(some 121), (.pick (.tmp 107) (.const (.bool true)) (.tmp 120)), none, false, []⟩]) (.cond (.tmp 121) .skip (.exit 2))) (.block 3 (.seq (.reg [⟨(some 122), (.mv (.tmp 17)), none, false, []⟩, ⟨(some 123), (.bin .sub (.tmp 122) (.const (.int .u64 1))), none, false, []⟩, ⟨(some 17), (.mv (.tmp 123)), none, false, []⟩]) (.seq (.reg [⟨(some 124), (.mv (.tmp 18)), none, false, []⟩, ⟨(some 125), (.mv (.tmp 11)), none, false, []⟩, ⟨(some 126), (.bin .add (.tmp 124) (.tmp 125)), none, false, []⟩, ⟨(some 18), (.mv (.tmp 126)), none, false, []⟩]) (.seq (.reg [⟨(some 127), (.mv (.tmp 18)), none, false, []⟩, ⟨(some 128), (.bin .geq (.tmp 127) (.const (.int .u64 4294967296))), none, false, []⟩]) (.cond (.tmp 128) (.exit 2) .skip))))))
def _impl_nat__div_b1 : PCode := (.seq (.seq (.reg [⟨(some 78), (.mv (.tmp 14)), none, false, []⟩, ⟨(some 79), (.bin .geq (.tmp 78) (.const (.int .i64 0))), none, false, []⟩]) (.cond (.tmp 79) .skip (.exit 0))) (.seq (.block 1 (.seq (.reg [⟨(some 82), (.mv (.tmp 14)), none, false, []⟩, ⟨(some 83), (.mv (.tmp 10)), none, false, []⟩, ⟨(some 84), (.len (.tmp 83)), none, false, []⟩, ⟨(some 85), (.bin .add (.tmp 82) (.tmp 84)), none, false, []⟩, ⟨(some 15), (.mv (.tmp 85)), none, false, []⟩]) (.seq (.reg [⟨(some 86), (.mv (.tmp 9)), none, false, []⟩, ⟨(some 87), (.mv (.tmp 15)), none, false, []⟩, ⟨(some 88), (.iaddr 1 (.tmp 86) (.tmp 87)), none, false, []⟩, ⟨(some 89), (.load false 1 (.tmp 88)), none, false, []⟩, ⟨(some 90), (.cvt .u64 (.tmp 89)), none, false, []⟩, ⟨(some 91), (.bin .shl (.tmp 90) (.const (.int .u64 32))), none, false, []⟩, ⟨(some 92), (.mv (.tmp 9)), none, false, []⟩, ⟨(some 93), (.mv (.tmp 15)), none, false, []⟩, ⟨(some 94), (.bin .sub (.tmp 93) (.const (.int .i64 1))), none, false, []⟩, ⟨(some 95), (.iaddr 1 (.tmp 92) (.tmp 94)), none, false, []⟩, ⟨(some 96), (.load false 1 (.tmp 95)), none, false, []⟩, ⟨(some 97), (.cvt .u64 (.tmp 96)), none, false, []⟩, ⟨(some 98), (.bin .add (.tmp 91) (.tmp 97)), none, false, []⟩, ⟨(some 16), (.mv (.tmp 98)), none, false, []⟩]) (.seq (.reg [⟨(some 99), (.mv (.tmp 16)), none, false, []⟩, ⟨(some 100), (.mv (.tmp 11)), none, false, []⟩, ⟨(some 101), (.bin .quo (.tmp 99) (.tmp 100)), none, false, []⟩, ⟨(some 102), (.mv (.tmp 16)), none, false, []⟩, ⟨(some 103), (.mv (.tmp 11)), none, false, []⟩, ⟨(some 104), (.bin .rem (.tmp 102) (.tmp 103)), none, false, []⟩, ⟨(some 17), (.mv (.tmp 101)), none, false, []⟩, ⟨(some 18), (.mv (.tmp 104)), none, false, []⟩]) (.seq (.block 2 (.loop _impl_nat__div_b0)) (.seq (.seq (.reg [⟨(some 129), (.mv (.tmp 9)), none, false, []⟩, ⟨(some 130), (.mv (.tmp 14)), none, false, []⟩, ⟨(some 131), (.mv (.tmp 15)), none, false, []⟩, ⟨(some 132), (.bin .add (.tmp 131) (.const (.int .i64 1))), none, false, []⟩, ⟨(some 133), (.sub 1 (.tmp 129) (some (.tmp 130)) (some (.tmp 132)) none), none, false, []⟩, ⟨(some 134), (.mv (.tmp 10)), none, false, []⟩, ⟨(some 135), (.mv (.tmp 17)), none, false, []⟩, ⟨(some 136), (.call 161 [(.tmp 133), (.tmp 134), (.tmp 135)]), none, false, []⟩]) (.cond (.tmp 136) (.reg [⟨(some 137), (.mv (.tmp 17)), none, false, []⟩, ⟨(some 138), (.bin .sub (.tmp 137) (.const (.int .u64 1))), none, false, []⟩, ⟨(some 17), (.mv (.tmp 138)), none, false, []⟩]) .skip)) (.reg [⟨(some 139), (.mv (.tmp 13)), none, false, []⟩, ⟨(some 140), (.mv (.tmp 14)), none, false, []⟩, ⟨(some 141), (.mv (.tmp 17)), none, false, []⟩, ⟨(some 142), (.cvt .u32 (.tmp 141)), none, false, []⟩, ⟨(some 143), (.iaddr 1 (.tmp 139) (.tmp 140)), none, false, []⟩, ⟨none, (.store 1 (.tmp 143) (.tmp 142)), none, false, []⟩]))))))) (.reg [⟨(some 80), (.mv (.tmp 14)), none, false, []⟩, ⟨(some 81), (.bin .sub (.tmp 80) (.const (.int .i64 1))), none, false, []⟩, ⟨(some 14), (.mv (.tmp 81)), none, false, []⟩])))
def _impl_nat__div_b2 : PCode := (.seq (.reg [⟨(some 149), (.bin .lss (.tmp 148) (.tmp 147)), none, false, []⟩]) (.seq (.cond (.tmp 149) .skip (.exit 4)) (.seq (.block 5 (.seq (.reg [⟨(some 150), (.mv (.tmp 148)), none, false, []⟩, ⟨(some 19), (.mv (.tmp 150)), none, false, []⟩]) (.seq (.reg [⟨(some 20), (.mv (.const (.int .u64 0))), none, false, []⟩]) (.seq (.seq (.reg [⟨(some 151), (.mv (.tmp 19)), none, false, []⟩, ⟨(some 152), (.bin .add (.tmp 151) (.const (.int .i64 1))), none, false, []⟩, ⟨(some 153), (.mv (.tmp 9)), none, false, []⟩, ⟨(some 154), (.len (.tmp 153)), none, false, []⟩, ⟨(some 155), (.bin .lss (.tmp 152) (.tmp 154)), none, false, []⟩]) (.cond (.tmp 155) (.reg [⟨(some 156), (.mv (.tmp 9)), none, false, []⟩, ⟨(some 157), (.mv (.tmp 19)), none, false, []⟩, ⟨(some 158), (.bin .add (.tmp 157) (.const (.int .i64 1))), none, false, []⟩, ⟨(some 159), (.iaddr 1 (.tmp 156) (.tmp 158)), none, false, []⟩, ⟨(some 160), (.load false 1 (.tmp 159)), none, false, []⟩, ⟨(some 161), (.cvt .u64 (.tmp 160)), none, false, []⟩, ⟨(some 20), (.mv (.tmp 161)), none, false, []⟩]) .skip)) (.reg [⟨(some 162), (.mv (.tmp 9)), none, false, []⟩, ⟨(some 163), (.mv (.tmp 19)), none, false, []⟩, ⟨(some 164), (.mv (.tmp 20)), none, false, []⟩, ⟨(some 165), (.bin .shl (.tmp 164) (.const (.int .u64 32))), none, false, []⟩, ⟨(some 166), (.mv (.tmp 9)), none, false, []⟩, ⟨(some 167), (.mv (.tmp 19)), none, false, []⟩, ⟨(some 168), (.iaddr 1 (.tmp 166) (.tmp 167)), none, false, []⟩, ⟨(some 169), (.load false 1 (.tmp 168)), none, false, []⟩, ⟨(some 170), (.cvt .u64 (.tmp 169)), none, false, []⟩, ⟨(some 171), (.bin .add (.tmp 165) (.tmp 170)), none, false, []⟩, ⟨(some 172), (.mv (.tmp 8)), none, false, []⟩, ⟨(some 173), (.bin .shr (.tmp 171) (.tmp 172)), none, false, []⟩, ⟨(some 174), (.cvt .u32 (.tmp 173)), none, false, []⟩, ⟨(some 175), (.iaddr 1 (.tmp 162) (.tmp 163)), none, false, []⟩, ⟨none, (.store 1 (.tmp 175) (.tmp 174)), none, false, []⟩]))))) (.reg [⟨(some 176), (.bin .add (.tmp 148) (.const (.int .i64 1))), none, false, []⟩, ⟨(some 148), (.mv (.tmp 176)), none, false, []⟩]))))
def _impl_nat__div_c : PCode := (.seq (.reg [⟨(some 4), (.mv (.const (.slice none 0 0))), none, false, []⟩, ⟨(some 5), (.mv (.const (.slice none 0 0))), none, false, []⟩]) (.seq (.seq (.reg [⟨(some 21), (.mv (.tmp 0)), none, false, []⟩, ⟨(some 22), (.mv (.tmp 1)), none, false, []⟩, ⟨(some 23), (.call 111 [(.tmp 21), (.tmp 22)]), none, false, []⟩, ⟨(some 24), (.bin .lss (.tmp 23) (.const (.int .i64 0))), none, false, []⟩]) (.cond (.tmp 24) (.seq (.reg [⟨(some 25), (.mv (.tmp 0)), none, false, []⟩, ⟨(some 4), (.mv (.const (.slice none 0 0))), none, false, []⟩, ⟨(some 5), (.mv (.tmp 25)), none, false, []⟩]) .ret) .skip)) (.seq (.seq (.reg [⟨(some 26), (.mv (.tmp 1)), none, false, []⟩, ⟨(some 27), (.len (.tmp 26)), none, false, []⟩, ⟨(some 28), (.bin .eql (.tmp 27) (.const (.int .i64 1))), none, false, []⟩]) (.cond (.tmp 28) (.seq (.reg [⟨(some 30), (.mv (.tmp 0)), none, false, []⟩, ⟨(some 31), (.mv (.tmp 1)), none, false, []⟩, ⟨(some 32), (.iaddr 1 (.tmp 31) (.const (.int .i64 0))), none, false, []⟩, ⟨(some 33), (.load false 1 (.tmp 32)), none, false, []⟩, ⟨(some 34), (.call 158 [(.tmp 30), (.tmp 33)]), none, false, []⟩, ⟨(some 29), (.mv (.tmp 34)), none, false, []⟩, ⟨(some 35), (.ext (.tmp 29) 0), none, false, []⟩, ⟨(some 36), (.ext (.tmp 29) 1), none, false, []⟩, ⟨(some 6), (.mv (.tmp 35)), none, false, []⟩, ⟨(some 7), (.mv (.tmp 36)), none, false, []⟩]) (.seq (.reg [⟨(some 37), (.mv (.tmp 6)), none, false, []⟩, ⟨(some 38), (.mv (.tmp 7)), none, false, []⟩, ⟨(some 39), (.lit [(.int .u32 0)] 1 [(0, (.tmp 38))]), none, false, []⟩, ⟨(some 40), (.call 140 [(.tmp 39)]), none, false, []⟩, ⟨(some 4), (.mv (.tmp 37)), none, false, []⟩, ⟨(some 5), (.mv (.tmp 40)), none, false, []⟩]) .ret)) .skip)) (.seq (.reg [⟨(some 41), (.mv (.tmp 1)), none, false, []⟩, ⟨(some 42), (.mv (.tmp 1)), none, false, []⟩, ⟨(some 43), (.len (.tmp 42)), none, false, []⟩, ⟨(some 44), (.bin .sub (.tmp 43) (.const (.int .i64 1))), none, false, []⟩, ⟨(some 45), (.iaddr 1 (.tmp 41) (.tmp 44)), none, false, []⟩, ⟨(some 46), (.load false 1 (.tmp 45)), none, false, []⟩, ⟨(some 47), (.call 159 [(.tmp 46)]), none, false, []⟩, ⟨(some 8), (.mv (.tmp 47)), none, false, []⟩]) (.seq (.reg [⟨(some 48), (.mv (.tmp 0)), none, false, []⟩, ⟨(some 49), (.mv (.tmp 8)), none, false, []⟩, ⟨(some 50), (.call 160 [(.tmp 48), (.tmp 49)]), none, false, []⟩, ⟨(some 51), (.mv (.tmp 1)), none, false, []⟩, ⟨(some 52), (.mv (.tmp 8)), none, false, []⟩, ⟨(some 53), (.call 160 [(.tmp 51), (.tmp 52)]), none, false, []⟩, ⟨(some 54), (.call 140 [(.tmp 53)]), none, false, []⟩, ⟨(some 9), (.mv (.tmp 50)), none, false, []⟩, ⟨(some 10), (.mv (.tmp 54)), none, false, []⟩]) (.seq (.reg [⟨(some 55), (.mv (.tmp 10)), none, false, []⟩, ⟨(some 56), (.mv (.tmp 10)), none, false, []⟩, ⟨(some 57), (.len (.tmp 56)), none, false, []⟩, ⟨(some 58), (.bin .sub (.tmp 57) (.const (.int .i64 1))), none, false, []⟩, ⟨(some 59), (.iaddr 1 (.tmp 55) (.tmp 58)), none, false, []⟩, ⟨(some 60), (.load false 1 (.tmp 59)), none, false, []⟩, ⟨(some 61), (.cvt .u64 (.tmp 60)), none, false, []⟩, ⟨(some 11), (.mv (.tmp 61)), none, false, []⟩]) (.seq (.reg [⟨(some 62), (.mv (.tmp 10)), none, false, []⟩, ⟨(some 63), (.mv (.tmp 10)), none, false, []⟩, ⟨(some 64), (.len (.tmp 63)), none, false, []⟩, ⟨(some 65), (.bin .sub (.tmp 64) (.const (.int .i64 2))), none, false, []⟩, ⟨(some 66), (.iaddr 1 (.tmp 62) (.tmp 65)), none, false, []⟩, ⟨(some 67), (.load false 1 (.tmp 66)), none, false, []⟩, ⟨(some 68), (.cvt .u64 (.tmp 67)), none, false, []⟩, ⟨(some 12), (.mv (.tmp 68)), none, false, []⟩]) (.seq (.reg [⟨(some 69), (.mv (.tmp 9)), none, false, []⟩, ⟨(some 70), (.len (.tmp 69)), none, false, []⟩, ⟨(some 71), (.mv (.tmp 10)), none, false, []⟩, ⟨(some 72), (.len (.tmp 71)), none, false, []⟩, ⟨(some 73), (.bin .sub (.tmp 70) (.tmp 72)), none, false, []⟩, ⟨(some 74), (.make [(.int .u32 0)] 4 (.tmp 73) (.tmp 73)), none, false, []⟩, ⟨(some 13), (.mv (.tmp 74)), none, false, []⟩]) (.seq (.seq (.reg [⟨(some 75), (.mv (.tmp 13)), none, false, []⟩, ⟨(some 76), (.len (.tmp 75)), none, false, []⟩, ⟨(some 77), (.bin .sub (.tmp 76) (.const (.int .i64 1))), none, false, []⟩, ⟨(some 14), (.mv (.tmp 77)), none, false, []⟩]) (.block 0 (.loop _impl_nat__div_b1))) (.seq (.reg [⟨(some 144), (.mv (.tmp 9)), none, false, []⟩, ⟨(some 145), (.call 140 [(.tmp 144)]), none, false, []⟩, ⟨(some 9), (.mv (.tmp 145)), none, false, []⟩]) (.seq (.seq (.reg [⟨(some 146), (.mv (.tmp 9)), none, false, []⟩, ⟨(some 147), (.len (.tmp 146)), none, false, []⟩, ⟨(some 148), (.mv (.const (.int .i64 0))), none, false, []⟩]) (.block 4 (.loop _impl_nat__div_b2))) (.seq (.reg [⟨(some 177), (.mv (.tmp 13)), none, false, []⟩, ⟨(some 178), (.call 140 [(.tmp 177)]), none, false, []⟩, ⟨(some 179), (.mv (.tmp 9)), none, false, []⟩, ⟨(some 180), (.call 140 [(.tmp 179)]), none, false, []⟩, ⟨(some 4), (.mv (.tmp 178)), none, false, []⟩, ⟨(some 5), (.mv (.tmp 180)), none, false, []⟩]) .ret))))))))))))
def _impl_nat__div : PFunc := ⟨181, [(.tmp 4), (.tmp 5)], _impl_nat__div_c⟩
theorem _impl_nat__div_t : tab 139 = some _impl_nat__div := by kernel_rfl
def _impl_nat__trim_b0 : PCode := (.seq (.seq (.reg [⟨(some 3), (.mv (.tmp 0)), none, false, []⟩, ⟨(some 4), (.len (.tmp 3)), none, false, []⟩, ⟨(some 5), (.bin .gtr (.tmp 4) (.const (.int .i64 0))), none, false, []⟩, ⟨(some 6), (.mv (.tmp 5)), none, false, []⟩, ⟨(some 7), (.mv (.tmp 0)), (some (6, true)), false, []⟩, ⟨(some 8), (.mv (.tmp 0)), (some (6, true)), false, []⟩, ⟨(some 9), (.len (.tmp 8)), (some (6, true)), false, []⟩, ⟨(some 10), (.bin .sub (.tmp 9) (.const (.int .i64 1))), (some (6, true)), false, []⟩, ⟨(some 11), (.iaddr 1 (.tmp 7) (.tmp 10)), (some (6, true)), false, []⟩, ⟨(some 12), (.load false 1 (.tmp 11)), (some (6, true)), false, []⟩, ⟨(some 13), (.bin .eql (.tmp 12) (.const (.int .u32 0))), (some (6, true)), false, []⟩, ⟨(some 14), (.pick (.tmp 6) (.tmp 13) (.const (.bool false))), none, false, []⟩]) (.cond (.tmp 14) .skip (.exit 0))) (.block 1 (.reg [⟨(some 15), (.mv (.tmp 0)), none, false, []⟩, ⟨(some 16), (.mv (.tmp 0)), none, false, []⟩, ⟨(some 17), (.len (.tmp 16)), none, false, []⟩, ⟨(some 18), (.bin .sub (.tmp 17) (.const (.int .i64 1))), none, false, []⟩, ⟨(some 19), (.sub 1 (.tmp 15) none (some (.tmp 18)) none), none, false, []⟩, ⟨(some 0), (.mv (.tmp 19)), none, false, []⟩])))
def _impl_nat__trim_c : PCode := (.seq (.reg [⟨(some 2), (.mv (.const (.slice none 0 0))), none, false, []⟩]) (.seq (.block 0 (.loop _impl_nat__trim_b0)) (.seq (.reg [⟨(some 20), (.mv (.tmp 0)), none, false, []⟩, ⟨(some 2), (.mv (.tmp 20)), none, false, []⟩]) .ret)))
def _impl_nat__trim : PFunc := ⟨21, [(.tmp 2)], _impl_nat__trim_c⟩
theorem _impl_nat__trim_t : tab 140 = some _impl_nat__trim := by kernel_rfl
def _impl_nat__text_b0 : PCode := (.seq (.seq (.reg [⟨(some 11), (.mv (.tmp 0)), none, false, []⟩, ⟨(some 12), (.len (.tmp 11)), none, false, []⟩, ⟨(some 13), (.bin .gtr (.tmp 12) (.const (.int .i64 0))), none, false, []⟩]) (.cond (.tmp 13) .skip (.exit 0))) (.block 1 (.seq (.reg [⟨(some 15), (.mv (.tmp 0)), none, false, []⟩, ⟨(some 16), (.call 158 [(.tmp 15), (.const (.int .u32 1000000000))]), none, false, []⟩, ⟨(some 14), (.mv (.tmp 16)), none, false, []⟩, ⟨(some 17), (.ext (.tmp 14) 0), none, false, []⟩, ⟨(some 18), (.ext (.tmp 14) 1), none, false, []⟩, ⟨(some 4), (.mv (.tmp 17)), none, false, []⟩, ⟨(some 5), (.mv (.tmp 18)), none, false, []⟩]) (.seq (.reg [⟨(some 19), (.mv (.tmp 5)), none, false, []⟩, ⟨(some 20), (.cvt .u64 (.tmp 19)), none, false, []⟩, ⟨(some 21), (.call 162 [(.tmp 20), (.const (.int .i64 10))]), none, false, []⟩, ⟨(some 6), (.mv (.tmp 21)), none, false, []⟩]) (.seq (.seq (.reg [⟨(some 22), (.mv (.tmp 4)), none, false, []⟩, ⟨(some 23), (.len (.tmp 22)), none, false, []⟩, ⟨(some 24), (.bin .gtr (.tmp 23) (.const (.int .i64 0))), none, false, []⟩]) (.cond (.tmp 24) (.reg [⟨(some 25), (.mv (.tmp 6)), none, false, []⟩, ⟨(some 26), (.slen (.tmp 25)), none, false, []⟩, ⟨(some 27), (.bin .sub (.const (.int .i64 9)) (.tmp 26)), none, false, []⟩, ⟨(some 28), (.call 163 [(.const (.string ⟨#[48]⟩)), (.tmp 27)]), none, false, []⟩, ⟨(some 29), (.mv (.tmp 6)), none, false, []⟩, ⟨(some 30), (.bin .add (.tmp 28) (.tmp 29)), none, false, []⟩, ⟨(some 6), (.mv (.tmp 30)), none, false, []⟩]) .skip)) (.reg [⟨(some 31), (.mv (.tmp 3)), none, false, []⟩, ⟨(some 32), (.mv (.tmp 6)), none, false, []⟩, ⟨(some 33), (.lit [(.string ⟨#[]⟩)] 1 [(0, (.tmp 32))]), none, false, []⟩, ⟨(some 34), (.app 1 16 (.tmp 31) (.tmp 33)), none, false, []⟩, ⟨(some 35), (.mv (.tmp 4)), none, false, []⟩, ⟨(some 3), (.mv (.tmp 34)), none, false, []⟩, ⟨(some 0), (.mv (.tmp 35)), none, false, []⟩]))))))
def _impl_nat__text_c : PCode := (.seq (.reg [⟨(some 2), (.mv (.const (.string ⟨#[]⟩))), none, false, []⟩]) (.seq (.seq (.reg [⟨(some 7), (.mv (.tmp 0)), none, false, []⟩, ⟨(some 8), (.len (.tmp 7)), none, false, []⟩, ⟨(some 9), (.bin .eql (.tmp 8) (.const (.int .i64 0))), none, false, []⟩]) (.cond (.tmp 9) (.seq (.reg [⟨(some 2), (.mv (.const (.string ⟨#[48]⟩))), none, false, []⟩]) .ret) .skip)) (.seq (.reg [⟨(some 10), (.lit [(.string ⟨#[]⟩)] 0 []), none, false, []⟩, ⟨(some 3), (.mv (.tmp 10)), none, false, []⟩]) (.seq (.block 0 (.loop _impl_nat__text_b0)) (.seq (.reg [⟨(some 36), (.mv (.tmp 3)), none, false, []⟩, ⟨(some 37), (.call 164 [(.tmp 36)]), none, false, []⟩]) (.seq (.reg [⟨(some 38), (.mv (.tmp 3)), none, false, []⟩, ⟨(some 39), (.call 165 [(.tmp 38), (.const (.string ⟨#[]⟩))]), none, false, []⟩, ⟨(some 2), (.mv (.tmp 39)), none, false, []⟩]) .ret))))))
def _impl_nat__text : PFunc := ⟨40, [(.tmp 2)], _impl_nat__text_c⟩
theorem _impl_nat__text_t : tab 143 = some _impl_nat__text := by kernel_rfl
def _impl_nat__small_b0 : PCode := (.seq (.seq (.reg [⟨(some 9), (.mv (.tmp 5)), none, false, []⟩, ⟨(some 10), (.bin .geq (.tmp 9) (.const (.int .i64 0))), none, false, []⟩, ⟨(some 11), (.mv (.tmp 10)), none, false, []⟩, ⟨(some 12), (.mv (.tmp 0)), (some (11, true)), false, []⟩, ⟨(some 13), (.len (.tmp 12)), (some (11, true)), false, []⟩, ⟨(some 14), (.bin .leq (.tmp 13) (.const (.int .i64 2))), (some (11, true)), false, []⟩, ⟨(some 15), (.pick (.tmp 11) (.tmp 14) (.const (.bool false))), none, false, []⟩]) (.cond (.tmp 15) .skip (.exit 0))) (.seq (.block 1 (.reg [⟨(some 18), (.mv (.tmp 4)), none, false, []⟩, ⟨(some 19), (.bin .shl (.tmp 18) (.const (.int .u64 32))), none, false, []⟩, ⟨(some 20), (.mv (.tmp 0)), none, false, []⟩, ⟨(some 21), (.mv (.tmp 5)), none, false, []⟩, ⟨(some 22), (.iaddr 1 (.tmp 20) (.tmp 21)), none, false, []⟩, ⟨(some 23), (.load false 1 (.tmp 22)), none, false, []⟩, ⟨(some 24), (.cvt .u64 (.tmp 23)), none, false, []⟩, ⟨(some 25), (.bin .add (.tmp 19) (.tmp 24)), none, false, []⟩, ⟨(some 4), (.mv (.tmp 25)), none, false, []⟩])) (.reg [⟨(some 16), (.mv (.tmp 5)), none, false, []⟩, ⟨(some 17), (.bin .sub (.tmp 16) (.const (.int .i64 1))), none, false, []⟩, ⟨(some 5), (.mv (.tmp 17)), none, false, []⟩])))
def _impl_nat__small_c : PCode := (.seq (.reg [⟨(some 2), (.mv (.const (.int .u64 0))), none, false, []⟩, ⟨(some 3), (.mv (.const (.bool false))), none, false, []⟩]) (.seq (.reg [⟨(some 4), (.mv (.const (.int .u64 0))), none, false, []⟩]) (.seq (.seq (.reg [⟨(some 6), (.mv (.tmp 0)), none, false, []⟩, ⟨(some 7), (.len (.tmp 6)), none, false, []⟩, ⟨(some 8), (.bin .sub (.tmp 7) (.const (.int .i64 1))), none, false, []⟩, ⟨(some 5), (.mv (.tmp 8)), none, false, []⟩]) (.block 0 (.loop _impl_nat__small_b0))) (.seq (.reg [⟨(some 26), (.mv (.tmp 4)), none, false, []⟩, ⟨(some 27), (.mv (.tmp 0)), none, false, []⟩, ⟨(some 28), (.len (.tmp 27)), none, false, []⟩, ⟨(some 29), (.bin .leq (.tmp 28) (.const (.int .i64 2))), none, false, []⟩, ⟨(some 2), (.mv (.tmp 26)), none, false, []⟩, ⟨(some 3), (.mv (.tmp 29)), none, false, []⟩]) .ret))))
def _impl_nat__small : PFunc := ⟨30, [(.tmp 2), (.tmp 3)], _impl_nat__small_c⟩
theorem _impl_nat__small_t : tab 151 = some _impl_nat__small := by kernel_rfl
def _impl_nat__divSmall_b0 : PCode := (.seq (.seq (.reg [⟨(some 15), (.mv (.tmp 8)), none, false, []⟩, ⟨(some 16), (.bin .geq (.tmp 15) (.const (.int .i64 0))), none, false, []⟩]) (.cond (.tmp 16) .skip (.exit 0))) (.seq (.block 1 (.seq (.reg [⟨(some 19), (.mv (.tmp 7)), none, false, []⟩, ⟨(some 20), (.bin .shl (.tmp 19) (.const (.int .u64 32))), none, false, []⟩, ⟨(some 21), (.mv (.tmp 0)), none, false, []⟩, ⟨(some 22), (.mv (.tmp 8)), none, false, []⟩, ⟨(some 23), (.iaddr 1 (.tmp 21) (.tmp 22)), none, false, []⟩, ⟨(some 24), (.load false 1 (.tmp 23)), none, false, []⟩, ⟨(some 25), (.cvt .u64 (.tmp 24)), none, false, []⟩, ⟨(some 26), (.bin .add (.tmp 20) (.tmp 25)), none, false, []⟩, ⟨(some 7), (.mv (.tmp 26)), none, false, []⟩]) (.seq (.reg [⟨(some 27), (.mv (.tmp 6)), none, false, []⟩, ⟨(some 28), (.mv (.tmp 8)), none, false, []⟩, ⟨(some 29), (.mv (.tmp 7)), none, false, []⟩, ⟨(some 30), (.mv (.tmp 1)), none, false, []⟩, ⟨(some 31), (.cvt .u64 (.tmp 30)), none, false, []⟩, ⟨(some 32), (.bin .quo (.tmp 29) (.tmp 31)), none, false, []⟩, ⟨(some 33), (.cvt .u32 (.tmp 32)), none, false, []⟩, ⟨(some 34), (.iaddr 1 (.tmp 27) (.tmp 28)), none, false, []⟩, ⟨none, (.store 1 (.tmp 34) (.tmp 33)), none, false, []⟩]) (.reg [⟨(some 35), (.mv (.tmp 7)), none, false, []⟩, ⟨(some 36), (.mv (.tmp 1)), none, false, []⟩, ⟨(some 37), (.cvt .u64 (.tmp 36)), none, false, []⟩, ⟨(some 38), (.bin .rem (.tmp 35) (.tmp 37)), none, false, []⟩, ⟨(some 7), (.mv (.tmp 38)), none, false, []⟩])))) (.reg [⟨(some 17), (.mv (.tmp 8)), none, false, []⟩, ⟨(some 18), (.bin .sub (.tmp 17) (.const (.int .i64 1))), none, false, []⟩, ⟨(some 8), (.mv (.tmp 18)), none, false, []⟩])))
def _impl_nat__divSmall_c : PCode := (.seq (.reg [⟨(some 4), (.mv (.const (.slice none 0 0))), none, false, []⟩, ⟨(some 5), (.mv (.const (.int .u32 0))), none, false, []⟩]) (.seq (.reg [⟨(some 9), (.mv (.tmp 0)), none, false, []⟩, ⟨(some 10), (.len (.tmp 9)), none, false, []⟩, ⟨(some 11), (.make [(.int .u32 0)] 4 (.tmp 10) (.tmp 10)), none, false, []⟩, ⟨(some 6), (.mv (.tmp 11)), none, false, []⟩, ⟨(some 7), (.mv (.const (.int .u64 0))), none, false, []⟩]) (.seq (.seq (.reg [⟨(some 12), (.mv (.tmp 0)), none, false, []⟩, ⟨(some 13), (.len (.tmp 12)), none, false, []⟩, ⟨(some 14), (.bin .sub (.tmp 13) (.const (.int .i64 1))), none, false, []⟩, ⟨(some 8), (.mv (.tmp 14)), none, false, []⟩]) (.block 0 (.loop _impl_nat__divSmall_b0))) (.seq (.reg [⟨(some 39), (.mv (.tmp 6)), none, false, []⟩, ⟨(some 40), (.call 140 [(.tmp 39)]), none, false, []⟩, ⟨(some 41), (.mv (.tmp 7)), none, false, []⟩, ⟨(some 42), (.cvt .u32 (.tmp 41)), none, false, []⟩, ⟨(some 4), (.mv (.tmp 40)), none, false, []⟩, ⟨(some 5), (.mv (.tmp 42)), none, false, []⟩]) .ret))))
def _impl_nat__divSmall : PFunc := ⟨43, [(.tmp 4), (.tmp 5)], _impl_nat__divSmall_c⟩
theorem _impl_nat__divSmall_t : tab 158 = some _impl_nat__divSmall := by kernel_rfl
def _impl_nat__shifted_b0 : PCode := (.seq (.reg [⟨(some 16), (.bin .lss (.tmp 15) (.tmp 14)), none, false, []⟩]) (.seq (.cond (.tmp 16) .skip (.exit 0)) (.seq (.block 1 (.seq (.reg [⟨(some 17), (.mv (.tmp 15)), none, false, []⟩, ⟨(some 18), (.iaddr 1 (.tmp 13) (.tmp 15)), none, false, []⟩, ⟨(some 19), (.load false 1 (.tmp 18)), none, false, []⟩, ⟨(some 6), (.mv (.tmp 17)), none, false, []⟩, ⟨(some 7), (.mv (.tmp 19)), none, false, []⟩]) (.seq (.reg [⟨(some 20), (.mv (.tmp 7)), none, false, []⟩, ⟨(some 21), (.cvt .u64 (.tmp 20)), none, false, []⟩, ⟨(some 22), (.mv (.tmp 1)), none, false, []⟩, ⟨(some 23), (.bin .shl (.tmp 21) (.tmp 22)), none, false, []⟩, ⟨(some 8), (.mv (.tmp 23)), none, false, []⟩]) (.seq (.reg [⟨(some 24), (.mv (.tmp 5)), none, false, []⟩, ⟨(some 25), (.mv (.tmp 6)), none, false, []⟩, ⟨(some 26), (.iaddr 1 (.tmp 24) (.tmp 25)), none, false, []⟩, ⟨(some 27), (.load false 1 (.tmp 26)), none, false, []⟩, ⟨(some 28), (.mv (.tmp 8)), none, false, []⟩, ⟨(some 29), (.cvt .u32 (.tmp 28)), none, false, []⟩, ⟨(some 30), (.bin .or (.tmp 27) (.tmp 29)), none, false, []⟩, ⟨(some 31), (.iaddr 1 (.tmp 24) (.tmp 25)), none, false, []⟩, ⟨none, (.store 1 (.tmp 31) (.tmp 30)), none, false, []⟩]) (.reg [⟨(some 32), (.mv (.tmp 5)), none, false, []⟩, ⟨(some 33), (.mv (.tmp 6)), none, false, []⟩, ⟨(some 34), (.bin .add (.tmp 33) (.const (.int .i64 1))), none, false, []⟩, ⟨(some 35), (.mv (.tmp 8)), none, false, []⟩, ⟨(some 36), (.bin .shr (.tmp 35) (.const (.int .u64 32))), none, false, []⟩, ⟨(some 37), (.cvt .u32 (.tmp 36)), none, false, []⟩, ⟨(some 38), (.iaddr 1 (.tmp 32) (.tmp 34)), none, false, []⟩, ⟨none, (.store 1 (.tmp 38) (.tmp 37)), none, false, []⟩]))))) (.reg [⟨(some 39), (.bin .add (.tmp 15) (.const (.int .i64 1))), none, false, []⟩, ⟨(some 15), (.mv (.tmp 39)), none, false, []⟩]))))
def _impl_nat__shifted_c : PCode := (.seq (.reg [⟨(some 4), (.mv (.const (.slice none 0 0))), none, false, []⟩]) (.seq (.reg [⟨(some 9), (.mv (.tmp 0)), none, false, []⟩, ⟨(some 10), (.len (.tmp 9)), none, false, []⟩, ⟨(some 11), (.bin .add (.tmp 10) (.const (.int .i64 1))), none, false, []⟩, ⟨(some 12), (.make [(.int .u32 0)] 4 (.tmp 11) (.tmp 11)), none, false, []⟩, ⟨(some 5), (.mv (.tmp 12)), none, false, []⟩]) (.seq (.seq (.reg [⟨(some 13), (.mv (.tmp 0)), none, false, []⟩, ⟨(some 14), (.len (.tmp 13)), none, false, []⟩, ⟨(some 15), (.mv (.const (.int .i64 0))), none, false, []⟩]) (.block 0 (.loop _impl_nat__shifted_b0))) (.seq (.reg [⟨(some 40), (.mv (.tmp 5)), none, false, []⟩, ⟨(some 4), (.mv (.tmp 40)), none, false, []⟩]) .ret))))
def _impl_nat__shifted : PFunc := ⟨41, [(.tmp 4)], _impl_nat__shifted_c⟩
theorem _impl_nat__shifted_t : tab 160 = some _impl_nat__shifted := by kernel_rfl
def impl_takeAway_b0 : PCode := (.seq (.reg [⟨(some 15), (.bin .lss (.tmp 14) (.tmp 13)), none, false, []⟩]) (.seq (.cond (.tmp 15) .skip (.exit 0)) (.seq (.block 1 (.seq (.reg [⟨(some 16), (.mv (.tmp 14)), none, false, []⟩, ⟨(some 9), (.mv (.tmp 16)), none, false, []⟩]) (.seq (.seq (.reg [⟨(some 17), (.mv (.tmp 9)), none, false, []⟩, ⟨(some 18), (.mv (.tmp 1)), none, false, []⟩, ⟨(some 19), (.len (.tmp 18)), none, false, []⟩, ⟨(some 20), (.bin .lss (.tmp 17) (.tmp 19)), none, false, []⟩]) (.cond (.tmp 20) (.reg [⟨(some 21), (.mv (.tmp 7)), none, false, []⟩, ⟨(some 22), (.mv (.tmp 2)), none, false, []⟩, ⟨(some 23), (.mv (.tmp 1)), none, false, []⟩, ⟨(some 24), (.mv (.tmp 9)), none, false, []⟩, ⟨(some 25), (.iaddr 1 (.tmp 23) (.tmp 24)), none, false, []⟩, ⟨(some 26), (.load false 1 (.tmp 25)), none, false, []⟩, ⟨(some 27), (.cvt .u64 (.tmp 26)), none, false, []⟩, ⟨(some 28), (.bin .mul (.tmp 22) (.tmp 27)), none, false, []⟩, ⟨(some 29), (.bin .add (.tmp 21) (.tmp 28)), none, false, []⟩, ⟨(some 7), (.mv (.tmp 29)), none, false, []⟩]) .skip)) (.seq (.reg [⟨(some 30), (.mv (.tmp 0)), none, false, []⟩, ⟨(some 31), (.mv (.tmp 9)), none, false, []⟩, ⟨(some 32), (.iaddr 1 (.tmp 30) (.tmp 31)), none, false, []⟩, ⟨(some 33), (.load false 1 (.tmp 32)), none, false, []⟩, ⟨(some 34), (.cvt .i64 (.tmp 33)), none, false, []⟩, ⟨(some 35), (.mv (.tmp 7)), none, false, []⟩, ⟨(some 36), (.cvt .u32 (.tmp 35)), none, false, []⟩, ⟨(some 37), (.cvt .i64 (.tmp 36)), none, false, []⟩, ⟨(some 38), (.bin .sub (.tmp 34) (.tmp 37)), none, false, []⟩, ⟨(some 39), (.mv (.tmp 8)), none, false, []⟩, ⟨(some 40), (.bin .sub (.tmp 38) (.tmp 39)), none, false, []⟩, ⟨(some 10), (.mv (.tmp 40)), none, false, []⟩]) (.seq (.reg [⟨(some 41), (.mv (.tmp 7)), none, false, []⟩, ⟨(some 42), (.bin .shr (.tmp 41) (.const (.int .u64 32))), none, false, []⟩, ⟨(some 7), (.mv (.tmp 42)), none, false, []⟩]) (.seq (.reg [⟨(some 8), (.mv (.const (.int .i64 0))), none, false, []⟩]) (.seq (.seq (.reg [⟨(some 43), (.mv (.tmp 10)), none, false, []⟩, ⟨(some 44), (.bin .lss (.tmp 43) (.const (.int .i64 0))), none, false, []⟩]) (.cond (.tmp 44) (.reg [⟨(some 8), (.mv (.const (.int .i64 1))), none, false, []⟩]) .skip)) (.reg [⟨(some 45), (.mv (.tmp 0)), none, false, []⟩, ⟨(some 46), (.mv (.tmp 9)), none, false, []⟩, ⟨(some 47), (.mv (.tmp 10)), none, false, []⟩, ⟨(some 48), (.cvt .u32 (.tmp 47)), none, false, []⟩, ⟨(some 49), (.iaddr 1 (.tmp 45) (.tmp 46)), none, false, []⟩, ⟨none, (.store 1 (.tmp 49) (.tmp 48)), none, false, []⟩])))))))) (.reg [⟨(some 50), (.bin .add (.tmp 14) (.const (.int .i64 1))), none, false, []⟩, ⟨(some 14), (.mv (.tmp 50)), none, false, []⟩]))))
def impl_takeAway_b1 : PCode := (.seq (.reg [⟨(some 60), (.bin .lss (.tmp 59) (.tmp 58)), none, false, []⟩]) (.seq (.cond (.tmp 60) .skip (.exit 2)) (.seq (.block 3 (.seq (.reg [⟨(some 61), (.mv (.tmp 59)), none, false, []⟩, ⟨(some 11), (.mv (.tmp 61)), none, false, []⟩]) (.seq (.reg [⟨(some 62), (.mv (.tmp 7)), none, false, []⟩, ⟨(some 63), (.mv (.tmp 0)), none, false, []⟩, ⟨(some 64), (.mv (.tmp 11)), none, false, []⟩, ⟨(some 65), (.iaddr 1 (.tmp 63) (.tmp 64)), none, false, []⟩, ⟨(some 66), (.load false 1 (.tmp 65)), none, false, []⟩, ⟨(some 67), (.cvt .u64 (.tmp 66)), none, false, []⟩, ⟨(some 68), (.bin .add (.tmp 62) (.tmp 67)), none, false, []⟩, ⟨(some 7), (.mv (.tmp 68)), none, false, []⟩]) (.seq (.seq (.reg [⟨(some 69), (.mv (.tmp 11)), none, false, []⟩, ⟨(some 70), (.mv (.tmp 1)), none, false, []⟩, ⟨(some 71), (.len (.tmp 70)), none, false, []⟩, ⟨(some 72), (.bin .lss (.tmp 69) (.tmp 71)), none, false, []⟩]) (.cond (.tmp 72) (.reg [⟨(some 73), (.mv (.tmp 7)), none, false, []⟩, ⟨(some 74), (.mv (.tmp 1)), none, false, []⟩, ⟨(some 75), (.mv (.tmp 11)), none, false, []⟩, ⟨(some 76), (.iaddr 1 (.tmp 74) (.tmp 75)), none, false, []⟩, ⟨(some 77), (.load false 1 (.tmp 76)), none, false, []⟩, ⟨(some 78), (.cvt .u64 (.tmp 77)), none, false, []⟩, ⟨(some 79), (.bin .add (.tmp 73) (.tmp 78)), none, false, []⟩, ⟨(some 7), (.mv (.tmp 79)), none, false, []⟩]) .skip)) (.seq (.reg [⟨(some 80), (.mv (.tmp 0)), none, false, []⟩, ⟨(some 81), (.mv (.tmp 11)), none, false, []⟩, ⟨(some 82), (.mv (.tmp 7)), none, false, []⟩, ⟨(some 83), (.cvt .u32 (.tmp 82)), none, false, []⟩, ⟨(some 84), (.iaddr 1 (.tmp 80) (.tmp 81)), none, false, []⟩, ⟨none, (.store 1 (.tmp 84) (.tmp 83)), none, false, []⟩]) (.reg [⟨(some 85), (.mv (.tmp 7)), none, false, []⟩, ⟨(some 86), (.bin .shr (.tmp 85) (.const (.int .u64 32))), none, false, []⟩, ⟨(some 7), (.mv (.tmp 86)), none, false, []⟩])))))) (.reg [⟨(some 87), (.bin .add (.tmp 59) (.const (.int .i64 1))), none, false, []⟩, ⟨(some 59), (.mv (.tmp 87)), none, false, []⟩]))))
def impl_takeAway_c : PCode := (.seq (.reg [⟨(some 6), (.mv (.const (.bool false))), none, false, []⟩]) (.seq (.reg [⟨(some 7), (.mv (.const (.int .u64 0))), none, false, []⟩, ⟨(some 8), (.mv (.const (.int .i64 0))), none, false, []⟩]) (.seq (.seq (.reg [⟨(some 12), (.mv (.tmp 0)), none, false, []⟩, ⟨(some 13), (.len (.tmp 12)), none, false, []⟩, ⟨(some 14), (.mv (.const (.int .i64 0))), none, false, []⟩]) (.block 0 (.loop impl_takeAway_b0))) (.seq (.seq (.reg [⟨(some 51), (.mv (.tmp 8)), none, false, []⟩, ⟨(some 52), (.bin .eql (.tmp 51) (.const (.int .i64 0))), none, false, []⟩, ⟨(some 53), (.mv (.tmp 52)), none, false, []⟩, ⟨(some 54), (.mv (.tmp 7)), (some (53, true)), false, []⟩, ⟨(some 55), (.bin .eql (.tmp 54) (.const (.int .u64 0))), (some (53, true)), false, []⟩, ⟨(some 56), (.pick (.tmp 53) (.tmp 55) (.const (.bool false))), none, false, []⟩]) (.cond (.tmp 56) (.seq (.reg [⟨(some 6), (.mv (.const (.bool false))), none, false, []⟩]) .ret) .skip)) (.seq (.reg [⟨(some 7), (.mv (.const (.int .u64 0))), none, false, []⟩]) (.seq (.seq (.reg [⟨(some 57), (.mv (.tmp 0)), none, false, []⟩, ⟨(some 58), (.len (.tmp 57)), none, false, []⟩, ⟨(some 59), (.mv (.const (.int .i64 0))), none, false, []⟩]) (.block 2 (.loop impl_takeAway_b1))) (.seq (.reg [⟨(some 6), (.mv (.const (.bool true))), none, false, []⟩]) .ret)))))))
def impl_takeAway : PFunc := ⟨88, [(.tmp 6)], impl_takeAway_c⟩
theorem impl_takeAway_t : tab 161 = some impl_takeAway := by kernel_rfl
end Go.PM

/- The pure machine's form of functions, as the settings give it: S5. -/
namespace Go.PM
def spec_MeanWait_b0 : PCode := (.seq (.reg [⟨(some 28), (.bin .lss (.tmp 27) (.tmp 26)), none, false, []⟩]) (.seq (.cond (.tmp 28) .skip (.exit 0)) (.seq (.block 1 (.seq (.reg [⟨(some 29), (.mv (.tmp 27)), none, false, []⟩, ⟨(some 10), (.mv (.tmp 29)), none, false, []⟩]) (.reg [⟨(some 30), (.mv (.tmp 8)), none, false, []⟩, ⟨(some 31), (.mv (.tmp 9)), none, false, []⟩, ⟨(some 32), (.mv (.tmp 10)), none, false, []⟩, ⟨(some 33), (.iaddr 1 (.tmp 31) (.tmp 32)), none, false, []⟩, ⟨(some 34), (.load false 1 (.tmp 33)), none, false, []⟩, ⟨(some 35), (.bin .add (.tmp 30) (.tmp 34)), none, false, []⟩, ⟨(some 8), (.mv (.tmp 35)), none, false, []⟩]))) (.reg [⟨(some 36), (.bin .add (.tmp 27) (.const (.int .i64 1))), none, false, []⟩, ⟨(some 27), (.mv (.tmp 36)), none, false, []⟩]))))
def spec_MeanWait_c : PCode := (.seq (.reg [⟨(some 6), (.mv (.const (.string ⟨#[]⟩))), none, false, []⟩, ⟨(some 7), (.mv (.const (.bool false))), none, false, []⟩]) (.seq (.seq (.reg [⟨(some 11), (.mv (.tmp 0)), none, false, []⟩, ⟨(some 12), (.mv (.tmp 1)), none, false, []⟩, ⟨(some 13), (.mv (.tmp 2)), none, false, []⟩, ⟨(some 14), (.call 39 [(.tmp 11), (.tmp 12), (.tmp 13)]), none, false, []⟩, ⟨(some 15), (.un .not (.tmp 14)), none, false, []⟩, ⟨(some 16), (.mv (.tmp 15)), none, false, []⟩, ⟨(some 17), (.mv (.tmp 2)), (some (16, false)), false, []⟩, ⟨(some 18), (.len (.tmp 17)), (some (16, false)), false, []⟩, ⟨(some 19), (.bin .eql (.tmp 18) (.const (.int .i64 0))), (some (16, false)), false, []⟩, ⟨(some 20), (.pick (.tmp 16) (.const (.bool true)) (.tmp 19)), none, false, []⟩]) (.cond (.tmp 20) (.seq (.reg [⟨(some 6), (.mv (.const (.string ⟨#[]⟩))), none, false, []⟩, ⟨(some 7), (.mv (.const (.bool false))), none, false, []⟩]) .ret) .skip)) (.seq (.reg [⟨(some 8), (.mv (.const (.int .i64 0))), none, false, []⟩]) (.seq (.reg [⟨(some 21), (.mv (.tmp 0)), none, false, []⟩, ⟨(some 22), (.mv (.tmp 1)), none, false, []⟩, ⟨(some 23), (.mv (.tmp 2)), none, false, []⟩, ⟨(some 24), (.call 40 [(.tmp 21), (.tmp 22), (.tmp 23)]), none, false, []⟩, ⟨(some 9), (.mv (.tmp 24)), none, false, []⟩]) (.seq (.seq (.reg [⟨(some 25), (.mv (.tmp 9)), none, false, []⟩, ⟨(some 26), (.len (.tmp 25)), none, false, []⟩, ⟨(some 27), (.mv (.const (.int .i64 0))), none, false, []⟩]) (.block 0 (.loop spec_MeanWait_b0))) (.seq (.reg [⟨(some 37), (.mv (.tmp 8)), none, false, []⟩, ⟨(some 38), (.mv (.tmp 2)), none, false, []⟩, ⟨(some 39), (.len (.tmp 38)), none, false, []⟩, ⟨(some 40), (.call 41 [(.tmp 37), (.tmp 39)]), none, false, []⟩, ⟨(some 41), (.ext (.tmp 40) 0), none, false, []⟩, ⟨(some 42), (.ext (.tmp 40) 1), none, false, []⟩, ⟨(some 6), (.mv (.tmp 41)), none, false, []⟩, ⟨(some 7), (.mv (.tmp 42)), none, false, []⟩]) .ret))))))
def spec_MeanWait : PFunc := ⟨43, [(.tmp 6), (.tmp 7)], spec_MeanWait_c⟩
theorem spec_MeanWait_t : tab 9 = some spec_MeanWait := by kernel_rfl
def spec_l05Fits_c : PCode := (.seq (.reg [⟨(some 6), (.mv (.const (.bool false))), none, false, []⟩]) (.seq (.reg [⟨(some 7), (.mv (.tmp 0)), none, false, []⟩, ⟨(some 8), (.call 94 [(.tmp 7), (.const (.int .i64 0)), (.const (.int .i64 3))]), none, false, []⟩, ⟨(some 9), (.mv (.tmp 8)), none, false, []⟩, ⟨(some 10), (.mv (.tmp 1)), (some (9, true)), false, []⟩, ⟨(some 11), (.call 94 [(.tmp 10), (.const (.int .i64 1)), (.const (.int .i64 8))]), (some (9, true)), false, []⟩, ⟨(some 12), (.pick (.tmp 9) (.tmp 11) (.const (.bool false))), none, false, []⟩, ⟨(some 13), (.mv (.tmp 12)), none, false, []⟩, ⟨(some 14), (.mv (.tmp 2)), (some (13, true)), false, []⟩, ⟨(some 15), (.call 49 [(.tmp 14)]), (some (13, true)), false, []⟩, ⟨(some 16), (.pick (.tmp 13) (.tmp 15) (.const (.bool false))), none, false, []⟩, ⟨(some 6), (.mv (.tmp 16)), none, false, []⟩]) .ret))
def spec_l05Fits : PFunc := ⟨17, [(.tmp 6)], spec_l05Fits_c⟩
theorem spec_l05Fits_t : tab 39 = some spec_l05Fits := by kernel_rfl
def spec_l05Waits_b0 : PCode := (.seq (.reg [⟨(some 16), (.bin .lss (.tmp 15) (.tmp 14)), none, false, []⟩]) (.seq (.cond (.tmp 16) .skip (.exit 0)) (.seq (.block 1 (.seq (.reg [⟨(some 17), (.mv (.tmp 15)), none, false, []⟩, ⟨(some 8), (.mv (.tmp 17)), none, false, []⟩]) (.reg [⟨(some 18), (.mv (.tmp 7)), none, false, []⟩, ⟨(some 19), (.mv (.tmp 8)), none, false, []⟩, ⟨(some 20), (.iaddr 1 (.tmp 18) (.tmp 19)), none, false, []⟩, ⟨(some 21), (.load false 1 (.tmp 20)), none, false, []⟩, ⟨(some 22), (.mv (.tmp 2)), none, false, []⟩, ⟨(some 23), (.mv (.tmp 8)), none, false, []⟩, ⟨(some 24), (.iaddr 3 (.tmp 22) (.tmp 23)), none, false, []⟩, ⟨(some 25), (.faddr 0 (.tmp 24)), none, false, []⟩, ⟨(some 26), (.load false 1 (.tmp 25)), none, false, []⟩, ⟨(some 27), (.bin .sub (.tmp 21) (.tmp 26)), none, false, []⟩, ⟨(some 28), (.iaddr 1 (.tmp 18) (.tmp 19)), none, false, []⟩, ⟨none, (.store 1 (.tmp 28) (.tmp 27)), none, false, []⟩]))) (.reg [⟨(some 29), (.bin .add (.tmp 15) (.const (.int .i64 1))), none, false, []⟩, ⟨(some 15), (.mv (.tmp 29)), none, false, []⟩]))))
def spec_l05Waits_c : PCode := (.seq (.reg [⟨(some 6), (.mv (.const (.slice none 0 0))), none, false, []⟩]) (.seq (.reg [⟨(some 9), (.mv (.tmp 0)), none, false, []⟩, ⟨(some 10), (.mv (.tmp 1)), none, false, []⟩, ⟨(some 11), (.mv (.tmp 2)), none, false, []⟩, ⟨(some 12), (.call 95 [(.tmp 9), (.tmp 10), (.tmp 11)]), none, false, []⟩, ⟨(some 7), (.mv (.tmp 12)), none, false, []⟩]) (.seq (.seq (.reg [⟨(some 13), (.mv (.tmp 7)), none, false, []⟩, ⟨(some 14), (.len (.tmp 13)), none, false, []⟩, ⟨(some 15), (.mv (.const (.int .i64 0))), none, false, []⟩]) (.block 0 (.loop spec_l05Waits_b0))) (.seq (.reg [⟨(some 30), (.mv (.tmp 7)), none, false, []⟩, ⟨(some 6), (.mv (.tmp 30)), none, false, []⟩]) .ret))))
def spec_l05Waits : PFunc := ⟨31, [(.tmp 6)], spec_l05Waits_c⟩
theorem spec_l05Waits_t : tab 40 = some spec_l05Waits := by kernel_rfl
def spec_l05Are_b0 : PCode := (.seq (.reg [⟨(some 8), (.bin .lss (.tmp 7) (.tmp 6)), none, false, []⟩]) (.seq (.cond (.tmp 8) .skip (.exit 0)) (.seq (.block 1 (.seq (.reg [⟨(some 9), (.mv (.tmp 7)), none, false, []⟩, ⟨(some 3), (.mv (.tmp 9)), none, false, []⟩]) (.seq (.reg [⟨(some 10), (.mv (.tmp 0)), none, false, []⟩, ⟨(some 11), (.mv (.tmp 3)), none, false, []⟩, ⟨(some 12), (.iaddr 3 (.tmp 10) (.tmp 11)), none, false, []⟩, ⟨(some 13), (.load true 3 (.tmp 12)), none, false, []⟩, ⟨(some 4), (.new [(.int .i64 0), (.int .i64 0), (.int .i64 0)]), none, false, []⟩, ⟨none, (.store 3 (.tmp 4) (.tmp 13)), none, false, []⟩]) (.seq (.reg [⟨(some 14), (.faddr 0 (.tmp 4)), none, false, []⟩, ⟨(some 15), (.load false 1 (.tmp 14)), none, false, []⟩, ⟨(some 16), (.call 94 [(.tmp 15), (.const (.int .i64 0)), (.const (.int .i64 10000))]), none, true, []⟩, ⟨(some 17), (.un .not (.tmp 16)), none, false, []⟩, ⟨(some 18), (.mv (.tmp 17)), none, false, []⟩, ⟨(some 19), (.faddr 1 (.tmp 4)), (some (18, false)), false, []⟩, ⟨(some 20), (.load false 1 (.tmp 19)), (some (18, false)), false, []⟩, ⟨(some 21), (.call 94 [(.tmp 20), (.const (.int .i64 1)), (.const (.int .i64 1000))]), (some (18, false)), true, []⟩, ⟨(some 22), (.un .not (.tmp 21)), (some (18, false)), false, []⟩, ⟨(some 23), (.pick (.tmp 18) (.const (.bool true)) (.tmp 22)), none, false, []⟩, ⟨(some 24), (.mv (.tmp 23)), none, false, []⟩, ⟨(some 25), (.faddr 2 (.tmp 4)), (some (24, false)), false, []⟩, ⟨(some 26), (.load false 1 (.tmp 25)), (some (24, false)), false, []⟩, ⟨(some 27), (.call 94 [(.tmp 26), (.const (.int .i64 0)), (.const (.int .i64 9))]), (some (24, false)), true, []⟩, ⟨(some 28), (.un .not (.tmp 27)), (some (24, false)), false, []⟩, ⟨(some 29), (.pick (.tmp 24) (.const (.bool true)) (.tmp 28)), none, false, []⟩, ⟨(some 30), (.mv (.tmp 29)), none, false, []⟩, ⟨(some 31), (.mv (.tmp 3)), (some (30, false)), false, []⟩, ⟨(some 32), (.bin .gtr (.tmp 31) (.const (.int .i64 0))), (some (30, false)), false, []⟩, ⟨(some 33), (.mv (.tmp 32)), (some (30, false)), false, []⟩, ⟨(some 34), (.mv (.tmp 0)), (some (33, true)), false, []⟩, ⟨(some 35), (.mv (.tmp 3)), (some (33, true)), false, []⟩, ⟨(some 36), (.bin .sub (.tmp 35) (.const (.int .i64 1))), (some (33, true)), false, []⟩, ⟨(some 37), (.iaddr 3 (.tmp 34) (.tmp 36)), (some (33, true)), false, []⟩, ⟨(some 38), (.faddr 0 (.tmp 37)), (some (33, true)), false, []⟩, ⟨(some 39), (.load false 1 (.tmp 38)), (some (33, true)), false, []⟩, ⟨(some 40), (.faddr 0 (.tmp 4)), (some (33, true)), false, []⟩, ⟨(some 41), (.load false 1 (.tmp 40)), (some (33, true)), false, []⟩, ⟨(some 42), (.bin .gtr (.tmp 39) (.tmp 41)), (some (33, true)), false, []⟩, ⟨(some 43), (.pick (.tmp 33) (.tmp 42) (.const (.bool false))), (some (30, false)), false, []⟩, ⟨(some 44), (.pick (.tmp 30) (.const (.bool true)) (.tmp 43)), none, false, []⟩]) (.cond (.tmp 44) (.seq (.reg [⟨(some 2), (.mv (.const (.bool false))), none, false, []⟩]) .ret) .skip))))) (.reg [⟨(some 45), (.bin .add (.tmp 7) (.const (.int .i64 1))), none, false, []⟩, ⟨(some 7), (.mv (.tmp 45)), none, false, []⟩]))))
def spec_l05Are_c : PCode := (.seq (.reg [⟨(some 2), (.mv (.const (.bool false))), none, false, []⟩]) (.seq (.seq (.reg [⟨(some 5), (.mv (.tmp 0)), none, false, []⟩, ⟨(some 6), (.len (.tmp 5)), none, false, []⟩, ⟨(some 7), (.mv (.const (.int .i64 0))), none, false, []⟩]) (.block 0 (.loop spec_l05Are_b0))) (.seq (.reg [⟨(some 46), (.mv (.tmp 0)), none, false, []⟩, ⟨(some 47), (.len (.tmp 46)), none, false, []⟩, ⟨(some 48), (.bin .leq (.tmp 47) (.const (.int .i64 24))), none, false, []⟩, ⟨(some 2), (.mv (.tmp 48)), none, false, []⟩]) .ret)))
def spec_l05Are : PFunc := ⟨49, [(.tmp 2)], spec_l05Are_c⟩
theorem spec_l05Are_t : tab 49 = some spec_l05Are := by kernel_rfl
def spec_l05Starts_b0 : PCode := (.seq (.reg [⟨(some 17), (.bin .lss (.tmp 16) (.tmp 15)), none, false, []⟩]) (.seq (.cond (.tmp 17) .skip (.exit 0)) (.seq (.block 1 (.seq (.reg [⟨(some 18), (.mv (.tmp 16)), none, false, []⟩, ⟨(some 8), (.mv (.tmp 18)), none, false, []⟩]) (.reg [⟨(some 19), (.mv (.tmp 7)), none, false, []⟩, ⟨(some 20), (.mv (.tmp 8)), none, false, []⟩, ⟨(some 21), (.iaddr 1 (.tmp 19) (.tmp 20)), none, false, []⟩, ⟨none, (.store 1 (.tmp 21) (.const (.int .i64 (-1)))), none, false, []⟩]))) (.reg [⟨(some 22), (.bin .add (.tmp 16) (.const (.int .i64 1))), none, false, []⟩, ⟨(some 16), (.mv (.tmp 22)), none, false, []⟩]))))
def spec_l05Starts_b1 : PCode := (.seq (.seq (.reg [⟨(some 25), (.mv (.tmp 2)), none, false, []⟩, ⟨(some 26), (.mv (.tmp 7)), none, false, []⟩, ⟨(some 27), (.mv (.tmp 9)), none, false, []⟩, ⟨(some 28), (.call 132 [(.tmp 25), (.tmp 26), (.tmp 27)]), none, false, []⟩, ⟨(some 29), (.mv (.tmp 1)), none, false, []⟩, ⟨(some 30), (.bin .lss (.tmp 28) (.tmp 29)), none, false, []⟩]) (.cond (.tmp 30) .skip (.exit 4))) (.block 5 (.seq (.reg [⟨(some 31), (.mv (.tmp 0)), none, false, []⟩, ⟨(some 32), (.mv (.tmp 2)), none, false, []⟩, ⟨(some 33), (.mv (.tmp 7)), none, false, []⟩, ⟨(some 34), (.mv (.tmp 9)), none, false, []⟩, ⟨(some 35), (.call 133 [(.tmp 31), (.tmp 32), (.tmp 33), (.tmp 34)]), none, false, []⟩, ⟨(some 10), (.mv (.tmp 35)), none, false, []⟩]) (.seq (.seq (.reg [⟨(some 36), (.mv (.tmp 10)), none, false, []⟩, ⟨(some 37), (.bin .lss (.tmp 36) (.const (.int .i64 0))), none, false, []⟩]) (.cond (.tmp 37) (.exit 4) .skip)) (.reg [⟨(some 38), (.mv (.tmp 7)), none, false, []⟩, ⟨(some 39), (.mv (.tmp 10)), none, false, []⟩, ⟨(some 40), (.mv (.tmp 9)), none, false, []⟩, ⟨(some 41), (.iaddr 1 (.tmp 38) (.tmp 39)), none, false, []⟩, ⟨none, (.store 1 (.tmp 41) (.tmp 40)), none, false, []⟩])))))
def spec_l05Starts_b2 : PCode := (.seq (.seq (.reg [⟨(some 23), (.mv (.tmp 9)), none, false, []⟩, ⟨(some 24), (.bin .geq (.tmp 23) (.const (.int .i64 0))), none, false, []⟩]) (.cond (.tmp 24) .skip (.exit 2))) (.block 3 (.seq (.block 4 (.loop spec_l05Starts_b1)) (.reg [⟨(some 42), (.mv (.tmp 2)), none, false, []⟩, ⟨(some 43), (.mv (.tmp 7)), none, false, []⟩, ⟨(some 44), (.mv (.tmp 9)), none, false, []⟩, ⟨(some 45), (.call 134 [(.tmp 42), (.tmp 43), (.tmp 44)]), none, false, []⟩, ⟨(some 9), (.mv (.tmp 45)), none, false, []⟩]))))
def spec_l05Starts_c : PCode := (.seq (.reg [⟨(some 6), (.mv (.const (.slice none 0 0))), none, false, []⟩]) (.seq (.reg [⟨(some 11), (.mv (.tmp 2)), none, false, []⟩, ⟨(some 12), (.len (.tmp 11)), none, false, []⟩, ⟨(some 13), (.make [(.int .i64 0)] 8 (.tmp 12) (.tmp 12)), none, false, []⟩, ⟨(some 7), (.mv (.tmp 13)), none, false, []⟩]) (.seq (.seq (.reg [⟨(some 14), (.mv (.tmp 7)), none, false, []⟩, ⟨(some 15), (.len (.tmp 14)), none, false, []⟩, ⟨(some 16), (.mv (.const (.int .i64 0))), none, false, []⟩]) (.block 0 (.loop spec_l05Starts_b0))) (.seq (.reg [⟨(some 9), (.mv (.const (.int .i64 0))), none, false, []⟩]) (.seq (.block 2 (.loop spec_l05Starts_b2)) (.seq (.reg [⟨(some 46), (.mv (.tmp 7)), none, false, []⟩, ⟨(some 6), (.mv (.tmp 46)), none, false, []⟩]) .ret))))))
def spec_l05Starts : PFunc := ⟨47, [(.tmp 6)], spec_l05Starts_c⟩
theorem spec_l05Starts_t : tab 95 = some spec_l05Starts := by kernel_rfl
def spec_l05Busy_b0 : PCode := (.seq (.reg [⟨(some 12), (.bin .lss (.tmp 11) (.tmp 10)), none, false, []⟩]) (.seq (.cond (.tmp 12) .skip (.exit 0)) (.seq (.block 1 (.seq (.reg [⟨(some 13), (.mv (.tmp 11)), none, false, []⟩, ⟨(some 8), (.mv (.tmp 13)), none, false, []⟩]) (.seq (.reg [⟨(some 14), (.mv (.tmp 1)), none, false, []⟩, ⟨(some 15), (.mv (.tmp 8)), none, false, []⟩, ⟨(some 16), (.iaddr 1 (.tmp 14) (.tmp 15)), none, false, []⟩, ⟨(some 17), (.load false 1 (.tmp 16)), none, false, []⟩, ⟨(some 18), (.bin .geq (.tmp 17) (.const (.int .i64 0))), none, false, []⟩, ⟨(some 19), (.mv (.tmp 18)), none, false, []⟩, ⟨(some 20), (.mv (.tmp 1)), (some (19, true)), false, []⟩, ⟨(some 21), (.mv (.tmp 8)), (some (19, true)), false, []⟩, ⟨(some 22), (.iaddr 1 (.tmp 20) (.tmp 21)), (some (19, true)), false, []⟩, ⟨(some 23), (.load false 1 (.tmp 22)), (some (19, true)), false, []⟩, ⟨(some 24), (.mv (.tmp 2)), (some (19, true)), false, []⟩, ⟨(some 25), (.bin .leq (.tmp 23) (.tmp 24)), (some (19, true)), false, []⟩, ⟨(some 26), (.pick (.tmp 19) (.tmp 25) (.const (.bool false))), none, false, []⟩, ⟨(some 27), (.mv (.tmp 26)), none, false, []⟩, ⟨(some 28), (.mv (.tmp 1)), (some (27, true)), false, []⟩, ⟨(some 29), (.mv (.tmp 8)), (some (27, true)), false, []⟩, ⟨(some 30), (.iaddr 1 (.tmp 28) (.tmp 29)), (some (27, true)), false, []⟩, ⟨(some 31), (.load false 1 (.tmp 30)), (some (27, true)), false, []⟩, ⟨(some 32), (.mv (.tmp 0)), (some (27, true)), false, []⟩, ⟨(some 33), (.mv (.tmp 8)), (some (27, true)), false, []⟩, ⟨(some 34), (.iaddr 3 (.tmp 32) (.tmp 33)), (some (27, true)), false, []⟩, ⟨(some 35), (.faddr 1 (.tmp 34)), (some (27, true)), false, []⟩, ⟨(some 36), (.load false 1 (.tmp 35)), (some (27, true)), false, []⟩, ⟨(some 37), (.bin .add (.tmp 31) (.tmp 36)), (some (27, true)), false, []⟩, ⟨(some 38), (.mv (.tmp 2)), (some (27, true)), false, []⟩, ⟨(some 39), (.bin .gtr (.tmp 37) (.tmp 38)), (some (27, true)), false, []⟩, ⟨(some 40), (.pick (.tmp 27) (.tmp 39) (.const (.bool false))), none, false, []⟩]) (.cond (.tmp 40) (.reg [⟨(some 41), (.mv (.tmp 7)), none, false, []⟩, ⟨(some 42), (.bin .add (.tmp 41) (.const (.int .i64 1))), none, false, []⟩, ⟨(some 7), (.mv (.tmp 42)), none, false, []⟩]) .skip)))) (.reg [⟨(some 43), (.bin .add (.tmp 11) (.const (.int .i64 1))), none, false, []⟩, ⟨(some 11), (.mv (.tmp 43)), none, false, []⟩]))))
def spec_l05Busy_c : PCode := (.seq (.reg [⟨(some 6), (.mv (.const (.int .i64 0))), none, false, []⟩]) (.seq (.reg [⟨(some 7), (.mv (.const (.int .i64 0))), none, false, []⟩]) (.seq (.seq (.reg [⟨(some 9), (.mv (.tmp 0)), none, false, []⟩, ⟨(some 10), (.len (.tmp 9)), none, false, []⟩, ⟨(some 11), (.mv (.const (.int .i64 0))), none, false, []⟩]) (.block 0 (.loop spec_l05Busy_b0))) (.seq (.reg [⟨(some 44), (.mv (.tmp 7)), none, false, []⟩, ⟨(some 6), (.mv (.tmp 44)), none, false, []⟩]) .ret))))
def spec_l05Busy : PFunc := ⟨45, [(.tmp 6)], spec_l05Busy_c⟩
theorem spec_l05Busy_t : tab 132 = some spec_l05Busy := by kernel_rfl
def spec_l05Next_b0 : PCode := (.seq (.reg [⟨(some 14), (.bin .lss (.tmp 13) (.tmp 12)), none, false, []⟩]) (.seq (.cond (.tmp 14) .skip (.exit 0)) (.seq (.block 1 (.seq (.reg [⟨(some 15), (.mv (.tmp 13)), none, false, []⟩, ⟨(some 10), (.mv (.tmp 15)), none, false, []⟩]) (.seq (.seq (.reg [⟨(some 16), (.mv (.tmp 2)), none, false, []⟩, ⟨(some 17), (.mv (.tmp 10)), none, false, []⟩, ⟨(some 18), (.iaddr 1 (.tmp 16) (.tmp 17)), none, false, []⟩, ⟨(some 19), (.load false 1 (.tmp 18)), none, false, []⟩, ⟨(some 20), (.bin .geq (.tmp 19) (.const (.int .i64 0))), none, false, []⟩, ⟨(some 21), (.mv (.tmp 20)), none, false, []⟩, ⟨(some 22), (.mv (.tmp 1)), (some (21, false)), false, []⟩, ⟨(some 23), (.mv (.tmp 10)), (some (21, false)), false, []⟩, ⟨(some 24), (.iaddr 3 (.tmp 22) (.tmp 23)), (some (21, false)), false, []⟩, ⟨(some 25), (.faddr 0 (.tmp 24)), (some (21, false)), false, []⟩, ⟨(some 26), (.load false 1 (.tmp 25)), (some (21, false)), false, []⟩, ⟨(some 27), (.mv (.tmp 3)), (some (21, false)), false, []⟩, ⟨(some 28), (.bin .gtr (.tmp 26) (.tmp 27)), (some (21, false)), false, []⟩, ⟨(some 29), (.pick (.tmp 21) (.const (.bool true)) (.tmp 28)), none, false, []⟩]) (.cond (.tmp 29) (.exit 1) .skip)) (.seq (.reg [⟨(some 30), (.mv (.tmp 9)), none, false, []⟩, ⟨(some 31), (.bin .lss (.tmp 30) (.const (.int .i64 0))), none, false, []⟩, ⟨(some 32), (.mv (.tmp 31)), none, false, []⟩, ⟨(some 33), (.mv (.tmp 0)), (some (32, false)), false, []⟩, ⟨(some 34), (.mv (.tmp 1)), (some (32, false)), false, []⟩, ⟨(some 35), (.mv (.tmp 10)), (some (32, false)), false, []⟩, ⟨(some 36), (.mv (.tmp 9)), (some (32, false)), false, []⟩, ⟨(some 37), (.call 152 [(.tmp 33), (.tmp 34), (.tmp 35), (.tmp 36)]), (some (32, false)), false, []⟩, ⟨(some 38), (.pick (.tmp 32) (.const (.bool true)) (.tmp 37)), none, false, []⟩]) (.cond (.tmp 38) (.reg [⟨(some 39), (.mv (.tmp 10)), none, false, []⟩, ⟨(some 9), (.mv (.tmp 39)), none, false, []⟩]) .skip))))) (.reg [⟨(some 40), (.bin .add (.tmp 13) (.const (.int .i64 1))), none, false, []⟩, ⟨(some 13), (.mv (.tmp 40)), none, false, []⟩]))))
def spec_l05Next_c : PCode := (.seq (.reg [⟨(some 8), (.mv (.const (.int .i64 0))), none, false, []⟩]) (.seq (.reg [⟨(some 9), (.mv (.const (.int .i64 (-1)))), none, false, []⟩]) (.seq (.seq (.reg [⟨(some 11), (.mv (.tmp 1)), none, false, []⟩, ⟨(some 12), (.len (.tmp 11)), none, false, []⟩, ⟨(some 13), (.mv (.const (.int .i64 0))), none, false, []⟩]) (.block 0 (.loop spec_l05Next_b0))) (.seq (.reg [⟨(some 41), (.mv (.tmp 9)), none, false, []⟩, ⟨(some 8), (.mv (.tmp 41)), none, false, []⟩]) .ret))))
def spec_l05Next : PFunc := ⟨42, [(.tmp 8)], spec_l05Next_c⟩
theorem spec_l05Next_t : tab 133 = some spec_l05Next := by kernel_rfl
def spec_l05Later_b0 : PCode := (.seq (.reg [⟨(some 13), (.bin .lss (.tmp 12) (.tmp 11)), none, false, []⟩]) (.seq (.cond (.tmp 13) .skip (.exit 0)) (.seq (.block 1 (.seq (.reg [⟨(some 14), (.mv (.tmp 12)), none, false, []⟩, ⟨(some 8), (.mv (.tmp 14)), none, false, []⟩]) (.seq (.reg [⟨(some 15), (.mv (.tmp 0)), none, false, []⟩, ⟨(some 16), (.mv (.tmp 8)), none, false, []⟩, ⟨(some 17), (.iaddr 3 (.tmp 15) (.tmp 16)), none, false, []⟩, ⟨(some 18), (.faddr 0 (.tmp 17)), none, false, []⟩, ⟨(some 19), (.load false 1 (.tmp 18)), none, false, []⟩, ⟨(some 9), (.mv (.tmp 19)), none, false, []⟩]) (.seq (.seq (.reg [⟨(some 20), (.mv (.tmp 1)), none, false, []⟩, ⟨(some 21), (.mv (.tmp 8)), none, false, []⟩, ⟨(some 22), (.iaddr 1 (.tmp 20) (.tmp 21)), none, false, []⟩, ⟨(some 23), (.load false 1 (.tmp 22)), none, false, []⟩, ⟨(some 24), (.bin .geq (.tmp 23) (.const (.int .i64 0))), none, false, []⟩]) (.cond (.tmp 24) (.reg [⟨(some 25), (.mv (.tmp 1)), none, false, []⟩, ⟨(some 26), (.mv (.tmp 8)), none, false, []⟩, ⟨(some 27), (.iaddr 1 (.tmp 25) (.tmp 26)), none, false, []⟩, ⟨(some 28), (.load false 1 (.tmp 27)), none, false, []⟩, ⟨(some 29), (.mv (.tmp 0)), none, false, []⟩, ⟨(some 30), (.mv (.tmp 8)), none, false, []⟩, ⟨(some 31), (.iaddr 3 (.tmp 29) (.tmp 30)), none, false, []⟩, ⟨(some 32), (.faddr 1 (.tmp 31)), none, false, []⟩, ⟨(some 33), (.load false 1 (.tmp 32)), none, false, []⟩, ⟨(some 34), (.bin .add (.tmp 28) (.tmp 33)), none, false, []⟩, ⟨(some 9), (.mv (.tmp 34)), none, false, []⟩]) .skip)) (.seq (.reg [⟨(some 35), (.mv (.tmp 9)), none, false, []⟩, ⟨(some 36), (.mv (.tmp 2)), none, false, []⟩, ⟨(some 37), (.bin .gtr (.tmp 35) (.tmp 36)), none, false, []⟩, ⟨(some 38), (.mv (.tmp 37)), none, false, []⟩, ⟨(some 39), (.mv (.tmp 7)), (some (38, true)), false, []⟩, ⟨(some 40), (.bin .lss (.tmp 39) (.const (.int .i64 0))), (some (38, true)), false, []⟩, ⟨(some 41), (.mv (.tmp 40)), (some (38, true)), false, []⟩, ⟨(some 42), (.mv (.tmp 9)), (some (41, false)), false, []⟩, ⟨(some 43), (.mv (.tmp 7)), (some (41, false)), false, []⟩, ⟨(some 44), (.bin .lss (.tmp 42) (.tmp 43)), (some (41, false)), false, []⟩, ⟨(some 45), (.pick (.tmp 41) (.const (.bool true)) (.tmp 44)), (some (38, true)), false, []⟩, ⟨(some 46), (.pick (.tmp 38) (.tmp 45) (.const (.bool false))), none, false, []⟩]) (.cond (.tmp 46) (.reg [⟨(some 47), (.mv (.tmp 9)), none, false, []⟩, ⟨(some 7), (.mv (.tmp 47)), none, false, []⟩]) .skip)))))) (.reg [⟨(some 48), (.bin .add (.tmp 12) (.const (.int .i64 1))), none, false, []⟩, ⟨(some 12), (.mv (.tmp 48)), none, false, []⟩]))))
def spec_l05Later_c : PCode := (.seq (.reg [⟨(some 6), (.mv (.const (.int .i64 0))), none, false, []⟩]) (.seq (.reg [⟨(some 7), (.mv (.const (.int .i64 (-1)))), none, false, []⟩]) (.seq (.seq (.reg [⟨(some 10), (.mv (.tmp 0)), none, false, []⟩, ⟨(some 11), (.len (.tmp 10)), none, false, []⟩, ⟨(some 12), (.mv (.const (.int .i64 0))), none, false, []⟩]) (.block 0 (.loop spec_l05Later_b0))) (.seq (.reg [⟨(some 49), (.mv (.tmp 7)), none, false, []⟩, ⟨(some 6), (.mv (.tmp 49)), none, false, []⟩]) .ret))))
def spec_l05Later : PFunc := ⟨50, [(.tmp 6)], spec_l05Later_c⟩
theorem spec_l05Later_t : tab 134 = some spec_l05Later := by kernel_rfl
def spec_l05Before_c : PCode := (.seq (.reg [⟨(some 8), (.mv (.const (.bool false))), none, false, []⟩]) (.seq (.seq (.reg [⟨(some 9), (.mv (.tmp 0)), none, false, []⟩]) (.block 0 (.seq (.reg [⟨(some 11), (.bin .eql (.tmp 9) (.const (.int .i64 1))), none, false, []⟩, ⟨(some 10), (.mv (.tmp 11)), none, false, []⟩]) (.cond (.tmp 10) (.seq (.reg [⟨(some 8), (.mv (.const (.bool true))), none, false, []⟩]) .ret) (.seq (.reg [⟨(some 13), (.bin .eql (.tmp 9) (.const (.int .i64 2))), none, false, []⟩, ⟨(some 12), (.mv (.tmp 13)), none, false, []⟩]) (.cond (.tmp 12) (.seq (.reg [⟨(some 14), (.mv (.tmp 1)), none, false, []⟩, ⟨(some 15), (.mv (.tmp 2)), none, false, []⟩, ⟨(some 16), (.iaddr 3 (.tmp 14) (.tmp 15)), none, false, []⟩, ⟨(some 17), (.faddr 1 (.tmp 16)), none, false, []⟩, ⟨(some 18), (.load false 1 (.tmp 17)), none, false, []⟩, ⟨(some 19), (.mv (.tmp 1)), none, false, []⟩, ⟨(some 20), (.mv (.tmp 3)), none, false, []⟩, ⟨(some 21), (.iaddr 3 (.tmp 19) (.tmp 20)), none, false, []⟩, ⟨(some 22), (.faddr 1 (.tmp 21)), none, false, []⟩, ⟨(some 23), (.load false 1 (.tmp 22)), none, false, []⟩, ⟨(some 24), (.bin .lss (.tmp 18) (.tmp 23)), none, false, []⟩, ⟨(some 8), (.mv (.tmp 24)), none, false, []⟩]) .ret) (.seq (.reg [⟨(some 26), (.bin .eql (.tmp 9) (.const (.int .i64 3))), none, false, []⟩, ⟨(some 25), (.mv (.tmp 26)), none, false, []⟩]) (.cond (.tmp 25) (.seq (.reg [⟨(some 27), (.mv (.tmp 1)), none, false, []⟩, ⟨(some 28), (.mv (.tmp 2)), none, false, []⟩, ⟨(some 29), (.iaddr 3 (.tmp 27) (.tmp 28)), none, false, []⟩, ⟨(some 30), (.faddr 2 (.tmp 29)), none, false, []⟩, ⟨(some 31), (.load false 1 (.tmp 30)), none, false, []⟩, ⟨(some 32), (.mv (.tmp 1)), none, false, []⟩, ⟨(some 33), (.mv (.tmp 3)), none, false, []⟩, ⟨(some 34), (.iaddr 3 (.tmp 32) (.tmp 33)), none, false, []⟩, ⟨(some 35), (.faddr 2 (.tmp 34)), none, false, []⟩, ⟨(some 36), (.load false 1 (.tmp 35)), none, false, []⟩, ⟨(some 37), (.bin .lss (.tmp 31) (.tmp 36)), none, false, []⟩, ⟨(some 8), (.mv (.tmp 37)), none, false, []⟩]) .ret) .skip)))))))) (.seq (.reg [⟨(some 8), (.mv (.const (.bool false))), none, false, []⟩]) .ret)))
def spec_l05Before : PFunc := ⟨38, [(.tmp 8)], spec_l05Before_c⟩
theorem spec_l05Before_t : tab 152 = some spec_l05Before := by kernel_rfl
end Go.PM

/- The pure machine's form of functions, as the settings give it: S0. -/
namespace Go.PM
def spec_l00In_c : PCode := (.seq (.reg [⟨(some 6), (.mv (.const (.bool false))), none, false, []⟩]) (.seq (.reg [⟨(some 7), (.mv (.tmp 0)), none, false, []⟩, ⟨(some 8), (.mv (.tmp 1)), none, false, []⟩, ⟨(some 9), (.bin .geq (.tmp 7) (.tmp 8)), none, false, []⟩, ⟨(some 10), (.mv (.tmp 9)), none, false, []⟩, ⟨(some 11), (.mv (.tmp 0)), (some (10, true)), false, []⟩, ⟨(some 12), (.mv (.tmp 2)), (some (10, true)), false, []⟩, ⟨(some 13), (.bin .leq (.tmp 11) (.tmp 12)), (some (10, true)), false, []⟩, ⟨(some 14), (.pick (.tmp 10) (.tmp 13) (.const (.bool false))), none, false, []⟩, ⟨(some 6), (.mv (.tmp 14)), none, false, []⟩]) .ret))
def spec_l00In : PFunc := ⟨15, [(.tmp 6)], spec_l00In_c⟩
theorem spec_l00In_t : tab 94 = some spec_l00In := by kernel_rfl
def spec_l00Max_c : PCode := (.seq (.reg [⟨(some 4), (.mv (.const (.int .i64 0))), none, false, []⟩]) (.seq (.seq (.reg [⟨(some 5), (.mv (.tmp 0)), none, false, []⟩, ⟨(some 6), (.mv (.tmp 1)), none, false, []⟩, ⟨(some 7), (.bin .gtr (.tmp 5) (.tmp 6)), none, false, []⟩]) (.cond (.tmp 7) (.seq (.reg [⟨(some 8), (.mv (.tmp 0)), none, false, []⟩, ⟨(some 4), (.mv (.tmp 8)), none, false, []⟩]) .ret) .skip)) (.seq (.reg [⟨(some 9), (.mv (.tmp 1)), none, false, []⟩, ⟨(some 4), (.mv (.tmp 9)), none, false, []⟩]) .ret)))
def spec_l00Max : PFunc := ⟨10, [(.tmp 4)], spec_l00Max_c⟩
theorem spec_l00Max_t : tab 138 = some spec_l00Max := by kernel_rfl
end Go.PM

/- Customers that are right: the program's word and the reference's. -/
namespace Go.PM
theorem impl_in_v (x a b : Int) : TC 77 [VI x, VI a, VI b] (.sc (.bool (decide (a ≤ x ∧ x ≤ b)))) := by
  refine TC.walk ⟨true, false⟩ impl_in_t rfl (Nat.le_of_ble_eq_true rfl) rfl rfl ?_
  by_cases h1 : a ≤ x <;> by_cases h2 : x ≤ b <;> simp only [impl_in, impl_in_c, h1, h2, VX, Nat.reduceEqDiff, Nat.reduceAdd] <;> exact fz_res rfl
theorem spec_l00In_v (x a b : Int) : TC 94 [VI x, VI a, VI b] (.sc (.bool (decide (a ≤ x ∧ x ≤ b)))) := by
  refine TC.walk ⟨true, false⟩ spec_l00In_t rfl (Nat.le_of_ble_eq_true rfl) rfl rfl ?_
  by_cases h1 : a ≤ x <;> by_cases h2 : x ≤ b <;> simp only [spec_l00In, spec_l00In_c, h1, h2, VX, Nat.reduceEqDiff, Nat.reduceAdd] <;> exact fz_res rfl
theorem custAt_prev {cs : List Cust} {i : Nat} {c : Cust} (hc : custOk c) (h : ∀ p, cs[i]? = some p → p.t ≤ c.t) : custAt cs (i + 1) c := ⟨hc, fun p _ hp => h p (by simpa using hp)⟩
set_option maxHeartbeats 2000000 in
theorem impl_AreCustomers_v (cs : List Cust) (hn : cs.length ≤ 1000000000) : TC 60 [custsV cs] (.sc (.bool (decide (custsOk cs)))) := by
  refine TC.walk ⟨true, false⟩ impl_AreCustomers_t rfl (Nat.le_of_ble_eq_true rfl) (by simp [pureL, custsV_pure]) rfl ?_
  simp only [impl_AreCustomers, impl_AreCustomers_c, VX, Nat.reduceEqDiff, Nat.reduceAdd]
  refine VW_loopT (fun (i : Nat) ρ H => i ≤ cs.length ∧ H = [] ∧ (∀ j c, j < i → cs[j]? = some c → custAt cs j c) ∧ ρ 0 = custsV cs ∧ ρ 5 = custsV cs ∧ ρ 6 = VI cs.length ∧ ρ 7 = VI i) (fun i => cs.length - i) 0 ⟨Nat.zero_le _, rfl, fun j c h => by omega, rfl, rfl, rfl, rfl⟩ ?_
  rintro i ρ H ⟨hi, rfl, hall, h0, h5, h6, h7⟩
  by_cases hin : (i : Int) < (cs.length : Int)
  · obtain ⟨c, hc⟩ : ∃ c, cs[i]? = some c := ⟨_, List.getElem?_eq_getElem (by omega)⟩
    have e1 := fun H => viaddr_map (f := cV) (t := .op) (H := H) (size := 3) (k := .i64) hc rfl
    have wi : IntKind.i64.wrap ((i : Int) + 1) = ((i + 1 : Nat) : Int) := wrapN (i + 1) (by omega) (by omega)
    have bad : ¬ custAt cs i c → fz depth [VBlk.row 0 [cV c] 3 true] (.sc (.bool false)) = some (.sc (.bool (decide (custsOk cs)))) := fun h => by
      rw [decide_eq_false (fun hk : custsOk cs => h (hk.1 i c hc))]
      exact fz_res rfl
    have next : custAt cs i c → ∀ j c', j < i + 1 → cs[j]? = some c' → custAt cs j c' := fun h j c' hj hc' => by
      rcases Nat.lt_or_ge j i with hji | hji
      · exact hall j c' hji hc'
      · have : j = i := by omega
        subst this
        rw [hc] at hc'
        injection hc' with hc'
        exact hc' ▸ h
    by_cases k1 : 0 ≤ c.t ∧ c.t ≤ 10000
    · by_cases k2 : 1 ≤ c.w ∧ c.w ≤ 1000
      · by_cases k3 : 0 ≤ c.k ∧ c.k ≤ 9
        · have hok : custOk c := ⟨k1, k2, k3⟩
          cases i with
          | zero =>
            have hz : ¬ ((0 : Int) < ((0 : Nat) : Int)) := by omega
            simp only [impl_AreCustomers_b0, h0, h5, h6, h7, hin, e1, rd_cV, wi, k1, k2, k3, hz, impl_in_v, cV, VX, Nat.reduceEqDiff, Nat.reduceAdd, vload_pdef, vstore_pdef, viaddr_rdef, vlen_rdef, vfaddr_pdef, vchk_pdef, visnil_rdef, visnil_nil, visnil_cons, vrow_zero, vrow_succ, List.set_cons_zero, List.set_cons_succ, elemOf_one, elemOf_two, vresult, vresAll, vres1, vfill, isAny_sc, isAny_tree, isAny_ref, isAny_agg, isAny_clo, List.take_zero, List.take_succ_cons, List.take_nil, List.drop_zero, List.drop_succ_cons, List.drop_nil, List.append_nil, Nat.reduceLeDiff, Nat.le_refl, vsplice, Nat.reduceLT, Int.toNat_natCast, eq_self, ge_iff_le, Bool.and_eq_true, Nat.reduceSub]
            refine ⟨1, by omega, rfl, by omega, next ⟨hok, fun p h => by omega⟩, ?_⟩
            simp only [scrubE_app, h0, h5, h6, scrub_of (custsV_pure _), VX, Nat.reduceEqDiff, Nat.reduceAdd, List.take_zero, rowsBelow, List.all_nil, List.length_nil, scrubE_app, scrub_sc, scrub_of]
          | succ i =>
            have hp : (0 : Int) < ((i + 1 : Nat) : Int) := by omega
            have w2 : IntKind.i64.wrap (((i + 1 : Nat) : Int) - 1) = (i : Int) := wrapN i (by omega) (by omega)
            obtain ⟨p, hpr⟩ : ∃ p, cs[i]? = some p := ⟨_, List.getElem?_eq_getElem (by omega)⟩
            have e2 := fun H => viaddr_map (f := cV) (t := .op) (H := H) (size := 3) (k := .i64) hpr rfl
            by_cases hlt : c.t < p.t
            · simp only [impl_AreCustomers_b0, h0, h5, h6, h7, hin, e1, e2, rd_cV, k1, k2, k3, hp, w2, hlt, impl_in_v, cV, VX, Nat.reduceEqDiff, Nat.reduceAdd, vload_pdef, vstore_pdef, viaddr_rdef, vlen_rdef, vfaddr_pdef, vchk_pdef, visnil_rdef, visnil_nil, visnil_cons, vrow_zero, vrow_succ, List.set_cons_zero, List.set_cons_succ, elemOf_one, elemOf_two, vresult, vresAll, vres1, vfill, isAny_sc, isAny_tree, isAny_ref, isAny_agg, isAny_clo, List.take_zero, List.take_succ_cons, List.take_nil, List.drop_zero, List.drop_succ_cons, List.drop_nil, List.append_nil, Nat.reduceLeDiff, Nat.le_refl, vsplice, Nat.reduceLT, Int.toNat_natCast, eq_self, ge_iff_le, Bool.and_eq_true, Nat.reduceSub]
              exact bad fun h => by have := h.2 p (by omega) (by simpa using hpr); omega
            · simp only [impl_AreCustomers_b0, h0, h5, h6, h7, hin, e1, e2, rd_cV, wi, k1, k2, k3, hp, w2, hlt, impl_in_v, cV, VX, Nat.reduceEqDiff, Nat.reduceAdd, vload_pdef, vstore_pdef, viaddr_rdef, vlen_rdef, vfaddr_pdef, vchk_pdef, visnil_rdef, visnil_nil, visnil_cons, vrow_zero, vrow_succ, List.set_cons_zero, List.set_cons_succ, elemOf_one, elemOf_two, vresult, vresAll, vres1, vfill, isAny_sc, isAny_tree, isAny_ref, isAny_agg, isAny_clo, List.take_zero, List.take_succ_cons, List.take_nil, List.drop_zero, List.drop_succ_cons, List.drop_nil, List.append_nil, Nat.reduceLeDiff, Nat.le_refl, vsplice, Nat.reduceLT, Int.toNat_natCast, eq_self, ge_iff_le, Bool.and_eq_true, Nat.reduceSub]
              refine ⟨i + 1 + 1, by omega, rfl, by omega, next (custAt_prev hok fun q hq => by rw [hpr] at hq; injection hq with hq; subst hq; omega), ?_⟩
              simp only [scrubE_app, h0, h5, h6, scrub_of (custsV_pure _), VX, Nat.reduceEqDiff, Nat.reduceAdd, List.take_zero, rowsBelow, List.all_nil, List.length_nil, scrubE_app, scrub_sc, scrub_of]
        · simp only [impl_AreCustomers_b0, h0, h5, h6, h7, hin, e1, rd_cV, k1, k2, k3, impl_in_v, cV, VX, Nat.reduceEqDiff, Nat.reduceAdd, vload_pdef, vstore_pdef, viaddr_rdef, vlen_rdef, vfaddr_pdef, vchk_pdef, visnil_rdef, visnil_nil, visnil_cons, vrow_zero, vrow_succ, List.set_cons_zero, List.set_cons_succ, elemOf_one, elemOf_two, vresult, vresAll, vres1, vfill, isAny_sc, isAny_tree, isAny_ref, isAny_agg, isAny_clo, List.take_zero, List.take_succ_cons, List.take_nil, List.drop_zero, List.drop_succ_cons, List.drop_nil, List.append_nil, Nat.reduceLeDiff, Nat.le_refl, vsplice, Nat.reduceLT, Int.toNat_natCast, eq_self, ge_iff_le, Bool.and_eq_true, Nat.reduceSub]
          exact bad fun h => k3 h.1.2.2
      · simp only [impl_AreCustomers_b0, h0, h5, h6, h7, hin, e1, rd_cV, k1, k2, impl_in_v, cV, VX, Nat.reduceEqDiff, Nat.reduceAdd, vload_pdef, vstore_pdef, viaddr_rdef, vlen_rdef, vfaddr_pdef, vchk_pdef, visnil_rdef, visnil_nil, visnil_cons, vrow_zero, vrow_succ, List.set_cons_zero, List.set_cons_succ, elemOf_one, elemOf_two, vresult, vresAll, vres1, vfill, isAny_sc, isAny_tree, isAny_ref, isAny_agg, isAny_clo, List.take_zero, List.take_succ_cons, List.take_nil, List.drop_zero, List.drop_succ_cons, List.drop_nil, List.append_nil, Nat.reduceLeDiff, Nat.le_refl, vsplice, Nat.reduceLT, Int.toNat_natCast, eq_self, ge_iff_le, Bool.and_eq_true, Nat.reduceSub]
        exact bad fun h => k2 h.1.2.1
    · simp only [impl_AreCustomers_b0, h0, h5, h6, h7, hin, e1, rd_cV, k1, impl_in_v, cV, VX, Nat.reduceEqDiff, Nat.reduceAdd, vload_pdef, vstore_pdef, viaddr_rdef, vlen_rdef, vfaddr_pdef, vchk_pdef, visnil_rdef, visnil_nil, visnil_cons, vrow_zero, vrow_succ, List.set_cons_zero, List.set_cons_succ, elemOf_one, elemOf_two, vresult, vresAll, vres1, vfill, isAny_sc, isAny_tree, isAny_ref, isAny_agg, isAny_clo, List.take_zero, List.take_succ_cons, List.take_nil, List.drop_zero, List.drop_succ_cons, List.drop_nil, List.append_nil, Nat.reduceLeDiff, Nat.le_refl, vsplice, Nat.reduceLT, Int.toNat_natCast, eq_self, ge_iff_le, Bool.and_eq_true, Nat.reduceSub]
      exact bad fun h => k1 h.1.1
  · have hie : i = cs.length := by omega
    subst hie
    simp only [impl_AreCustomers_b0, h0, h5, h6, h7, hin, VX, Nat.reduceEqDiff, Nat.reduceAdd]
    have : custsOk cs ↔ (cs.length : Int) ≤ 24 := ⟨fun h => by have := h.2; omega, fun h => ⟨fun j c hc => hall j c (List.getElem?_eq_some_iff.1 hc).1 hc, by omega⟩⟩
    simp only [this]
    exact fz_res rfl
set_option maxHeartbeats 2000000 in
theorem spec_l05Are_v (cs : List Cust) (hn : cs.length ≤ 1000000000) : TC 49 [custsV cs] (.sc (.bool (decide (custsOk cs)))) := by
  refine TC.walk ⟨true, false⟩ spec_l05Are_t rfl (Nat.le_of_ble_eq_true rfl) (by simp [pureL, custsV_pure]) rfl ?_
  simp only [spec_l05Are, spec_l05Are_c, VX, Nat.reduceEqDiff, Nat.reduceAdd]
  refine VW_loopT (fun (i : Nat) ρ H => i ≤ cs.length ∧ H = [] ∧ (∀ j c, j < i → cs[j]? = some c → custAt cs j c) ∧ ρ 0 = custsV cs ∧ ρ 5 = custsV cs ∧ ρ 6 = VI cs.length ∧ ρ 7 = VI i) (fun i => cs.length - i) 0 ⟨Nat.zero_le _, rfl, fun j c h => by omega, rfl, rfl, rfl, rfl⟩ ?_
  rintro i ρ H ⟨hi, rfl, hall, h0, h5, h6, h7⟩
  by_cases hin : (i : Int) < (cs.length : Int)
  · obtain ⟨c, hc⟩ : ∃ c, cs[i]? = some c := ⟨_, List.getElem?_eq_getElem (by omega)⟩
    have e1 := fun H => viaddr_map (f := cV) (t := .op) (H := H) (size := 3) (k := .i64) hc rfl
    have wi : IntKind.i64.wrap ((i : Int) + 1) = ((i + 1 : Nat) : Int) := wrapN (i + 1) (by omega) (by omega)
    have bad : ¬ custAt cs i c → fz depth [VBlk.row 0 [cV c] 3 true] (.sc (.bool false)) = some (.sc (.bool (decide (custsOk cs)))) := fun h => by
      rw [decide_eq_false (fun hk : custsOk cs => h (hk.1 i c hc))]
      exact fz_res rfl
    have next : custAt cs i c → ∀ j c', j < i + 1 → cs[j]? = some c' → custAt cs j c' := fun h j c' hj hc' => by
      rcases Nat.lt_or_ge j i with hji | hji
      · exact hall j c' hji hc'
      · have : j = i := by omega
        subst this
        rw [hc] at hc'
        injection hc' with hc'
        exact hc' ▸ h
    by_cases k1 : 0 ≤ c.t ∧ c.t ≤ 10000
    · by_cases k2 : 1 ≤ c.w ∧ c.w ≤ 1000
      · by_cases k3 : 0 ≤ c.k ∧ c.k ≤ 9
        · have hok : custOk c := ⟨k1, k2, k3⟩
          cases i with
          | zero =>
            have hz : ¬ ((0 : Int) < ((0 : Nat) : Int)) := by omega
            simp only [spec_l05Are_b0, h0, h5, h6, h7, hin, e1, rd_cV, wi, k1, k2, k3, hz, spec_l00In_v, cV, VX, Nat.reduceEqDiff, Nat.reduceAdd, vload_pdef, vstore_pdef, viaddr_rdef, vlen_rdef, vfaddr_pdef, vchk_pdef, visnil_rdef, visnil_nil, visnil_cons, vrow_zero, vrow_succ, List.set_cons_zero, List.set_cons_succ, elemOf_one, elemOf_two, vresult, vresAll, vres1, vfill, isAny_sc, isAny_tree, isAny_ref, isAny_agg, isAny_clo, List.take_zero, List.take_succ_cons, List.take_nil, List.drop_zero, List.drop_succ_cons, List.drop_nil, List.append_nil, Nat.reduceLeDiff, Nat.le_refl, vsplice, Nat.reduceLT, Int.toNat_natCast, eq_self, ge_iff_le, Bool.and_eq_true, Nat.reduceSub]
            refine ⟨1, by omega, rfl, by omega, next ⟨hok, fun p h => by omega⟩, ?_⟩
            simp only [scrubE_app, h0, h5, h6, scrub_of (custsV_pure _), VX, Nat.reduceEqDiff, Nat.reduceAdd, List.take_zero, rowsBelow, List.all_nil, List.length_nil, scrubE_app, scrub_sc, scrub_of]
          | succ i =>
            have hp : (0 : Int) < ((i + 1 : Nat) : Int) := by omega
            have w2 : IntKind.i64.wrap (((i + 1 : Nat) : Int) - 1) = (i : Int) := wrapN i (by omega) (by omega)
            obtain ⟨p, hpr⟩ : ∃ p, cs[i]? = some p := ⟨_, List.getElem?_eq_getElem (by omega)⟩
            have e2 := fun H => viaddr_map (f := cV) (t := .op) (H := H) (size := 3) (k := .i64) hpr rfl
            by_cases hlt : c.t < p.t
            · simp only [spec_l05Are_b0, h0, h5, h6, h7, hin, e1, e2, rd_cV, k1, k2, k3, hp, w2, hlt, spec_l00In_v, cV, VX, Nat.reduceEqDiff, Nat.reduceAdd, vload_pdef, vstore_pdef, viaddr_rdef, vlen_rdef, vfaddr_pdef, vchk_pdef, visnil_rdef, visnil_nil, visnil_cons, vrow_zero, vrow_succ, List.set_cons_zero, List.set_cons_succ, elemOf_one, elemOf_two, vresult, vresAll, vres1, vfill, isAny_sc, isAny_tree, isAny_ref, isAny_agg, isAny_clo, List.take_zero, List.take_succ_cons, List.take_nil, List.drop_zero, List.drop_succ_cons, List.drop_nil, List.append_nil, Nat.reduceLeDiff, Nat.le_refl, vsplice, Nat.reduceLT, Int.toNat_natCast, eq_self, ge_iff_le, Bool.and_eq_true, Nat.reduceSub]
              exact bad fun h => by have := h.2 p (by omega) (by simpa using hpr); omega
            · simp only [spec_l05Are_b0, h0, h5, h6, h7, hin, e1, e2, rd_cV, wi, k1, k2, k3, hp, w2, hlt, spec_l00In_v, cV, VX, Nat.reduceEqDiff, Nat.reduceAdd, vload_pdef, vstore_pdef, viaddr_rdef, vlen_rdef, vfaddr_pdef, vchk_pdef, visnil_rdef, visnil_nil, visnil_cons, vrow_zero, vrow_succ, List.set_cons_zero, List.set_cons_succ, elemOf_one, elemOf_two, vresult, vresAll, vres1, vfill, isAny_sc, isAny_tree, isAny_ref, isAny_agg, isAny_clo, List.take_zero, List.take_succ_cons, List.take_nil, List.drop_zero, List.drop_succ_cons, List.drop_nil, List.append_nil, Nat.reduceLeDiff, Nat.le_refl, vsplice, Nat.reduceLT, Int.toNat_natCast, eq_self, ge_iff_le, Bool.and_eq_true, Nat.reduceSub]
              refine ⟨i + 1 + 1, by omega, rfl, by omega, next (custAt_prev hok fun q hq => by rw [hpr] at hq; injection hq with hq; subst hq; omega), ?_⟩
              simp only [scrubE_app, h0, h5, h6, scrub_of (custsV_pure _), VX, Nat.reduceEqDiff, Nat.reduceAdd, List.take_zero, rowsBelow, List.all_nil, List.length_nil, scrubE_app, scrub_sc, scrub_of]
        · simp only [spec_l05Are_b0, h0, h5, h6, h7, hin, e1, rd_cV, k1, k2, k3, spec_l00In_v, cV, VX, Nat.reduceEqDiff, Nat.reduceAdd, vload_pdef, vstore_pdef, viaddr_rdef, vlen_rdef, vfaddr_pdef, vchk_pdef, visnil_rdef, visnil_nil, visnil_cons, vrow_zero, vrow_succ, List.set_cons_zero, List.set_cons_succ, elemOf_one, elemOf_two, vresult, vresAll, vres1, vfill, isAny_sc, isAny_tree, isAny_ref, isAny_agg, isAny_clo, List.take_zero, List.take_succ_cons, List.take_nil, List.drop_zero, List.drop_succ_cons, List.drop_nil, List.append_nil, Nat.reduceLeDiff, Nat.le_refl, vsplice, Nat.reduceLT, Int.toNat_natCast, eq_self, ge_iff_le, Bool.and_eq_true, Nat.reduceSub]
          exact bad fun h => k3 h.1.2.2
      · simp only [spec_l05Are_b0, h0, h5, h6, h7, hin, e1, rd_cV, k1, k2, spec_l00In_v, cV, VX, Nat.reduceEqDiff, Nat.reduceAdd, vload_pdef, vstore_pdef, viaddr_rdef, vlen_rdef, vfaddr_pdef, vchk_pdef, visnil_rdef, visnil_nil, visnil_cons, vrow_zero, vrow_succ, List.set_cons_zero, List.set_cons_succ, elemOf_one, elemOf_two, vresult, vresAll, vres1, vfill, isAny_sc, isAny_tree, isAny_ref, isAny_agg, isAny_clo, List.take_zero, List.take_succ_cons, List.take_nil, List.drop_zero, List.drop_succ_cons, List.drop_nil, List.append_nil, Nat.reduceLeDiff, Nat.le_refl, vsplice, Nat.reduceLT, Int.toNat_natCast, eq_self, ge_iff_le, Bool.and_eq_true, Nat.reduceSub]
        exact bad fun h => k2 h.1.2.1
    · simp only [spec_l05Are_b0, h0, h5, h6, h7, hin, e1, rd_cV, k1, spec_l00In_v, cV, VX, Nat.reduceEqDiff, Nat.reduceAdd, vload_pdef, vstore_pdef, viaddr_rdef, vlen_rdef, vfaddr_pdef, vchk_pdef, visnil_rdef, visnil_nil, visnil_cons, vrow_zero, vrow_succ, List.set_cons_zero, List.set_cons_succ, elemOf_one, elemOf_two, vresult, vresAll, vres1, vfill, isAny_sc, isAny_tree, isAny_ref, isAny_agg, isAny_clo, List.take_zero, List.take_succ_cons, List.take_nil, List.drop_zero, List.drop_succ_cons, List.drop_nil, List.append_nil, Nat.reduceLeDiff, Nat.le_refl, vsplice, Nat.reduceLT, Int.toNat_natCast, eq_self, ge_iff_le, Bool.and_eq_true, Nat.reduceSub]
      exact bad fun h => k1 h.1.1
  · have hie : i = cs.length := by omega
    subst hie
    simp only [spec_l05Are_b0, h0, h5, h6, h7, hin, VX, Nat.reduceEqDiff, Nat.reduceAdd]
    have : custsOk cs ↔ (cs.length : Int) ≤ 24 := ⟨fun h => by have := h.2; omega, fun h => ⟨fun j c hc => hall j c (List.getElem?_eq_some_iff.1 hc).1 hc, by omega⟩⟩
    simp only [this]
    exact fz_res rfl
end Go.PM

/- Patience: the program and the reference, walked. -/
namespace Go.PM
def LR (vals : List Int) (ok : Bool) (n : Nat) (r : VV) (L : VHeap) : Prop :=
  ∃ v, r = .tup [v, .sc (.bool ok)] ∧ ((v = .tree [] .nil ∧ vals = []) ∨ ∃ i g c, v = .ref (n + i) g 0 vals.length c ∧ vals.length ≤ c ∧ L[i]? = some (.row g (vals.map nV) 1 true))
end Go.PM

/- The steps of a statement's walk. -/
namespace Go.PM
theorem fz_filled {α : Type} {f : α → VV} {e b : Nat} {fill : α} {xs : List α} {H : VHeap} (hp : ∀ x, pureV (f x) = true) (h : vrow H b 0 = some ((filledS fill xs).map f, e, true)) : fz depth H (.ref b 0 0 xs.length (xs.length + room xs.length)) = some (listV f xs) := by
  rw [fz_rowP h (by simp [filledS]) (Nat.le_add_right _ _) (pure_map hp), ← List.map_take, filledS_take]
theorem fz_live {α : Type} {f : α → VV} {e b g c : Nat} {xs : List α} {H : VHeap} (hp : ∀ x, pureV (f x) = true) (h : vrow H b g = some (xs.map f, e, true)) (hc : xs.length ≤ c) : fz depth H (.ref b g 0 xs.length c) = some (listV f xs) := by
  rw [fz_row h (by simp) hc (pure_map hp)]
theorem vrow_pre {H H' : VHeap} {b g : Nat} {x : List VV × Nat × Bool} (hh : H <+: H') (h : vrow H b g = some x) : vrow H' b g = some x := by
  obtain ⟨L, rfl⟩ := hh
  exact vrow_app h
def Seen {α : Type} (f : α → VV) (xs : List α) (H : VHeap) (r : VV) : Prop := ∀ H', H <+: H' → fz depth H' r = some (listV f xs)
theorem Seen.now {α : Type} {f : α → VV} {xs : List α} {H : VHeap} {r : VV} (h : Seen f xs H r) : fz depth H r = some (listV f xs) := h H (List.prefix_refl _)
theorem Seen.pre {α : Type} {f : α → VV} {xs : List α} {H H' : VHeap} {r : VV} (h : Seen f xs H r) (hh : H <+: H') : Seen f xs H' r := fun H'' h' => h H'' (hh.trans h')
theorem to_any {α : Type} {f : α → VV} {e F lo : Nat} {fill : α} {xs : List α} {bare : Bool} {H : VHeap} {K : VV → VHeap → Prop} (h : FC F [listV f xs, .sc (.bool bare)] (ToR f e fill xs bare)) (hraw : raws.contains F = true) (hl : ∀ x, (vcells (f x)).length = e) (hp : ∀ x, pureV (f x) = true)
    (hk : ∀ r H', H <+: H' → Seen f xs H' r → K r H') : vcallP F [listV f xs, .sc (.bool bare)] lo H K := by
  refine h.call hraw (mapM_pure (n := 7) (by simp [pureL, pure_list hl hp]; rfl)) ?_
  rintro r L (⟨_, rfl, rfl, rfl⟩ | ⟨rfl, rfl⟩)
  · exact hk _ _ (List.prefix_append _ _) fun H' _ => fz_niltree
  · refine hk _ _ (List.prefix_append _ _) fun H' hh => fz_filled (e := e) (fill := fill) hp (vrow_pre hh ?_)
    exact vrow_of_app (i := 0) rfl
theorem to_row {α : Type} {f : α → VV} {e F lo : Nat} {fill : α} {xs : List α} {H : VHeap} {K : VV → VHeap → Prop} (h : FC F [listV f xs, .sc (.bool false)] (ToR f e fill xs false)) (hraw : raws.contains F = true) (hl : ∀ x, (vcells (f x)).length = e) (hp : ∀ x, pureV (f x) = true)
    (hk : ∀ b H', H <+: H' → H.length ≤ b → vrow H' b 0 = some ((filledS fill xs).map f, e, true) → K (.ref b 0 0 xs.length (xs.length + room xs.length)) H') : vcallP F [listV f xs, .sc (.bool false)] lo H K := by
  refine h.call hraw (mapM_pure (n := 7) (by simp [pureL, pure_list hl hp]; rfl)) ?_
  intro r L hL
  obtain ⟨rfl, rfl⟩ := hL.no
  exact hk _ _ (List.prefix_append _ _) (Nat.le_refl _) (vrow_of_app (i := 0) rfl)
def LV (lo hi : Nat) (vals : List Int) (H : VHeap) (v : VV) : Prop :=
  (v = .tree [] .nil ∧ vals = []) ∨ ∃ b g c, lo ≤ b ∧ b < hi ∧ v = .ref b g 0 vals.length c ∧ vals.length ≤ c ∧ vrow H b g = some (vals.map nV, 1, true)
theorem LV.keep {lo hi : Nat} {vals : List Int} {H H' : VHeap} {v : VV} (h : LV lo hi vals H v) (hk : ∀ b g x, lo ≤ b → b < hi → vrow H b g = some x → vrow H' b g = some x) : LV lo hi vals H' v := by
  rcases h with h | ⟨b, g, c, h1, h2, h3, h4, h5⟩
  · exact .inl h
  · exact .inr ⟨b, g, c, h1, h2, h3, h4, hk _ _ _ h1 h2 h5⟩
theorem LV.pre {lo hi : Nat} {vals : List Int} {H H' : VHeap} {v : VV} (h : LV lo hi vals H v) (hh : H <+: H') : LV lo hi vals H' v := h.keep fun _ _ _ _ _ => vrow_pre hh
theorem LV.set {lo hi b' : Nat} {x : VBlk} {vals : List Int} {H : VHeap} {v : VV} (h : LV lo hi vals H v) (hb : b' < lo ∨ hi ≤ b') : LV lo hi vals (H.set b' x) v := h.keep fun _ _ _ h1 h2 => vrow_set_ne (by omega)
theorem LV.fz {lo hi : Nat} {vals : List Int} {H : VHeap} {v : VV} (h : LV lo hi vals H v) : fz depth H v = some (numsV vals) := by
  rcases h with ⟨rfl, rfl⟩ | ⟨b, g, c, h1, h2, rfl, h4, h5⟩
  · exact fz_niltree
  · exact fz_live (fun _ => rfl) h5 h4
theorem eqb_self (b : Bool) : eqbV true (Value.bool b) (Value.bool b) = some (.bool false) := by cases b <;> rfl
end Go.PM

/- Lists of places. -/
namespace Go.PM
abbrev kV (j : Nat) : VV := VI j
abbrev idsV (ws : List Nat) : VV := listV kV ws
theorem ids_pure (ws : List Nat) : pureV (idsV ws) = true := pure_list (size := 1) (fun _ => rfl) fun _ => rfl
theorem and_u64 (n : Nat) (h : n < 18446744073709551616) : pbin .and (.int .u64 (n : Int)) (.int .u64 4294967295) = some (.int .u64 ((n % 4294967296 : Nat) : Int)) := by
  simp only [pbin, if_true]
  have h1 : (BitVec.ofInt IntKind.u64.bits (n : Int) &&& BitVec.ofInt IntKind.u64.bits 4294967295).toNat = n % 4294967296 := by
    rw [BitVec.toNat_and]
    have e1 : (BitVec.ofInt IntKind.u64.bits (n : Int)).toNat = n := by
      rw [BitVec.toNat_ofInt]
      simp only [IntKind.bits]
      omega
    have e2 : (BitVec.ofInt IntKind.u64.bits 4294967295).toNat = 2 ^ 32 - 1 := by
      rw [BitVec.toNat_ofInt]
      simp only [IntKind.bits]
      omega
    rw [e1, e2, Nat.and_two_pow_sub_one_eq_mod]
  rw [h1, wrapU _ (by omega)]
theorem VW_use {fl : Fl} {lo i : Nat} {P : VEnv → VHeap → Prop} {c : PCode} {Q : VQ} {ρ : VEnv} {H : VHeap} (h : VW fl lo (.block i c) (fun e ρ' H' => e = .normal ∧ P ρ' H') ρ H) (hq : ∀ ρ' H', P ρ' H' → Q .normal ρ' H') : VW fl lo c (onExit i Q) ρ H := by
  rw [VW_block] at h
  refine VW_mono (fun x ρ' H' hx => ?_) h
  cases x with
  | normal => exact hq _ _ hx.2
  | exit j =>
    rw [onExit_exit] at hx ⊢
    by_cases hj : j = i
    · rw [if_pos hj] at hx ⊢
      exact hq _ _ hx.2
    · rw [if_neg hj] at hx
      cases hx.1
  | ret => cases hx.1
end Go.PM

/- Who starts when: plain words, and what is the same of both. -/
namespace Go.PM
def atC (cs : List Cust) (i : Nat) : Int := ((cs[i]?).map (·.t)).getD 0
def wkC (cs : List Cust) (i : Nat) : Int := ((cs[i]?).map (·.w)).getD 0
def klC (cs : List Cust) (i : Nat) : Int := ((cs[i]?).map (·.k)).getD 0
def stC (st : List Int) (i : Nat) : Int := (st[i]?).getD 0
theorem atC_of {cs : List Cust} {i : Nat} {x : Cust} (h : cs[i]? = some x) : atC cs i = x.t := by simp [atC, h]
theorem wkC_of {cs : List Cust} {i : Nat} {x : Cust} (h : cs[i]? = some x) : wkC cs i = x.w := by simp [wkC, h]
theorem klC_of {cs : List Cust} {i : Nat} {x : Cust} (h : cs[i]? = some x) : klC cs i = x.k := by simp [klC, h]
theorem stC_of {st : List Int} {i : Nat} {x : Int} (h : st[i]? = some x) : stC st i = x := by simp [stC, h]
def inS (cs : List Cust) (st : List Int) (t : Int) (i : Nat) : Bool := decide (0 ≤ stC st i) && decide (stC st i ≤ t) && decide (t < stC st i + wkC cs i)
def bz (cs : List Cust) (st : List Int) (t : Int) : Nat := (List.range cs.length).countP (inS cs st t)
def isW (cs : List Cust) (st : List Int) (t : Int) (i : Nat) : Bool := decide (stC st i < 0) && decide (atC cs i ≤ t)
def wt (cs : List Cust) (st : List Int) (t : Int) : List Nat := (List.range cs.length).filter (isW cs st t)
def befo (rule : Int) (cs : List Cust) (i k : Nat) : Bool :=
  if rule = 1 then true else if rule = 2 then decide (wkC cs i < wkC cs k) else if rule = 3 then decide (klC cs i < klC cs k) else false
def pickW (rule : Int) (cs : List Cust) (b : Option Nat) (i : Nat) : Option Nat := match b with
  | none => some i
  | some k => if befo rule cs i k then some i else some k
def nxt (rule : Int) (cs : List Cust) (st : List Int) (t : Int) : Option Nat := (wt cs st t).foldl (pickW rule cs) none
def fill (rule srv : Int) (cs : List Cust) (t : Int) : Nat → List Int → List Int
  | 0, st => st
  | n + 1, st => if (bz cs st t : Int) < srv then (match nxt rule cs st t with
    | none => st
    | some k => fill rule srv cs t n (st.set k t)) else st
def full (rule srv : Int) (cs : List Cust) (st : List Int) (t : Int) : Prop := srv ≤ (bz cs st t : Int) ∨ nxt rule cs st t = none
def runT (rule srv : Int) (cs : List Cust) : Int → Nat → List Int → List Int
  | _, 0, st => st
  | t, n + 1, st => runT rule srv cs (t + 1) n (fill rule srv cs t cs.length st)
def stL (rule srv : Int) (cs : List Cust) : List Int := runT rule srv cs 0 100000 (List.replicate cs.length (-1))
section
variable {rule srv : Int} {cs : List Cust} {st : List Int} {t : Int}
theorem fill_full (h : full rule srv cs st t) (n : Nat) : fill rule srv cs t n st = st := by
  cases n with
  | zero => rfl
  | succ n =>
    rw [fill]
    rcases h with h | h
    · rw [if_neg (by omega)]
    · split
      · rw [h]
      · rfl
theorem runT_skip (m : Nat) : ∀ (t : Int) (n : Nat), (∀ u, t ≤ u → u < t + m → full rule srv cs st u) → m ≤ n → runT rule srv cs t n st = runT rule srv cs (t + m) (n - m) st := by
  induction m with
  | zero => intro t n _ _; simp
  | succ m ih =>
    intro t n h hm
    obtain ⟨n, rfl⟩ : ∃ k, n = k + 1 := ⟨n - 1, by omega⟩
    rw [runT, fill_full (h t (Int.le_refl _) (by omega)), ih (t + 1) n (fun u h1 h2 => h u (by omega) (by omega)) (by omega)]
    congr 1
    · omega
    · omega
theorem runT_full (n : Nat) : ∀ (t : Int), (∀ u, t ≤ u → full rule srv cs st u) → runT rule srv cs t n st = st := by
  intro t h
  rw [runT_skip n t n (fun u h1 _ => h u h1) (Nat.le_refl _), Nat.sub_self]
  rfl
theorem runT_to {a b : Int} (ha : 0 ≤ a) (hab : a ≤ b) (hb : b ≤ 100000) (h : ∀ u, a ≤ u → u < b → full rule srv cs st u) : runT rule srv cs a (100000 - a).toNat st = runT rule srv cs b (100000 - b).toNat st := by
  rw [runT_skip (b - a).toNat a _ (fun u h1 h2 => h u h1 (by omega)) (by omega)]
  congr 1
  · omega
  · omega
theorem runT_one {a : Int} (ha : 0 ≤ a) (hb : a < 100000) : runT rule srv cs a (100000 - a).toNat st = runT rule srv cs (a + 1) (100000 - (a + 1)).toNat (fill rule srv cs a cs.length st) := by
  rw [show (100000 - a).toNat = (100000 - (a + 1)).toNat + 1 by omega, runT]
theorem bz_same {u : Int} (hs : ∀ i, i < cs.length → 0 ≤ stC st i → stC st i ≤ t) (htu : t ≤ u) (h : ∀ i, i < cs.length → 0 ≤ stC st i → (stC st i + wkC cs i ≤ t ∨ u < stC st i + wkC cs i)) : bz cs st u = bz cs st t := by
  unfold bz
  refine List.countP_congr fun i hi => ?_
  rw [List.mem_range] at hi
  simp only [inS, Bool.and_eq_true, decide_eq_true_eq]
  constructor
  · rintro ⟨⟨h0, _⟩, h2⟩
    have := hs i hi h0
    have := h i hi h0
    omega
  · rintro ⟨⟨h0, h1⟩, h2⟩
    have := h i hi h0
    omega
theorem wt_same {u : Int} (htu : t ≤ u) (h : ∀ i, i < cs.length → stC st i < 0 → (atC cs i ≤ t ∨ u < atC cs i)) : wt cs st u = wt cs st t := by
  unfold wt
  refine List.filter_congr fun i hi => ?_
  rw [List.mem_range] at hi
  rw [Bool.eq_iff_iff]
  simp only [isW, Bool.and_eq_true, decide_eq_true_eq]
  constructor
  · rintro ⟨h0, h1⟩
    have := h i hi h0
    omega
  · rintro ⟨h0, h1⟩
    omega
theorem pick_some {ws : List Nat} {k : Nat} : ∃ j, (ws.foldl (pickW rule cs) (some k)) = some j ∧ (j = k ∨ j ∈ ws) := by
  induction ws generalizing k with
  | nil => exact ⟨k, rfl, .inl rfl⟩
  | cons i ws ih =>
    rw [List.foldl_cons]
    have : ∃ q, pickW rule cs (some k) i = some q ∧ (q = k ∨ q = i) := by
      unfold pickW
      simp only
      split
      · exact ⟨i, rfl, .inr rfl⟩
      · exact ⟨k, rfl, .inl rfl⟩
    obtain ⟨q, hq, hqq⟩ := this
    rw [hq]
    obtain ⟨j, h1, h2⟩ := ih (k := q)
    refine ⟨j, h1, ?_⟩
    rcases h2 with rfl | h2
    · rcases hqq with rfl | rfl
      · exact .inl rfl
      · exact .inr List.mem_cons_self
    · exact .inr (List.mem_cons_of_mem _ h2)
theorem nxt_none : nxt rule cs st t = none ↔ wt cs st t = [] := by
  unfold nxt
  cases h : wt cs st t with
  | nil => exact ⟨fun _ => rfl, fun _ => rfl⟩
  | cons i ws =>
    refine ⟨fun h2 => ?_, fun h2 => (by cases h2)⟩
    rw [List.foldl_cons] at h2
    obtain ⟨j, h3, _⟩ := pick_some (rule := rule) (cs := cs) (ws := ws) (k := i)
    rw [show pickW rule cs none i = some i from rfl, h3] at h2
    cases h2
theorem nxt_mem {k : Nat} (h : nxt rule cs st t = some k) : k ∈ wt cs st t := by
  unfold nxt at h
  cases hw : wt cs st t with
  | nil => rw [hw] at h; cases h
  | cons i ws =>
    rw [hw, List.foldl_cons] at h
    obtain ⟨j, h3, h4⟩ := pick_some (rule := rule) (cs := cs) (ws := ws) (k := i)
    rw [show pickW rule cs none i = some i from rfl, h3] at h
    injection h with h
    subst h
    rcases h4 with rfl | h4
    · exact List.mem_cons_self
    · exact List.mem_cons_of_mem _ h4
theorem wt_mem {k : Nat} : k ∈ wt cs st t ↔ k < cs.length ∧ stC st k < 0 ∧ atC cs k ≤ t := by
  simp [wt, isW]
theorem wt_nodup : (wt cs st t).Nodup := List.Pairwise.filter _ List.nodup_range
/-! ### one starts -/
theorem stC_set {k i : Nat} (hk : k < st.length) : stC (st.set k t) i = if i = k then t else stC st i := by
  unfold stC
  rw [List.getElem?_set]
  by_cases h : i = k
  · subst h
    simp [hk]
  · rw [if_neg (fun h' => h h'.symm), if_neg h]
theorem countP_point {p q : Nat → Bool} {k : Nat} (hp : p k = false) (h : ∀ i, i ≠ k → q i = p i) : ∀ n, (List.range n).countP q = (List.range n).countP p + if k < n ∧ q k = true then 1 else 0 := by
  intro n
  induction n with
  | zero => simp
  | succ n ih =>
    rw [List.range_succ, List.countP_append, List.countP_append, ih]
    by_cases hk : n = k
    · subst hk
      simp only [List.countP_singleton, hp]
      cases hq : q n <;> simp
    · rw [List.countP_singleton, List.countP_singleton, h n hk]
      have : (k < n + 1 ∧ q k = true) ↔ (k < n ∧ q k = true) := by
        constructor
        · rintro ⟨h1, h2⟩; exact ⟨by omega, h2⟩
        · rintro ⟨h1, h2⟩; exact ⟨by omega, h2⟩
      simp only [this]
      omega
theorem bz_set {k : Nat} {u : Int} (hk : k < cs.length) (hl : st.length = cs.length) (hs : stC st k < 0) (h0 : 0 ≤ t) : bz cs (st.set k t) u = bz cs st u + if t ≤ u ∧ u < t + wkC cs k then 1 else 0 := by
  unfold bz
  rw [countP_point (p := inS cs st u) (q := inS cs (st.set k t) u) (k := k)]
  · congr 1
    have : (k < cs.length ∧ inS cs (st.set k t) u k = true) ↔ (t ≤ u ∧ u < t + wkC cs k) := by
      simp only [inS, stC_set (t := t) (i := k) (by omega : k < st.length), if_true, Bool.and_eq_true, decide_eq_true_eq]
      constructor
      · rintro ⟨_, ⟨_, h1⟩, h2⟩; exact ⟨h1, h2⟩
      · rintro ⟨h1, h2⟩; exact ⟨hk, ⟨h0, h1⟩, h2⟩
    simp only [this]
  · simp only [inS]
    rw [decide_eq_false (by omega)]
    rfl
  · intro i hi
    simp only [inS, stC_set (t := t) (i := i) (by omega : k < st.length), if_neg hi]
theorem wt_set {k : Nat} {u : Int} (hl : st.length = cs.length) (hk : k < cs.length) (h0 : 0 ≤ t) : wt cs (st.set k t) u = (wt cs st u).filter (· != k) := by
  unfold wt
  rw [List.filter_filter]
  refine List.filter_congr fun i hi => ?_
  simp only [isW, stC_set (t := t) (i := i) (by omega : k < st.length)]
  by_cases h : i = k
  · subst h
    simp
    omega
  · simp [h]
def unst (st : List Int) : Nat := st.countP (fun s => decide (s < 0))
theorem unst_set {k : Nat} (hk : k < st.length) (hs : stC st k < 0) (h0 : 0 ≤ t) : unst (st.set k t) + 1 = unst st := by
  unfold unst
  rw [List.countP_set hk]
  have hx : st[k] = stC st k := by
    rw [stC_of (x := st[k]) (List.getElem?_eq_getElem hk)]
  have h1 : decide (st[k] < 0) = true := by rw [hx]; exact decide_eq_true hs
  have h2 : decide (t < 0) = false := decide_eq_false (by omega)
  have h3 : 0 < st.countP (fun s => decide (s < 0)) := by
    rw [List.countP_pos_iff]
    exact ⟨st[k], List.getElem_mem hk, h1⟩
  simp only [h1, h2, if_true, Bool.false_eq_true, if_false]
  omega
theorem fill_more (hl : st.length = cs.length) (h0 : 0 ≤ t) : ∀ (n m : Nat), unst st ≤ n → unst st ≤ m → fill rule srv cs t n st = fill rule srv cs t m st := by
  intro n
  induction n generalizing st with
  | zero =>
    intro m hn hm
    have hf : full rule srv cs st t := by
      right
      rw [nxt_none]
      cases hw : wt cs st t with
      | nil => rfl
      | cons i ws =>
        have h1 : i ∈ wt cs st t := by rw [hw]; exact List.mem_cons_self
        obtain ⟨h2, h3, _⟩ := wt_mem.1 h1
        have := unst_set (t := t) (by omega : i < st.length) h3 h0
        omega
    rw [fill_full hf, fill_full hf]
  | succ n ih =>
    intro m hn hm
    cases m with
    | zero =>
      have hf : full rule srv cs st t := by
        right
        rw [nxt_none]
        cases hw : wt cs st t with
        | nil => rfl
        | cons i ws =>
          have h1 : i ∈ wt cs st t := by rw [hw]; exact List.mem_cons_self
          obtain ⟨h2, h3, _⟩ := wt_mem.1 h1
          have := unst_set (t := t) (by omega : i < st.length) h3 h0
          omega
      rw [fill_full hf, fill_full hf]
    | succ m =>
      rw [fill, fill]
      split
      · split
        · rfl
        · rename_i k hk
          obtain ⟨h2, h3, _⟩ := wt_mem.1 (nxt_mem hk)
          have := unst_set (t := t) (by omega : k < st.length) h3 h0
          exact ih (by simp [hl]) m (by omega) (by omega)
      · rfl
theorem unst_le : unst st ≤ st.length := List.countP_le_length
theorem fill_step {k : Nat} (hl : st.length = cs.length) (h0 : 0 ≤ t) (hb : (bz cs st t : Int) < srv) (hk : nxt rule cs st t = some k) : fill rule srv cs t cs.length (st.set k t) = fill rule srv cs t cs.length st := by
  obtain ⟨h2, h3, _⟩ := wt_mem.1 (nxt_mem hk)
  have h4 := unst_set (t := t) (by omega : k < st.length) h3 h0
  have h5 := unst_le (st := st)
  rw [fill_more (st := st) hl h0 cs.length (cs.length + 1) (by omega) (by omega)]
  conv => rhs; rw [fill, if_pos hb, hk]
/-! ### the next tick at which somebody comes or leaves -/
def evT (cs : List Cust) (st : List Int) (i : Nat) : Int := if 0 ≤ stC st i then stC st i + wkC cs i else atC cs i
def laterF (cs : List Cust) (st : List Int) (t : Int) (b : Int) (i : Nat) : Int := if t < evT cs st i ∧ (b < 0 ∨ evT cs st i < b) then evT cs st i else b
def later (cs : List Cust) (st : List Int) (t : Int) : Int := (List.range cs.length).foldl (laterF cs st t) (-1)
theorem later_is (h0 : 0 ≤ t) : ∀ n, ((List.range n).foldl (laterF cs st t) (-1) = -1 ∧ ∀ i, i < n → evT cs st i ≤ t) ∨ (t < (List.range n).foldl (laterF cs st t) (-1) ∧ (∃ i, i < n ∧ evT cs st i = (List.range n).foldl (laterF cs st t) (-1)) ∧ ∀ i, i < n → evT cs st i ≤ t ∨ (List.range n).foldl (laterF cs st t) (-1) ≤ evT cs st i) := by
  intro n
  induction n with
  | zero => exact .inl ⟨rfl, fun i hi => by omega⟩
  | succ n ih =>
    rw [List.range_succ, List.foldl_append, List.foldl_cons, List.foldl_nil]
    generalize (List.range n).foldl (laterF cs st t) (-1) = b at *
    unfold laterF
    by_cases hc : t < evT cs st n ∧ (b < 0 ∨ evT cs st n < b)
    · rw [if_pos hc]
      refine .inr ⟨hc.1, ⟨n, by omega, rfl⟩, fun i hi => ?_⟩
      rcases Nat.lt_or_ge i n with h | h
      · rcases ih with ⟨_, h2⟩ | ⟨_, _, h2⟩
        · exact .inl (h2 i h)
        · have := h2 i h
          omega
      · have : i = n := by omega
        subst this
        exact .inr (Int.le_refl _)
    · rw [if_neg hc]
      rcases ih with ⟨h1, h2⟩ | ⟨h1, ⟨j, hj, he⟩, h2⟩
      · refine .inl ⟨h1, fun i hi => ?_⟩
        rcases Nat.lt_or_ge i n with h | h
        · exact h2 i h
        · have : i = n := by omega
          subst this
          omega
      · refine .inr ⟨h1, ⟨j, by omega, he⟩, fun i hi => ?_⟩
        rcases Nat.lt_or_ge i n with h | h
        · exact h2 i h
        · have : i = n := by omega
          subst this
          omega
structure Way (cs : List Cust) (st : List Int) (t : Int) : Prop where
  len : st.length = cs.length
  low : ∀ i, i < cs.length → -1 ≤ stC st i
  high : ∀ i, i < cs.length → stC st i ≤ t
  bd : ∀ i, i < cs.length → stC st i + 1000 * (unst st : Int) ≤ 10000 + 1000 * (cs.length : Int)
  tm : 0 ≤ t ∧ t + 1000 * (unst st : Int) ≤ 11000 + 1000 * (cs.length : Int)
theorem Way.set {k : Nat} (h : Way cs st t) (hk : k < cs.length) (hs : stC st k < 0) : Way cs (st.set k t) t := by
  have hl := h.len
  have htm := h.tm
  have h4 := unst_set (t := t) (by omega : k < st.length) hs htm.1
  refine ⟨by simp [hl], fun i hi => ?_, fun i hi => ?_, fun i hi => ?_, htm.1, by omega⟩
  all_goals rw [stC_set (by omega : k < st.length)]
  · have := h.low i hi
    split <;> omega
  · have := h.high i hi
    split <;> omega
  · have := h.bd i hi
    split <;> omega
theorem Way.le (h : Way cs st t) (hc : custsOk cs) : t ≤ 35000 ∧ ∀ i, i < cs.length → stC st i ≤ 34000 := by
  have hlen := hc.2
  have htm := h.tm
  refine ⟨by omega, fun i hi => ?_⟩
  have := h.bd i hi
  omega
theorem custsOk.bnd (hc : custsOk cs) {i : Nat} (hi : i < cs.length) : (0 ≤ atC cs i ∧ atC cs i ≤ 10000) ∧ (1 ≤ wkC cs i ∧ wkC cs i ≤ 1000) := by
  have hx : cs[i]? = some cs[i] := List.getElem?_eq_getElem hi
  have := hc.at hx
  rw [atC_of hx, wkC_of hx]
  exact ⟨this.1, this.2.1⟩
theorem later_next (hc : custsOk cs) (hW : Way cs st t) (hf : full rule srv cs st t) (hr : runT rule srv cs (t + 1) (100000 - (t + 1)).toNat st = stL rule srv cs) :
    (later cs st t = -1 ∧ st = stL rule srv cs) ∨ (t < later cs st t ∧ Way cs st (later cs st t) ∧ runT rule srv cs (later cs st t) (100000 - later cs st t).toNat st = stL rule srv cs) := by
  have key : ∀ u, t ≤ u → (∀ i, i < cs.length → evT cs st i ≤ t ∨ u < evT cs st i) → full rule srv cs st u := by
    intro u htu h
    have e1 : bz cs st u = bz cs st t := bz_same (fun i hi _ => hW.high i hi) htu fun i hi h0 => by
      have := h i hi
      unfold evT at this
      rw [if_pos h0] at this
      exact this
    have e2 : wt cs st u = wt cs st t := wt_same htu fun i hi h0 => by
      have := h i hi
      unfold evT at this
      rw [if_neg (by omega)] at this
      exact this
    unfold full nxt
    rw [e1, e2]
    exact hf
  rcases later_is (cs := cs) (st := st) hW.tm.1 cs.length with ⟨h1, h2⟩ | ⟨h1, ⟨j, hj, he⟩, h2⟩
  · refine .inl ⟨h1, ?_⟩
    rw [← hr, runT_full _ _ fun u hu => key u (by omega) fun i hi => .inl (h2 i hi)]
  · right
    change t < later cs st t at h1
    change evT cs st j = later cs st t at he
    change ∀ i, i < cs.length → evT cs st i ≤ t ∨ later cs st t ≤ evT cs st i at h2
    have hb := hc.bnd hj
    have hlen := hc.2
    have htm := hW.tm
    have hbd := hW.bd j hj
    have ht2 : later cs st t + 1000 * (unst st : Int) ≤ 11000 + 1000 * (cs.length : Int) := by
      rw [← he]
      unfold evT
      split
      · omega
      · have := unst_le (st := st)
        have := hW.len
        omega
    refine ⟨h1, ⟨hW.len, hW.low, fun i hi => by have := hW.high i hi; omega, hW.bd, by omega, ht2⟩, ?_⟩
    rw [← hr]
    exact (runT_to (by omega) (by omega) (by omega) fun u h3 h4 => key u (by omega) fun i hi => by
      have := h2 i hi
      omega).symm
/-! ### the one who starts, by places -/
def nextP (rule : Int) (cs : List Cust) (ws : List Nat) : Nat :=
  if rule = 1 then ws.length - 1 else if rule = 2 ∨ rule = 3 then (List.range ws.length).foldl (fun b k => if befo rule cs (ws.getD k 0) (ws.getD b 0) then k else b) 0 else 0
theorem pick_first {ws : List Nat} {k : Nat} (h : ∀ i j, befo rule cs i j = false) : ws.foldl (pickW rule cs) (some k) = some k := by
  induction ws with
  | nil => rfl
  | cons i ws ih =>
    rw [List.foldl_cons]
    have : pickW rule cs (some k) i = some k := by
      unfold pickW
      simp only [h]
      rfl
    rw [this, ih]
theorem nextP_is {ws : List Nat} (hne : ws ≠ []) (hr : 0 ≤ rule ∧ rule ≤ 3) : nextP rule cs ws < ws.length ∧ ws[nextP rule cs ws]? = ws.foldl (pickW rule cs) none := by
  have hlen : 0 < ws.length := List.length_pos_iff.2 hne
  unfold nextP
  by_cases h1 : rule = 1
  · rw [if_pos h1]
    rcases List.eq_nil_or_concat ws with rfl | ⟨xs, y, rfl⟩
    · exact absurd rfl hne
    · rw [List.concat_eq_append, List.foldl_append]
      refine ⟨by simp, ?_⟩
      simp only [List.length_append, List.length_cons, List.length_nil, Nat.zero_add, Nat.add_sub_cancel, List.foldl_cons, List.foldl_nil]
      rw [List.getElem?_append_right (Nat.le_refl _), Nat.sub_self]
      unfold pickW
      split
      · rfl
      · simp only [befo, if_pos h1, if_true]
        rfl
  · rw [if_neg h1]
    by_cases h2 : rule = 2 ∨ rule = 3
    · rw [if_pos h2]
      have hirr : ∀ i, befo rule cs i i = false := fun i => by
        unfold befo
        rw [if_neg h1]
        split
        · exact decide_eq_false (by omega)
        · split
          · exact decide_eq_false (by omega)
          · rfl
      have key : ∀ n, n < ws.length → (List.range (n + 1)).foldl (fun b k => if befo rule cs (ws.getD k 0) (ws.getD b 0) then k else b) 0 < ws.length ∧
          ws[(List.range (n + 1)).foldl (fun b k => if befo rule cs (ws.getD k 0) (ws.getD b 0) then k else b) 0]? = (ws.take (n + 1)).foldl (pickW rule cs) none := by
        intro n
        induction n with
        | zero =>
          intro _
          have : (List.range (0 + 1)).foldl (fun b k => if befo rule cs (ws.getD k 0) (ws.getD b 0) then k else b) 0 = 0 := by
            simp [List.range_succ, hirr]
          rw [this]
          refine ⟨hlen, ?_⟩
          cases ws with
          | nil => exact absurd rfl hne
          | cons i ws => rfl
        | succ n ih =>
          intro hn
          obtain ⟨g1, g2⟩ := ih (by omega)
          rw [List.range_succ, List.foldl_append, List.foldl_cons, List.foldl_nil]
          generalize (List.range (n + 1)).foldl (fun b k => if befo rule cs (ws.getD k 0) (ws.getD b 0) then k else b) 0 = b at *
          obtain ⟨x, hx⟩ : ∃ x, ws[n + 1]? = some x := ⟨_, List.getElem?_eq_getElem hn⟩
          obtain ⟨y, hy⟩ : ∃ y, ws[b]? = some y := ⟨_, List.getElem?_eq_getElem g1⟩
          rw [List.take_add_one, hx, List.foldl_append, ← g2, hy]
          simp only [Option.toList_some, List.foldl_cons, List.foldl_nil, List.getD_eq_getElem?_getD, hx, hy, Option.getD_some, pickW]
          split
          · exact ⟨hn, hx⟩
          · exact ⟨g1, hy⟩
      have := key (ws.length - 1) (by omega)
      rw [show ws.length - 1 + 1 = ws.length by omega, List.take_of_length_le (Nat.le_refl _)] at this
      exact this
    · rw [if_neg h2]
      refine ⟨hlen, ?_⟩
      have hb : ∀ i j, befo rule cs i j = false := fun i j => by
        unfold befo
        rw [if_neg h1, if_neg (by omega), if_neg (by omega)]
      cases ws with
      | nil => exact absurd rfl hne
      | cons i ws =>
        rw [List.foldl_cons, show pickW rule cs none i = some i from rfl, pick_first hb]
        rfl
end
end Go.PM

/- Who starts when: what holds of the program on its way, in plain words. -/
namespace Go.PM
def below0 (st : List Int) (i : Nat) : Bool := decide (stC st i < 0)
def gtB (u e : Int) : Bool := decide (u < e)
section
variable {rule srv : Int} {cs : List Cust} {st : List Int} {t : Int}
theorem custsOk.sorted (hc : custsOk cs) : ∀ {i j : Nat}, i ≤ j → j < cs.length → atC cs i ≤ atC cs j := by
  intro i j hij hj
  induction j with
  | zero =>
    have : i = 0 := by omega
    subst this
    exact Int.le_refl _
  | succ j ih =>
    rcases Nat.lt_or_ge i (j + 1) with h | h
    · have h1 := ih (by omega) (by omega)
      have hx : cs[j + 1]? = some cs[j + 1] := List.getElem?_eq_getElem hj
      have hy : cs[j]? = some cs[j] := List.getElem?_eq_getElem (by omega)
      have h2 := (hc.1 (j + 1) _ hx).2 _ (by omega) (by rw [Nat.add_sub_cancel]; exact hy)
      rw [atC_of hx]
      rw [atC_of hy] at h1
      omega
    · have : i = j + 1 := by omega
      subst this
      exact Int.le_refl _
theorem wt_come {come : Nat} (hcome : come ≤ cs.length) (past : ∀ i, i < come → atC cs i ≤ t) (fut : ∀ i, come ≤ i → i < cs.length → t < atC cs i) : wt cs st t = (List.range come).filter (below0 st) := by
  unfold wt
  rw [show cs.length = come + (cs.length - come) by omega, List.range_add, List.filter_append]
  have h1 : (List.range come).filter (isW cs st t) = (List.range come).filter (below0 st) := by
    refine List.filter_congr fun i hi => ?_
    rw [List.mem_range] at hi
    simp [isW, below0, past i hi]
  have h2 : ((List.range (cs.length - come)).map fun x => come + x).filter (isW cs st t) = [] := by
    rw [List.filter_eq_nil_iff]
    intro i hi
    obtain ⟨j, hj, rfl⟩ := List.mem_map.1 hi
    rw [List.mem_range] at hj
    have := fut (come + j) (by omega) (by omega)
    simp only [isW, Bool.and_eq_true, decide_eq_true_eq]
    omega
  rw [h1, h2, List.append_nil]
structure ImpI (rule srv : Int) (cs : List Cust) (st : List Int) (t : Int) (come : Nat) (ws : List Nat) (ends : List Int) : Prop where
  len : st.length = cs.length
  low : ∀ i, i < cs.length → -1 ≤ stC st i
  high : ∀ i, i < cs.length → stC st i ≤ t
  bd : ∀ i, i < cs.length → stC st i + 1000 * (unst st : Int) ≤ 10000 + 1000 * (cs.length : Int)
  tm : -1 ≤ t
  cle : come ≤ cs.length
  past : ∀ i, i < come → atC cs i ≤ t
  fut : ∀ i, come ≤ i → i < cs.length → t < atC cs i ∧ stC st i < 0
  wsq : ws = wt cs st t
  cnt : ∀ u, t ≤ u → ends.countP (gtB u) = bz cs st u
  ef : ∀ e ∈ ends, t < e
  eb : ∀ e ∈ ends, e + 1000 * (unst st : Int) ≤ 11000 + 1000 * (cs.length : Int)
  fl : full rule srv cs st t
  room : ws.length + ends.length ≤ come
  es : (ends.length : Int) ≤ srv
  run : runT rule srv cs (t + 1) (100000 - (t + 1)).toNat st = stL rule srv cs
theorem stC_rep {n i : Nat} (h : i < n) : stC (List.replicate n (-1)) i = -1 := stC_of (by rw [List.getElem?_replicate, if_pos h])
theorem ImpI.start (hc : custsOk cs) (hs : 1 ≤ srv) : ImpI rule srv cs (List.replicate cs.length (-1)) (-1) 0 [] [] := by
  have hw : wt cs (List.replicate cs.length (-1)) (-1) = [] := by
    rw [wt_come (Nat.zero_le _) (fun i hi => by omega) fun i _ hi => by have := hc.bnd hi; omega]
    rfl
  have hu : unst (List.replicate cs.length (-1)) = cs.length := by simp [unst, List.countP_replicate]
  refine ⟨by simp, fun i hi => by rw [stC_rep hi]; decide, fun i hi => by rw [stC_rep hi]; decide, fun i hi => by rw [stC_rep hi, hu]; omega, by decide, Nat.zero_le _, fun i hi => by omega, fun i _ hi => ⟨by have := hc.bnd hi; omega, by rw [stC_rep hi]; decide⟩, hw.symm, fun u _ => ?_, fun e he => (by cases he), fun e he => (by cases he), .inr (nxt_none.2 hw), Nat.le_refl _, by simp; omega, rfl⟩
  unfold bz
  rw [(List.countP_eq_zero (p := inS cs (List.replicate cs.length (-1)) u)).2]
  · rfl
  · intro i hi
    rw [List.mem_range] at hi
    simp only [inS, stC_rep hi, Bool.and_eq_true, decide_eq_true_eq]
    omega
/-! ### the next tick -/
def mnF (w : Bool) (b e : Int) : Int := if b < 0 ∨ (w = true ∧ e < b) then e else b
theorem mn_off {es : List Int} {b : Int} (h : 0 ≤ b) : es.foldl (mnF false) b = b := by
  induction es with
  | nil => rfl
  | cons e es ih =>
    rw [List.foldl_cons]
    have : mnF false b e = b := by
      unfold mnF
      rw [if_neg (by simp; omega)]
    rw [this, ih]
theorem mn_on : ∀ {es : List Int} {b : Int}, (∀ e ∈ es, 0 ≤ e) → (es.foldl (mnF true) b = b ∨ es.foldl (mnF true) b ∈ es) ∧ (∀ e ∈ es, es.foldl (mnF true) b ≤ e) ∧ (0 ≤ b → es.foldl (mnF true) b ≤ b) ∧ (es ≠ [] → 0 ≤ es.foldl (mnF true) b)
  | [], b, _ => ⟨.inl rfl, fun e he => (by cases he), fun _ => Int.le_refl _, fun h => absurd rfl h⟩
  | e :: es, b, h => by
    rw [List.foldl_cons]
    have h1 := h e List.mem_cons_self
    have h2 : ∀ e' ∈ es, 0 ≤ e' := fun e' he => h e' (List.mem_cons_of_mem _ he)
    have hm : (mnF true b e = b ∨ mnF true b e = e) ∧ mnF true b e ≤ e ∧ (0 ≤ b → mnF true b e ≤ b) ∧ 0 ≤ mnF true b e := by
      unfold mnF
      by_cases hc : b < 0 ∨ (true = true ∧ e < b)
      · rw [if_pos hc]
        refine ⟨.inr rfl, Int.le_refl _, fun hb => ?_, h1⟩
        rcases hc with hc | hc <;> omega
      · rw [if_neg hc]
        simp at hc
        exact ⟨.inl rfl, hc.2, fun _ => Int.le_refl _, hc.1⟩
    obtain ⟨m1, m2, m3, m4⟩ := hm
    obtain ⟨g1, g2, g3, g4⟩ := mn_on (es := es) (b := mnF true b e) h2
    have g3 := g3 m4
    refine ⟨?_, ?_, fun hb => by have := m3 hb; omega, fun _ => ?_⟩
    · rcases g1 with g1 | g1
      · rw [g1]
        rcases m1 with m1 | m1
        · exact .inl m1
        · rw [m1]; exact .inr List.mem_cons_self
      · exact .inr (List.mem_cons_of_mem _ g1)
    · intro e' he
      rcases List.mem_cons.1 he with rfl | he
      · omega
      · exact g2 e' he
    · rcases g1 with g1 | g1
      · rw [g1]; exact m4
      · exact h2 _ g1
def now0 (cs : List Cust) (come : Nat) : Int := if come < cs.length then atC cs come else -1
def nowN (cs : List Cust) (come : Nat) (ws : List Nat) (ends : List Int) : Int := ends.foldl (mnF (decide (0 < ws.length))) (now0 cs come)
theorem ImpI.cntAll {come : Nat} {ws : List Nat} {ends : List Int} (h : ImpI rule srv cs st t come ws ends) : ends.length = bz cs st t := by
  rw [← h.cnt t (Int.le_refl _), List.countP_eq_length.2]
  intro e he
  exact decide_eq_true (h.ef e he)
theorem ImpI.time {come : Nat} {ws : List Nat} {ends : List Int} (h : ImpI rule srv cs st t come ws ends) (hc : custsOk cs) (hs : 1 ≤ srv) (hg : come < cs.length ∨ 0 < ws.length) :
    (t < nowN cs come ws ends ∧ nowN cs come ws ends + 1000 * (unst st : Int) ≤ 11000 + 1000 * (cs.length : Int)) ∧ (∀ i, come ≤ i → i < cs.length → nowN cs come ws ends ≤ atC cs i) ∧
      (come < cs.length ∧ atC cs come = nowN cs come ws ends ∨ 0 < ws.length ∧ nowN cs come ws ends ∈ ends) ∧ runT rule srv cs (nowN cs come ws ends) (100000 - nowN cs come ws ends).toNat st = stL rule srv cs := by
  have htm := h.tm
  have hul := unst_le (st := st)
  have hlen := h.len
  have he0 : ∀ e ∈ ends, 0 ≤ e := fun e he => by have := h.ef e he; omega
  have hlen24 := hc.2
  by_cases hw : 0 < ws.length
  · have hbz : srv ≤ (bz cs st t : Int) := by
      rcases h.fl with hf | hf
      · exact hf
      · rw [nxt_none, ← h.wsq] at hf
        rw [hf] at hw
        simp at hw
    have hne : ends ≠ [] := by
      intro he
      have := h.cntAll
      rw [he] at this
      simp at this
      omega
    obtain ⟨g1, g2, g3, g4⟩ := mn_on (es := ends) (b := now0 cs come) he0
    have hnow : nowN cs come ws ends = ends.foldl (mnF true) (now0 cs come) := by unfold nowN; rw [decide_eq_true hw]
    rw [hnow]
    generalize ends.foldl (mnF true) (now0 cs come) = w at *
    have g4 := g4 hne
    have hcase : (come < cs.length ∧ atC cs come = w) ∨ w ∈ ends := by
      rcases g1 with g1 | g1
      · unfold now0 at g1
        split at g1
        · rename_i hcl
          exact .inl ⟨hcl, g1.symm⟩
        · omega
      · exact .inr g1
    have htw : t < w ∧ w + 1000 * (unst st : Int) ≤ 11000 + 1000 * (cs.length : Int) := by
      rcases hcase with ⟨h1, h2⟩ | h1
      · have := h.fut come (Nat.le_refl _) h1
        have := hc.bnd h1
        omega
      · exact ⟨h.ef _ h1, h.eb _ h1⟩
    refine ⟨htw, fun i h1 h2 => ?_, hcase.imp id fun h1 => ⟨hw, h1⟩, ?_⟩
    · have h3 := hc.sorted h1 h2
      have h4 := hc.bnd (i := come) (by omega)
      have h5 : now0 cs come = atC cs come := by unfold now0; rw [if_pos (by omega)]
      have := g3 (by rw [h5]; omega)
      omega
    · rw [← h.run]
      refine (runT_to (by omega) (by omega) (by omega) fun u h1 h2 => .inl ?_).symm
      rw [← h.cnt u (by omega), (List.countP_eq_length (p := gtB u)).2 fun e he => decide_eq_true (by have := g2 e he; omega), h.cntAll]
      exact hbz
  · have hcl : come < cs.length := by omega
    have h5 : now0 cs come = atC cs come := by unfold now0; rw [if_pos hcl]
    have h4 := hc.bnd hcl
    have hf := (h.fut come (Nat.le_refl _) hcl).1
    have hnow : nowN cs come ws ends = atC cs come := by unfold nowN; rw [decide_eq_false hw, mn_off (by rw [h5]; omega), h5]
    rw [hnow]
    refine ⟨⟨hf, by omega⟩, fun i h1 h2 => hc.sorted h1 h2, .inl ⟨hcl, rfl⟩, ?_⟩
    rw [← h.run]
    refine (runT_to (by omega) (by omega) (by omega) fun u h1 h2 => .inr ?_).symm
    rw [nxt_none, wt_come h.cle (fun i hi => by have := h.past i hi; omega) fun i h3 h4 => by have := hc.sorted h3 h4; omega]
    have e1 := wt_come (st := st) h.cle h.past fun i h3 h4 => (h.fut i h3 h4).1
    rw [← e1, ← h.wsq]
    exact List.eq_nil_of_length_eq_zero (by omega)
theorem ImpI.done {come : Nat} {ws : List Nat} {ends : List Int} (h : ImpI rule srv cs st t come ws ends) (hcome : ¬ come < cs.length) (hw : ¬ 0 < ws.length) : st = stL rule srv cs := by
  rw [← h.run]
  refine (runT_full _ _ fun u hu => .inr ?_).symm
  have hcl := h.cle
  have e1 := wt_come (st := st) h.cle h.past fun i h3 h4 => (h.fut i h3 h4).1
  rw [nxt_none, wt_come h.cle (fun i hi => by have := h.past i hi; omega) fun i h3 h4 => by omega, ← e1, ← h.wsq]
  exact List.eq_nil_of_length_eq_zero (by omega)
/-! ### those who start at a tick -/
structure Ph4 (rule srv : Int) (cs : List Cust) (st0 : List Int) (now : Int) (come tot : Nat) (st : List Int) (ws : List Nat) (ends : List Int) : Prop where
  way : Way cs st now
  wsq : ws = wt cs st now
  cnt : ∀ u, now ≤ u → ends.countP (gtB u) = bz cs st u
  ef : ∀ e ∈ ends, now < e
  eb : ∀ e ∈ ends, e + 1000 * (unst st : Int) ≤ 11000 + 1000 * (cs.length : Int)
  fl : fill rule srv cs now cs.length st = fill rule srv cs now cs.length st0
  past : ∀ i, i < come → atC cs i ≤ now
  fut : ∀ i, come ≤ i → i < cs.length → now < atC cs i ∧ stC st i < 0
  tot : ws.length + ends.length = tot
  es : (ends.length : Int) ≤ srv
theorem eraseIdx_filter : ∀ {l : List Nat} {i k : Nat}, l.Nodup → l[i]? = some k → l.eraseIdx i = l.filter (· != k)
  | [], _, _, _, h => by cases h
  | x :: l, 0, k, hn, h => by
    injection h with h
    subst h
    rw [List.nodup_cons] at hn
    rw [List.eraseIdx_cons_zero, List.filter_cons_of_neg (by simp), List.filter_eq_self.2]
    intro y hy
    have : y ≠ x := fun he => hn.1 (he ▸ hy)
    simpa using this
  | x :: l, i + 1, k, hn, h => by
    rw [List.nodup_cons] at hn
    rw [List.getElem?_cons_succ] at h
    have hx : x ≠ k := fun he => hn.1 (he ▸ List.mem_of_getElem? h)
    rw [List.eraseIdx_cons_succ, List.filter_cons_of_pos (by simpa using hx), eraseIdx_filter hn.2 h]
theorem Ph4.step {now : Int} {st0 : List Int} {come tot : Nat} {ws : List Nat} {ends : List Int} (h : Ph4 rule srv cs st0 now come tot st ws ends) (hc : custsOk cs) (hr : 0 ≤ rule ∧ rule ≤ 3) (hb : (ends.length : Int) < srv) (hne : 0 < ws.length) :
    ∃ k, ws[nextP rule cs ws]? = some k ∧ k < cs.length ∧ nextP rule cs ws < ws.length ∧ (0 ≤ now ∧ now ≤ 35000) ∧ Ph4 rule srv cs st0 now come tot (st.set k now) (ws.eraseIdx (nextP rule cs ws)) (ends ++ [now + wkC cs k]) := by
  have hne' : ws ≠ [] := fun he => by rw [he] at hne; simp at hne
  obtain ⟨g1, g2⟩ := nextP_is (cs := cs) hne' hr
  obtain ⟨k, hk⟩ : ∃ k, ws[nextP rule cs ws]? = some k := ⟨_, List.getElem?_eq_getElem g1⟩
  have hnx : nxt rule cs st now = some k := by
    unfold nxt
    rw [← h.wsq, ← g2, hk]
  obtain ⟨m1, m2, m3⟩ := wt_mem.1 (nxt_mem hnx)
  have htm := h.way.tm
  have hle := (h.way.le hc).1
  have hbz : (bz cs st now : Int) = ends.length := by
    rw [← h.cnt now (Int.le_refl _), (List.countP_eq_length (p := gtB now)).2 fun e he => decide_eq_true (h.ef e he)]
  have hsl : k < st.length := by rw [h.way.len]; exact m1
  have hus := unst_set (t := now) hsl m2 htm.1
  have hwk := (hc.bnd m1).2
  refine ⟨k, hk, m1, g1, ⟨htm.1, hle⟩, h.way.set m1 m2, ?_, ?_, ?_, ?_, ?_, h.past, ?_, ?_, ?_⟩
  · rw [wt_set h.way.len m1 htm.1, ← h.wsq]
    exact eraseIdx_filter (by rw [h.wsq]; exact wt_nodup) hk
  · intro u hu
    rw [List.countP_append, h.cnt u hu, bz_set m1 h.way.len m2 htm.1, List.countP_singleton]
    congr 1
    simp only [gtB, decide_eq_true_eq]
    by_cases hq : u < now + wkC cs k
    · rw [if_pos hq, if_pos ⟨hu, hq⟩]
    · rw [if_neg hq, if_neg fun h' => hq h'.2]
  · intro e he
    rcases List.mem_append.1 he with he | he
    · exact h.ef e he
    · rw [List.mem_singleton] at he
      omega
  · intro e he
    rcases List.mem_append.1 he with he | he
    · have := h.eb e he
      omega
    · rw [List.mem_singleton] at he
      omega
  · rw [fill_step h.way.len htm.1 (by rw [hbz]; exact hb) hnx, h.fl]
  · intro i h1 h2
    have h3 := h.fut i h1 h2
    refine ⟨h3.1, ?_⟩
    rw [stC_set hsl, if_neg (fun he => by subst he; omega)]
    exact h3.2
  · rw [List.length_eraseIdx_of_lt g1, List.length_append, List.length_cons, List.length_nil]
    have := h.tot
    omega
  · rw [List.length_append, List.length_cons, List.length_nil]
    omega
theorem Ph4.done {now : Int} {st0 : List Int} {come tot : Nat} {ws : List Nat} {ends : List Int} (h : Ph4 rule srv cs st0 now come tot st ws ends) (hc : custsOk cs) (hcl : come ≤ cs.length) (ht : tot ≤ come) (hf : srv ≤ (ends.length : Int) ∨ ws = [])
    (hr : runT rule srv cs now (100000 - now).toNat st0 = stL rule srv cs) : ImpI rule srv cs st now come ws ends := by
  have htm := h.way.tm
  have hle := (h.way.le hc).1
  have hbz : (bz cs st now : Int) = ends.length := by
    rw [← h.cnt now (Int.le_refl _), (List.countP_eq_length (p := gtB now)).2 fun e he => decide_eq_true (h.ef e he)]
  have hfull : full rule srv cs st now := by
    rcases hf with hf | hf
    · exact .inl (by rw [hbz]; exact hf)
    · exact .inr (nxt_none.2 (by rw [← h.wsq]; exact hf))
  refine ⟨h.way.len, h.way.low, h.way.high, h.way.bd, by omega, hcl, h.past, h.fut, h.wsq, h.cnt, h.ef, h.eb, hfull, by rw [h.tot]; exact ht, h.es, ?_⟩
  have h1 := fill_full hfull cs.length
  rw [h.fl] at h1
  rw [runT_one htm.1 (by omega), h1] at hr
  exact hr
theorem ImpI.ph4 {come come2 : Nat} {now : Int} {ws : List Nat} {ends : List Int} (h : ImpI rule srv cs st t come ws ends) (hc : custsOk cs) (ht : t < now) (hn : now + 1000 * (unst st : Int) ≤ 11000 + 1000 * (cs.length : Int)) (h1 : come ≤ come2) (h2 : come2 ≤ cs.length)
    (h3 : ∀ i, come ≤ i → i < come2 → atC cs i = now) (h4 : ∀ i, come2 ≤ i → i < cs.length → now < atC cs i) :
    Ph4 rule srv cs st now come2 (((List.range come2).filter (below0 st)).length + (ends.filter (gtB now)).length) st ((List.range come2).filter (below0 st)) (ends.filter (gtB now)) := by
  have htm := h.tm
  have past : ∀ i, i < come2 → atC cs i ≤ now := fun i hi => by
    rcases Nat.lt_or_ge i come with hlt | hge
    · have := h.past i hlt
      omega
    · rw [h3 i hge hi]
      exact Int.le_refl _
  refine ⟨⟨h.len, h.low, fun i hi => by have := h.high i hi; omega, h.bd, by omega, hn⟩, ?_, ?_, ?_, ?_, rfl, past, ?_, rfl, ?_⟩
  · rw [wt_come h2 past h4]
  · intro u hu
    rw [List.countP_filter, ← h.cnt u (by omega)]
    refine List.countP_congr fun e he => ?_
    simp only [gtB, Bool.and_eq_true, decide_eq_true_eq]
    omega
  · intro e he
    have := (List.mem_filter.1 he).2
    simpa [gtB] using this
  · intro e he
    exact h.eb e (List.mem_filter.1 he).1
  · intro i h5 h6
    exact ⟨h4 i h5 h6, (h.fut i (by omega) h6).2⟩
  · have := List.length_filter_le (gtB now) ends
    have := h.es
    omega
end
end Go.PM
