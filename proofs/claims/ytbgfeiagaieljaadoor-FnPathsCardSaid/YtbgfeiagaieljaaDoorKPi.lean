/- Texts of a claim, in one: part 9. -/
import Derived.KernelRfl
import Derived.Lib.ItoaNum
import Derived.Lib.Join
import Derived.Test.YtbgfeiagaieljaaDoorKPh

/- The pure machine's form of functions, as the settings give it: S1. -/
set_option linter.unusedSimpArgs false
set_option linter.unusedVariables false
namespace Go.PM
def spec_MakeFraction_c : PCode := (.seq (.reg [⟨(some 4), (.mv (.const (.string ⟨#[]⟩))), none, false, []⟩, ⟨(some 5), (.mv (.const (.bool false))), none, false, []⟩]) (.seq (.seq (.reg [⟨(some 6), (.mv (.tmp 1)), none, false, []⟩, ⟨(some 7), (.bin .eql (.tmp 6) (.const (.int .i64 0))), none, false, []⟩]) (.cond (.tmp 7) (.seq (.reg [⟨(some 4), (.mv (.const (.string ⟨#[]⟩))), none, false, []⟩, ⟨(some 5), (.mv (.const (.bool false))), none, false, []⟩]) .ret) .skip)) (.seq (.reg [⟨(some 8), (.mv (.tmp 0)), none, false, []⟩, ⟨(some 9), (.bin .lss (.tmp 8) (.const (.int .i64 0))), none, false, []⟩, ⟨(some 10), (.mv (.tmp 1)), none, false, []⟩, ⟨(some 11), (.bin .lss (.tmp 10) (.const (.int .i64 0))), none, false, []⟩, ⟨(some 12), (.eqb true (.tmp 9) (.tmp 11)), none, false, []⟩, ⟨(some 13), (.mv (.tmp 0)), none, false, []⟩, ⟨(some 14), (.call 25 [(.tmp 13)]), none, false, []⟩, ⟨(some 15), (.mv (.tmp 1)), none, false, []⟩, ⟨(some 16), (.call 25 [(.tmp 15)]), none, false, []⟩, ⟨(some 17), (.call 24 [(.tmp 12), (.tmp 14), (.tmp 16)]), none, false, []⟩, ⟨(some 18), (.call 23 [(.tmp 17)]), none, false, []⟩, ⟨(some 19), (.ext (.tmp 18) 0), none, false, []⟩, ⟨(some 20), (.ext (.tmp 18) 1), none, false, []⟩, ⟨(some 4), (.mv (.tmp 19)), none, false, []⟩, ⟨(some 5), (.mv (.tmp 20)), none, false, []⟩]) .ret)))
def spec_MakeFraction : PFunc := ⟨21, [(.tmp 4), (.tmp 5)], spec_MakeFraction_c⟩
theorem spec_MakeFraction_t : tab 12 = some spec_MakeFraction := by kernel_rfl
def spec_l01Give_c : PCode := (.seq (.reg [⟨(some 1), (.box (.tmp 0)), none, false, []⟩, ⟨(some 2), (.mv (.const (.string ⟨#[]⟩))), none, false, []⟩, ⟨(some 3), (.mv (.const (.bool false))), none, false, []⟩]) (.seq (.seq (.reg [⟨(some 4), (.load true 3 (.tmp 1)), none, false, []⟩, ⟨(some 5), (.call 37 [(.tmp 4)]), none, false, []⟩, ⟨(some 6), (.un .not (.tmp 5)), none, false, []⟩]) (.cond (.tmp 6) (.seq (.reg [⟨(some 2), (.mv (.const (.string ⟨#[]⟩))), none, false, []⟩, ⟨(some 3), (.mv (.const (.bool false))), none, false, []⟩]) .ret) .skip)) (.seq (.reg [⟨(some 7), (.load true 3 (.tmp 1)), none, false, []⟩, ⟨(some 8), (.call 38 [(.tmp 7)]), none, false, []⟩, ⟨(some 2), (.mv (.tmp 8)), none, false, []⟩, ⟨(some 3), (.mv (.const (.bool true))), none, false, []⟩]) .ret)))
def spec_l01Give : PFunc := ⟨9, [(.tmp 2), (.tmp 3)], spec_l01Give_c⟩
theorem spec_l01Give_t : tab 23 = some spec_l01Give := by kernel_rfl
def spec_l01Make_c : PCode := (.seq (.reg [⟨(some 6), (.new [(.bool false), (.slice none 0 0), (.slice none 0 0)]), none, false, []⟩]) (.seq (.reg [⟨(some 8), (.mv (.tmp 1)), none, false, []⟩, ⟨(some 9), (.mv (.tmp 2)), none, false, []⟩, ⟨(some 10), (.call 39 [(.tmp 8), (.tmp 9)]), none, false, []⟩, ⟨(some 7), (.mv (.tmp 10)), none, false, []⟩]) (.seq (.seq (.reg [⟨(some 11), (.mv (.tmp 7)), none, false, []⟩, ⟨(some 12), (.lit [(.int .i64 0)] 1 [(0, (.const (.int .i64 1)))]), none, false, []⟩, ⟨(some 13), (.call 40 [(.tmp 11), (.tmp 12)]), none, false, []⟩, ⟨(some 14), (.bin .neq (.tmp 13) (.const (.int .i64 0))), none, false, []⟩]) (.cond (.tmp 14) (.seq (.reg [⟨(some 16), (.mv (.tmp 1)), none, false, []⟩, ⟨(some 17), (.mv (.tmp 7)), none, false, []⟩, ⟨(some 18), (.call 41 [(.tmp 16), (.tmp 17)]), none, false, []⟩, ⟨(some 15), (.mv (.tmp 18)), none, false, []⟩, ⟨(some 19), (.ext (.tmp 15) 0), none, false, []⟩, ⟨(some 20), (.ext (.tmp 15) 1), none, false, []⟩, ⟨(some 1), (.mv (.tmp 19)), none, false, []⟩]) (.reg [⟨(some 22), (.mv (.tmp 2)), none, false, []⟩, ⟨(some 23), (.mv (.tmp 7)), none, false, []⟩, ⟨(some 24), (.call 41 [(.tmp 22), (.tmp 23)]), none, false, []⟩, ⟨(some 21), (.mv (.tmp 24)), none, false, []⟩, ⟨(some 25), (.ext (.tmp 21) 0), none, false, []⟩, ⟨(some 26), (.ext (.tmp 21) 1), none, false, []⟩, ⟨(some 2), (.mv (.tmp 25)), none, false, []⟩])) .skip)) (.seq (.reg [⟨(some 27), (.mv (.tmp 0)), none, false, []⟩, ⟨(some 28), (.mv (.tmp 27)), none, false, []⟩, ⟨(some 29), (.mv (.tmp 1)), (some (28, true)), false, []⟩, ⟨(some 30), (.len (.tmp 29)), (some (28, true)), false, []⟩, ⟨(some 31), (.bin .gtr (.tmp 30) (.const (.int .i64 0))), (some (28, true)), false, []⟩, ⟨(some 32), (.pick (.tmp 28) (.tmp 31) (.const (.bool false))), none, false, []⟩, ⟨(some 33), (.mv (.tmp 1)), none, false, []⟩, ⟨(some 34), (.mv (.tmp 2)), none, false, []⟩, ⟨(some 35), (.build [(.bool false), (.slice none 0 0), (.slice none 0 0)] [(0, 1), (1, 1), (2, 1)] [(0, (.tmp 32)), (1, (.tmp 33)), (2, (.tmp 34))]), none, false, []⟩, ⟨none, (.store 3 (.tmp 6) (.tmp 35)), none, false, []⟩]) .ret))))
def spec_l01Make : PFunc := ⟨36, [(.cell 6 true 3)], spec_l01Make_c⟩
theorem spec_l01Make_t : tab 24 = some spec_l01Make := by kernel_rfl
def spec_l01Abs_c : PCode := (.seq (.reg [⟨(some 2), (.mv (.const (.slice none 0 0))), none, false, []⟩]) (.seq (.seq (.reg [⟨(some 3), (.mv (.tmp 0)), none, false, []⟩, ⟨(some 4), (.bin .eql (.tmp 3) (.const (.int .i64 (-9223372036854775808)))), none, false, []⟩]) (.cond (.tmp 4) (.seq (.reg [⟨(some 5), (.lit [(.int .i64 0)] 3 [(0, (.const (.int .i64 854775808))), (1, (.const (.int .i64 223372036))), (2, (.const (.int .i64 9)))]), none, false, []⟩, ⟨(some 2), (.mv (.tmp 5)), none, false, []⟩]) .ret) .skip)) (.seq (.reg [⟨(some 6), (.mv (.tmp 0)), none, false, []⟩, ⟨(some 7), (.mv (.tmp 0)), none, false, []⟩, ⟨(some 8), (.un .neg (.tmp 7)), none, false, []⟩, ⟨(some 9), (.call 43 [(.tmp 6), (.tmp 8)]), none, false, []⟩, ⟨(some 10), (.call 42 [(.tmp 9)]), none, false, []⟩, ⟨(some 2), (.mv (.tmp 10)), none, false, []⟩]) .ret)))
def spec_l01Abs : PFunc := ⟨11, [(.tmp 2)], spec_l01Abs_c⟩
theorem spec_l01Abs_t : tab 25 = some spec_l01Abs := by kernel_rfl
def spec_l01Cmp_b0 : PCode := (.seq (.seq (.reg [⟨(some 19), (.mv (.tmp 5)), none, false, []⟩, ⟨(some 20), (.bin .geq (.tmp 19) (.const (.int .i64 0))), none, false, []⟩]) (.cond (.tmp 20) .skip (.exit 0))) (.seq (.block 1 (.seq (.reg [⟨(some 23), (.mv (.tmp 0)), none, false, []⟩, ⟨(some 24), (.mv (.tmp 5)), none, false, []⟩, ⟨(some 25), (.iaddr 1 (.tmp 23) (.tmp 24)), none, false, []⟩, ⟨(some 26), (.load false 1 (.tmp 25)), none, false, []⟩, ⟨(some 27), (.mv (.tmp 1)), none, false, []⟩, ⟨(some 28), (.mv (.tmp 5)), none, false, []⟩, ⟨(some 29), (.iaddr 1 (.tmp 27) (.tmp 28)), none, false, []⟩, ⟨(some 30), (.load false 1 (.tmp 29)), none, false, []⟩, ⟨(some 31), (.bin .neq (.tmp 26) (.tmp 30)), none, false, []⟩]) (.cond (.tmp 31) (.seq (.seq (.reg [⟨(some 32), (.mv (.tmp 0)), none, false, []⟩, ⟨(some 33), (.mv (.tmp 5)), none, false, []⟩, ⟨(some 34), (.iaddr 1 (.tmp 32) (.tmp 33)), none, false, []⟩, ⟨(some 35), (.load false 1 (.tmp 34)), none, false, []⟩, ⟨(some 36), (.mv (.tmp 1)), none, false, []⟩, ⟨(some 37), (.mv (.tmp 5)), none, false, []⟩, ⟨(some 38), (.iaddr 1 (.tmp 36) (.tmp 37)), none, false, []⟩, ⟨(some 39), (.load false 1 (.tmp 38)), none, false, []⟩, ⟨(some 40), (.bin .lss (.tmp 35) (.tmp 39)), none, false, []⟩]) (.cond (.tmp 40) (.seq (.reg [⟨(some 4), (.mv (.const (.int .i64 (-1)))), none, false, []⟩]) .ret) .skip)) (.seq (.reg [⟨(some 4), (.mv (.const (.int .i64 1))), none, false, []⟩]) .ret)) .skip))) (.reg [⟨(some 21), (.mv (.tmp 5)), none, false, []⟩, ⟨(some 22), (.bin .sub (.tmp 21) (.const (.int .i64 1))), none, false, []⟩, ⟨(some 5), (.mv (.tmp 22)), none, false, []⟩])))
def spec_l01Cmp_c : PCode := (.seq (.reg [⟨(some 4), (.mv (.const (.int .i64 0))), none, false, []⟩]) (.seq (.seq (.reg [⟨(some 6), (.mv (.tmp 0)), none, false, []⟩, ⟨(some 7), (.len (.tmp 6)), none, false, []⟩, ⟨(some 8), (.mv (.tmp 1)), none, false, []⟩, ⟨(some 9), (.len (.tmp 8)), none, false, []⟩, ⟨(some 10), (.bin .neq (.tmp 7) (.tmp 9)), none, false, []⟩]) (.cond (.tmp 10) (.seq (.seq (.reg [⟨(some 11), (.mv (.tmp 0)), none, false, []⟩, ⟨(some 12), (.len (.tmp 11)), none, false, []⟩, ⟨(some 13), (.mv (.tmp 1)), none, false, []⟩, ⟨(some 14), (.len (.tmp 13)), none, false, []⟩, ⟨(some 15), (.bin .lss (.tmp 12) (.tmp 14)), none, false, []⟩]) (.cond (.tmp 15) (.seq (.reg [⟨(some 4), (.mv (.const (.int .i64 (-1)))), none, false, []⟩]) .ret) .skip)) (.seq (.reg [⟨(some 4), (.mv (.const (.int .i64 1))), none, false, []⟩]) .ret)) .skip)) (.seq (.seq (.reg [⟨(some 16), (.mv (.tmp 0)), none, false, []⟩, ⟨(some 17), (.len (.tmp 16)), none, false, []⟩, ⟨(some 18), (.bin .sub (.tmp 17) (.const (.int .i64 1))), none, false, []⟩, ⟨(some 5), (.mv (.tmp 18)), none, false, []⟩]) (.block 0 (.loop spec_l01Cmp_b0))) (.seq (.reg [⟨(some 4), (.mv (.const (.int .i64 0))), none, false, []⟩]) .ret))))
def spec_l01Cmp : PFunc := ⟨41, [(.tmp 4)], spec_l01Cmp_c⟩
theorem spec_l01Cmp_t : tab 40 = some spec_l01Cmp := by kernel_rfl
def spec_l01Nat_b0 : PCode := (.seq (.seq (.reg [⟨(some 5), (.mv (.tmp 0)), none, false, []⟩, ⟨(some 6), (.bin .gtr (.tmp 5) (.const (.int .i64 0))), none, false, []⟩]) (.cond (.tmp 6) .skip (.exit 0))) (.block 1 (.seq (.reg [⟨(some 7), (.mv (.tmp 3)), none, false, []⟩, ⟨(some 8), (.mv (.tmp 0)), none, false, []⟩, ⟨(some 9), (.bin .rem (.tmp 8) (.const (.int .i64 1000000000))), none, false, []⟩, ⟨(some 10), (.lit [(.int .i64 0)] 1 [(0, (.tmp 9))]), none, false, []⟩, ⟨(some 11), (.app 1 8 (.tmp 7) (.tmp 10)), none, false, []⟩, ⟨(some 3), (.mv (.tmp 11)), none, false, []⟩]) (.reg [⟨(some 12), (.mv (.tmp 0)), none, false, []⟩, ⟨(some 13), (.bin .quo (.tmp 12) (.const (.int .i64 1000000000))), none, false, []⟩, ⟨(some 0), (.mv (.tmp 13)), none, false, []⟩]))))
def spec_l01Nat_c : PCode := (.seq (.reg [⟨(some 2), (.mv (.const (.slice none 0 0))), none, false, []⟩]) (.seq (.reg [⟨(some 4), (.lit [(.int .i64 0)] 0 []), none, false, []⟩, ⟨(some 3), (.mv (.tmp 4)), none, false, []⟩]) (.seq (.block 0 (.loop spec_l01Nat_b0)) (.seq (.reg [⟨(some 14), (.mv (.tmp 3)), none, false, []⟩, ⟨(some 2), (.mv (.tmp 14)), none, false, []⟩]) .ret))))
def spec_l01Nat : PFunc := ⟨15, [(.tmp 2)], spec_l01Nat_c⟩
theorem spec_l01Nat_t : tab 42 = some spec_l01Nat := by kernel_rfl
def spec_l01Fits_c : PCode := (.seq (.reg [⟨(some 1), (.box (.tmp 0)), none, false, []⟩, ⟨(some 2), (.mv (.const (.bool false))), none, false, []⟩]) (.seq (.reg [⟨(some 3), (.faddr 1 (.tmp 1)), none, false, []⟩, ⟨(some 4), (.load false 1 (.tmp 3)), none, false, []⟩, ⟨(some 5), (.call 51 [(.tmp 4)]), none, false, []⟩, ⟨(some 6), (.slen (.tmp 5)), none, false, []⟩, ⟨(some 7), (.bin .leq (.tmp 6) (.const (.int .i64 200))), none, false, []⟩, ⟨(some 8), (.mv (.tmp 7)), none, false, []⟩, ⟨(some 9), (.faddr 2 (.tmp 1)), (some (8, true)), false, []⟩, ⟨(some 10), (.load false 1 (.tmp 9)), (some (8, true)), false, []⟩, ⟨(some 11), (.call 51 [(.tmp 10)]), (some (8, true)), false, []⟩, ⟨(some 12), (.slen (.tmp 11)), (some (8, true)), false, []⟩, ⟨(some 13), (.bin .leq (.tmp 12) (.const (.int .i64 200))), (some (8, true)), false, []⟩, ⟨(some 14), (.pick (.tmp 8) (.tmp 13) (.const (.bool false))), none, false, []⟩, ⟨(some 2), (.mv (.tmp 14)), none, false, []⟩]) .ret))
def spec_l01Fits : PFunc := ⟨15, [(.tmp 2)], spec_l01Fits_c⟩
theorem spec_l01Fits_t : tab 37 = some spec_l01Fits := by kernel_rfl
def spec_l01Show_c : PCode := (.seq (.reg [⟨(some 1), (.box (.tmp 0)), none, false, []⟩, ⟨(some 2), (.mv (.const (.string ⟨#[]⟩))), none, false, []⟩]) (.seq (.reg [⟨(some 4), (.faddr 1 (.tmp 1)), none, false, []⟩, ⟨(some 5), (.load false 1 (.tmp 4)), none, false, []⟩, ⟨(some 6), (.call 51 [(.tmp 5)]), none, false, []⟩, ⟨(some 3), (.mv (.tmp 6)), none, false, []⟩]) (.seq (.seq (.reg [⟨(some 7), (.faddr 0 (.tmp 1)), none, false, []⟩, ⟨(some 8), (.load false 1 (.tmp 7)), none, false, []⟩]) (.cond (.tmp 8) (.reg [⟨(some 9), (.mv (.tmp 3)), none, false, []⟩, ⟨(some 10), (.bin .add (.const (.string ⟨#[45]⟩)) (.tmp 9)), none, false, []⟩, ⟨(some 3), (.mv (.tmp 10)), none, false, []⟩]) .skip)) (.seq (.seq (.reg [⟨(some 11), (.faddr 2 (.tmp 1)), none, false, []⟩, ⟨(some 12), (.load false 1 (.tmp 11)), none, false, []⟩, ⟨(some 13), (.lit [(.int .i64 0)] 1 [(0, (.const (.int .i64 1)))]), none, false, []⟩, ⟨(some 14), (.call 40 [(.tmp 12), (.tmp 13)]), none, false, []⟩, ⟨(some 15), (.bin .neq (.tmp 14) (.const (.int .i64 0))), none, false, []⟩]) (.cond (.tmp 15) (.reg [⟨(some 16), (.mv (.tmp 3)), none, false, []⟩, ⟨(some 17), (.faddr 2 (.tmp 1)), none, false, []⟩, ⟨(some 18), (.load false 1 (.tmp 17)), none, false, []⟩, ⟨(some 19), (.call 51 [(.tmp 18)]), none, false, []⟩, ⟨(some 20), (.bin .add (.const (.string ⟨#[47]⟩)) (.tmp 19)), none, false, []⟩, ⟨(some 21), (.bin .add (.tmp 16) (.tmp 20)), none, false, []⟩, ⟨(some 3), (.mv (.tmp 21)), none, false, []⟩]) .skip)) (.seq (.reg [⟨(some 22), (.mv (.tmp 3)), none, false, []⟩, ⟨(some 2), (.mv (.tmp 22)), none, false, []⟩]) .ret)))))
def spec_l01Show : PFunc := ⟨23, [(.tmp 2)], spec_l01Show_c⟩
theorem spec_l01Show_t : tab 38 = some spec_l01Show := by kernel_rfl
def spec_l01Gcd_b0 : PCode := (.seq (.seq (.reg [⟨(some 7), (.mv (.tmp 1)), none, false, []⟩, ⟨(some 8), (.len (.tmp 7)), none, false, []⟩, ⟨(some 9), (.bin .gtr (.tmp 8) (.const (.int .i64 0))), none, false, []⟩]) (.cond (.tmp 9) .skip (.exit 0))) (.block 1 (.seq (.reg [⟨(some 11), (.mv (.tmp 0)), none, false, []⟩, ⟨(some 12), (.mv (.tmp 1)), none, false, []⟩, ⟨(some 13), (.call 41 [(.tmp 11), (.tmp 12)]), none, false, []⟩, ⟨(some 10), (.mv (.tmp 13)), none, false, []⟩, ⟨(some 14), (.ext (.tmp 10) 0), none, false, []⟩, ⟨(some 15), (.ext (.tmp 10) 1), none, false, []⟩, ⟨(some 5), (.mv (.tmp 14)), none, false, []⟩, ⟨(some 6), (.mv (.tmp 15)), none, false, []⟩]) (.seq (.reg [⟨(some 16), (.mv (.tmp 1)), none, false, []⟩, ⟨(some 0), (.mv (.tmp 16)), none, false, []⟩]) (.reg [⟨(some 17), (.mv (.tmp 6)), none, false, []⟩, ⟨(some 1), (.mv (.tmp 17)), none, false, []⟩])))))
def spec_l01Gcd_c : PCode := (.seq (.reg [⟨(some 4), (.mv (.const (.slice none 0 0))), none, false, []⟩]) (.seq (.block 0 (.loop spec_l01Gcd_b0)) (.seq (.reg [⟨(some 18), (.mv (.tmp 0)), none, false, []⟩, ⟨(some 4), (.mv (.tmp 18)), none, false, []⟩]) .ret)))
def spec_l01Gcd : PFunc := ⟨19, [(.tmp 4)], spec_l01Gcd_c⟩
theorem spec_l01Gcd_t : tab 39 = some spec_l01Gcd := by kernel_rfl
def spec_l01NatDiv_b0 : PCode := (.seq (.seq (.reg [⟨(some 132), (.mv (.tmp 19)), none, false, []⟩, ⟨(some 133), (.bin .geq (.tmp 132) (.const (.int .i64 1000000000))), none, false, []⟩, ⟨(some 134), (.mv (.tmp 133)), none, false, []⟩, ⟨(some 135), (.mv (.tmp 19)), (some (134, false)), false, []⟩, ⟨(some 136), (.mv (.tmp 14)), (some (134, false)), false, []⟩, ⟨(some 137), (.mv (.tmp 15)), (some (134, false)), false, []⟩, ⟨(some 138), (.bin .sub (.tmp 137) (.const (.int .i64 2))), (some (134, false)), false, []⟩, ⟨(some 139), (.iaddr 1 (.tmp 136) (.tmp 138)), (some (134, false)), false, []⟩, ⟨(some 140), (.load false 1 (.tmp 139)), (some (134, false)), false, []⟩, ⟨(some 141), (.bin .mul (.tmp 135) (.tmp 140)), (some (134, false)), false, []⟩, ⟨(some 142), (.mv (.tmp 20)), (some (134, false)), false, []⟩, ⟨(some 143), (.bin .mul (.tmp 142) (.const (.int .i64 1000000000))), (some (134, false)), false, []⟩, ⟨(some 144), (.mv (.tmp 13)), (some (134, false)), false, []⟩, ⟨(some 145), (.mv (.tmp 17)), (some (134, false)), false, []⟩, ⟨(some 146), (.mv (.tmp 15)), (some (134, false)), false, []⟩, ⟨(some 147), (.bin .add (.tmp 145) (.tmp 146)), (some (134, false)), false, []⟩, ⟨(some 148), (.bin .sub (.tmp 147) (.const (.int .i64 2))), (some (134, false)), false, []⟩, ⟨(some 149), (.iaddr 1 (.tmp 144) (.tmp 148)), (some (134, false)), false, []⟩, ⟨(some 150), (.load false 1 (.tmp 149)), (some (134, false)), false, []⟩, ⟨(some 151), (.bin .add (.tmp 143) (.tmp 150)), (some (134, false)), false, []⟩, ⟨(some 152), (.bin .gtr (.tmp 141) (.tmp 151)), (some (134, false)), false, []⟩, ⟨(some 153), (.pick (.tmp 134) (.const (.bool true)) (.tmp 152)), none, false, []⟩]) (.cond (.tmp 153) .skip (.exit 2))) (.block 3 (.seq (.reg [⟨(some 154), (.mv (.tmp 19)), none, false, []⟩, ⟨(some 155), (.bin .sub (.tmp 154) (.const (.int .i64 1))), none, false, []⟩, ⟨(some 19), (.mv (.tmp 155)), none, false, []⟩]) (.seq (.reg [⟨(some 156), (.mv (.tmp 20)), none, false, []⟩, ⟨(some 157), (.mv (.tmp 14)), none, false, []⟩, ⟨(some 158), (.mv (.tmp 15)), none, false, []⟩, ⟨(some 159), (.bin .sub (.tmp 158) (.const (.int .i64 1))), none, false, []⟩, ⟨(some 160), (.iaddr 1 (.tmp 157) (.tmp 159)), none, false, []⟩, ⟨(some 161), (.load false 1 (.tmp 160)), none, false, []⟩, ⟨(some 162), (.bin .add (.tmp 156) (.tmp 161)), none, false, []⟩, ⟨(some 20), (.mv (.tmp 162)), none, false, []⟩]) (.seq (.reg [⟨(some 163), (.mv (.tmp 20)), none, false, []⟩, ⟨(some 164), (.bin .geq (.tmp 163) (.const (.int .i64 1000000000))), none, false, []⟩]) (.cond (.tmp 164) (.exit 2) .skip))))))
def spec_l01NatDiv_b1 : PCode := (.seq (.seq (.reg [⟨(some 99), (.mv (.tmp 17)), none, false, []⟩, ⟨(some 100), (.bin .geq (.tmp 99) (.const (.int .i64 0))), none, false, []⟩]) (.cond (.tmp 100) .skip (.exit 0))) (.seq (.block 1 (.seq (.reg [⟨(some 103), (.mv (.tmp 13)), none, false, []⟩, ⟨(some 104), (.mv (.tmp 17)), none, false, []⟩, ⟨(some 105), (.mv (.tmp 15)), none, false, []⟩, ⟨(some 106), (.bin .add (.tmp 104) (.tmp 105)), none, false, []⟩, ⟨(some 107), (.iaddr 1 (.tmp 103) (.tmp 106)), none, false, []⟩, ⟨(some 108), (.load false 1 (.tmp 107)), none, false, []⟩, ⟨(some 109), (.bin .mul (.tmp 108) (.const (.int .i64 1000000000))), none, false, []⟩, ⟨(some 110), (.mv (.tmp 13)), none, false, []⟩, ⟨(some 111), (.mv (.tmp 17)), none, false, []⟩, ⟨(some 112), (.mv (.tmp 15)), none, false, []⟩, ⟨(some 113), (.bin .add (.tmp 111) (.tmp 112)), none, false, []⟩, ⟨(some 114), (.bin .sub (.tmp 113) (.const (.int .i64 1))), none, false, []⟩, ⟨(some 115), (.iaddr 1 (.tmp 110) (.tmp 114)), none, false, []⟩, ⟨(some 116), (.load false 1 (.tmp 115)), none, false, []⟩, ⟨(some 117), (.bin .add (.tmp 109) (.tmp 116)), none, false, []⟩, ⟨(some 18), (.mv (.tmp 117)), none, false, []⟩]) (.seq (.reg [⟨(some 118), (.mv (.tmp 18)), none, false, []⟩, ⟨(some 119), (.mv (.tmp 14)), none, false, []⟩, ⟨(some 120), (.mv (.tmp 15)), none, false, []⟩, ⟨(some 121), (.bin .sub (.tmp 120) (.const (.int .i64 1))), none, false, []⟩, ⟨(some 122), (.iaddr 1 (.tmp 119) (.tmp 121)), none, false, []⟩, ⟨(some 123), (.load false 1 (.tmp 122)), none, false, []⟩, ⟨(some 124), (.bin .quo (.tmp 118) (.tmp 123)), none, false, []⟩, ⟨(some 125), (.mv (.tmp 18)), none, false, []⟩, ⟨(some 126), (.mv (.tmp 14)), none, false, []⟩, ⟨(some 127), (.mv (.tmp 15)), none, false, []⟩, ⟨(some 128), (.bin .sub (.tmp 127) (.const (.int .i64 1))), none, false, []⟩, ⟨(some 129), (.iaddr 1 (.tmp 126) (.tmp 128)), none, false, []⟩, ⟨(some 130), (.load false 1 (.tmp 129)), none, false, []⟩, ⟨(some 131), (.bin .rem (.tmp 125) (.tmp 130)), none, false, []⟩, ⟨(some 19), (.mv (.tmp 124)), none, false, []⟩, ⟨(some 20), (.mv (.tmp 131)), none, false, []⟩]) (.seq (.block 2 (.loop spec_l01NatDiv_b0)) (.seq (.seq (.reg [⟨(some 165), (.mv (.tmp 13)), none, false, []⟩, ⟨(some 166), (.mv (.tmp 14)), none, false, []⟩, ⟨(some 167), (.mv (.tmp 17)), none, false, []⟩, ⟨(some 168), (.mv (.tmp 19)), none, false, []⟩, ⟨(some 169), (.call 55 [(.tmp 165), (.tmp 166), (.tmp 167), (.tmp 168)]), none, false, []⟩]) (.cond (.tmp 169) (.seq (.reg [⟨(some 170), (.mv (.tmp 19)), none, false, []⟩, ⟨(some 171), (.bin .sub (.tmp 170) (.const (.int .i64 1))), none, false, []⟩, ⟨(some 19), (.mv (.tmp 171)), none, false, []⟩]) (.reg [⟨(some 172), (.mv (.tmp 13)), none, false, []⟩, ⟨(some 173), (.mv (.tmp 14)), none, false, []⟩, ⟨(some 174), (.mv (.tmp 17)), none, false, []⟩, ⟨(some 175), (.call 56 [(.tmp 172), (.tmp 173), (.tmp 174)]), none, false, []⟩])) .skip)) (.reg [⟨(some 176), (.mv (.tmp 16)), none, false, []⟩, ⟨(some 177), (.mv (.tmp 17)), none, false, []⟩, ⟨(some 178), (.mv (.tmp 19)), none, false, []⟩, ⟨(some 179), (.iaddr 1 (.tmp 176) (.tmp 177)), none, false, []⟩, ⟨none, (.store 1 (.tmp 179) (.tmp 178)), none, false, []⟩])))))) (.reg [⟨(some 101), (.mv (.tmp 17)), none, false, []⟩, ⟨(some 102), (.bin .sub (.tmp 101) (.const (.int .i64 1))), none, false, []⟩, ⟨(some 17), (.mv (.tmp 102)), none, false, []⟩])))
def spec_l01NatDiv_c : PCode := (.seq (.reg [⟨(some 4), (.mv (.const (.slice none 0 0))), none, false, []⟩, ⟨(some 5), (.mv (.const (.slice none 0 0))), none, false, []⟩]) (.seq (.reg [⟨(some 24), (.mv (.tmp 0)), none, false, []⟩, ⟨(some 25), (.call 52 [(.tmp 24)]), none, false, []⟩, ⟨(some 23), (.mv (.tmp 25)), none, false, []⟩, ⟨(some 26), (.ext (.tmp 23) 0), none, false, []⟩, ⟨(some 27), (.ext (.tmp 23) 1), none, false, []⟩, ⟨(some 6), (.mv (.tmp 26)), none, false, []⟩, ⟨(some 7), (.mv (.tmp 27)), none, false, []⟩]) (.seq (.reg [⟨(some 29), (.mv (.tmp 1)), none, false, []⟩, ⟨(some 30), (.call 52 [(.tmp 29)]), none, false, []⟩, ⟨(some 28), (.mv (.tmp 30)), none, false, []⟩, ⟨(some 31), (.ext (.tmp 28) 0), none, false, []⟩, ⟨(some 32), (.ext (.tmp 28) 1), none, false, []⟩, ⟨(some 8), (.mv (.tmp 31)), none, false, []⟩, ⟨(some 9), (.mv (.tmp 32)), none, false, []⟩]) (.seq (.seq (.reg [⟨(some 33), (.mv (.tmp 7)), none, false, []⟩, ⟨(some 34), (.mv (.tmp 33)), none, false, []⟩, ⟨(some 35), (.mv (.tmp 9)), (some (34, true)), false, []⟩, ⟨(some 36), (.pick (.tmp 34) (.tmp 35) (.const (.bool false))), none, false, []⟩]) (.cond (.tmp 36) (.seq (.reg [⟨(some 37), (.mv (.tmp 6)), none, false, []⟩, ⟨(some 38), (.mv (.tmp 8)), none, false, []⟩, ⟨(some 39), (.bin .quo (.tmp 37) (.tmp 38)), none, false, []⟩, ⟨(some 40), (.call 42 [(.tmp 39)]), none, true, []⟩, ⟨(some 41), (.mv (.tmp 6)), none, false, []⟩, ⟨(some 42), (.mv (.tmp 8)), none, false, []⟩, ⟨(some 43), (.bin .rem (.tmp 41) (.tmp 42)), none, false, []⟩, ⟨(some 44), (.call 42 [(.tmp 43)]), none, true, []⟩, ⟨(some 4), (.mv (.tmp 40)), none, false, []⟩, ⟨(some 5), (.mv (.tmp 44)), none, false, []⟩]) .ret) .skip)) (.seq (.seq (.reg [⟨(some 45), (.mv (.tmp 0)), none, false, []⟩, ⟨(some 46), (.mv (.tmp 1)), none, false, []⟩, ⟨(some 47), (.call 40 [(.tmp 45), (.tmp 46)]), none, false, []⟩, ⟨(some 48), (.bin .lss (.tmp 47) (.const (.int .i64 0))), none, false, []⟩]) (.cond (.tmp 48) (.seq (.reg [⟨(some 49), (.lit [(.int .i64 0)] 0 []), none, false, []⟩, ⟨(some 50), (.lit [(.int .i64 0)] 0 []), none, false, []⟩, ⟨(some 51), (.mv (.tmp 0)), none, false, []⟩, ⟨(some 52), (.app 1 8 (.tmp 50) (.tmp 51)), none, false, []⟩, ⟨(some 4), (.mv (.tmp 49)), none, false, []⟩, ⟨(some 5), (.mv (.tmp 52)), none, false, []⟩]) .ret) .skip)) (.seq (.seq (.reg [⟨(some 53), (.mv (.tmp 1)), none, false, []⟩, ⟨(some 54), (.len (.tmp 53)), none, false, []⟩, ⟨(some 55), (.bin .eql (.tmp 54) (.const (.int .i64 1))), none, false, []⟩]) (.cond (.tmp 55) (.seq (.reg [⟨(some 57), (.mv (.tmp 0)), none, false, []⟩, ⟨(some 58), (.mv (.tmp 1)), none, false, []⟩, ⟨(some 59), (.iaddr 1 (.tmp 58) (.const (.int .i64 0))), none, false, []⟩, ⟨(some 60), (.load false 1 (.tmp 59)), none, false, []⟩, ⟨(some 61), (.call 53 [(.tmp 57), (.tmp 60)]), none, false, []⟩, ⟨(some 56), (.mv (.tmp 61)), none, false, []⟩, ⟨(some 62), (.ext (.tmp 56) 0), none, false, []⟩, ⟨(some 63), (.ext (.tmp 56) 1), none, false, []⟩, ⟨(some 10), (.mv (.tmp 62)), none, false, []⟩, ⟨(some 11), (.mv (.tmp 63)), none, false, []⟩]) (.seq (.reg [⟨(some 64), (.mv (.tmp 10)), none, false, []⟩, ⟨(some 65), (.mv (.tmp 11)), none, false, []⟩, ⟨(some 66), (.call 42 [(.tmp 65)]), none, false, []⟩, ⟨(some 4), (.mv (.tmp 64)), none, false, []⟩, ⟨(some 5), (.mv (.tmp 66)), none, false, []⟩]) .ret)) .skip)) (.seq (.reg [⟨(some 67), (.mv (.tmp 1)), none, false, []⟩, ⟨(some 68), (.mv (.tmp 1)), none, false, []⟩, ⟨(some 69), (.len (.tmp 68)), none, false, []⟩, ⟨(some 70), (.bin .sub (.tmp 69) (.const (.int .i64 1))), none, false, []⟩, ⟨(some 71), (.iaddr 1 (.tmp 67) (.tmp 70)), none, false, []⟩, ⟨(some 72), (.load false 1 (.tmp 71)), none, false, []⟩, ⟨(some 73), (.bin .add (.tmp 72) (.const (.int .i64 1))), none, false, []⟩, ⟨(some 74), (.bin .quo (.const (.int .i64 1000000000)) (.tmp 73)), none, false, []⟩, ⟨(some 12), (.mv (.tmp 74)), none, false, []⟩]) (.seq (.reg [⟨(some 75), (.mv (.tmp 0)), none, false, []⟩, ⟨(some 76), (.len (.tmp 75)), none, false, []⟩, ⟨(some 77), (.bin .add (.tmp 76) (.const (.int .i64 1))), none, false, []⟩, ⟨(some 78), (.make [(.int .i64 0)] 8 (.tmp 77) (.tmp 77)), none, false, []⟩, ⟨(some 13), (.mv (.tmp 78)), none, false, []⟩]) (.seq (.reg [⟨(some 79), (.mv (.tmp 13)), none, false, []⟩, ⟨(some 80), (.mv (.tmp 0)), none, false, []⟩, ⟨(some 81), (.mv (.tmp 12)), none, false, []⟩, ⟨(some 82), (.call 54 [(.tmp 80), (.tmp 81)]), none, false, []⟩, ⟨(some 83), (.copy 1 (.tmp 79) (.tmp 82)), none, false, []⟩]) (.seq (.reg [⟨(some 84), (.mv (.tmp 1)), none, false, []⟩, ⟨(some 85), (.mv (.tmp 12)), none, false, []⟩, ⟨(some 86), (.call 54 [(.tmp 84), (.tmp 85)]), none, false, []⟩, ⟨(some 14), (.mv (.tmp 86)), none, false, []⟩]) (.seq (.reg [⟨(some 87), (.mv (.tmp 14)), none, false, []⟩, ⟨(some 88), (.len (.tmp 87)), none, false, []⟩, ⟨(some 15), (.mv (.tmp 88)), none, false, []⟩]) (.seq (.reg [⟨(some 89), (.mv (.tmp 13)), none, false, []⟩, ⟨(some 90), (.len (.tmp 89)), none, false, []⟩, ⟨(some 91), (.mv (.tmp 15)), none, false, []⟩, ⟨(some 92), (.bin .sub (.tmp 90) (.tmp 91)), none, false, []⟩, ⟨(some 93), (.make [(.int .i64 0)] 8 (.tmp 92) (.tmp 92)), none, false, []⟩, ⟨(some 16), (.mv (.tmp 93)), none, false, []⟩]) (.seq (.seq (.reg [⟨(some 94), (.mv (.tmp 13)), none, false, []⟩, ⟨(some 95), (.len (.tmp 94)), none, false, []⟩, ⟨(some 96), (.mv (.tmp 15)), none, false, []⟩, ⟨(some 97), (.bin .sub (.tmp 95) (.tmp 96)), none, false, []⟩, ⟨(some 98), (.bin .sub (.tmp 97) (.const (.int .i64 1))), none, false, []⟩, ⟨(some 17), (.mv (.tmp 98)), none, false, []⟩]) (.block 0 (.loop spec_l01NatDiv_b1))) (.seq (.reg [⟨(some 181), (.mv (.tmp 13)), none, false, []⟩, ⟨(some 182), (.call 57 [(.tmp 181)]), none, false, []⟩, ⟨(some 183), (.mv (.tmp 12)), none, false, []⟩, ⟨(some 184), (.call 53 [(.tmp 182), (.tmp 183)]), none, false, []⟩, ⟨(some 180), (.mv (.tmp 184)), none, false, []⟩, ⟨(some 185), (.ext (.tmp 180) 0), none, false, []⟩, ⟨(some 186), (.ext (.tmp 180) 1), none, false, []⟩, ⟨(some 21), (.mv (.tmp 185)), none, false, []⟩, ⟨(some 22), (.mv (.tmp 186)), none, false, []⟩]) (.seq (.reg [⟨(some 187), (.mv (.tmp 16)), none, false, []⟩, ⟨(some 188), (.call 57 [(.tmp 187)]), none, false, []⟩, ⟨(some 189), (.mv (.tmp 21)), none, false, []⟩, ⟨(some 4), (.mv (.tmp 188)), none, false, []⟩, ⟨(some 5), (.mv (.tmp 189)), none, false, []⟩]) .ret)))))))))))))))
def spec_l01NatDiv : PFunc := ⟨190, [(.tmp 4), (.tmp 5)], spec_l01NatDiv_c⟩
theorem spec_l01NatDiv_t : tab 41 = some spec_l01NatDiv := by kernel_rfl
def spec_l01Trim_b0 : PCode := (.seq (.seq (.reg [⟨(some 3), (.mv (.tmp 0)), none, false, []⟩, ⟨(some 4), (.len (.tmp 3)), none, false, []⟩, ⟨(some 5), (.bin .gtr (.tmp 4) (.const (.int .i64 0))), none, false, []⟩, ⟨(some 6), (.mv (.tmp 5)), none, false, []⟩, ⟨(some 7), (.mv (.tmp 0)), (some (6, true)), false, []⟩, ⟨(some 8), (.mv (.tmp 0)), (some (6, true)), false, []⟩, ⟨(some 9), (.len (.tmp 8)), (some (6, true)), false, []⟩, ⟨(some 10), (.bin .sub (.tmp 9) (.const (.int .i64 1))), (some (6, true)), false, []⟩, ⟨(some 11), (.iaddr 1 (.tmp 7) (.tmp 10)), (some (6, true)), false, []⟩, ⟨(some 12), (.load false 1 (.tmp 11)), (some (6, true)), false, []⟩, ⟨(some 13), (.bin .eql (.tmp 12) (.const (.int .i64 0))), (some (6, true)), false, []⟩, ⟨(some 14), (.pick (.tmp 6) (.tmp 13) (.const (.bool false))), none, false, []⟩]) (.cond (.tmp 14) .skip (.exit 0))) (.block 1 (.reg [⟨(some 15), (.mv (.tmp 0)), none, false, []⟩, ⟨(some 16), (.mv (.tmp 0)), none, false, []⟩, ⟨(some 17), (.len (.tmp 16)), none, false, []⟩, ⟨(some 18), (.bin .sub (.tmp 17) (.const (.int .i64 1))), none, false, []⟩, ⟨(some 19), (.sub 1 (.tmp 15) none (some (.tmp 18)) none), none, false, []⟩, ⟨(some 0), (.mv (.tmp 19)), none, false, []⟩])))
def spec_l01Trim_c : PCode := (.seq (.reg [⟨(some 2), (.mv (.const (.slice none 0 0))), none, false, []⟩]) (.seq (.block 0 (.loop spec_l01Trim_b0)) (.seq (.reg [⟨(some 20), (.mv (.tmp 0)), none, false, []⟩, ⟨(some 2), (.mv (.tmp 20)), none, false, []⟩]) .ret)))
def spec_l01Trim : PFunc := ⟨21, [(.tmp 2)], spec_l01Trim_c⟩
theorem spec_l01Trim_t : tab 57 = some spec_l01Trim := by kernel_rfl
def spec_l01Digit_c : PCode := (.seq (.reg [⟨(some 4), (.mv (.const (.int .i64 0))), none, false, []⟩]) (.seq (.seq (.reg [⟨(some 5), (.mv (.tmp 1)), none, false, []⟩, ⟨(some 6), (.mv (.tmp 0)), none, false, []⟩, ⟨(some 7), (.len (.tmp 6)), none, false, []⟩, ⟨(some 8), (.bin .lss (.tmp 5) (.tmp 7)), none, false, []⟩]) (.cond (.tmp 8) (.seq (.reg [⟨(some 9), (.mv (.tmp 0)), none, false, []⟩, ⟨(some 10), (.mv (.tmp 1)), none, false, []⟩, ⟨(some 11), (.iaddr 1 (.tmp 9) (.tmp 10)), none, false, []⟩, ⟨(some 12), (.load false 1 (.tmp 11)), none, false, []⟩, ⟨(some 4), (.mv (.tmp 12)), none, false, []⟩]) .ret) .skip)) (.seq (.reg [⟨(some 4), (.mv (.const (.int .i64 0))), none, false, []⟩]) .ret)))
def spec_l01Digit : PFunc := ⟨13, [(.tmp 4)], spec_l01Digit_c⟩
theorem spec_l01Digit_t : tab 68 = some spec_l01Digit := by kernel_rfl
def spec_l01NatText_b0 : PCode := (.seq (.seq (.reg [⟨(some 19), (.mv (.tmp 4)), none, false, []⟩, ⟨(some 20), (.bin .geq (.tmp 19) (.const (.int .i64 0))), none, false, []⟩]) (.cond (.tmp 20) .skip (.exit 0))) (.seq (.block 1 (.seq (.reg [⟨(some 23), (.mv (.tmp 0)), none, false, []⟩, ⟨(some 24), (.mv (.tmp 4)), none, false, []⟩, ⟨(some 25), (.iaddr 1 (.tmp 23) (.tmp 24)), none, false, []⟩, ⟨(some 26), (.load false 1 (.tmp 25)), none, false, []⟩, ⟨(some 27), (.bin .add (.tmp 26) (.const (.int .i64 1000000000))), none, false, []⟩, ⟨(some 28), (.call 67 [(.tmp 27)]), none, false, []⟩, ⟨(some 5), (.mv (.tmp 28)), none, false, []⟩]) (.reg [⟨(some 29), (.mv (.tmp 3)), none, false, []⟩, ⟨(some 30), (.mv (.tmp 5)), none, false, []⟩, ⟨(some 31), (.ssub (.tmp 30) (some (.const (.int .i64 1))) none), none, false, []⟩, ⟨(some 32), (.bin .add (.tmp 29) (.tmp 31)), none, false, []⟩, ⟨(some 3), (.mv (.tmp 32)), none, false, []⟩]))) (.reg [⟨(some 21), (.mv (.tmp 4)), none, false, []⟩, ⟨(some 22), (.bin .sub (.tmp 21) (.const (.int .i64 1))), none, false, []⟩, ⟨(some 4), (.mv (.tmp 22)), none, false, []⟩])))
def spec_l01NatText_c : PCode := (.seq (.reg [⟨(some 2), (.mv (.const (.string ⟨#[]⟩))), none, false, []⟩]) (.seq (.seq (.reg [⟨(some 6), (.mv (.tmp 0)), none, false, []⟩, ⟨(some 7), (.len (.tmp 6)), none, false, []⟩, ⟨(some 8), (.bin .eql (.tmp 7) (.const (.int .i64 0))), none, false, []⟩]) (.cond (.tmp 8) (.seq (.reg [⟨(some 2), (.mv (.const (.string ⟨#[48]⟩))), none, false, []⟩]) .ret) .skip)) (.seq (.reg [⟨(some 9), (.mv (.tmp 0)), none, false, []⟩, ⟨(some 10), (.mv (.tmp 0)), none, false, []⟩, ⟨(some 11), (.len (.tmp 10)), none, false, []⟩, ⟨(some 12), (.bin .sub (.tmp 11) (.const (.int .i64 1))), none, false, []⟩, ⟨(some 13), (.iaddr 1 (.tmp 9) (.tmp 12)), none, false, []⟩, ⟨(some 14), (.load false 1 (.tmp 13)), none, false, []⟩, ⟨(some 15), (.call 67 [(.tmp 14)]), none, false, []⟩, ⟨(some 3), (.mv (.tmp 15)), none, false, []⟩]) (.seq (.seq (.reg [⟨(some 16), (.mv (.tmp 0)), none, false, []⟩, ⟨(some 17), (.len (.tmp 16)), none, false, []⟩, ⟨(some 18), (.bin .sub (.tmp 17) (.const (.int .i64 2))), none, false, []⟩, ⟨(some 4), (.mv (.tmp 18)), none, false, []⟩]) (.block 0 (.loop spec_l01NatText_b0))) (.seq (.reg [⟨(some 33), (.mv (.tmp 3)), none, false, []⟩, ⟨(some 2), (.mv (.tmp 33)), none, false, []⟩]) .ret)))))
def spec_l01NatText : PFunc := ⟨34, [(.tmp 2)], spec_l01NatText_c⟩
theorem spec_l01NatText_t : tab 51 = some spec_l01NatText := by kernel_rfl
def spec_l01Small_c : PCode := (.seq (.reg [⟨(some 2), (.mv (.const (.int .i64 0))), none, false, []⟩, ⟨(some 3), (.mv (.const (.bool false))), none, false, []⟩]) (.seq (.seq (.reg [⟨(some 4), (.mv (.tmp 0)), none, false, []⟩, ⟨(some 5), (.len (.tmp 4)), none, false, []⟩, ⟨(some 6), (.bin .gtr (.tmp 5) (.const (.int .i64 2))), none, false, []⟩]) (.cond (.tmp 6) (.seq (.reg [⟨(some 2), (.mv (.const (.int .i64 0))), none, false, []⟩, ⟨(some 3), (.mv (.const (.bool false))), none, false, []⟩]) .ret) .skip)) (.seq (.reg [⟨(some 7), (.mv (.tmp 0)), none, false, []⟩, ⟨(some 8), (.call 68 [(.tmp 7), (.const (.int .i64 0))]), none, false, []⟩, ⟨(some 9), (.mv (.tmp 0)), none, false, []⟩, ⟨(some 10), (.call 68 [(.tmp 9), (.const (.int .i64 1))]), none, false, []⟩, ⟨(some 11), (.bin .mul (.const (.int .i64 1000000000)) (.tmp 10)), none, false, []⟩, ⟨(some 12), (.bin .add (.tmp 8) (.tmp 11)), none, false, []⟩, ⟨(some 2), (.mv (.tmp 12)), none, false, []⟩, ⟨(some 3), (.mv (.const (.bool true))), none, false, []⟩]) .ret)))
def spec_l01Small : PFunc := ⟨13, [(.tmp 2), (.tmp 3)], spec_l01Small_c⟩
theorem spec_l01Small_t : tab 52 = some spec_l01Small := by kernel_rfl
def spec_l01ShortDiv_b0 : PCode := (.seq (.seq (.reg [⟨(some 16), (.mv (.tmp 8)), none, false, []⟩, ⟨(some 17), (.bin .geq (.tmp 16) (.const (.int .i64 0))), none, false, []⟩]) (.cond (.tmp 17) .skip (.exit 0))) (.seq (.block 1 (.seq (.reg [⟨(some 20), (.mv (.tmp 7)), none, false, []⟩, ⟨(some 21), (.bin .mul (.tmp 20) (.const (.int .i64 1000000000))), none, false, []⟩, ⟨(some 22), (.mv (.tmp 0)), none, false, []⟩, ⟨(some 23), (.mv (.tmp 8)), none, false, []⟩, ⟨(some 24), (.iaddr 1 (.tmp 22) (.tmp 23)), none, false, []⟩, ⟨(some 25), (.load false 1 (.tmp 24)), none, false, []⟩, ⟨(some 26), (.bin .add (.tmp 21) (.tmp 25)), none, false, []⟩, ⟨(some 9), (.mv (.tmp 26)), none, false, []⟩]) (.seq (.reg [⟨(some 27), (.mv (.tmp 6)), none, false, []⟩, ⟨(some 28), (.mv (.tmp 8)), none, false, []⟩, ⟨(some 29), (.mv (.tmp 9)), none, false, []⟩, ⟨(some 30), (.mv (.tmp 1)), none, false, []⟩, ⟨(some 31), (.bin .quo (.tmp 29) (.tmp 30)), none, false, []⟩, ⟨(some 32), (.iaddr 1 (.tmp 27) (.tmp 28)), none, false, []⟩, ⟨none, (.store 1 (.tmp 32) (.tmp 31)), none, false, []⟩]) (.reg [⟨(some 33), (.mv (.tmp 9)), none, false, []⟩, ⟨(some 34), (.mv (.tmp 1)), none, false, []⟩, ⟨(some 35), (.bin .rem (.tmp 33) (.tmp 34)), none, false, []⟩, ⟨(some 7), (.mv (.tmp 35)), none, false, []⟩])))) (.reg [⟨(some 18), (.mv (.tmp 8)), none, false, []⟩, ⟨(some 19), (.bin .sub (.tmp 18) (.const (.int .i64 1))), none, false, []⟩, ⟨(some 8), (.mv (.tmp 19)), none, false, []⟩])))
def spec_l01ShortDiv_c : PCode := (.seq (.reg [⟨(some 4), (.mv (.const (.slice none 0 0))), none, false, []⟩, ⟨(some 5), (.mv (.const (.int .i64 0))), none, false, []⟩]) (.seq (.reg [⟨(some 10), (.mv (.tmp 0)), none, false, []⟩, ⟨(some 11), (.len (.tmp 10)), none, false, []⟩, ⟨(some 12), (.make [(.int .i64 0)] 8 (.tmp 11) (.tmp 11)), none, false, []⟩, ⟨(some 6), (.mv (.tmp 12)), none, false, []⟩]) (.seq (.reg [⟨(some 7), (.mv (.const (.int .i64 0))), none, false, []⟩]) (.seq (.seq (.reg [⟨(some 13), (.mv (.tmp 0)), none, false, []⟩, ⟨(some 14), (.len (.tmp 13)), none, false, []⟩, ⟨(some 15), (.bin .sub (.tmp 14) (.const (.int .i64 1))), none, false, []⟩, ⟨(some 8), (.mv (.tmp 15)), none, false, []⟩]) (.block 0 (.loop spec_l01ShortDiv_b0))) (.seq (.reg [⟨(some 36), (.mv (.tmp 6)), none, false, []⟩, ⟨(some 37), (.call 57 [(.tmp 36)]), none, false, []⟩, ⟨(some 38), (.mv (.tmp 7)), none, false, []⟩, ⟨(some 4), (.mv (.tmp 37)), none, false, []⟩, ⟨(some 5), (.mv (.tmp 38)), none, false, []⟩]) .ret)))))
def spec_l01ShortDiv : PFunc := ⟨39, [(.tmp 4), (.tmp 5)], spec_l01ShortDiv_c⟩
theorem spec_l01ShortDiv_t : tab 53 = some spec_l01ShortDiv := by kernel_rfl
def spec_l01ShortMul_b0 : PCode := (.seq (.reg [⟨(some 17), (.bin .lss (.tmp 16) (.tmp 15)), none, false, []⟩]) (.seq (.cond (.tmp 17) .skip (.exit 0)) (.seq (.block 1 (.seq (.reg [⟨(some 18), (.iaddr 1 (.tmp 14) (.tmp 16)), none, false, []⟩, ⟨(some 19), (.load false 1 (.tmp 18)), none, false, []⟩, ⟨(some 8), (.mv (.tmp 19)), none, false, []⟩]) (.seq (.reg [⟨(some 20), (.mv (.tmp 8)), none, false, []⟩, ⟨(some 21), (.mv (.tmp 1)), none, false, []⟩, ⟨(some 22), (.bin .mul (.tmp 20) (.tmp 21)), none, false, []⟩, ⟨(some 23), (.mv (.tmp 6)), none, false, []⟩, ⟨(some 24), (.bin .add (.tmp 22) (.tmp 23)), none, false, []⟩, ⟨(some 9), (.mv (.tmp 24)), none, false, []⟩]) (.seq (.reg [⟨(some 25), (.mv (.tmp 5)), none, false, []⟩, ⟨(some 26), (.mv (.tmp 9)), none, false, []⟩, ⟨(some 27), (.bin .rem (.tmp 26) (.const (.int .i64 1000000000))), none, false, []⟩, ⟨(some 28), (.lit [(.int .i64 0)] 1 [(0, (.tmp 27))]), none, false, []⟩, ⟨(some 29), (.app 1 8 (.tmp 25) (.tmp 28)), none, false, []⟩, ⟨(some 5), (.mv (.tmp 29)), none, false, []⟩]) (.reg [⟨(some 30), (.mv (.tmp 9)), none, false, []⟩, ⟨(some 31), (.bin .quo (.tmp 30) (.const (.int .i64 1000000000))), none, false, []⟩, ⟨(some 6), (.mv (.tmp 31)), none, false, []⟩]))))) (.reg [⟨(some 32), (.bin .add (.tmp 16) (.const (.int .i64 1))), none, false, []⟩, ⟨(some 16), (.mv (.tmp 32)), none, false, []⟩]))))
def spec_l01ShortMul_c : PCode := (.seq (.reg [⟨(some 4), (.mv (.const (.slice none 0 0))), none, false, []⟩]) (.seq (.reg [⟨(some 10), (.mv (.tmp 0)), none, false, []⟩, ⟨(some 11), (.len (.tmp 10)), none, false, []⟩, ⟨(some 12), (.bin .add (.tmp 11) (.const (.int .i64 1))), none, false, []⟩, ⟨(some 13), (.make [(.int .i64 0)] 8 (.const (.int .i64 0)) (.tmp 12)), none, false, []⟩, ⟨(some 5), (.mv (.tmp 13)), none, false, []⟩]) (.seq (.reg [⟨(some 6), (.mv (.const (.int .i64 0))), none, false, []⟩]) (.seq (.seq (.reg [⟨(some 14), (.mv (.tmp 0)), none, false, []⟩, ⟨(some 15), (.len (.tmp 14)), none, false, []⟩, ⟨(some 16), (.mv (.const (.int .i64 0))), none, false, []⟩]) (.block 0 (.loop spec_l01ShortMul_b0))) (.seq (.seq (.reg [⟨(some 33), (.mv (.tmp 6)), none, false, []⟩, ⟨(some 34), (.bin .gtr (.tmp 33) (.const (.int .i64 0))), none, false, []⟩]) (.cond (.tmp 34) (.reg [⟨(some 35), (.mv (.tmp 5)), none, false, []⟩, ⟨(some 36), (.mv (.tmp 6)), none, false, []⟩, ⟨(some 37), (.lit [(.int .i64 0)] 1 [(0, (.tmp 36))]), none, false, []⟩, ⟨(some 38), (.app 1 8 (.tmp 35) (.tmp 37)), none, false, []⟩, ⟨(some 5), (.mv (.tmp 38)), none, false, []⟩]) .skip)) (.seq (.reg [⟨(some 39), (.mv (.tmp 5)), none, false, []⟩, ⟨(some 4), (.mv (.tmp 39)), none, false, []⟩]) .ret))))))
def spec_l01ShortMul : PFunc := ⟨40, [(.tmp 4)], spec_l01ShortMul_c⟩
theorem spec_l01ShortMul_t : tab 54 = some spec_l01ShortMul := by kernel_rfl
def spec_l01TakeOff_b0 : PCode := (.seq (.reg [⟨(some 16), (.bin .lss (.tmp 15) (.tmp 14)), none, false, []⟩]) (.seq (.cond (.tmp 16) .skip (.exit 0)) (.seq (.block 1 (.seq (.reg [⟨(some 17), (.mv (.tmp 15)), none, false, []⟩, ⟨(some 18), (.iaddr 1 (.tmp 13) (.tmp 15)), none, false, []⟩, ⟨(some 19), (.load false 1 (.tmp 18)), none, false, []⟩, ⟨(some 10), (.mv (.tmp 17)), none, false, []⟩, ⟨(some 11), (.mv (.tmp 19)), none, false, []⟩]) (.seq (.reg [⟨(some 20), (.mv (.tmp 0)), none, false, []⟩, ⟨(some 21), (.mv (.tmp 2)), none, false, []⟩, ⟨(some 22), (.mv (.tmp 10)), none, false, []⟩, ⟨(some 23), (.bin .add (.tmp 21) (.tmp 22)), none, false, []⟩, ⟨(some 24), (.iaddr 1 (.tmp 20) (.tmp 23)), none, false, []⟩, ⟨(some 25), (.load false 1 (.tmp 24)), none, false, []⟩, ⟨(some 26), (.mv (.tmp 11)), none, false, []⟩, ⟨(some 27), (.mv (.tmp 3)), none, false, []⟩, ⟨(some 28), (.bin .mul (.tmp 26) (.tmp 27)), none, false, []⟩, ⟨(some 29), (.bin .rem (.tmp 28) (.const (.int .i64 1000000000))), none, false, []⟩, ⟨(some 30), (.bin .sub (.tmp 25) (.tmp 29)), none, false, []⟩, ⟨(some 31), (.mv (.tmp 9)), none, false, []⟩, ⟨(some 32), (.bin .sub (.tmp 30) (.tmp 31)), none, false, []⟩, ⟨(some 12), (.mv (.tmp 32)), none, false, []⟩]) (.seq (.reg [⟨(some 33), (.mv (.tmp 11)), none, false, []⟩, ⟨(some 34), (.mv (.tmp 3)), none, false, []⟩, ⟨(some 35), (.bin .mul (.tmp 33) (.tmp 34)), none, false, []⟩, ⟨(some 36), (.bin .quo (.tmp 35) (.const (.int .i64 1000000000))), none, false, []⟩, ⟨(some 9), (.mv (.tmp 36)), none, false, []⟩]) (.seq (.seq (.reg [⟨(some 37), (.mv (.tmp 12)), none, false, []⟩, ⟨(some 38), (.bin .lss (.tmp 37) (.const (.int .i64 0))), none, false, []⟩]) (.cond (.tmp 38) (.seq (.reg [⟨(some 39), (.mv (.tmp 12)), none, false, []⟩, ⟨(some 40), (.bin .add (.tmp 39) (.const (.int .i64 1000000000))), none, false, []⟩, ⟨(some 12), (.mv (.tmp 40)), none, false, []⟩]) (.seq (.reg [⟨(some 41), (.mv (.tmp 9)), none, false, []⟩, ⟨(some 42), (.bin .add (.tmp 41) (.const (.int .i64 1))), none, false, []⟩, ⟨(some 9), (.mv (.tmp 42)), none, false, []⟩]) (.seq (.reg [⟨(some 43), (.mv (.tmp 12)), none, false, []⟩, ⟨(some 44), (.bin .lss (.tmp 43) (.const (.int .i64 0))), none, false, []⟩]) (.cond (.tmp 44) (.seq (.reg [⟨(some 45), (.mv (.tmp 12)), none, false, []⟩, ⟨(some 46), (.bin .add (.tmp 45) (.const (.int .i64 1000000000))), none, false, []⟩, ⟨(some 12), (.mv (.tmp 46)), none, false, []⟩]) (.reg [⟨(some 47), (.mv (.tmp 9)), none, false, []⟩, ⟨(some 48), (.bin .add (.tmp 47) (.const (.int .i64 1))), none, false, []⟩, ⟨(some 9), (.mv (.tmp 48)), none, false, []⟩])) .skip)))) .skip)) (.reg [⟨(some 49), (.mv (.tmp 0)), none, false, []⟩, ⟨(some 50), (.mv (.tmp 2)), none, false, []⟩, ⟨(some 51), (.mv (.tmp 10)), none, false, []⟩, ⟨(some 52), (.bin .add (.tmp 50) (.tmp 51)), none, false, []⟩, ⟨(some 53), (.mv (.tmp 12)), none, false, []⟩, ⟨(some 54), (.iaddr 1 (.tmp 49) (.tmp 52)), none, false, []⟩, ⟨none, (.store 1 (.tmp 54) (.tmp 53)), none, false, []⟩])))))) (.reg [⟨(some 55), (.bin .add (.tmp 15) (.const (.int .i64 1))), none, false, []⟩, ⟨(some 15), (.mv (.tmp 55)), none, false, []⟩]))))
def spec_l01TakeOff_c : PCode := (.seq (.reg [⟨(some 8), (.mv (.const (.bool false))), none, false, []⟩]) (.seq (.reg [⟨(some 9), (.mv (.const (.int .i64 0))), none, false, []⟩]) (.seq (.seq (.reg [⟨(some 13), (.mv (.tmp 1)), none, false, []⟩, ⟨(some 14), (.len (.tmp 13)), none, false, []⟩, ⟨(some 15), (.mv (.const (.int .i64 0))), none, false, []⟩]) (.block 0 (.loop spec_l01TakeOff_b0))) (.seq (.reg [⟨(some 56), (.mv (.tmp 0)), none, false, []⟩, ⟨(some 57), (.mv (.tmp 2)), none, false, []⟩, ⟨(some 58), (.mv (.tmp 1)), none, false, []⟩, ⟨(some 59), (.len (.tmp 58)), none, false, []⟩, ⟨(some 60), (.bin .add (.tmp 57) (.tmp 59)), none, false, []⟩, ⟨(some 61), (.iaddr 1 (.tmp 56) (.tmp 60)), none, false, []⟩, ⟨(some 62), (.load false 1 (.tmp 61)), none, false, []⟩, ⟨(some 63), (.mv (.tmp 9)), none, false, []⟩, ⟨(some 64), (.bin .sub (.tmp 62) (.tmp 63)), none, false, []⟩, ⟨(some 65), (.iaddr 1 (.tmp 56) (.tmp 60)), none, false, []⟩, ⟨none, (.store 1 (.tmp 65) (.tmp 64)), none, false, []⟩]) (.seq (.reg [⟨(some 66), (.mv (.tmp 0)), none, false, []⟩, ⟨(some 67), (.mv (.tmp 2)), none, false, []⟩, ⟨(some 68), (.mv (.tmp 1)), none, false, []⟩, ⟨(some 69), (.len (.tmp 68)), none, false, []⟩, ⟨(some 70), (.bin .add (.tmp 67) (.tmp 69)), none, false, []⟩, ⟨(some 71), (.iaddr 1 (.tmp 66) (.tmp 70)), none, false, []⟩, ⟨(some 72), (.load false 1 (.tmp 71)), none, false, []⟩, ⟨(some 73), (.bin .lss (.tmp 72) (.const (.int .i64 0))), none, false, []⟩, ⟨(some 8), (.mv (.tmp 73)), none, false, []⟩]) .ret)))))
def spec_l01TakeOff : PFunc := ⟨74, [(.tmp 8)], spec_l01TakeOff_c⟩
theorem spec_l01TakeOff_t : tab 55 = some spec_l01TakeOff := by kernel_rfl
def spec_l01PutBack_b0 : PCode := (.seq (.reg [⟨(some 13), (.bin .lss (.tmp 12) (.tmp 11)), none, false, []⟩]) (.seq (.cond (.tmp 13) .skip (.exit 0)) (.seq (.block 1 (.seq (.reg [⟨(some 14), (.mv (.tmp 12)), none, false, []⟩, ⟨(some 15), (.iaddr 1 (.tmp 10) (.tmp 12)), none, false, []⟩, ⟨(some 16), (.load false 1 (.tmp 15)), none, false, []⟩, ⟨(some 7), (.mv (.tmp 14)), none, false, []⟩, ⟨(some 8), (.mv (.tmp 16)), none, false, []⟩]) (.seq (.reg [⟨(some 17), (.mv (.tmp 0)), none, false, []⟩, ⟨(some 18), (.mv (.tmp 2)), none, false, []⟩, ⟨(some 19), (.mv (.tmp 7)), none, false, []⟩, ⟨(some 20), (.bin .add (.tmp 18) (.tmp 19)), none, false, []⟩, ⟨(some 21), (.iaddr 1 (.tmp 17) (.tmp 20)), none, false, []⟩, ⟨(some 22), (.load false 1 (.tmp 21)), none, false, []⟩, ⟨(some 23), (.mv (.tmp 8)), none, false, []⟩, ⟨(some 24), (.bin .add (.tmp 22) (.tmp 23)), none, false, []⟩, ⟨(some 25), (.mv (.tmp 6)), none, false, []⟩, ⟨(some 26), (.bin .add (.tmp 24) (.tmp 25)), none, false, []⟩, ⟨(some 9), (.mv (.tmp 26)), none, false, []⟩]) (.seq (.reg [⟨(some 27), (.mv (.tmp 9)), none, false, []⟩, ⟨(some 28), (.bin .quo (.tmp 27) (.const (.int .i64 1000000000))), none, false, []⟩, ⟨(some 6), (.mv (.tmp 28)), none, false, []⟩]) (.reg [⟨(some 29), (.mv (.tmp 0)), none, false, []⟩, ⟨(some 30), (.mv (.tmp 2)), none, false, []⟩, ⟨(some 31), (.mv (.tmp 7)), none, false, []⟩, ⟨(some 32), (.bin .add (.tmp 30) (.tmp 31)), none, false, []⟩, ⟨(some 33), (.mv (.tmp 9)), none, false, []⟩, ⟨(some 34), (.bin .rem (.tmp 33) (.const (.int .i64 1000000000))), none, false, []⟩, ⟨(some 35), (.iaddr 1 (.tmp 29) (.tmp 32)), none, false, []⟩, ⟨none, (.store 1 (.tmp 35) (.tmp 34)), none, false, []⟩]))))) (.reg [⟨(some 36), (.bin .add (.tmp 12) (.const (.int .i64 1))), none, false, []⟩, ⟨(some 12), (.mv (.tmp 36)), none, false, []⟩]))))
def spec_l01PutBack_c : PCode := (.seq (.reg [⟨(some 6), (.mv (.const (.int .i64 0))), none, false, []⟩]) (.seq (.seq (.reg [⟨(some 10), (.mv (.tmp 1)), none, false, []⟩, ⟨(some 11), (.len (.tmp 10)), none, false, []⟩, ⟨(some 12), (.mv (.const (.int .i64 0))), none, false, []⟩]) (.block 0 (.loop spec_l01PutBack_b0))) (.reg [⟨(some 37), (.mv (.tmp 0)), none, false, []⟩, ⟨(some 38), (.mv (.tmp 2)), none, false, []⟩, ⟨(some 39), (.mv (.tmp 1)), none, false, []⟩, ⟨(some 40), (.len (.tmp 39)), none, false, []⟩, ⟨(some 41), (.bin .add (.tmp 38) (.tmp 40)), none, false, []⟩, ⟨(some 42), (.iaddr 1 (.tmp 37) (.tmp 41)), none, false, []⟩, ⟨(some 43), (.load false 1 (.tmp 42)), none, false, []⟩, ⟨(some 44), (.mv (.tmp 6)), none, false, []⟩, ⟨(some 45), (.bin .add (.tmp 43) (.tmp 44)), none, false, []⟩, ⟨(some 46), (.iaddr 1 (.tmp 37) (.tmp 41)), none, false, []⟩, ⟨none, (.store 1 (.tmp 46) (.tmp 45)), none, false, []⟩])))
def spec_l01PutBack : PFunc := ⟨47, [], spec_l01PutBack_c⟩
theorem spec_l01PutBack_t : tab 56 = some spec_l01PutBack := by kernel_rfl
def spec_l01Dec_b0 : PCode := (.seq (.seq (.reg [⟨(some 8), (.mv (.tmp 3)), none, false, []⟩, ⟨(some 9), (.len (.tmp 8)), none, false, []⟩, ⟨(some 10), (.bin .eql (.tmp 9) (.const (.int .i64 0))), none, false, []⟩, ⟨(some 11), (.mv (.tmp 10)), none, false, []⟩, ⟨(some 12), (.mv (.tmp 4)), (some (11, false)), false, []⟩, ⟨(some 13), (.bin .neq (.tmp 12) (.const (.int .i64 0))), (some (11, false)), false, []⟩, ⟨(some 14), (.pick (.tmp 11) (.const (.bool true)) (.tmp 13)), none, false, []⟩]) (.cond (.tmp 14) .skip (.exit 0))) (.block 1 (.seq (.reg [⟨(some 15), (.mv (.tmp 4)), none, false, []⟩, ⟨(some 16), (.bin .rem (.tmp 15) (.const (.int .i64 10))), none, false, []⟩, ⟨(some 5), (.mv (.tmp 16)), none, false, []⟩]) (.seq (.seq (.reg [⟨(some 17), (.mv (.tmp 5)), none, false, []⟩, ⟨(some 18), (.bin .lss (.tmp 17) (.const (.int .i64 0))), none, false, []⟩]) (.cond (.tmp 18) (.reg [⟨(some 19), (.mv (.tmp 5)), none, false, []⟩, ⟨(some 20), (.un .neg (.tmp 19)), none, false, []⟩, ⟨(some 5), (.mv (.tmp 20)), none, false, []⟩]) .skip)) (.seq (.reg [⟨(some 21), (.mv (.tmp 5)), none, false, []⟩, ⟨(some 22), (.bin .add (.const (.int .i64 48)) (.tmp 21)), none, false, []⟩, ⟨(some 23), (.cvt .u8 (.tmp 22)), none, false, []⟩, ⟨(some 24), (.lit [(.int .u8 0)] 1 [(0, (.tmp 23))]), none, false, []⟩, ⟨(some 25), (.mv (.tmp 3)), none, false, []⟩, ⟨(some 26), (.app 1 1 (.tmp 24) (.tmp 25)), none, false, []⟩, ⟨(some 3), (.mv (.tmp 26)), none, false, []⟩]) (.reg [⟨(some 27), (.mv (.tmp 4)), none, false, []⟩, ⟨(some 28), (.bin .quo (.tmp 27) (.const (.int .i64 10))), none, false, []⟩, ⟨(some 4), (.mv (.tmp 28)), none, false, []⟩]))))))
def spec_l01Dec_c : PCode := (.seq (.reg [⟨(some 2), (.mv (.const (.string ⟨#[]⟩))), none, false, []⟩]) (.seq (.reg [⟨(some 6), (.lit [(.int .u8 0)] 0 []), none, false, []⟩, ⟨(some 3), (.mv (.tmp 6)), none, false, []⟩]) (.seq (.reg [⟨(some 7), (.mv (.tmp 0)), none, false, []⟩, ⟨(some 4), (.mv (.tmp 7)), none, false, []⟩]) (.seq (.block 0 (.loop spec_l01Dec_b0)) (.seq (.seq (.reg [⟨(some 29), (.mv (.tmp 0)), none, false, []⟩, ⟨(some 30), (.bin .lss (.tmp 29) (.const (.int .i64 0))), none, false, []⟩]) (.cond (.tmp 30) (.reg [⟨(some 31), (.lit [(.int .u8 0)] 1 [(0, (.const (.int .u8 45)))]), none, false, []⟩, ⟨(some 32), (.mv (.tmp 3)), none, false, []⟩, ⟨(some 33), (.app 1 1 (.tmp 31) (.tmp 32)), none, false, []⟩, ⟨(some 3), (.mv (.tmp 33)), none, false, []⟩]) .skip)) (.seq (.reg [⟨(some 34), (.mv (.tmp 3)), none, false, []⟩, ⟨(some 35), (.b2s (.tmp 34)), none, false, []⟩, ⟨(some 2), (.mv (.tmp 35)), none, false, []⟩]) .ret))))))
def spec_l01Dec : PFunc := ⟨36, [(.tmp 2)], spec_l01Dec_c⟩
theorem spec_l01Dec_t : tab 67 = some spec_l01Dec := by kernel_rfl
end Go.PM

/- Numerals in decimal: plain laws. -/
namespace Go.PM
open Go.Lib
def d10 (n : Nat) : UInt8 := UInt8.ofNat (48 + n)
def padD : Nat → Nat → List UInt8
  | 0, _ => []
  | k + 1, r => padD k (r / 10) ++ [d10 (r % 10)]
theorem dec_small {n : Nat} (h : n < 10) : decDigits n = [d10 n] := by rw [decDigits, dif_pos h]; rfl
theorem dec_big {n : Nat} (h : ¬ n < 10) : decDigits n = decDigits (n / 10) ++ [d10 (n % 10)] := by rw [decDigits, dif_neg h]; rfl
theorem dec_ne (n : Nat) : decDigits n ≠ [] := by
  by_cases h : n < 10
  · rw [dec_small h]; simp
  · rw [dec_big h]; simp
theorem pad_len (k r : Nat) : (padD k r).length = k := by
  induction k generalizing r with
  | zero => rfl
  | succ k ih => rw [padD, List.length_append, ih]; rfl
theorem pad_zero (k : Nat) : padD k 0 = List.replicate k 48 := by
  induction k with
  | zero => rfl
  | succ k ih => rw [padD, ih, List.replicate_succ']; rfl
theorem dec_pad {q : Nat} (hq : 0 < q) (k r : Nat) (hr : r < 10 ^ k) : decDigits (q * 10 ^ k + r) = decDigits q ++ padD k r := by
  induction k generalizing r with
  | zero =>
    have : r = 0 := by simp at hr; exact hr
    subst this
    simp [padD]
  | succ k ih =>
    rw [Nat.pow_succ] at hr ⊢
    have hp : 0 < 10 ^ k := Nat.pow_pos (by decide)
    have h1 : q * (10 ^ k * 10) = 10 * (q * 10 ^ k) := by grind
    have h2 : 1 * 1 ≤ q * 10 ^ k := Nat.mul_le_mul hq hp
    rw [dec_big (by omega), h1, show (10 * (q * 10 ^ k) + r) / 10 = q * 10 ^ k + r / 10 by omega, show (10 * (q * 10 ^ k) + r) % 10 = r % 10 by omega, ih (r / 10) (by omega), padD, List.append_assoc]
theorem pad_eq (k r : Nat) (hr : r < 10 ^ (k + 1)) : padD (k + 1) r = List.replicate (k + 1 - (decDigits r).length) 48 ++ decDigits r := by
  induction k generalizing r with
  | zero =>
    have h : r < 10 := by simpa using hr
    rw [dec_small h, padD, padD, Nat.mod_eq_of_lt h]
    rfl
  | succ k ih =>
    rw [padD]
    by_cases h : r < 10
    · rw [show r / 10 = 0 by omega, pad_zero, dec_small h, Nat.mod_eq_of_lt h]
      rfl
    · rw [ih (r / 10) (by rw [Nat.pow_succ] at hr; omega), dec_big h, List.append_assoc, List.length_append]
      congr 2
      simp only [List.length_cons, List.length_nil]
      omega
theorem dec_len_le (n : Nat) (k : Nat) (h : n < 10 ^ (k + 1)) : (decDigits n).length ≤ k + 1 := by
  rw [decDigits_length]
  induction k generalizing n with
  | zero => rw [nDigits_small (by simpa using h)]; exact Nat.le_refl _
  | succ k ih =>
    by_cases hn : n < 10
    · rw [nDigits_small hn]; omega
    · rw [nDigits_big hn]
      have := ih (n / 10) (by rw [Nat.pow_succ] at h; omega)
      omega
theorem dec_chunk {q r : Nat} (hq : 0 < q) (hr : r < 1000000000) : decDigits (q * 1000000000 + r) = decDigits q ++ padD 9 r := dec_pad hq 9 r hr
theorem dec_one {r : Nat} (hr : r < 1000000000) : decDigits (r + 1000000000) = d10 1 :: padD 9 r := by
  have := dec_chunk (q := 1) (by decide) hr
  rw [show r + 1000000000 = 1 * 1000000000 + r by omega, this, dec_small (by decide)]
  rfl
theorem join_empty (xs : List (List UInt8)) : join xs [] = xs.flatten := by
  induction xs with
  | nil => rfl
  | cons x xs ih =>
    unfold join at ih ⊢
    cases xs with
    | nil => simp [List.intercalate]
    | cons y ys =>
      rw [List.flatten_cons, ← ih]
      simp [List.intercalate, List.intersperse]
end Go.PM

/- Functions of the library that are told from outside: their contracts over trees. -/
namespace Go.PM
abbrev strV (l : List UInt8) : VV := .sc (.string ⟨l.toArray⟩)
theorem VT.prim {f : Nat} {p : List Value → Heap → Option Value} {args : List VV} {r : VV} (hp : primV f = some p) (h : ∀ (V : View) (pargs : List Value), VL V args pargs → ∃ pv, p pargs V.P = some pv ∧ ∀ V', VR V' r pv) : VT f args r := by
  intro F P pargs lop hF hl hlop
  obtain ⟨pv, h1, h2⟩ := h (bare F P) pargs hl
  have e : pmCall f pargs lop P = some (pv, P) := by
    show call cfg tab f pargs lop P = some (pv, P)
    rw [call_prim (E := cfg) (T := tab) hp]
    have h1' : p pargs P = some pv := h1
    rw [h1']
    rfl
  exact ⟨P, pv, e, List.prefix_refl _, h2 _⟩
theorem TC.prim {f : Nat} {p : List Value → Heap → Option Value} {args : List VV} {r : VV} (hp : primV f = some p) (hr : raws.contains f = false) (ha : pureL args = true) (hres : resV r = true) (h : ∀ (V : View) (pargs : List Value), VL V args pargs → ∃ pv, p pargs V.P = some pv ∧ ∀ V', VR V' r pv) : TC f args r :=
  TC.of hr ha (vT_eq ha hres (VT.prim hp h))
theorem VL.one {V : View} {x : Value} {ps : List Value} (h : VL V [.sc x] ps) : ps = [x] := by
  cases h with
  | cons _ v _ vs h hs =>
    cases h
    cases hs
    rfl
theorem VL.two {V : View} {x y : Value} {ps : List Value} (h : VL V [.sc x, .sc y] ps) : ps = [x, y] := by
  cases h with
  | cons _ v _ vs h hs =>
    cases h
    rw [hs.one]
theorem VL.three {V : View} {x y z : Value} {ps : List Value} (h : VL V [.sc x, .sc y, .sc z] ps) : ps = [x, y, z] := by
  cases h with
  | cons _ v _ vs h hs =>
    cases h
    rw [hs.two]
theorem leading_v (x : Nat) (h : x < 4294967296) : TC 64 [.sc (.int .u32 (x : Int))] (VI (32 - (Lib.bitLen x : Int))) := by
  refine TC.prim (p := pLeading) rfl rfl rfl rfl fun V ps hl => ?_
  rw [hl.one]
  unfold pLeading
  simp only
  rw [if_pos ⟨by omega, by omega⟩, Int.toNat_natCast]
  exact ⟨_, rfl, fun _ => .sc _ rfl⟩
theorem fmtu_v (n : Nat) (h : n < 18446744073709551616) : TC 69 [.sc (.int .u64 (n : Int)), VI 10] (strV (Lib.decDigits n)) := by
  refine TC.prim (p := pFormatUint) rfl rfl rfl rfl fun V ps hl => ?_
  rw [hl.two]
  unfold pFormatUint
  simp only
  rw [if_pos ⟨trivial, by omega, by omega⟩, Int.toNat_natCast]
  exact ⟨_, rfl, fun _ => .sc _ rfl⟩
theorem repeat_v (s : List UInt8) (c : Nat) (h : s.length * c ≤ 140737488355328) (hc : c ≤ 9223372036854775807) : TC 70 [strV s, VI (c : Int)] (strV (Lib.repeatL s c)) := by
  refine TC.prim (p := pRepeat) rfl rfl rfl rfl fun V ps hl => ?_
  rw [hl.two]
  unfold pRepeat
  simp only
  rw [if_pos ⟨by omega, by omega, by rw [Int.toNat_natCast]; exact h⟩, Int.toNat_natCast]
  exact ⟨_, rfl, fun _ => .sc _ rfl⟩
theorem strCells_list {V : View} : ∀ {xs : List (List UInt8)} {ps : List Value}, VL V ((xs.map strV).flatMap vcells) ps → strCells ps = some (xs.map fun x => ⟨x.toArray⟩)
  | [], ps, h => by
    have h' : VL V [] ps := h
    cases h'
    rfl
  | x :: xs, ps, h => by
    rw [List.map_cons, List.flatMap_cons] at h
    have h' : VL V (strV x :: (xs.map strV).flatMap vcells) ps := h
    cases h' with
    | cons _ v _ vs h1 h2 =>
      cases h1
      rw [strCells, strCells_list h2]
      rfl
theorem join_v (xs : List (List UInt8)) (hx : xs.length ≤ 140737488355328) (hlen : xs.flatten.length ≤ 140737488355328) : TC 72 [listV strV xs, strV []] (strV xs.flatten) := by
  refine TC.prim (p := pJoin) rfl rfl (by simp only [pureL, pure_list (f := strV) (fun _ => rfl) (fun _ => rfl), Bool.and_true]; rfl) rfl fun V ps hl => ?_
  cases hl with
  | cons _ v _ vs h hs =>
    rw [hs.one]
    have hmap : (xs.map fun x => (⟨x.toArray⟩ : ByteArray)).map (·.data.toList) = xs := by
      rw [List.map_map]
      exact List.map_id' xs
    have jn : Lib.join ((xs.map fun x => (⟨x.toArray⟩ : ByteArray)).map (·.data.toList)) ([] : List UInt8) = xs.flatten := by rw [hmap, join_empty]
    have h' : VR V (.tree (xs.map strV) .op) v := h
    clear h
    generalize hes : xs.map strV = es at h'
    cases h' with
    | tnil k hk =>
      have : xs = [] := List.map_eq_nil_iff.1 hes
      subst this
      exact ⟨_, rfl, fun _ => .sc _ rfl⟩
    | tree _ k b o c r e p hF hb ho hc he hk hl =>
      subst hes
      by_cases h0 : xs = []
      · subst h0
        exact ⟨_, rfl, fun _ => .sc _ rfl⟩
      · obtain ⟨y, ys, rfl⟩ := List.exists_cons_of_ne_nil h0
        have e1 : e = 1 := (he (strV y) (by simp)).symm
        subst e1
        rw [Nat.mul_one] at ho hl
        have hr : V.P.read b o ((y :: ys).map strV).length = some ((r.drop o).take ((y :: ys).map strV).length) := by
          unfold Heap.read
          rw [hb]
          simp only
          rw [if_pos ho]
        have hn : ¬ ((y :: ys).map strV).length = 0 := by simp
        refine ⟨.string ⟨(y :: ys).flatten.toArray⟩, ?_, fun _ => .sc _ rfl⟩
        unfold pJoin
        simp only [hn, if_false, hr, Option.bind_some, strCells_list hl]
        rw [if_pos ⟨by simp, hc, by simpa using hx, by rw [jn]; exact hlen⟩, jn]
end Go.PM

/- Long division, digit by digit: plain laws. -/
namespace Go.PM
section
variable {b : Nat}
/-! ### lists in three parts -/
theorem get_mid {α : Type} {pre seg post : List α} {o j : Nat} (ho : pre.length = o) (hj : j < seg.length) : (pre ++ seg ++ post)[o + j]? = seg[j]? := by
  subst ho
  rw [List.append_assoc, List.getElem?_append_right (by omega), Nat.add_sub_cancel_left, List.getElem?_append_left hj]
theorem set_mid {α : Type} {pre seg post : List α} {o j : Nat} {v : α} (ho : pre.length = o) (hj : j < seg.length) : (pre ++ seg ++ post).set (o + j) v = pre ++ seg.set j v ++ post := by
  subst ho
  rw [List.append_assoc, List.set_append_right _ _ (by omega), Nat.add_sub_cancel_left, List.set_append_left _ _ hj, List.append_assoc]
theorem set_drop_tail {xs : List Nat} {i d : Nat} (h : i < xs.length) : (xs.set i d).drop (i + 1) = xs.drop (i + 1) := by
  rw [List.set_eq_take_append_cons_drop, if_pos h, List.drop_append]
  simp [Nat.min_eq_left (by omega : i ≤ xs.length)]
/-! ### the digit of a quotient -/
theorem knuth_hi {U V W P V2 U3 g : Nat} (hV : V < (V2 + 1) * P) (hU : U3 * P ≤ U) (hWP : W * P ≤ V) (hg : g ≤ W) (h : g * V2 ≤ U3) : g * V ≤ U + V := by
  have h1 : g * V ≤ g * ((V2 + 1) * P) := Nat.mul_le_mul_left _ (by omega)
  have h2 : g * ((V2 + 1) * P) = g * V2 * P + g * P := by grind
  have h3 : g * V2 * P ≤ U3 * P := Nat.mul_le_mul_right _ h
  have h4 : g * P ≤ W * P := Nat.mul_le_mul_right _ hg
  omega
theorem knuth_lo {U V P V2 U3 g q : Nat} (hP : 0 < P) (hV : V2 * P ≤ V) (hU : U < (U3 + 1) * P) (hq : q * V ≤ U) (h : U3 < g * V2) : q < g := by
  have h1 : q * (V2 * P) ≤ q * V := Nat.mul_le_mul_left _ hV
  have h2 : q * V2 * P < (U3 + 1) * P := by
    have : q * V2 * P = q * (V2 * P) := by grind
    omega
  have h3 : q * V2 < U3 + 1 := Nat.lt_of_mul_lt_mul_right h2
  have h4 : q * V2 < g * V2 := by omega
  exact Nat.lt_of_mul_lt_mul_right h4
theorem val_top {xs : List Nat} {n t : Nat} (hx : ∀ d ∈ xs, d < b) (hn : xs.length = n + 1) (ht : xs[n]? = some t) : t * b ^ n ≤ val b xs ∧ val b xs < (t + 1) * b ^ n := by
  have h1 := val_take_succ (b := b) ht
  rw [List.take_of_length_le (by omega)] at h1
  have h2 := val_lt (b := b) (xs := xs.take n) fun d hd => hx d (List.mem_of_mem_take hd)
  rw [List.length_take, Nat.min_eq_left (by omega)] at h2
  rw [Nat.add_mul, Nat.mul_comm t]
  omega
theorem val_top2 {xs : List Nat} {n t u : Nat} (hx : ∀ d ∈ xs, d < b) (hn : xs.length = n + 2) (ht : xs[n + 1]? = some t) (hu : xs[n]? = some u) : (t * b + u) * b ^ n ≤ val b xs ∧ val b xs < (t * b + u + 1) * b ^ n := by
  have h1 := val_take_succ (b := b) ht
  rw [List.take_of_length_le (by omega), val_take_succ hu] at h1
  have h2 := val_lt (b := b) (xs := xs.take n) fun d hd => hx d (List.mem_of_mem_take hd)
  rw [List.length_take, Nat.min_eq_left (by omega)] at h2
  have e : (t * b + u) * b ^ n = b ^ n * u + b ^ (n + 1) * t := by rw [Nat.pow_succ]; grind
  rw [Nat.add_mul (t * b + u), e]
  omega
theorem val_top3 {xs : List Nat} {n t u v : Nat} (hx : ∀ d ∈ xs, d < b) (hn : xs.length = n + 3) (ht : xs[n + 2]? = some t) (hu : xs[n + 1]? = some u) (hv : xs[n]? = some v) : ((t * b + u) * b + v) * b ^ n ≤ val b xs ∧ val b xs < ((t * b + u) * b + v + 1) * b ^ n := by
  have h1 := val_take_succ (b := b) ht
  rw [List.take_of_length_le (by omega), val_take_succ hu, val_take_succ hv] at h1
  have h2 := val_lt (b := b) (xs := xs.take n) fun d hd => hx d (List.mem_of_mem_take hd)
  rw [List.length_take, Nat.min_eq_left (by omega)] at h2
  have e : ((t * b + u) * b + v) * b ^ n = b ^ n * v + b ^ (n + 1) * u + b ^ (n + 2) * t := by rw [Nat.pow_succ, Nat.pow_succ]; grind
  rw [Nat.add_mul ((t * b + u) * b + v), e]
  omega
structure Guess (b : Nat) (us vs : List Nat) (n u2 u1 u0 v1 v0 : Nat) : Prop where
  hb : 2 ≤ b
  us_lt : ∀ d ∈ us, d < b
  vs_lt : ∀ d ∈ vs, d < b
  us_len : us.length = n + 3
  vs_len : vs.length = n + 2
  e2 : us[n + 2]? = some u2
  e1 : us[n + 1]? = some u1
  e0 : us[n]? = some u0
  f1 : vs[n + 1]? = some v1
  f0 : vs[n]? = some v0
  pos : 1 ≤ v1
  less : val b us < b * val b vs
section
variable {us vs : List Nat} {n u2 u1 u0 v1 v0 : Nat} (G : Guess b us vs n u2 u1 u0 v1 v0)
include G
theorem Guess.vpos : 0 < val b vs := by
  have h := (val_top2 G.vs_lt G.vs_len G.f1 G.f0).1
  have h1 : 0 < (v1 * b + v0) * b ^ n := Nat.mul_pos (by have := Nat.mul_pos G.pos (show 0 < b by have := G.hb; omega); omega) (Nat.pow_pos (by have := G.hb; omega))
  omega
theorem Guess.lt_u2 : u2 < b := G.us_lt _ (List.mem_of_getElem? G.e2)
theorem Guess.lt_u1 : u1 < b := G.us_lt _ (List.mem_of_getElem? G.e1)
theorem Guess.lt_u0 : u0 < b := G.us_lt _ (List.mem_of_getElem? G.e0)
theorem Guess.lt_v1 : v1 < b := G.vs_lt _ (List.mem_of_getElem? G.f1)
theorem Guess.lt_v0 : v0 < b := G.vs_lt _ (List.mem_of_getElem? G.f0)
theorem Guess.q_lt : val b us / val b vs < b := (Nat.div_lt_iff_lt_mul G.vpos).2 G.less
theorem Guess.top : u2 ≤ v1 := by
  have h1 := (val_top (n := n + 2) G.us_lt G.us_len G.e2).1
  have h2 := (val_top (n := n + 1) G.vs_lt G.vs_len G.f1).2
  have h3 : b * val b vs < b * ((v1 + 1) * b ^ (n + 1)) := Nat.mul_lt_mul_of_pos_left h2 (by have := G.hb; omega)
  have h4 : b * ((v1 + 1) * b ^ (n + 1)) = (v1 + 1) * b ^ (n + 2) := by rw [Nat.pow_succ b (n + 1)]; grind
  have h5 := G.less
  have h6 : u2 * b ^ (n + 2) < (v1 + 1) * b ^ (n + 2) := by omega
  have := Nat.lt_of_mul_lt_mul_right h6
  omega
theorem Guess.too {g left : Nat} (hh : u2 * b + u1 = g * v1 + left) (h : left * b + u0 < g * v0) : val b us / val b vs < g := by
  have hu := (val_top3 G.us_lt G.us_len G.e2 G.e1 G.e0).2
  have hv := (val_top2 G.vs_lt G.vs_len G.f1 G.f0).1
  refine knuth_lo (P := b ^ n) (V2 := v1 * b + v0) (U3 := (u2 * b + u1) * b + u0) (Nat.pow_pos (by have := G.hb; omega)) hv hu (Nat.div_mul_le_self _ _) ?_
  rw [hh]
  have : (g * v1 + left) * b + u0 = g * v1 * b + (left * b + u0) := by grind
  have : g * (v1 * b + v0) = g * v1 * b + g * v0 := by grind
  omega
theorem Guess.fine {g left : Nat} (hh : u2 * b + u1 = g * v1 + left) (hg : g ≤ b) (h : g * v0 ≤ left * b + u0) : g ≤ val b us / val b vs + 1 := by
  have hu := (val_top3 G.us_lt G.us_len G.e2 G.e1 G.e0).1
  have hv := val_top2 G.vs_lt G.vs_len G.f1 G.f0
  have h1 : b * b ^ n ≤ val b vs := by
    have : b * b ^ n ≤ (v1 * b + v0) * b ^ n := Nat.mul_le_mul_right _ (by have := Nat.mul_le_mul_right b G.pos; omega)
    omega
  have h2 := knuth_hi (U := val b us) (V := val b vs) (W := b) (P := b ^ n) (V2 := v1 * b + v0) (U3 := (u2 * b + u1) * b + u0) (g := g) hv.2 hu h1 hg (by
    rw [hh]
    have : (g * v1 + left) * b + u0 = g * v1 * b + (left * b + u0) := by grind
    have : g * (v1 * b + v0) = g * v1 * b + g * v0 := by grind
    omega)
  have h3 : g ≤ (val b us + val b vs) / val b vs := (Nat.le_div_iff_mul_le G.vpos).2 h2
  rwa [Nat.add_div_right _ G.vpos] at h3
theorem Guess.broken {g left : Nat} (hh : u2 * b + u1 = g * v1 + left) (h : b ≤ left) : g < b ∧ g * v0 ≤ left * b + u0 := by
  have h1 := G.top
  have h2 := G.lt_u1
  have h3 : u2 * b ≤ v1 * b := Nat.mul_le_mul_right _ h1
  have h4 : g * v1 < b * v1 := by rw [Nat.mul_comm b]; omega
  have hg : g < b := Nat.lt_of_mul_lt_mul_right h4
  refine ⟨hg, ?_⟩
  have h5 := G.lt_v0
  have h6 : g * v0 ≤ b * b := Nat.mul_le_mul (by omega) (by omega)
  have h7 : b * b ≤ left * b := Nat.mul_le_mul_right _ h
  omega
end
/-! ### taking a multiple away -/
theorem away_step {P A N T c l x y r W l' c' c1 lo t : Nat} (h : A + P * (c + l) = N + T) (h1 : c1 = c + t * y) (h2 : c1 = lo + W * c') (hd : r + lo + l = x + W * l') : (A + P * x) + P * W * (c' + l') = (N + P * r) + (T + P * (t * y)) := by
  subst h1
  have e : r + (c + t * y) + l = x + W * l' + W * c' := by omega
  have e2 : P * (r + (c + t * y) + l) = P * (x + W * l' + W * c') := by rw [e]
  grind
theorem away_end {S S' V t P cl : Nat} (h : S + P * cl = S' + t * V) (hS' : S' < P) (hV : V ≤ P) (ht : t * V ≤ S + V) : cl = 0 ∨ cl = 1 := by
  rcases Nat.lt_or_ge cl 2 with h1 | h1
  · omega
  · have : P * 2 ≤ P * cl := Nat.mul_le_mul_left _ h1
    omega
theorem back_end {S S1 S2 V t P c : Nat} (h1 : S + P = S1 + t * V) (h2 : S1 + V = S2 + P * c) (hS2 : S2 < P) (hV : V ≤ P) (ht : t * V ≤ S + V) (hS : S < P) (hlt : S < t * V) : S2 + t * V = S + V := by
  have hc : c = 1 := by
    rcases Nat.lt_or_ge c 1 with h | h
    · have : c = 0 := by omega
      subst this
      omega
    · rcases Nat.lt_or_ge c 2 with h3 | h3
      · omega
      · have : P * 2 ≤ P * c := Nat.mul_le_mul_left _ h3
        omega
  subst hc
  omega
end
end Go.PM

/- Operations on digits; rows of digits. -/
namespace Go.PM
abbrev uV (d : Nat) : VV := .sc (.int .u32 (d : Int))
abbrev natL (ds : List Nat) : VV := listV uV ds
def natV (n : Nat) : VV := natL (digs 4294967296 n)
theorem uV_len : ∀ d : Nat, (vcells (uV d)).length = 1 := fun _ => rfl
theorem natL_pure (ds : List Nat) : pureV (natL ds) = true := pure_list uV_len fun _ => rfl
theorem natL_res (ds : List Nat) : resV (natL ds) = true := res_list uV_len (fun _ => rfl) fun _ => rfl
theorem natV_pure (n : Nat) : pureV (natV n) = true := natL_pure _
theorem natV_res (n : Nat) : resV (natV n) = true := natL_res _
theorem natV_zero : natV 0 = .tree [] .op := by rw [natV, digs_zero]; rfl
theorem quo_u64 (a b : Nat) (ha : a < 18446744073709551616) (hb : 0 < b) : pbin .quo (.int .u64 (a : Int)) (.int .u64 (b : Int)) = some (.int .u64 ((a / b : Nat) : Int)) := by
  have h1 : ¬ ((b : Int) = 0) := by omega
  have h2 : (a : Int).tdiv (b : Int) = ((a / b : Nat) : Int) := by rw [Int.tdiv_eq_ediv_of_nonneg (by omega)]; simp
  have h3 : a / b ≤ a := Nat.div_le_self _ _
  simp only [pbin, if_true, h1, if_false, h2]
  rw [wrapU _ (by omega)]
theorem rem_u64 (a b : Nat) (hb : 0 < b) : pbin .rem (.int .u64 (a : Int)) (.int .u64 (b : Int)) = some (.int .u64 ((a % b : Nat) : Int)) := by
  have h1 : ¬ ((b : Int) = 0) := by omega
  have h2 : (a : Int).tmod (b : Int) = ((a % b : Nat) : Int) := by rw [Int.tmod_eq_emod_of_nonneg (by omega)]; simp
  simp only [pbin, if_true, h1, if_false, h2]
theorem shl_by (n s : Nat) (hn : n < 4294967296) (hs : s ≤ 31) : pbin .shl (.int .u64 (n : Int)) (.int .i64 (s : Int)) = some (.int .u64 ((n * 2 ^ s : Nat) : Int)) := by
  have h1 : ¬ ((s : Int) < 0) := by omega
  have h2 : Nat.min (Int.toNat (s : Int)) IntKind.u64.bits = s := by
    rw [Int.toNat_natCast]
    exact Nat.min_eq_left (by show s ≤ 64; omega)
  have h3 : 2 ^ s ≤ 2 ^ 31 := Nat.pow_le_pow_right (by decide) hs
  have h4 : n * 2 ^ s ≤ n * 2 ^ 31 := Nat.mul_le_mul_left _ h3
  simp only [pbin, h1, if_false, h2]
  congr 2
  have e : (n : Int) * 2 ^ s = ((n * 2 ^ s : Nat) : Int) := by simp
  rw [e]
  exact wrapU _ (by omega)
theorem shr_by (n s : Nat) (hs : s ≤ 31) : pbin .shr (.int .u64 (n : Int)) (.int .i64 (s : Int)) = some (.int .u64 ((n / 2 ^ s : Nat) : Int)) := by
  have h1 : ¬ ((s : Int) < 0) := by omega
  have h2 : Nat.min (Int.toNat (s : Int)) IntKind.u64.bits = s := by
    rw [Int.toNat_natCast]
    exact Nat.min_eq_left (by show s ≤ 64; omega)
  simp only [pbin, h1, if_false, h2]
  congr 2
  rw [Int.fdiv_eq_ediv_of_nonneg _ (by exact Int.le_of_lt (Int.pow_pos (by decide)))]
  simp
theorem or_u32 (a m s : Nat) (ha : a < 2 ^ s) (hm : m * 2 ^ s + a < 4294967296) : pbin .or (.int .u32 (a : Int)) (.int .u32 ((m * 2 ^ s : Nat) : Int)) = some (.int .u32 ((a + m * 2 ^ s : Nat) : Int)) := by
  have e : a ||| (m * 2 ^ s) = a + m * 2 ^ s := by
    have := Nat.shiftLeft_add_eq_or_of_lt ha m
    rw [Nat.shiftLeft_eq] at this
    rw [Nat.or_comm, ← this, Nat.add_comm]
  have e1 : (BitVec.ofInt IntKind.u32.bits (a : Int) ||| BitVec.ofInt IntKind.u32.bits ((m * 2 ^ s : Nat) : Int)).toNat = a + m * 2 ^ s := by
    show (BitVec.ofInt 32 (a : Int) ||| BitVec.ofInt 32 ((m * 2 ^ s : Nat) : Int)).toNat = a + m * 2 ^ s
    rw [BitVec.toNat_or, BitVec.ofInt_natCast, BitVec.ofInt_natCast, BitVec.toNat_ofNat, BitVec.toNat_ofNat, Nat.mod_eq_of_lt (by omega), Nat.mod_eq_of_lt (by omega), e]
  simp only [pbin, if_true, e1]
  rw [wrap32, Nat.mod_eq_of_lt (by omega)]
section
variable {rows : List Nat} {b g c n e : Nat} {w : Bool} {H : VHeap}
theorem fz_natD {m d : Nat} (hr : vrow H b g = some (rows.map uV, 1, w)) (hn : n ≤ rows.length) (hc : n ≤ c) (he : rows.take n = digs 4294967296 m) : fz (d + 2) H (.ref b g 0 n c) = some (natV m) := by
  have : pureV (.ref b g 0 n c) = false := rfl
  unfold fz
  simp only [this, hr, Bool.false_eq_true, if_false]
  have hp' : pureL ((rows.map uV).take n) = true := by rw [← List.map_take]; exact pure_map fun _ => rfl
  rw [if_pos ⟨by simpa using hn, hc⟩, List.drop_zero, mapM_pure hp', ← List.map_take, he]
  rfl
theorem fz_tup2 {d : Nat} {u u' v v' : VV} (h1 : fz (d + 1) H u = some u') (h2 : fz (d + 1) H v = some v') : fz (d + 2) H (.tup [u, v]) = some (.tup [u', v']) := by
  have e : fz (d + 2) H (.tup [u, v]) = if pureV (.tup [u, v]) = true then some (.tup [u, v]) else ([u, v].mapM (fz (d + 1) H)).map .tup := rfl
  rw [e]
  by_cases hp : pureV (.tup [u, v]) = true
  · rw [if_pos hp]
    simp only [pureV, pureL, Bool.and_eq_true, and_true] at hp
    rw [fz_pure hp.1] at h1
    rw [fz_pure hp.2] at h2
    cases h1
    cases h2
    rfl
  · rw [if_neg hp, List.mapM_cons, h1, List.mapM_cons, h2]
    rfl
theorem vload_nat {j d : Nat} (hr : vrow H b g = some (rows.map uV, 1, w)) (hj : rows[j]? = some d) : vload false 1 (.ptr b g j 0) H = some (uV d) := vload_row hr hj
theorem last_ne {xs : List Nat} {m d : Nat} (hm : xs.length = m + 1) (hd : xs[m]? = some d) (h : d ≠ 0) : xs.getLast? ≠ some 0 := by
  rw [List.getLast?_eq_getElem?, hm, Nat.add_sub_cancel, hd]
  simpa using h
end
/-! ### noughts cut off -/
theorem trim_ref {rows : List Nat} {b g n c : Nat} {w : Bool} {H : VHeap} {lo : Nat} (hr : vrow H b g = some (rows.map uV, 1, w)) (hn : n ≤ rows.length) (hc : n ≤ c) (hcap : n ≤ 70368744177664) (hd : ∀ d ∈ rows.take n, d < 4294967296) :
    VRaw 50 [.ref b g 0 n c] lo H fun r H' => H' = H ∧ ∃ k, k ≤ n ∧ r = .ref b g 0 k c ∧ rows.take k = digs 4294967296 (val 4294967296 (rows.take n)) := by
  refine VRaw.walk ⟨true, false⟩ _impl_nat__trim_t (Nat.le_of_ble_eq_true rfl) ?_
  simp only [_impl_nat__trim, _impl_nat__trim_c, VX, Nat.reduceEqDiff, Nat.reduceAdd]
  refine VW_loop (fun (k : Nat) ρ H' => k ≤ n ∧ H' = H ∧ val 4294967296 (rows.take k) = val 4294967296 (rows.take n) ∧ ρ 0 = .ref b g 0 k c) (fun k => k) n ⟨Nat.le_refl _, rfl, rfl, rfl⟩ ?_
  rintro k ρ H' ⟨hk, rfl, hv, h0⟩
  have e0 : vlen (.ref b g 0 k c) H' = some (VI k) := vlen_ref hr
  have done : (rows.take k).getLast? ≠ some 0 → rows.take k = digs 4294967296 (val 4294967296 (rows.take n)) := fun hne => by
    rw [← hv, digs_val (by decide) (fun d h => hd d ?_) hne]
    exact (List.take_sublist_take_left hk).mem h
  rcases Nat.eq_zero_or_pos k with hz | hp
  · subst hz
    simp only [_impl_nat__trim_b0, h0, e0, Int.reduceLT, Int.natCast_zero, VX, Nat.reduceEqDiff, Nat.reduceAdd]
    exact ⟨0, hk, rfl, done (by simp)⟩
  · obtain ⟨m, rfl⟩ : ∃ m, k = m + 1 := ⟨k - 1, by omega⟩
    obtain ⟨d, hdd⟩ : ∃ d, rows[m]? = some d := ⟨_, List.getElem?_eq_getElem (by omega)⟩
    have hp' : (0 : Int) < ((m + 1 : Nat) : Int) := by omega
    have w1 : IntKind.i64.wrap (((m + 1 : Nat) : Int) - 1) = (m : Int) := by rw [wrap64 (by omega) (by omega)]; omega
    have e1 : viaddr 1 (.ref b g 0 (m + 1) c) (VI m) H' = some (.ptr b g m 0) := by rw [viaddr_row hr (by omega), Nat.zero_add]
    have e2 := vload_nat hr hdd
    by_cases hd0 : (d : Int) = 0
    · have hd1 : d = 0 := by omega
      subst hd1
      have e3 : vsub 1 (.ref b g 0 (m + 1) c) none (some (VI m)) none H' = some (.ref b g 0 m c) := vsub_ref_to hr (by omega)
      simp only [_impl_nat__trim_b0, h0, e0, hp', w1, e1, e2, e3, hd0, VX, Nat.reduceEqDiff, Nat.reduceAdd]
      refine ⟨m, by omega, by omega, ?_, rfl⟩
      rw [← hv, val_take_succ hdd, Nat.mul_zero, Nat.add_zero]
    · simp only [_impl_nat__trim_b0, h0, e0, hp', w1, e1, e2, hd0, VX, Nat.reduceEqDiff, Nat.reduceAdd]
      refine ⟨m + 1, hk, rfl, done (last_ne (m := m) (d := d) (by rw [List.length_take]; omega) ?_ (by omega))⟩
      rw [List.getElem?_take_of_lt (by omega)]
      exact hdd
theorem trim_tree (ds : List Nat) (t : TK) {lo : Nat} {H : VHeap} (h : ∀ d ∈ ds, d < 4294967296) (hlen : ds.length ≤ 70368744177664) :
    VRaw 50 [.tree (ds.map uV) t] lo H fun r H' => H' = H ∧ ∃ t', (t' = t ∨ t' = .op) ∧ r = .tree ((digs 4294967296 (val 4294967296 ds)).map uV) t' := by
  refine VRaw.walk ⟨true, false⟩ _impl_nat__trim_t (Nat.le_of_ble_eq_true rfl) ?_
  simp only [_impl_nat__trim, _impl_nat__trim_c, VX, Nat.reduceEqDiff, Nat.reduceAdd]
  refine VW_loop (fun (s : List Nat × TK) ρ H' => (∀ d ∈ s.1, d < 4294967296) ∧ val 4294967296 s.1 = val 4294967296 ds ∧ s.1.length ≤ ds.length ∧ H' = H ∧ (s.2 = t ∨ s.2 = .op) ∧ ρ 0 = .tree (s.1.map uV) s.2) (fun s => s.1.length) (ds, t) ⟨h, rfl, Nat.le_refl _, rfl, .inl rfl, rfl⟩ ?_
  rintro ⟨xs, t'⟩ ρ H' ⟨hx, hv, hl, rfl, ht, h0⟩
  simp only at hx hv hl ht h0
  have done : xs.getLast? ≠ some 0 → xs = digs 4294967296 (val 4294967296 ds) := fun hne => by rw [← hv, digs_val (by decide) hx hne]
  rcases Nat.eq_zero_or_pos xs.length with hz | hp
  · have hxn : xs = [] := List.length_eq_zero_iff.1 hz
    subst hxn
    simp only [_impl_nat__trim_b0, h0, Int.reduceLT, Int.natCast_zero, VX, Nat.reduceEqDiff, Nat.reduceAdd]
    exact ⟨t', ht, by rw [← done (by simp)]; rfl⟩
  · obtain ⟨m, hm⟩ : ∃ m, xs.length = m + 1 := ⟨xs.length - 1, by omega⟩
    obtain ⟨d, hd⟩ : ∃ d, xs[m]? = some d := ⟨_, List.getElem?_eq_getElem (by omega)⟩
    have hp' : (0 : Int) < ((m + 1 : Nat) : Int) := by omega
    have w1 : IntKind.i64.wrap (((m + 1 : Nat) : Int) - 1) = (m : Int) := by rw [wrap64 (by omega) (by omega)]; omega
    have e1 := viaddr_map (f := uV) (t := t') (H := H') (size := 1) (k := .i64) hd rfl
    by_cases hd0 : (d : Int) = 0
    · have hd1 : d = 0 := by omega
      subst hd1
      have e2 := vsub_map_to (f := uV) (size := 1) (t := t') (H := H') (k2 := .i64) (xs := xs) (h := m) uV_len (by omega) (by omega)
      have hsp : xs = xs.take m ++ [0] := by
        have := List.take_append_drop m xs
        have h3 := (List.getElem?_eq_some_iff.1 hd)
        rw [List.drop_eq_getElem_cons h3.1, h3.2, List.drop_of_length_le (by omega)] at this
        exact this.symm
      simp only [_impl_nat__trim_b0, h0, hm, hp', w1, e1, e2, hd0, VX, Nat.reduceEqDiff, Nat.reduceAdd]
      refine ⟨(xs.take m, .op), by simp only [List.length_take]; omega, fun d hd => hx d (List.mem_of_mem_take hd), ?_, by simp only [List.length_take]; omega, .inr rfl, rfl⟩
      rw [← hv]
      conv => rhs; rw [hsp]
      rw [val_snoc]
      simp
    · simp only [_impl_nat__trim_b0, h0, hm, hp', w1, e1, hd0, VX, Nat.reduceEqDiff, Nat.reduceAdd]
      exact ⟨t', ht, by rw [← done (last_ne hm hd (by omega))]⟩
theorem trim_call {rows : List Nat} {b g n c : Nat} {w : Bool} {H : VHeap} {K : VV → VHeap → Prop} {m lo : Nat} (hr : vrow H b g = some (rows.map uV, 1, w)) (hn : n ≤ rows.length) (hc : n ≤ c) (hcap : n ≤ 70368744177664) (hd : ∀ d ∈ rows.take n, d < 4294967296) (hm : val 4294967296 (rows.take n) = m)
    (hk : ∀ k, k ≤ n → rows.take k = digs 4294967296 m → K (.ref b g 0 k c) H) : vcallP 50 [.ref b g 0 n c] lo H K := by
  refine vcall_raw rfl ((trim_ref hr hn hc hcap hd).mono ?_)
  rintro r H' ⟨rfl, k, h1, rfl, h2⟩
  rw [hm] at h2
  exact hk k h1 h2
theorem trim_callT {ds : List Nat} {t : TK} {lo : Nat} {H : VHeap} {K : VV → VHeap → Prop} {m : Nat} (h : ∀ d ∈ ds, d < 4294967296) (hlen : ds.length ≤ 70368744177664) (hm : val 4294967296 ds = m) (hk : ∀ t', (t' = t ∨ t' = .op) → K (.tree ((digs 4294967296 m).map uV) t') H) : vcallP 50 [.tree (ds.map uV) t] lo H K := by
  refine vcall_raw rfl ((trim_tree ds t h hlen).mono ?_)
  rintro r H' ⟨rfl, t', h1, rfl⟩
  rw [hm]
  exact hk t' h1
theorem fz_natT {H : VHeap} {m : Nat} {t : TK} (ht : t = .cl 1 ∨ t = .op) : fz depth H (.tree ((digs 4294967296 m).map uV) t) = some (natV m) := by
  rcases ht with rfl | rfl
  · exact fz_cl (pure_map fun _ => rfl)
  · exact fz_res (natV_pure m)
end Go.PM

/- The program's numbers of at least 0: cutting noughts, comparing. -/
namespace Go.PM
theorem impl_natOf_v (n : Nat) (h : n < 18446744073709551616) : TC 35 [VK .u64 n] (natV n) := by
  refine TC.walk ⟨true, false⟩ impl_natOf_t rfl (Nat.le_of_ble_eq_true rfl) rfl (natV_res _) ?_
  have e1 := vlit_two (H := []) (z := [.int .u32 0]) (u := uV (n % 4294967296)) (v := uV (n / 4294967296 % 4294967296)) rfl rfl rfl rfl rfl
  have hm : ∀ d ∈ [n % 4294967296, n / 4294967296 % 4294967296], d < 4294967296 := by
    intro d hd
    simp only [List.mem_cons, List.not_mem_nil, or_false] at hd
    rcases hd with rfl | rfl <;> exact Nat.mod_lt _ (by decide)
  have hv : val 4294967296 [n % 4294967296, n / 4294967296 % 4294967296] = n := by
    simp only [val]
    have := Nat.mod_add_div n 4294967296
    rw [Nat.mod_eq_of_lt (show n / 4294967296 < 4294967296 by omega)]
    omega
  simp only [impl_natOf, impl_natOf_c, wrap32, shr_u64, e1, VX, Nat.reduceEqDiff, Nat.reduceAdd]
  refine trim_callT (ds := [n % 4294967296, n / 4294967296 % 4294967296]) (t := .cl 1) hm (by show 2 ≤ 70368744177664; decide) hv fun t' ht => ?_
  simp only [VX, Nat.reduceEqDiff, Nat.reduceAdd]
  exact fz_natT ht
theorem impl_nat_small_v (n : Nat) (hn : (digs 4294967296 n).length ≤ 17592186044416) : TC 61 [natV n] (if (digs 4294967296 n).length ≤ 2 then .tup [VK .u64 n, VB true] else .tup [VK .u64 0, VB false]) := by
  refine TC.walk ⟨true, false⟩ _impl_nat__small_t rfl (Nat.le_of_ble_eq_true rfl) (by simp [pureL, natV_pure]) (by split <;> rfl) ?_
  have hv := val_digs (b := 4294967296) (by decide) n
  have hl := digs_lt (b := 4294967296) (by decide) n
  unfold natV natL
  generalize digs 4294967296 n = ds at *
  have w1 : IntKind.i64.wrap ((ds.length : Int) - 1) = (ds.length : Int) - 1 := wrap64 (by omega) (by omega)
  simp only [_impl_nat__small, _impl_nat__small_c, w1, VX, Nat.reduceEqDiff, Nat.reduceAdd]
  by_cases h2 : ds.length ≤ 2
  · rw [if_pos h2]
    have c2 : (ds.length : Int) ≤ 2 := by omega
    refine VW_loop (fun (j : Nat) ρ H => j ≤ ds.length ∧ H = [] ∧ ρ 0 = listV uV ds ∧ ρ 4 = VK .u64 (val 4294967296 (ds.drop j) : Nat) ∧ ρ 5 = VI ((j : Int) - 1)) (fun j => j) ds.length ⟨Nat.le_refl _, rfl, rfl, by rw [List.drop_length]; rfl, rfl⟩ ?_
    rintro j ρ H ⟨hj, rfl, g0, g4, g5⟩
    by_cases hz : (0 : Int) ≤ (j : Int) - 1
    · obtain ⟨i, rfl⟩ : ∃ i, j = i + 1 := ⟨j - 1, by omega⟩
      obtain ⟨x, hx⟩ : ∃ x, ds[i]? = some x := ⟨_, List.getElem?_eq_getElem (by omega)⟩
      have hji : ((i + 1 : Nat) : Int) - 1 = (i : Int) := by omega
      rw [hji] at g5 hz
      have e1 := viaddr_map (f := uV) (t := .op) (H := []) (size := 1) (k := .i64) hx rfl
      have lx := hl x (List.mem_of_getElem? hx)
      have ld := val_lt (b := 4294967296) (xs := ds.drop (i + 1)) fun d hd => hl d (List.mem_of_mem_drop hd)
      have hle : (ds.drop (i + 1)).length ≤ 1 := by rw [List.length_drop]; omega
      have hpw : 4294967296 ^ (ds.drop (i + 1)).length ≤ 4294967296 ^ 1 := Nat.pow_le_pow_right (by decide) hle
      rw [Nat.pow_one] at hpw
      have w2 : IntKind.i64.wrap ((i : Int) - 1) = (i : Int) - 1 := wrap64 (by omega) (by omega)
      have w3 : IntKind.u64.wrap (x : Int) = (x : Int) := wrapU _ (by omega)
      have w4 : IntKind.u64.wrap (((val 4294967296 (ds.drop (i + 1)) * 4294967296 : Nat) : Int) + (x : Int)) = ((val 4294967296 (ds.drop i) : Nat) : Int) := by
        rw [val_drop hx, ← Int.natCast_add, wrapU _ (by omega)]
        congr 1
        omega
      have w5 := shl_u64 (val 4294967296 (ds.drop (i + 1))) .u64 (by omega)
      simp only [_impl_nat__small_b0, g0, g4, g5, hz, c2, e1, w2, w3, w4, w5, VX, Nat.reduceEqDiff, Nat.reduceAdd]
      exact ⟨i, by omega, by omega, by (repeat' apply And.intro) <;> first | rfl | trivial⟩
    · have hj0 : j = 0 := by omega
      subst hj0
      rw [List.drop_zero, hv] at g4
      simp only [_impl_nat__small_b0, g0, g4, g5, hz, c2, VX, Nat.reduceEqDiff, Nat.reduceAdd]
      exact fz_res rfl
  · rw [if_neg h2]
    have c2 : ¬ (ds.length : Int) ≤ 2 := by omega
    have c3 : (0 : Int) ≤ (ds.length : Int) - 1 := by omega
    refine VW_loop (fun (j : Nat) ρ H => H = [] ∧ ρ 0 = listV uV ds ∧ ρ 4 = VK .u64 0 ∧ ρ 5 = VI ((ds.length : Int) - 1)) (fun j => j) 0 ⟨rfl, rfl, rfl, rfl⟩ ?_
    rintro j ρ H ⟨rfl, g0, g4, g5⟩
    simp only [_impl_nat__small_b0, g0, g4, g5, c2, c3, VX, Nat.reduceEqDiff, Nat.reduceAdd]
    exact fz_res rfl
theorem impl_nat_cmp_v (a b : Nat) (ha : (digs 4294967296 a).length ≤ 17592186044416) (hb : (digs 4294967296 b).length ≤ 17592186044416) : TC 62 [natV a, natV b] (VI (cmpI a b)) := by
  refine TC.walk ⟨true, false⟩ _impl_nat__cmp_t rfl (Nat.le_of_ble_eq_true rfl) (by simp [pureL, natV_pure]) rfl ?_
  have fin : ∀ {x : Int}, x = cmpI a b → fz depth [] (VI x) = some (VI (cmpI a b)) := fun h => by rw [h]; exact fz_res rfl
  unfold natV natL
  by_cases hl : (((digs 4294967296 a).length : Nat) : Int) = (((digs 4294967296 b).length : Nat) : Int)
  · have hl' : (digs 4294967296 a).length = (digs 4294967296 b).length := by omega
    have w1 : IntKind.i64.wrap ((((digs 4294967296 b).length : Nat) : Int) - 1) = (((digs 4294967296 b).length : Nat) : Int) - 1 := wrap64 (by omega) (by omega)
    simp only [_impl_nat__cmp, _impl_nat__cmp_c, hl, w1, VX, Nat.reduceEqDiff, Nat.reduceAdd]
    refine VW_loop (fun (j : Nat) ρ H => j ≤ (digs 4294967296 b).length ∧ H = [] ∧ (digs 4294967296 a).drop j = (digs 4294967296 b).drop j ∧ ρ 0 = listV uV (digs 4294967296 a) ∧ ρ 1 = listV uV (digs 4294967296 b) ∧ ρ 5 = VI ((j : Int) - 1)) (fun j => j) (digs 4294967296 b).length ⟨Nat.le_refl _, rfl, by rw [List.drop_length, ← hl', List.drop_length], rfl, rfl, rfl⟩ ?_
    rintro j ρ H ⟨hj, rfl, hd, h0, h1, h5⟩
    by_cases hz : (0 : Int) ≤ (j : Int) - 1
    · obtain ⟨i, rfl⟩ : ∃ i, j = i + 1 := ⟨j - 1, by omega⟩
      obtain ⟨x, hx⟩ : ∃ x, (digs 4294967296 a)[i]? = some x := ⟨_, List.getElem?_eq_getElem (by omega)⟩
      obtain ⟨y, hy⟩ : ∃ y, (digs 4294967296 b)[i]? = some y := ⟨_, List.getElem?_eq_getElem (by omega)⟩
      have hji : ((i + 1 : Nat) : Int) - 1 = (i : Int) := by omega
      have e1 := viaddr_map (f := uV) (t := .op) (H := []) (size := 1) (k := .i64) hx rfl
      have e2 := viaddr_map (f := uV) (t := .op) (H := []) (size := 1) (k := .i64) hy rfl
      rw [hji] at h5 hz
      have w2 : IntKind.i64.wrap ((i : Int) - 1) = (i : Int) - 1 := wrap64 (by omega) (by omega)
      by_cases hxy : (x : Int) = (y : Int)
      · simp only [_impl_nat__cmp_b0, h0, h1, h5, hz, e1, e2, hxy, w2, VX, Nat.reduceEqDiff, Nat.reduceAdd]
        have hxy' : x = y := by omega
        subst hxy'
        refine ⟨i, by omega, by omega, ?_⟩
        obtain ⟨g1, g2⟩ := List.getElem?_eq_some_iff.1 hx
        obtain ⟨g3, g4⟩ := List.getElem?_eq_some_iff.1 hy
        rw [List.drop_eq_getElem_cons g1, List.drop_eq_getElem_cons g3, g2, g4, hd]
        exact ⟨rfl, rfl⟩
      · by_cases hlt : (x : Int) < (y : Int)
        · simp only [_impl_nat__cmp_b0, h0, h1, h5, hz, e1, e2, hxy, hlt, VX, Nat.reduceEqDiff, Nat.reduceAdd]
          refine fin ?_
          have := cmp_digit (digs_lt (by decide) a) hl' hx hy hd (by omega)
          rw [val_digs (by decide), val_digs (by decide)] at this
          simp [cmpI, this]
        · simp only [_impl_nat__cmp_b0, h0, h1, h5, hz, e1, e2, hxy, hlt, VX, Nat.reduceEqDiff, Nat.reduceAdd]
          refine fin ?_
          have := cmp_digit (digs_lt (by decide) b) hl'.symm hy hx hd.symm (by omega)
          rw [val_digs (by decide), val_digs (by decide)] at this
          rw [cmpI, if_neg (by omega), if_neg (by omega)]
    · have hj0 : j = 0 := by omega
      subst hj0
      simp only [_impl_nat__cmp_b0, h0, h1, h5, hz, VX, Nat.reduceEqDiff, Nat.reduceAdd]
      refine fin ?_
      have := digs_inj (b := 4294967296) (by decide) (by simpa using hd)
      subst this
      simp [cmpI]
  · by_cases hlt : (((digs 4294967296 a).length : Nat) : Int) < (((digs 4294967296 b).length : Nat) : Int)
    · simp only [_impl_nat__cmp, _impl_nat__cmp_c, hl, hlt, VX, Nat.reduceEqDiff, Nat.reduceAdd]
      refine fin ?_
      have := lt_of_len (b := 4294967296) (by decide) (m := a) (n := b) (by omega)
      simp [cmpI, this]
    · simp only [_impl_nat__cmp, _impl_nat__cmp_c, hl, hlt, VX, Nat.reduceEqDiff, Nat.reduceAdd]
      refine fin ?_
      have := lt_of_len (b := 4294967296) (by decide) (m := b) (n := a) (by omega)
      rw [cmpI, if_neg (by omega), if_neg (by omega)]
end Go.PM

/- Digits by their places: plain laws. -/
namespace Go.PM
section
variable {b : Nat}
theorem digs_getD (hb : 2 ≤ b) (n i : Nat) : (digs b n).getD i 0 = n / b ^ i % b := by
  induction i generalizing n with
  | zero =>
    by_cases h : n = 0
    · subst h; simp [digs_zero]
    · rw [digs_pos hb h, List.getD_cons_zero, Nat.pow_zero, Nat.div_one]
  | succ i ih =>
    by_cases h : n = 0
    · subst h; simp [digs_zero]
    · rw [digs_pos hb h, List.getD_cons_succ, ih, Nat.div_div_eq_div_mul, Nat.pow_succ, Nat.mul_comm b]
theorem digs_at (hb : 2 ≤ b) {n i : Nat} : i < (digs b n).length ↔ n / b ^ i ≠ 0 := by
  induction i generalizing n with
  | zero =>
    rw [Nat.pow_zero, Nat.div_one, List.length_pos_iff]
    exact not_congr (digs_nil hb)
  | succ i ih =>
    by_cases h : n = 0
    · subst h; simp [digs_zero]
    · rw [digs_pos hb h, List.length_cons, Nat.add_lt_add_iff_right, ih, Nat.div_div_eq_div_mul, Nat.pow_succ, Nat.mul_comm b]
theorem digs_get (hb : 2 ≤ b) {n i : Nat} (h : i < (digs b n).length) : (digs b n)[i]? = some (n / b ^ i % b) := by
  rw [← digs_getD hb, List.getD_eq_getElem?_getD, List.getElem?_eq_getElem h]
  rfl
theorem digs_drop (hb : 2 ≤ b) (n i : Nat) : (digs b n).drop i = digs b (n / b ^ i) := by
  induction i generalizing n with
  | zero => simp
  | succ i ih =>
    by_cases h : n = 0
    · subst h; simp [digs_zero]
    · rw [digs_pos hb h, List.drop_succ_cons, ih, Nat.div_div_eq_div_mul, Nat.pow_succ, Nat.mul_comm b]
theorem div_pow_succ (n i : Nat) : n / b ^ (i + 1) = n / b ^ i / b := by rw [Nat.div_div_eq_div_mul, Nat.pow_succ]
theorem digs_cons (hb : 2 ≤ b) {n d q : Nat} (hn : n ≠ 0) (h : n = d + b * q) (hd : d < b) : digs b n = d :: digs b q := by
  rw [digs_pos hb hn, h, Nat.add_mul_mod_self_left, Nat.mod_eq_of_lt hd, Nat.add_mul_div_left _ _ (by omega), Nat.div_eq_of_lt hd, Nat.zero_add]
theorem mul_place (hb : 2 ≤ b) {x d c : Nat} (h : x * d + c ≠ 0) : digs b (x * d + c) = (x % b * d + c) % b :: digs b (x / b * d + (x % b * d + c) / b) := by
  refine digs_cons hb h ?_ (Nat.mod_lt _ (by omega))
  have h1 := Nat.mod_add_div x b
  have h3 := Nat.mod_add_div (x % b * d + c) b
  have e : b * (x / b * d + (x % b * d + c) / b) = b * (x / b) * d + b * ((x % b * d + c) / b) := by grind
  have e2 : x * d = x % b * d + b * (x / b) * d := by
    conv => lhs; rw [← h1, Nat.add_mul]
  omega
theorem digs_len_mul (hb : 2 ≤ b) (m n : Nat) : (digs b (m * n)).length ≤ (digs b m).length + (digs b n).length := by
  refine digs_len_le hb ?_
  rw [Nat.pow_add]
  exact Nat.mul_lt_mul'' (digs_len_lt hb m) (digs_len_lt hb n)
theorem digs_single (hb : 2 ≤ b) {c : Nat} (h : c ≠ 0) (hc : c < b) : digs b c = [c] := by
  rw [digs_pos hb h, Nat.mod_eq_of_lt hc, Nat.div_eq_of_lt hc, digs_zero]
end
end Go.PM

/- The reference's numbers of at least 0 (digits to the base 1000000000): small functions, sums and differences. -/
namespace Go.PM
abbrev tV (d : Nat) : VV := VI (d : Int)
abbrev natL' (ds : List Nat) : VV := listV tV ds
def natT (n : Nat) : VV := natL' (digs 1000000000 n)
theorem tV_len : ∀ d : Nat, (vcells (tV d)).length = 1 := fun _ => rfl
theorem natL'_pure (ds : List Nat) : pureV (natL' ds) = true := pure_list tV_len fun _ => rfl
theorem natL'_res (ds : List Nat) : resV (natL' ds) = true := res_list tV_len (fun _ => rfl) fun _ => rfl
theorem natT_pure (n : Nat) : pureV (natT n) = true := natL'_pure _
theorem natT_res (n : Nat) : resV (natT n) = true := natL'_res _
theorem natT_zero : natT 0 = .tree [] .op := by rw [natT, digs_zero]; rfl
theorem len_natT (n : Nat) {H : VHeap} : vlen (natT n) H = some (VI (digs 1000000000 n).length) := vlen_map
section
variable {α : Type} {f : α → VV} {xs : List α} {x : α} {H : VHeap}
theorem one_get {g e : Nat} {es : List VV} {w : Bool} : vrow [.row g es e w] 0 g = some (es, e, w) := vrow_zero
theorem app1 {e bytes : Nat} (he : 1 ≤ e) (hb : 1 ≤ bytes) (hsz : (xs.length + 1) * bytes ≤ 140737488355328) : vappend 0 e bytes (.ref 0 xs.length 0 xs.length xs.length) [f x] [.row xs.length (xs.map f) e true] = some (.ref 0 (xs.length + 1) 0 (xs.length + 1) (xs.length + 1), [.row (xs.length + 1) ((xs ++ [x]).map f) e true]) := by
  rw [vappend_row (f := f) (x := x) vrow_zero rfl (Nat.le_refl _) he hb hsz]
  rfl
theorem row_tree {n g e : Nat} {w : Bool} (hp : ∀ x, pureV (f x) = true) (hn : n = xs.length) : fz depth [.row g (xs.map f) e w] (.ref 0 g 0 n n) = some (listV f xs) := fz_row vrow_zero (by simpa using hn) (Nat.le_refl _) (pure_map hp)
end
theorem litT_nil {lr : Bool} : vlit lr [.int .i64 0] 0 [] [] = some (.ref 0 0 0 0 0, [.row 0 (([] : List Nat).map tV) 1 true]) := vlit_nil (H := []) rfl
theorem litT_one {d : Int} {H : VHeap} : vlit false [.int .i64 0] 1 [(0, VI d)] H = some (.tree [VI d] (.cl 1), H) := vlit_one rfl rfl rfl
theorem srcT_one {d : Int} {H : VHeap} {t : TK} : vsource 1 (.tree [VI d] t) H = some [VI d] := vsource_one rfl rfl
theorem appT {ds : List Nat} {d : Nat} (h : ds.length < 17592186044416) : vappend 0 1 8 (.ref 0 ds.length 0 ds.length ds.length) [VI (d : Int)] [.row ds.length (ds.map tV) 1 true] = some (.ref 0 (ds.length + 1) 0 (ds.length + 1) (ds.length + 1), [.row (ds.length + 1) ((ds ++ [d]).map tV) 1 true]) := app1 (f := tV) (by decide) (by decide) (by omega)
theorem rem_T (n : Nat) : pbin .rem (.int .i64 (n : Int)) (.int .i64 1000000000) = some (.int .i64 ((n % 1000000000 : Nat) : Int)) := by
  have h2 : (n : Int).tmod 1000000000 = ((n % 1000000000 : Nat) : Int) := by rw [Int.tmod_eq_emod_of_nonneg (by omega)]; simp
  simp only [pbin, if_true, h2]
  rfl
theorem quo_T (n : Nat) (h : n ≤ 9223372036854775807) : pbin .quo (.int .i64 (n : Int)) (.int .i64 1000000000) = some (.int .i64 ((n / 1000000000 : Nat) : Int)) := by
  have h2 : (n : Int).tdiv 1000000000 = ((n / 1000000000 : Nat) : Int) := by rw [Int.tdiv_eq_ediv_of_nonneg (by omega)]; simp
  simp only [pbin, if_true, h2]
  rw [wrap64 (by omega) (by omega)]
  rfl
theorem spec_l01Trim_v (ds : List Nat) (h : ∀ d ∈ ds, d < 1000000000) (hlen : ds.length ≤ 70368744177664) : TC 57 [natL' ds] (natT (val 1000000000 ds)) := by
  refine TC.walk ⟨true, false⟩ spec_l01Trim_t rfl (Nat.le_of_ble_eq_true rfl) (by simp [pureL, natL'_pure]) (natT_res _) ?_
  simp only [spec_l01Trim, spec_l01Trim_c, VX, Nat.reduceEqDiff, Nat.reduceAdd]
  refine VW_loop (fun (xs : List Nat) ρ H' => (∀ d ∈ xs, d < 1000000000) ∧ val 1000000000 xs = val 1000000000 ds ∧ xs.length ≤ ds.length ∧ H' = [] ∧ ρ 0 = natL' xs) (fun s => s.length) ds ⟨h, rfl, Nat.le_refl _, rfl, rfl⟩ ?_
  rintro xs ρ H' ⟨hx, hv, hl, rfl, h0⟩
  have done : xs.getLast? ≠ some 0 → fz depth [] (natL' xs) = some (natT (val 1000000000 ds)) := fun hne => by rw [natT, ← hv, digs_val (by decide) hx hne]; exact fz_res (natL'_pure _)
  rcases Nat.eq_zero_or_pos xs.length with hz | hp
  · have hxn : xs = [] := List.length_eq_zero_iff.1 hz
    subst hxn
    simp only [spec_l01Trim_b0, h0, Int.reduceLT, Int.natCast_zero, vlen_map, List.length_nil, VX, Nat.reduceEqDiff, Nat.reduceAdd]
    exact done (by simp)
  · obtain ⟨m, hm⟩ : ∃ m, xs.length = m + 1 := ⟨xs.length - 1, by omega⟩
    obtain ⟨d, hd⟩ : ∃ d, xs[m]? = some d := ⟨_, List.getElem?_eq_getElem (by omega)⟩
    have hp' : (0 : Int) < ((m + 1 : Nat) : Int) := by omega
    have w1 : IntKind.i64.wrap (((m + 1 : Nat) : Int) - 1) = (m : Int) := by rw [wrap64 (by omega) (by omega)]; omega
    have e1 := viaddr_map (f := tV) (t := .op) (H := []) (size := 1) (k := .i64) hd rfl
    by_cases hd0 : (d : Int) = 0
    · have hd1 : d = 0 := by omega
      subst hd1
      have e2 := vsub_map_to (f := tV) (size := 1) (t := .op) (H := []) (k2 := .i64) (xs := xs) (h := m) tV_len (by omega) (by omega)
      have hsp : xs = xs.take m ++ [0] := by
        have := List.take_append_drop m xs
        have h3 := (List.getElem?_eq_some_iff.1 hd)
        rw [List.drop_eq_getElem_cons h3.1, h3.2, List.drop_of_length_le (by omega)] at this
        exact this.symm
      simp only [spec_l01Trim_b0, h0, hm, hp', w1, e1, e2, hd0, vlen_map, VX, Nat.reduceEqDiff, Nat.reduceAdd]
      refine ⟨xs.take m, by simp only [List.length_take]; omega, fun d hd => hx d (List.mem_of_mem_take hd), ?_, by simp only [List.length_take]; omega, by first | rfl | exact ⟨rfl, rfl⟩⟩
      rw [← hv]
      conv => rhs; rw [hsp]
      rw [val_snoc]
      simp
    · simp only [spec_l01Trim_b0, h0, hm, hp', w1, e1, hd0, vlen_map, VX, Nat.reduceEqDiff, Nat.reduceAdd]
      exact done (last_ne hm hd (by omega))
theorem trimT_row {outs : List Nat} {n g m : Nat} {lo : Nat} {w : Bool} {K : VV → VHeap → Prop} (hd : ∀ d ∈ outs, d < 1000000000) (hn : n = outs.length) (hlen : outs.length ≤ 70368744177664) (hm : val 1000000000 outs = m) (hk : K (natT m) (freezeAll [.row g (outs.map tV) 1 w] [0])) :
    vcallP 57 [.ref 0 g 0 n n] lo [.row g (outs.map tV) 1 w] K := by
  subst hm
  rw [TC.row1 (f := tV) (spec_l01Trim_v outs hd hlen) vrow_zero hn (Nat.le_refl _) tV_len (fun _ => rfl) rfl rfl]
  exact hk
theorem spec_l01Nat_v (n : Int) (h1 : n ≤ 9223372036854775807) : TC 42 [VI n] (natT n.toNat) := by
  refine TC.walk ⟨true, false⟩ spec_l01Nat_t rfl (Nat.le_of_ble_eq_true rfl) rfl (natT_res _) ?_
  simp only [spec_l01Nat, spec_l01Nat_c, litT_nil, VX, Nat.reduceEqDiff, Nat.reduceAdd]
  refine VW_loop (fun (s : Int × List Nat) ρ H => s.1 ≤ 9223372036854775807 ∧ H = [.row s.2.length (s.2.map tV) 1 true] ∧ s.2.length ≤ 63 ∧ s.1.toNat * 2 ^ s.2.length ≤ 9223372036854775807 ∧ digs 1000000000 n.toNat = s.2 ++ digs 1000000000 s.1.toNat ∧ ρ 0 = VI s.1 ∧ ρ 3 = .ref 0 s.2.length 0 s.2.length s.2.length) (fun s => s.1.toNat) (n, []) ⟨h1, rfl, by simp, by simp only [List.length_nil, Nat.pow_zero, Nat.mul_one]; omega, rfl, rfl, rfl⟩ ?_
  rintro ⟨m, ds⟩ ρ H ⟨hm, rfl, hl, hlt, hd, g0, g3⟩
  simp only at hm hl hlt hd g0 g3
  by_cases hp : (0 : Int) < m
  · obtain ⟨k, rfl⟩ : ∃ k : Nat, m = (k : Int) := ⟨m.toNat, by omega⟩
    rw [Int.toNat_natCast] at hlt hd
    have hk0 : k ≠ 0 := by omega
    have hl2 : ds.length < 63 := by
      rcases Nat.lt_or_ge ds.length 63 with h | h
      · exact h
      · have e : 2 ^ ds.length = 9223372036854775808 := by rw [show ds.length = 63 by omega]
        rw [e] at hlt
        omega
    have r1 := rem_T k
    have q1 := quo_T k (by omega)
    have a1 := appT (ds := ds) (d := k % 1000000000) (by omega)
    simp only [spec_l01Nat_b0, g0, g3, hp, r1, q1, litT_one, srcT_one, a1, VX, Nat.reduceEqDiff, Nat.reduceAdd]
    refine ⟨(((k / 1000000000 : Nat) : Int), ds ++ [k % 1000000000]), ?_, by simp only; omega, by simp, by simp; omega, ?_, ?_, rfl, by simp⟩
    · simp only [Int.toNat_natCast]; exact Nat.div_lt_self (by omega) (by decide)
    · simp only [Int.toNat_natCast, List.length_append, List.length_singleton, Nat.pow_succ]
      have h1 : k / 1000000000 * 2 ≤ k := by omega
      have := Nat.mul_le_mul_right (2 ^ ds.length) h1
      rw [Nat.mul_assoc, Nat.mul_comm 2] at this
      omega
    · simp only [Int.toNat_natCast]
      rw [hd, digs_pos (by decide) hk0, List.append_assoc]
      rfl
  · have hz : m.toNat = 0 := by omega
    rw [hz, digs_zero, List.append_nil] at hd
    simp only [spec_l01Nat_b0, g0, g3, hp, VX, Nat.reduceEqDiff, Nat.reduceAdd]
    rw [natT, hd]
    exact row_tree (fun _ => rfl) rfl
theorem spec_l01Cmp_v (a b : Nat) (ha : (digs 1000000000 a).length ≤ 17592186044416) (hb : (digs 1000000000 b).length ≤ 17592186044416) : TC 40 [natT a, natT b] (VI (cmpI a b)) := by
  refine TC.walk ⟨true, false⟩ spec_l01Cmp_t rfl (Nat.le_of_ble_eq_true rfl) (by simp [pureL, natT_pure]) rfl ?_
  have fin : ∀ {x : Int}, x = cmpI a b → fz depth [] (VI x) = some (VI (cmpI a b)) := fun h => by rw [h]; exact fz_res rfl
  unfold natT natL'
  by_cases hl : (((digs 1000000000 a).length : Nat) : Int) = (((digs 1000000000 b).length : Nat) : Int)
  · have hl' : (digs 1000000000 a).length = (digs 1000000000 b).length := by omega
    have w1 : IntKind.i64.wrap ((((digs 1000000000 b).length : Nat) : Int) - 1) = (((digs 1000000000 b).length : Nat) : Int) - 1 := wrap64 (by omega) (by omega)
    simp only [spec_l01Cmp, spec_l01Cmp_c, hl, w1, VX, Nat.reduceEqDiff, Nat.reduceAdd]
    refine VW_loop (fun (j : Nat) ρ H => j ≤ (digs 1000000000 b).length ∧ H = [] ∧ (digs 1000000000 a).drop j = (digs 1000000000 b).drop j ∧ ρ 0 = listV tV (digs 1000000000 a) ∧ ρ 1 = listV tV (digs 1000000000 b) ∧ ρ 5 = VI ((j : Int) - 1)) (fun j => j) (digs 1000000000 b).length ⟨Nat.le_refl _, rfl, by rw [List.drop_length, ← hl', List.drop_length], rfl, rfl, rfl⟩ ?_
    rintro j ρ H ⟨hj, rfl, hd, h0, h1, h5⟩
    by_cases hz : (0 : Int) ≤ (j : Int) - 1
    · obtain ⟨i, rfl⟩ : ∃ i, j = i + 1 := ⟨j - 1, by omega⟩
      obtain ⟨x, hx⟩ : ∃ x, (digs 1000000000 a)[i]? = some x := ⟨_, List.getElem?_eq_getElem (by omega)⟩
      obtain ⟨y, hy⟩ : ∃ y, (digs 1000000000 b)[i]? = some y := ⟨_, List.getElem?_eq_getElem (by omega)⟩
      have hji : ((i + 1 : Nat) : Int) - 1 = (i : Int) := by omega
      have e1 := viaddr_map (f := tV) (t := .op) (H := []) (size := 1) (k := .i64) hx rfl
      have e2 := viaddr_map (f := tV) (t := .op) (H := []) (size := 1) (k := .i64) hy rfl
      rw [hji] at h5 hz
      have w2 : IntKind.i64.wrap ((i : Int) - 1) = (i : Int) - 1 := wrap64 (by omega) (by omega)
      by_cases hxy : (x : Int) = (y : Int)
      · simp only [spec_l01Cmp_b0, h0, h1, h5, hz, e1, e2, hxy, w2, VX, Nat.reduceEqDiff, Nat.reduceAdd]
        have hxy' : x = y := by omega
        subst hxy'
        refine ⟨i, by omega, by omega, ?_⟩
        obtain ⟨g1, g2⟩ := List.getElem?_eq_some_iff.1 hx
        obtain ⟨g3, g4⟩ := List.getElem?_eq_some_iff.1 hy
        rw [List.drop_eq_getElem_cons g1, List.drop_eq_getElem_cons g3, g2, g4, hd]
        exact ⟨rfl, rfl⟩
      · by_cases hlt : (x : Int) < (y : Int)
        · simp only [spec_l01Cmp_b0, h0, h1, h5, hz, e1, e2, hxy, hlt, VX, Nat.reduceEqDiff, Nat.reduceAdd]
          refine fin ?_
          have := cmp_digit (digs_lt (by decide) a) hl' hx hy hd (by omega)
          rw [val_digs (by decide), val_digs (by decide)] at this
          simp [cmpI, this]
        · simp only [spec_l01Cmp_b0, h0, h1, h5, hz, e1, e2, hxy, hlt, VX, Nat.reduceEqDiff, Nat.reduceAdd]
          refine fin ?_
          have := cmp_digit (digs_lt (by decide) b) hl'.symm hy hx hd.symm (by omega)
          rw [val_digs (by decide), val_digs (by decide)] at this
          rw [cmpI, if_neg (by omega), if_neg (by omega)]
    · have hj0 : j = 0 := by omega
      subst hj0
      simp only [spec_l01Cmp_b0, h0, h1, h5, hz, VX, Nat.reduceEqDiff, Nat.reduceAdd]
      refine fin ?_
      have := digs_inj (b := 1000000000) (by decide) (by simpa using hd)
      subst this
      simp [cmpI]
  · by_cases hlt : (((digs 1000000000 a).length : Nat) : Int) < (((digs 1000000000 b).length : Nat) : Int)
    · simp only [spec_l01Cmp, spec_l01Cmp_c, hl, hlt, VX, Nat.reduceEqDiff, Nat.reduceAdd]
      refine fin ?_
      have := lt_of_len (b := 1000000000) (by decide) (m := a) (n := b) (by omega)
      simp [cmpI, this]
    · simp only [spec_l01Cmp, spec_l01Cmp_c, hl, hlt, VX, Nat.reduceEqDiff, Nat.reduceAdd]
      refine fin ?_
      have := lt_of_len (b := 1000000000) (by decide) (m := b) (n := a) (by omega)
      rw [cmpI, if_neg (by omega), if_neg (by omega)]
theorem spec_l01Digit_v (ds : List Nat) (i : Nat) : TC 68 [natL' ds, VI (i : Int)] (tV (ds.getD i 0)) := by
  refine TC.walk ⟨true, false⟩ spec_l01Digit_t rfl (Nat.le_of_ble_eq_true rfl) (by simp [pureL, natL'_pure]; rfl) rfl ?_
  by_cases h : (i : Int) < (ds.length : Int)
  · obtain ⟨d, hd⟩ : ∃ d, ds[i]? = some d := ⟨_, List.getElem?_eq_getElem (by omega)⟩
    have e1 := viaddr_map (f := tV) (t := .op) (H := []) (size := 1) (k := .i64) hd rfl
    simp only [spec_l01Digit, spec_l01Digit_c, vlen_map, h, e1, VX, Nat.reduceEqDiff, Nat.reduceAdd]
    rw [List.getD_eq_getElem?_getD, hd]
    exact fz_res rfl
  · simp only [spec_l01Digit, spec_l01Digit_c, vlen_map, h, VX, Nat.reduceEqDiff, Nat.reduceAdd]
    rw [List.getD_eq_getElem?_getD, List.getElem?_eq_none (by omega)]
    exact fz_res rfl
theorem digitT_v (n i : Nat) : TC 68 [natT n, VI (i : Int)] (tV (n / 1000000000 ^ i % 1000000000)) := by
  have := spec_l01Digit_v (digs 1000000000 n) i
  rwa [digs_getD (by decide)] at this
end Go.PM

/- The program's numbers of at least 0: sums and differences. -/
namespace Go.PM
theorem row_get {es : List VV} {g e : Nat} {w : Bool} : vrow [.row g es e w] 0 g = some (es, e, w) := vrow_zero
end Go.PM

/- The program's numbers of at least 0: differences and products. -/
namespace Go.PM
theorem wrap_neg {x : Int} {r : Nat} (h : x + 4294967296 = r) (hx : x < 0) (hr : 0 ≤ x + 4294967296) : IntKind.u32.wrap x = (r : Int) := by rw [IntKind.wrap_u32]; omega
theorem mk_row (n : Nat) (hn : n ≤ 70368744177664) : vmake [.int .u32 0] 4 (VI (n : Int)) (VI (n : Int)) [] = some (.ref 0 0 0 n n, [.row 0 ((List.replicate n 0).map uV) 1 true]) := vmake_map (f := uV) (x := 0) rfl (by omega) (by omega)
theorem st_row {outs : List Nat} {i d : Nat} (hi : i < outs.length) : vstore 0 1 (.ptr 0 0 i 0) (uV d) [.row 0 (outs.map uV) 1 true] = some [.row 0 ((outs.set i d).map uV) 1 true] := by
  rw [vstore_map (f := uV) (e := 1) row_get hi (Nat.le_refl _) rfl rfl]
  rfl
end Go.PM

/- The program's numbers of at least 0: division by one word, bits further up. -/
namespace Go.PM
theorem set_drop {xs : List Nat} {i d : Nat} (h : i < xs.length) : (xs.set i d).drop i = d :: xs.drop (i + 1) := by
  rw [List.drop_eq_getElem_cons (by rw [List.length_set]; exact h), List.getElem_set_self, set_drop_tail h]
theorem mk_rowD (n k : Nat) (hn : n ≤ 70368744177664) {H : VHeap} : vmake [.int .u32 0] 4 (VI (n : Int)) (VI (n : Int)) H = some (.ref H.length 0 0 n n, H ++ [.row 0 ((List.replicate n 0).map uV) 1 true]) := vmake_map (f := uV) (x := 0) rfl (by omega) (by omega)
theorem div_step {A q t r x d W : Nat} (h1 : t + d * q = r * W + x) : (q + W * A) * d + t = x + W * (A * d + r) := by grind
theorem shift_step {A B P S W c m x q : Nat} (hv : A + P * c = B * S) (h1 : m * S + W * q = x * S) : A + P * (c + m * S) + P * W * q = (B + P * x) * S := by
  have h2 : P * (m * S + W * q) = P * (x * S) := by rw [h1]
  grind
theorem impl_nat_divSmall_v (a d : Nat) (hd0 : 0 < d) (hdW : d < 4294967296) (ha : (digs 4294967296 a).length ≤ 17592186044416) : TC 63 [natV a, uV d] (.tup [natV (a / d), uV (a % d)]) := by
  refine TC.walk ⟨true, false⟩ _impl_nat__divSmall_t rfl (Nat.le_of_ble_eq_true rfl) (by simp [pureL, natV_pure, pureV, isSc]) (by simp [resV, resL, natV_res, isSc]) ?_
  have va := val_digs (b := 4294967296) (by decide) a
  have la := digs_lt (b := 4294967296) (by decide) a
  unfold natV
  generalize digs 4294967296 a = xs at *
  have w0 : IntKind.i64.wrap ((xs.length : Int) - 1) = (xs.length : Int) - 1 := wrap64 (by omega) (by omega)
  have wd : IntKind.u64.wrap (d : Int) = (d : Int) := wrapU _ (by omega)
  simp only [_impl_nat__divSmall, _impl_nat__divSmall_c, w0, mk_row xs.length (by omega), VX, Nat.reduceEqDiff, Nat.reduceAdd]
  refine VW_loop (fun (s : Nat × List Nat × Nat) ρ H => s.1 ≤ xs.length ∧ H = [.row 0 (s.2.1.map uV) 1 true] ∧ s.2.1.length = xs.length ∧ (∀ d ∈ s.2.1, d < 4294967296) ∧ s.2.2 < d ∧ val 4294967296 (s.2.1.drop s.1) * d + s.2.2 = val 4294967296 (xs.drop s.1) ∧
    ρ 0 = natL xs ∧ ρ 1 = uV d ∧ ρ 6 = .ref 0 0 0 xs.length xs.length ∧ ρ 7 = VK .u64 s.2.2 ∧ ρ 8 = VI ((s.1 : Int) - 1)) (fun s => s.1) (xs.length, List.replicate xs.length 0, 0) ⟨Nat.le_refl _, rfl, by simp, rep_lt (by decide) _, hd0, by simp [val, List.drop_replicate], rfl, rfl, rfl, rfl, rfl⟩ ?_
  rintro ⟨j, outs, r⟩ ρ H ⟨hj, rfl, hol, hod, hr, hv, g0, g1, g6, g7, g8⟩
  simp only at hj hol hod hr hv g7 g8
  by_cases hz : (0 : Int) ≤ (j : Int) - 1
  · obtain ⟨i, rfl⟩ : ∃ i, j = i + 1 := ⟨j - 1, by omega⟩
    obtain ⟨x, hx⟩ : ∃ x, xs[i]? = some x := ⟨_, List.getElem?_eq_getElem (by omega)⟩
    have lx := la x (List.mem_of_getElem? hx)
    have hji : ((i + 1 : Nat) : Int) - 1 = (i : Int) := by omega
    rw [hji] at g8 hz
    have e1 := viaddr_map (f := uV) (t := .op) (H := [.row 0 (outs.map uV) 1 true]) (size := 1) (k := .i64) hx rfl
    have e3 : viaddr 1 (.ref 0 0 0 xs.length xs.length) (VI i) [.row 0 (outs.map uV) 1 true] = some (.ptr 0 0 i 0) := by rw [viaddr_row row_get (by omega), Nat.zero_add]
    have e4 : ∀ s : Nat, vstore 0 1 (.ptr 0 0 i 0) (uV s) [.row 0 (outs.map uV) 1 true] = some [.row 0 ((outs.set i s).map uV) 1 true] := fun s => st_row (by omega)
    have w2 : IntKind.i64.wrap ((i : Int) - 1) = (i : Int) - 1 := wrap64 (by omega) (by omega)
    have w3 : IntKind.u64.wrap (x : Int) = (x : Int) := wrapU _ (by omega)
    have w4 : IntKind.u64.wrap (((r * 4294967296 : Nat) : Int) + (x : Int)) = ((r * 4294967296 + x : Nat) : Int) := by rw [← Int.natCast_add]; exact wrapU _ (by omega)
    have w5 := shl_u64 r .u64 (by omega)
    have q1 := quo_u64 (r * 4294967296 + x) d (by omega) hd0
    have q2 := rem_u64 (r * 4294967296 + x) d hd0
    have hq : (r * 4294967296 + x) / d < 4294967296 := by
      rw [Nat.div_lt_iff_lt_mul hd0]
      have : (r + 1) * 4294967296 ≤ d * 4294967296 := Nat.mul_le_mul_right _ hr
      rw [Nat.mul_comm 4294967296 d]
      omega
    simp only [_impl_nat__divSmall_b0, g0, g1, g6, g7, g8, hz, e1, e3, e4, w2, w3, w4, w5, wd, q1, q2, wrap32, Nat.mod_eq_of_lt hq, VX, Nat.reduceEqDiff, Nat.reduceAdd]
    refine ⟨(i, outs.set i ((r * 4294967296 + x) / d), (r * 4294967296 + x) % d), by simp only; omega, by omega, rfl, by rw [List.length_set]; exact hol, set_lt hod hq, Nat.mod_lt _ hd0, ?_, by (repeat' apply And.intro) <;> first | rfl | trivial⟩
    have h1 := Nat.mod_add_div (r * 4294967296 + x) d
    rw [set_drop (by omega), val_cons, val_drop hx, ← hv]
    exact div_step h1
  · have hj0 : j = 0 := by omega
    subst hj0
    rw [List.drop_zero, List.drop_zero, va] at hv
    have h1 : a / d = val 4294967296 outs := by
      rw [← hv, Nat.mul_comm, Nat.mul_add_div hd0, Nat.div_eq_of_lt hr, Nat.add_zero]
    have h2 : a % d = r := by
      rw [← hv, Nat.mul_comm, Nat.mul_add_mod, Nat.mod_eq_of_lt hr]
    simp only [_impl_nat__divSmall_b0, g0, g1, g6, g7, g8, hz, VX, Nat.reduceEqDiff, Nat.reduceAdd]
    refine trim_call (m := a / d) row_get (by omega) (Nat.le_refl _) (by omega) (fun d hd => hod d (List.mem_of_mem_take hd)) (by rw [List.take_of_length_le (by omega)]; exact h1.symm) fun k hk he => ?_
    simp only [wrap32, Nat.mod_eq_of_lt (show r < 4294967296 by omega), g7, VX, Nat.reduceEqDiff, Nat.reduceAdd]
    rw [h2]
    exact fz_tup2 (d := 6) (fz_natD (d := 5) row_get (by omega) hk he) (fz_pure rfl)
theorem vrow_own {n g e : Nat} {es : List VV} {w : Bool} : vrow (List.replicate n VBlk.dead ++ [.row g es e w]) n g = some (es, e, w) := by rw [vrow_D0]; exact vrow_zero
theorem ownN {n : Nat} (xs : List Nat) : ownL n (xs.map uV) = true := by
  rw [ownL_mem]
  intro x hx
  obtain ⟨y, _, rfl⟩ := List.mem_map.1 hx
  rfl
theorem impl_nat_shifted_v (a s : Nat) (hs : s ≤ 31) (ha : (digs 4294967296 a).length ≤ 17592186044416) : FC 65 [natV a, VI s] fun n r L => ∃ outs : List Nat, r = .ref n 0 0 ((digs 4294967296 a).length + 1) ((digs 4294967296 a).length + 1) ∧ L = [.row 0 (outs.map uV) 1 true] ∧ outs.length = (digs 4294967296 a).length + 1 ∧ (∀ d ∈ outs, d < 4294967296) ∧ val 4294967296 outs = a * 2 ^ s ∧ (∀ d, outs[(digs 4294967296 a).length]? = some d → d < 2 ^ s) := by
  refine FC.walk ⟨true, false⟩ _impl_nat__shifted_t (Nat.le_of_ble_eq_true rfl) fun n => ?_
  have va := val_digs (b := 4294967296) (by decide) a
  have la := digs_lt (b := 4294967296) (by decide) a
  unfold natV
  generalize digs 4294967296 a = xs at *
  have hS : 0 < 2 ^ s := Nat.pow_pos (by decide)
  have hSW : 2 ^ s * 2 ^ (32 - s) = 4294967296 := by rw [← Nat.pow_add, show s + (32 - s) = 32 by omega]
  have w0 : IntKind.i64.wrap ((xs.length : Int) + 1) = ((xs.length + 1 : Nat) : Int) := wrapN _ (by omega) (by omega)
  simp only [_impl_nat__shifted, _impl_nat__shifted_c, w0, mk_rowD (xs.length + 1) n (by omega), List.length_replicate, VX, Nat.reduceEqDiff, Nat.reduceAdd]
  refine VW_loop (fun (t : Nat × List Nat × Nat) ρ H => t.1 ≤ xs.length ∧ H = List.replicate n .dead ++ [.row 0 (t.2.1.map uV) 1 true] ∧ t.2.1.length = xs.length + 1 ∧ (∀ d ∈ t.2.1, d < 4294967296) ∧ t.2.1[t.1]? = some t.2.2 ∧ t.2.2 < 2 ^ s ∧ val 4294967296 (t.2.1.take t.1) + 4294967296 ^ t.1 * t.2.2 = val 4294967296 (xs.take t.1) * 2 ^ s ∧
    ρ 1 = VI s ∧ ρ 5 = .ref n 0 0 (xs.length + 1) (xs.length + 1) ∧ ρ 13 = natL xs ∧ ρ 14 = VI xs.length ∧ ρ 15 = VI t.1) (fun t => xs.length - t.1) (0, List.replicate (xs.length + 1) 0, 0) ⟨Nat.zero_le _, rfl, by simp, rep_lt (by decide) _, by simp, hS, by simp [val], rfl, rfl, rfl, rfl, rfl⟩ ?_
  rintro ⟨i, outs, c⟩ ρ H ⟨hi, rfl, hol, hod, hoc, hc, hv, g1, g5, g13, g14, g15⟩
  simp only at hi hol hod hoc hc hv g15
  by_cases hin : (i : Int) < (xs.length : Int)
  · obtain ⟨x, hx⟩ : ∃ x, xs[i]? = some x := ⟨_, List.getElem?_eq_getElem (by omega)⟩
    have lx := la x (List.mem_of_getElem? hx)
    have e1 := viaddr_map (f := uV) (t := .op) (H := List.replicate n .dead ++ [.row 0 (outs.map uV) 1 true]) (size := 1) (k := .i64) hx rfl
    have wx : IntKind.u64.wrap (x : Int) = (x : Int) := wrapU _ (by omega)
    have wi : IntKind.i64.wrap ((i : Int) + 1) = ((i + 1 : Nat) : Int) := wrapN (i + 1) (by omega) (by omega)
    have w5 := shl_by x s lx hs
    -- the two parts of the word moved
    obtain ⟨m, hm⟩ : ∃ m, (x * 2 ^ s) % 4294967296 = m * 2 ^ s := by
      refine ⟨x % 2 ^ (32 - s), ?_⟩
      rw [← hSW, Nat.mul_comm x, Nat.mul_mod_mul_left, Nat.mul_comm]
    have hhi : (x * 2 ^ s) / 4294967296 < 2 ^ s := by
      rw [Nat.div_lt_iff_lt_mul (by decide), Nat.mul_comm (2 ^ s)]
      exact Nat.mul_lt_mul_of_pos_right lx hS
    have hlt : (x * 2 ^ s) % 4294967296 < 4294967296 := Nat.mod_lt _ (by decide)
    have hmm : m < 2 ^ (32 - s) := by
      have : m * 2 ^ s < 2 ^ (32 - s) * 2 ^ s := by rw [← hm, Nat.mul_comm (2 ^ (32 - s)) (2 ^ s), hSW]; exact hlt
      exact Nat.lt_of_mul_lt_mul_right this
    have hsum : m * 2 ^ s + c < 4294967296 := by
      have : (m + 1) * 2 ^ s ≤ 2 ^ (32 - s) * 2 ^ s := Nat.mul_le_mul_right _ hmm
      rw [Nat.mul_comm (2 ^ (32 - s)), hSW, Nat.add_mul] at this
      omega
    have or1 := or_u32 c m s hc hsum
    have e3 : viaddr 1 (.ref n 0 0 (xs.length + 1) (xs.length + 1)) (VI i) (List.replicate n .dead ++ [.row 0 (outs.map uV) 1 true]) = some (.ptr n 0 i 0) := by rw [viaddr_row vrow_own (by omega), Nat.zero_add]
    have e4 : vload false 1 (.ptr n 0 i 0) (List.replicate n .dead ++ [.row 0 (outs.map uV) 1 true]) = some (uV c) := vload_nat vrow_own hoc
    have e5 : ∀ (os : List Nat) (j t : Nat), j < os.length → vstore n 1 (.ptr n 0 j 0) (uV t) (List.replicate n .dead ++ [.row 0 (os.map uV) 1 true]) = some (List.replicate n .dead ++ [.row 0 ((os.set j t).map uV) 1 true]) := fun os j t hj => by
      rw [vstore_map (f := uV) (e := 1) vrow_own hj (Nat.le_refl _) rfl rfl, set_D0]
      rfl
    have e6 : viaddr 1 (.ref n 0 0 (xs.length + 1) (xs.length + 1)) (VI ((i + 1 : Nat) : Int)) (List.replicate n .dead ++ [.row 0 ((outs.set i (c + m * 2 ^ s)).map uV) 1 true]) = some (.ptr n 0 (i + 1) 0) := by rw [viaddr_row vrow_own (by omega), Nat.zero_add]
    have e7 := e5 outs i (c + m * 2 ^ s) (by omega)
    have e8 := e5 (outs.set i (c + m * 2 ^ s)) (i + 1) ((x * 2 ^ s) / 4294967296) (by rw [List.length_set]; omega)
    have hq : (x * 2 ^ s) / 4294967296 % 4294967296 = (x * 2 ^ s) / 4294967296 := Nat.mod_eq_of_lt (by
      have : 2 ^ s ≤ 2 ^ 31 := Nat.pow_le_pow_right (by decide) hs
      omega)
    simp only [_impl_nat__shifted_b0, g1, g5, g13, g14, g15, hin, e1, e3, e4, e6, e7, e8, wx, wi, w5, wrap32, shr_u64, hm, or1, hq, VX, Nat.reduceEqDiff, Nat.reduceAdd]
    refine ⟨(i + 1, (outs.set i (c + m * 2 ^ s)).set (i + 1) ((x * 2 ^ s) / 4294967296), (x * 2 ^ s) / 4294967296), by simp only; omega, by omega, rfl, by rw [List.length_set, List.length_set]; exact hol,
      set_lt (set_lt hod (by omega)) (by
        have : 2 ^ s ≤ 2 ^ 31 := Nat.pow_le_pow_right (by decide) hs
        omega), by rw [List.getElem?_set_self (by rw [List.length_set]; omega)], hhi, ?_, by (repeat' apply And.intro) <;> first | rfl | trivial⟩
    rw [List.take_set_of_le (Nat.le_refl _), val_set_take (by omega), val_take_succ hx, Nat.pow_succ]
    have h1 := Nat.mod_add_div (x * 2 ^ s) 4294967296
    rw [hm] at h1
    exact shift_step hv h1
  · have hie : i = xs.length := by omega
    subst hie
    rw [List.take_length, va] at hv
    have hval : val 4294967296 outs = a * 2 ^ s := by
      have h1 := val_take_succ (b := 4294967296) hoc
      rw [List.take_of_length_le (by omega)] at h1
      rw [h1]
      exact hv
    simp only [_impl_nat__shifted_b0, g1, g5, g13, g14, g15, hin, VX, Nat.reduceEqDiff, Nat.reduceAdd]
    exact ⟨_, rfl, by simp [ownV], by simp [rowsOwn, ownN outs], outs, rfl, hol, hod, hval, fun d hd => by rw [hoc] at hd; injection hd with hd; omega⟩
end Go.PM
