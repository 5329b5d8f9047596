/- Texts of a claim, in one: part 4. -/
import Derived.KernelRfl
import Derived.Test.YthoncidphopjjaaKLc

/- The pure machine's form of functions, as the settings give it: LH. -/
set_option linter.unusedSimpArgs false
set_option linter.unusedVariables false
namespace Go.PM
def laws_szCustomerS_c : PCode := (.seq (.reg [⟨(some 4), (.mv (.const (.int .i64 0))), none, false, []⟩]) (.seq (.reg [⟨(some 5), (.mv (.tmp 1)), none, false, []⟩, ⟨(some 6), (.mv (.tmp 0)), none, false, []⟩, ⟨(some 7), (.len (.tmp 6)), none, false, []⟩, ⟨(some 8), (.bin .sub (.tmp 5) (.tmp 7)), none, false, []⟩, ⟨(some 1), (.mv (.tmp 8)), none, false, []⟩]) (.seq (.seq (.reg [⟨(some 9), (.mv (.tmp 1)), none, false, []⟩, ⟨(some 10), (.bin .lss (.tmp 9) (.const (.int .i64 0))), none, false, []⟩]) (.cond (.tmp 10) (.seq (.reg [⟨(some 4), (.mv (.const (.int .i64 (-1)))), none, false, []⟩]) .ret) .skip)) (.seq (.reg [⟨(some 11), (.mv (.tmp 1)), none, false, []⟩, ⟨(some 4), (.mv (.tmp 11)), none, false, []⟩]) .ret))))
def laws_szCustomerS : PFunc := ⟨12, [(.tmp 4)], laws_szCustomerS_c⟩
theorem laws_szCustomerS_t : tab 5 = some laws_szCustomerS := by kernel_rfl
def laws_toCustomerS_b0 : PCode := (.seq (.seq (.reg [⟨(some 21), (.mv (.tmp 6)), none, false, []⟩, ⟨(some 22), (.mv (.tmp 0)), none, false, []⟩, ⟨(some 23), (.len (.tmp 22)), none, false, []⟩, ⟨(some 24), (.bin .lss (.tmp 21) (.tmp 23)), none, false, []⟩]) (.cond (.tmp 24) .skip (.exit 0))) (.seq (.block 1 (.reg [⟨(some 27), (.mv (.tmp 5)), none, false, []⟩, ⟨(some 28), (.mv (.tmp 6)), none, false, []⟩, ⟨(some 29), (.mv (.tmp 0)), none, false, []⟩, ⟨(some 30), (.mv (.tmp 6)), none, false, []⟩, ⟨(some 31), (.iaddr 3 (.tmp 29) (.tmp 30)), none, false, []⟩, ⟨(some 32), (.load true 3 (.tmp 31)), none, false, []⟩, ⟨(some 33), (.call 27 [(.tmp 32)]), none, false, []⟩, ⟨(some 34), (.iaddr 3 (.tmp 27) (.tmp 28)), none, false, []⟩, ⟨none, (.store 3 (.tmp 34) (.tmp 33)), none, false, []⟩])) (.reg [⟨(some 25), (.mv (.tmp 6)), none, false, []⟩, ⟨(some 26), (.bin .add (.tmp 25) (.const (.int .i64 1))), none, false, []⟩, ⟨(some 6), (.mv (.tmp 26)), none, false, []⟩])))
def laws_toCustomerS_b1 : PCode := (.seq (.seq (.reg [⟨(some 37), (.mv (.tmp 7)), none, false, []⟩, ⟨(some 38), (.mv (.tmp 5)), none, false, []⟩, ⟨(some 39), (.len (.tmp 38)), none, false, []⟩, ⟨(some 40), (.bin .lss (.tmp 37) (.tmp 39)), none, false, []⟩]) (.cond (.tmp 40) .skip (.exit 2))) (.seq (.block 3 (.reg [⟨(some 43), (.mv (.tmp 5)), none, false, []⟩, ⟨(some 44), (.mv (.tmp 7)), none, false, []⟩, ⟨(some 45), (.call 28 []), none, false, []⟩, ⟨(some 46), (.iaddr 3 (.tmp 43) (.tmp 44)), none, false, []⟩, ⟨none, (.store 3 (.tmp 46) (.tmp 45)), none, false, []⟩])) (.reg [⟨(some 41), (.mv (.tmp 7)), none, false, []⟩, ⟨(some 42), (.bin .add (.tmp 41) (.const (.int .i64 1))), none, false, []⟩, ⟨(some 7), (.mv (.tmp 42)), none, false, []⟩])))
def laws_toCustomerS_c : PCode := (.seq (.reg [⟨(some 4), (.mv (.const (.slice none 0 0))), none, false, []⟩]) (.seq (.seq (.reg [⟨(some 8), (.mv (.tmp 1)), none, false, []⟩, ⟨(some 9), (.mv (.tmp 8)), none, false, []⟩, ⟨(some 10), (.mv (.tmp 0)), (some (9, true)), false, []⟩, ⟨(some 11), (.len (.tmp 10)), (some (9, true)), false, []⟩, ⟨(some 12), (.bin .eql (.tmp 11) (.const (.int .i64 0))), (some (9, true)), false, []⟩, ⟨(some 13), (.pick (.tmp 9) (.tmp 12) (.const (.bool false))), none, false, []⟩]) (.cond (.tmp 13) (.seq (.reg [⟨(some 4), (.mv (.const (.slice none 0 0))), none, false, []⟩]) .ret) .skip)) (.seq (.reg [⟨(some 14), (.mv (.tmp 0)), none, false, []⟩, ⟨(some 15), (.len (.tmp 14)), none, false, []⟩, ⟨(some 16), (.mv (.tmp 0)), none, false, []⟩, ⟨(some 17), (.len (.tmp 16)), none, false, []⟩, ⟨(some 18), (.call 26 [(.tmp 17)]), none, false, []⟩, ⟨(some 19), (.bin .add (.tmp 15) (.tmp 18)), none, false, []⟩, ⟨(some 20), (.make [(.int .i64 0), (.int .i64 0), (.int .i64 0)] 24 (.tmp 19) (.tmp 19)), none, false, []⟩, ⟨(some 5), (.mv (.tmp 20)), none, false, []⟩]) (.seq (.seq (.reg [⟨(some 6), (.mv (.const (.int .i64 0))), none, false, []⟩]) (.block 0 (.loop laws_toCustomerS_b0))) (.seq (.seq (.reg [⟨(some 35), (.mv (.tmp 0)), none, false, []⟩, ⟨(some 36), (.len (.tmp 35)), none, false, []⟩, ⟨(some 7), (.mv (.tmp 36)), none, false, []⟩]) (.block 2 (.loop laws_toCustomerS_b1))) (.seq (.reg [⟨(some 47), (.mv (.tmp 5)), none, false, []⟩, ⟨(some 48), (.mv (.tmp 0)), none, false, []⟩, ⟨(some 49), (.len (.tmp 48)), none, false, []⟩, ⟨(some 50), (.sub 3 (.tmp 47) none (some (.tmp 49)) none), none, false, []⟩, ⟨(some 4), (.mv (.tmp 50)), none, false, []⟩]) .ret))))))
def laws_toCustomerS : PFunc := ⟨51, [(.tmp 4)], laws_toCustomerS_c⟩
theorem laws_toCustomerS_t : tab 7 = some laws_toCustomerS := by kernel_rfl
def laws_intactCustomerS_c : PCode := (.seq (.reg [⟨(some 4), (.mv (.const (.bool false))), none, false, []⟩]) (.seq (.reg [⟨(some 6), (.mv (.tmp 1)), none, false, []⟩, ⟨(some 7), (.len (.tmp 6)), none, false, []⟩, ⟨(some 8), (.mv (.tmp 1)), none, false, []⟩, ⟨(some 9), (.len (.tmp 8)), none, false, []⟩, ⟨(some 10), (.call 26 [(.tmp 9)]), none, false, []⟩, ⟨(some 11), (.bin .add (.tmp 7) (.tmp 10)), none, false, []⟩, ⟨(some 5), (.mv (.tmp 11)), none, false, []⟩]) (.seq (.reg [⟨(some 12), (.mv (.tmp 0)), none, false, []⟩, ⟨(some 13), (.len (.tmp 12)), none, false, []⟩, ⟨(some 14), (.mv (.tmp 1)), none, false, []⟩, ⟨(some 15), (.len (.tmp 14)), none, false, []⟩, ⟨(some 16), (.bin .eql (.tmp 13) (.tmp 15)), none, false, []⟩, ⟨(some 17), (.mv (.tmp 16)), none, false, []⟩, ⟨(some 18), (.mv (.tmp 0)), (some (17, true)), false, []⟩, ⟨(some 19), (.mv (.tmp 5)), (some (17, true)), false, []⟩, ⟨(some 20), (.sub 3 (.tmp 18) none (some (.tmp 19)) none), (some (17, true)), false, []⟩, ⟨(some 21), (.mv (.tmp 1)), (some (17, true)), false, []⟩, ⟨(some 22), (.mv (.tmp 5)), (some (17, true)), false, []⟩, ⟨(some 23), (.sub 3 (.tmp 21) none (some (.tmp 22)) none), (some (17, true)), false, []⟩, ⟨(some 24), (.call 34 [(.tmp 20), (.tmp 23)]), (some (17, true)), true, []⟩, ⟨(some 25), (.pick (.tmp 17) (.tmp 24) (.const (.bool false))), none, false, []⟩, ⟨(some 4), (.mv (.tmp 25)), none, false, []⟩]) .ret)))
def laws_intactCustomerS : PFunc := ⟨26, [(.tmp 4)], laws_intactCustomerS_c⟩
theorem laws_intactCustomerS_t : tab 10 = some laws_intactCustomerS := by kernel_rfl
def laws_markCustomerS_b0 : PCode := (.seq (.seq (.reg [⟨(some 6), (.mv (.tmp 5)), none, false, []⟩, ⟨(some 7), (.mv (.tmp 0)), none, false, []⟩, ⟨(some 8), (.len (.tmp 7)), none, false, []⟩, ⟨(some 9), (.bin .lss (.tmp 6) (.tmp 8)), none, false, []⟩]) (.cond (.tmp 9) .skip (.exit 0))) (.seq (.block 1 (.seq (.reg [⟨(some 12), (.mv (.tmp 0)), none, false, []⟩, ⟨(some 13), (.mv (.tmp 5)), none, false, []⟩, ⟨(some 14), (.mv (.tmp 1)), none, false, []⟩, ⟨(some 15), (.iaddr 3 (.tmp 12) (.tmp 13)), none, false, []⟩, ⟨(some 16), (.faddr 0 (.tmp 15)), none, false, []⟩, ⟨none, (.store 1 (.tmp 16) (.tmp 14)), none, false, []⟩]) (.seq (.reg [⟨(some 17), (.mv (.tmp 1)), none, false, []⟩, ⟨(some 18), (.bin .add (.tmp 17) (.const (.int .i64 1))), none, false, []⟩, ⟨(some 1), (.mv (.tmp 18)), none, false, []⟩]) (.seq (.reg [⟨(some 19), (.mv (.tmp 0)), none, false, []⟩, ⟨(some 20), (.mv (.tmp 5)), none, false, []⟩, ⟨(some 21), (.mv (.tmp 1)), none, false, []⟩, ⟨(some 22), (.iaddr 3 (.tmp 19) (.tmp 20)), none, false, []⟩, ⟨(some 23), (.faddr 1 (.tmp 22)), none, false, []⟩, ⟨none, (.store 1 (.tmp 23) (.tmp 21)), none, false, []⟩]) (.seq (.reg [⟨(some 24), (.mv (.tmp 1)), none, false, []⟩, ⟨(some 25), (.bin .add (.tmp 24) (.const (.int .i64 1))), none, false, []⟩, ⟨(some 1), (.mv (.tmp 25)), none, false, []⟩]) (.seq (.reg [⟨(some 26), (.mv (.tmp 0)), none, false, []⟩, ⟨(some 27), (.mv (.tmp 5)), none, false, []⟩, ⟨(some 28), (.mv (.tmp 1)), none, false, []⟩, ⟨(some 29), (.iaddr 3 (.tmp 26) (.tmp 27)), none, false, []⟩, ⟨(some 30), (.faddr 2 (.tmp 29)), none, false, []⟩, ⟨none, (.store 1 (.tmp 30) (.tmp 28)), none, false, []⟩]) (.reg [⟨(some 31), (.mv (.tmp 1)), none, false, []⟩, ⟨(some 32), (.bin .add (.tmp 31) (.const (.int .i64 1))), none, false, []⟩, ⟨(some 1), (.mv (.tmp 32)), none, false, []⟩]))))))) (.reg [⟨(some 10), (.mv (.tmp 5)), none, false, []⟩, ⟨(some 11), (.bin .add (.tmp 10) (.const (.int .i64 1))), none, false, []⟩, ⟨(some 5), (.mv (.tmp 11)), none, false, []⟩])))
def laws_markCustomerS_c : PCode := (.seq (.reg [⟨(some 4), (.mv (.const (.int .i64 0))), none, false, []⟩]) (.seq (.seq (.reg [⟨(some 5), (.mv (.const (.int .i64 0))), none, false, []⟩]) (.block 0 (.loop laws_markCustomerS_b0))) (.seq (.reg [⟨(some 33), (.mv (.tmp 1)), none, false, []⟩, ⟨(some 4), (.mv (.tmp 33)), none, false, []⟩]) .ret)))
def laws_markCustomerS : PFunc := ⟨34, [(.tmp 4)], laws_markCustomerS_c⟩
theorem laws_markCustomerS_t : tab 11 = some laws_markCustomerS := by kernel_rfl
def laws_markInt64S_b0 : PCode := (.seq (.seq (.reg [⟨(some 6), (.mv (.tmp 5)), none, false, []⟩, ⟨(some 7), (.mv (.tmp 0)), none, false, []⟩, ⟨(some 8), (.len (.tmp 7)), none, false, []⟩, ⟨(some 9), (.bin .lss (.tmp 6) (.tmp 8)), none, false, []⟩]) (.cond (.tmp 9) .skip (.exit 0))) (.seq (.block 1 (.seq (.reg [⟨(some 12), (.mv (.tmp 0)), none, false, []⟩, ⟨(some 13), (.mv (.tmp 5)), none, false, []⟩, ⟨(some 14), (.mv (.tmp 1)), none, false, []⟩, ⟨(some 15), (.iaddr 1 (.tmp 12) (.tmp 13)), none, false, []⟩, ⟨none, (.store 1 (.tmp 15) (.tmp 14)), none, false, []⟩]) (.reg [⟨(some 16), (.mv (.tmp 1)), none, false, []⟩, ⟨(some 17), (.bin .add (.tmp 16) (.const (.int .i64 1))), none, false, []⟩, ⟨(some 1), (.mv (.tmp 17)), none, false, []⟩]))) (.reg [⟨(some 10), (.mv (.tmp 5)), none, false, []⟩, ⟨(some 11), (.bin .add (.tmp 10) (.const (.int .i64 1))), none, false, []⟩, ⟨(some 5), (.mv (.tmp 11)), none, false, []⟩])))
def laws_markInt64S_c : PCode := (.seq (.reg [⟨(some 4), (.mv (.const (.int .i64 0))), none, false, []⟩]) (.seq (.seq (.reg [⟨(some 5), (.mv (.const (.int .i64 0))), none, false, []⟩]) (.block 0 (.loop laws_markInt64S_b0))) (.seq (.reg [⟨(some 18), (.mv (.tmp 1)), none, false, []⟩, ⟨(some 4), (.mv (.tmp 18)), none, false, []⟩]) .ret)))
def laws_markInt64S : PFunc := ⟨19, [(.tmp 4)], laws_markInt64S_c⟩
theorem laws_markInt64S_t : tab 12 = some laws_markInt64S := by kernel_rfl
def laws_roomBehind_c : PCode := (.seq (.reg [⟨(some 2), (.mv (.const (.int .i64 0))), none, false, []⟩]) (.seq (.seq (.reg [⟨(some 3), (.mv (.tmp 0)), none, false, []⟩, ⟨(some 4), (.bin .rem (.tmp 3) (.const (.int .i64 6))), none, false, []⟩, ⟨(some 5), (.bin .eql (.tmp 4) (.const (.int .i64 5))), none, false, []⟩]) (.cond (.tmp 5) (.seq (.reg [⟨(some 2), (.mv (.const (.int .i64 0))), none, false, []⟩]) .ret) .skip)) (.seq (.seq (.reg [⟨(some 6), (.mv (.tmp 0)), none, false, []⟩, ⟨(some 7), (.bin .rem (.tmp 6) (.const (.int .i64 3))), none, false, []⟩, ⟨(some 8), (.bin .eql (.tmp 7) (.const (.int .i64 0))), none, false, []⟩]) (.cond (.tmp 8) (.seq (.reg [⟨(some 2), (.mv (.const (.int .i64 1))), none, false, []⟩]) .ret) .skip)) (.seq (.reg [⟨(some 9), (.mv (.tmp 0)), none, false, []⟩, ⟨(some 2), (.mv (.tmp 9)), none, false, []⟩]) .ret))))
def laws_roomBehind : PFunc := ⟨10, [(.tmp 2)], laws_roomBehind_c⟩
theorem laws_roomBehind_t : tab 26 = some laws_roomBehind := by kernel_rfl
def laws_toCustomer_c : PCode := (.seq (.reg [⟨(some 1), (.box (.tmp 0)), none, false, []⟩, ⟨(some 2), (.new [(.int .i64 0), (.int .i64 0), (.int .i64 0)]), none, false, []⟩]) (.seq (.reg [⟨(some 3), (.new [(.int .i64 0), (.int .i64 0), (.int .i64 0)]), none, false, []⟩]) (.seq (.reg [⟨(some 4), (.faddr 0 (.tmp 1)), none, false, []⟩, ⟨(some 5), (.load false 1 (.tmp 4)), none, false, []⟩, ⟨(some 6), (.faddr 0 (.tmp 3)), none, false, []⟩, ⟨none, (.store 1 (.tmp 6) (.tmp 5)), none, false, []⟩]) (.seq (.reg [⟨(some 7), (.faddr 1 (.tmp 1)), none, false, []⟩, ⟨(some 8), (.load false 1 (.tmp 7)), none, false, []⟩, ⟨(some 9), (.faddr 1 (.tmp 3)), none, false, []⟩, ⟨none, (.store 1 (.tmp 9) (.tmp 8)), none, false, []⟩]) (.seq (.reg [⟨(some 10), (.faddr 2 (.tmp 1)), none, false, []⟩, ⟨(some 11), (.load false 1 (.tmp 10)), none, false, []⟩, ⟨(some 12), (.faddr 2 (.tmp 3)), none, false, []⟩, ⟨none, (.store 1 (.tmp 12) (.tmp 11)), none, false, []⟩]) (.seq (.reg [⟨(some 13), (.load true 3 (.tmp 3)), none, false, []⟩, ⟨none, (.store 3 (.tmp 2) (.tmp 13)), none, false, []⟩]) .ret))))))
def laws_toCustomer : PFunc := ⟨14, [(.cell 2 true 3)], laws_toCustomer_c⟩
theorem laws_toCustomer_t : tab 27 = some laws_toCustomer := by kernel_rfl
def laws_fillerCustomer_c : PCode := (.seq (.reg [⟨(some 0), (.new [(.int .i64 0), (.int .i64 0), (.int .i64 0)]), none, false, []⟩]) (.seq (.reg [⟨(some 1), (.build [(.int .i64 0), (.int .i64 0), (.int .i64 0)] [(0, 1), (1, 1), (2, 1)] [(0, (.const (.int .i64 (-7000000000000000101)))), (1, (.const (.int .i64 (-7000000000000000101)))), (2, (.const (.int .i64 (-7000000000000000101))))]), none, false, []⟩, ⟨none, (.store 3 (.tmp 0) (.tmp 1)), none, false, []⟩]) .ret))
def laws_fillerCustomer : PFunc := ⟨2, [(.cell 0 true 3)], laws_fillerCustomer_c⟩
theorem laws_fillerCustomer_t : tab 28 = some laws_fillerCustomer := by kernel_rfl
def laws_eqCustomerS_b0 : PCode := (.seq (.seq (.reg [⟨(some 11), (.mv (.tmp 5)), none, false, []⟩, ⟨(some 12), (.mv (.tmp 0)), none, false, []⟩, ⟨(some 13), (.len (.tmp 12)), none, false, []⟩, ⟨(some 14), (.bin .lss (.tmp 11) (.tmp 13)), none, false, []⟩]) (.cond (.tmp 14) .skip (.exit 0))) (.seq (.block 1 (.seq (.reg [⟨(some 17), (.mv (.tmp 0)), none, false, []⟩, ⟨(some 18), (.mv (.tmp 5)), none, false, []⟩, ⟨(some 19), (.iaddr 3 (.tmp 17) (.tmp 18)), none, false, []⟩, ⟨(some 20), (.load true 3 (.tmp 19)), none, false, []⟩, ⟨(some 21), (.mv (.tmp 1)), none, false, []⟩, ⟨(some 22), (.mv (.tmp 5)), none, false, []⟩, ⟨(some 23), (.iaddr 3 (.tmp 21) (.tmp 22)), none, false, []⟩, ⟨(some 24), (.load true 3 (.tmp 23)), none, false, []⟩, ⟨(some 25), (.call 50 [(.tmp 20), (.tmp 24)]), none, true, []⟩, ⟨(some 26), (.un .not (.tmp 25)), none, false, []⟩]) (.cond (.tmp 26) (.seq (.reg [⟨(some 4), (.mv (.const (.bool false))), none, false, []⟩]) .ret) .skip))) (.reg [⟨(some 15), (.mv (.tmp 5)), none, false, []⟩, ⟨(some 16), (.bin .add (.tmp 15) (.const (.int .i64 1))), none, false, []⟩, ⟨(some 5), (.mv (.tmp 16)), none, false, []⟩])))
def laws_eqCustomerS_c : PCode := (.seq (.reg [⟨(some 4), (.mv (.const (.bool false))), none, false, []⟩]) (.seq (.seq (.reg [⟨(some 6), (.mv (.tmp 0)), none, false, []⟩, ⟨(some 7), (.len (.tmp 6)), none, false, []⟩, ⟨(some 8), (.mv (.tmp 1)), none, false, []⟩, ⟨(some 9), (.len (.tmp 8)), none, false, []⟩, ⟨(some 10), (.bin .neq (.tmp 7) (.tmp 9)), none, false, []⟩]) (.cond (.tmp 10) (.seq (.reg [⟨(some 4), (.mv (.const (.bool false))), none, false, []⟩]) .ret) .skip)) (.seq (.seq (.reg [⟨(some 5), (.mv (.const (.int .i64 0))), none, false, []⟩]) (.block 0 (.loop laws_eqCustomerS_b0))) (.seq (.reg [⟨(some 4), (.mv (.const (.bool true))), none, false, []⟩]) .ret))))
def laws_eqCustomerS : PFunc := ⟨27, [(.tmp 4)], laws_eqCustomerS_c⟩
theorem laws_eqCustomerS_t : tab 34 = some laws_eqCustomerS := by kernel_rfl
def laws_eqInt64S_b0 : PCode := (.seq (.seq (.reg [⟨(some 11), (.mv (.tmp 5)), none, false, []⟩, ⟨(some 12), (.mv (.tmp 0)), none, false, []⟩, ⟨(some 13), (.len (.tmp 12)), none, false, []⟩, ⟨(some 14), (.bin .lss (.tmp 11) (.tmp 13)), none, false, []⟩]) (.cond (.tmp 14) .skip (.exit 0))) (.seq (.block 1 (.seq (.reg [⟨(some 17), (.mv (.tmp 0)), none, false, []⟩, ⟨(some 18), (.mv (.tmp 5)), none, false, []⟩, ⟨(some 19), (.iaddr 1 (.tmp 17) (.tmp 18)), none, false, []⟩, ⟨(some 20), (.load false 1 (.tmp 19)), none, false, []⟩, ⟨(some 21), (.mv (.tmp 1)), none, false, []⟩, ⟨(some 22), (.mv (.tmp 5)), none, false, []⟩, ⟨(some 23), (.iaddr 1 (.tmp 21) (.tmp 22)), none, false, []⟩, ⟨(some 24), (.load false 1 (.tmp 23)), none, false, []⟩, ⟨(some 25), (.bin .neq (.tmp 20) (.tmp 24)), none, false, []⟩]) (.cond (.tmp 25) (.seq (.reg [⟨(some 4), (.mv (.const (.bool false))), none, false, []⟩]) .ret) .skip))) (.reg [⟨(some 15), (.mv (.tmp 5)), none, false, []⟩, ⟨(some 16), (.bin .add (.tmp 15) (.const (.int .i64 1))), none, false, []⟩, ⟨(some 5), (.mv (.tmp 16)), none, false, []⟩])))
def laws_eqInt64S_c : PCode := (.seq (.reg [⟨(some 4), (.mv (.const (.bool false))), none, false, []⟩]) (.seq (.seq (.reg [⟨(some 6), (.mv (.tmp 0)), none, false, []⟩, ⟨(some 7), (.len (.tmp 6)), none, false, []⟩, ⟨(some 8), (.mv (.tmp 1)), none, false, []⟩, ⟨(some 9), (.len (.tmp 8)), none, false, []⟩, ⟨(some 10), (.bin .neq (.tmp 7) (.tmp 9)), none, false, []⟩]) (.cond (.tmp 10) (.seq (.reg [⟨(some 4), (.mv (.const (.bool false))), none, false, []⟩]) .ret) .skip)) (.seq (.seq (.reg [⟨(some 5), (.mv (.const (.int .i64 0))), none, false, []⟩]) (.block 0 (.loop laws_eqInt64S_b0))) (.seq (.reg [⟨(some 4), (.mv (.const (.bool true))), none, false, []⟩]) .ret))))
def laws_eqInt64S : PFunc := ⟨26, [(.tmp 4)], laws_eqInt64S_c⟩
theorem laws_eqInt64S_t : tab 9 = some laws_eqInt64S := by kernel_rfl
def laws_eqCustomer_c : PCode := (.seq (.reg [⟨(some 2), (.box (.tmp 0)), none, false, []⟩, ⟨(some 3), (.box (.tmp 1)), none, false, []⟩, ⟨(some 4), (.mv (.const (.bool false))), none, false, []⟩]) (.seq (.seq (.reg [⟨(some 5), (.faddr 0 (.tmp 2)), none, false, []⟩, ⟨(some 6), (.load false 1 (.tmp 5)), none, false, []⟩, ⟨(some 7), (.faddr 0 (.tmp 3)), none, false, []⟩, ⟨(some 8), (.load false 1 (.tmp 7)), none, false, []⟩, ⟨(some 9), (.bin .neq (.tmp 6) (.tmp 8)), none, false, []⟩]) (.cond (.tmp 9) (.seq (.reg [⟨(some 4), (.mv (.const (.bool false))), none, false, []⟩]) .ret) .skip)) (.seq (.seq (.reg [⟨(some 10), (.faddr 1 (.tmp 2)), none, false, []⟩, ⟨(some 11), (.load false 1 (.tmp 10)), none, false, []⟩, ⟨(some 12), (.faddr 1 (.tmp 3)), none, false, []⟩, ⟨(some 13), (.load false 1 (.tmp 12)), none, false, []⟩, ⟨(some 14), (.bin .neq (.tmp 11) (.tmp 13)), none, false, []⟩]) (.cond (.tmp 14) (.seq (.reg [⟨(some 4), (.mv (.const (.bool false))), none, false, []⟩]) .ret) .skip)) (.seq (.seq (.reg [⟨(some 15), (.faddr 2 (.tmp 2)), none, false, []⟩, ⟨(some 16), (.load false 1 (.tmp 15)), none, false, []⟩, ⟨(some 17), (.faddr 2 (.tmp 3)), none, false, []⟩, ⟨(some 18), (.load false 1 (.tmp 17)), none, false, []⟩, ⟨(some 19), (.bin .neq (.tmp 16) (.tmp 18)), none, false, []⟩]) (.cond (.tmp 19) (.seq (.reg [⟨(some 4), (.mv (.const (.bool false))), none, false, []⟩]) .ret) .skip)) (.seq (.reg [⟨(some 4), (.mv (.const (.bool true))), none, false, []⟩]) .ret)))))
def laws_eqCustomer : PFunc := ⟨20, [(.tmp 4)], laws_eqCustomer_c⟩
theorem laws_eqCustomer_t : tab 50 = some laws_eqCustomer := by kernel_rfl
def laws_heldInt64S_b0 : PCode := (.seq (.seq (.reg [⟨(some 6), (.mv (.tmp 5)), none, false, []⟩, ⟨(some 7), (.mv (.tmp 0)), none, false, []⟩, ⟨(some 8), (.len (.tmp 7)), none, false, []⟩, ⟨(some 9), (.bin .lss (.tmp 6) (.tmp 8)), none, false, []⟩]) (.cond (.tmp 9) .skip (.exit 0))) (.seq (.block 1 (.seq (.seq (.reg [⟨(some 12), (.mv (.tmp 0)), none, false, []⟩, ⟨(some 13), (.mv (.tmp 5)), none, false, []⟩, ⟨(some 14), (.iaddr 1 (.tmp 12) (.tmp 13)), none, false, []⟩, ⟨(some 15), (.load false 1 (.tmp 14)), none, false, []⟩, ⟨(some 16), (.mv (.tmp 1)), none, false, []⟩, ⟨(some 17), (.bin .neq (.tmp 15) (.tmp 16)), none, false, []⟩]) (.cond (.tmp 17) (.seq (.reg [⟨(some 4), (.mv (.const (.int .i64 (-1)))), none, false, []⟩]) .ret) .skip)) (.reg [⟨(some 18), (.mv (.tmp 1)), none, false, []⟩, ⟨(some 19), (.bin .add (.tmp 18) (.const (.int .i64 1))), none, false, []⟩, ⟨(some 1), (.mv (.tmp 19)), none, false, []⟩]))) (.reg [⟨(some 10), (.mv (.tmp 5)), none, false, []⟩, ⟨(some 11), (.bin .add (.tmp 10) (.const (.int .i64 1))), none, false, []⟩, ⟨(some 5), (.mv (.tmp 11)), none, false, []⟩])))
def laws_heldInt64S_c : PCode := (.seq (.reg [⟨(some 4), (.mv (.const (.int .i64 0))), none, false, []⟩]) (.seq (.seq (.reg [⟨(some 5), (.mv (.const (.int .i64 0))), none, false, []⟩]) (.block 0 (.loop laws_heldInt64S_b0))) (.seq (.reg [⟨(some 20), (.mv (.tmp 1)), none, false, []⟩, ⟨(some 4), (.mv (.tmp 20)), none, false, []⟩]) .ret)))
def laws_heldInt64S : PFunc := ⟨21, [(.tmp 4)], laws_heldInt64S_c⟩
theorem laws_heldInt64S_t : tab 13 = some laws_heldInt64S := by kernel_rfl
def laws_b10Long_c : PCode := (.seq (.reg [⟨(some 4), (.mv (.const (.bool false))), none, false, []⟩]) (.seq (.reg [⟨(some 5), (.mv (.tmp 0)), none, false, []⟩, ⟨(some 6), (.len (.tmp 5)), none, false, []⟩, ⟨(some 7), (.bin .gtr (.tmp 6) (.const (.int .i64 1048576))), none, false, []⟩, ⟨(some 8), (.mv (.tmp 7)), none, false, []⟩, ⟨(some 9), (.mv (.tmp 1)), (some (8, false)), false, []⟩, ⟨(some 10), (.len (.tmp 9)), (some (8, false)), false, []⟩, ⟨(some 11), (.bin .gtr (.tmp 10) (.const (.int .i64 1048576))), (some (8, false)), false, []⟩, ⟨(some 12), (.pick (.tmp 8) (.const (.bool true)) (.tmp 11)), none, false, []⟩, ⟨(some 4), (.mv (.tmp 12)), none, false, []⟩]) .ret))
def laws_b10Long : PFunc := ⟨13, [(.tmp 4)], laws_b10Long_c⟩
theorem laws_b10Long_t : tab 14 = some laws_b10Long := by kernel_rfl
def laws_b10At_c : PCode := (.seq (.reg [⟨(some 6), (.mv (.const (.int .i64 0))), none, false, []⟩]) (.seq (.seq (.reg [⟨(some 7), (.mv (.tmp 2)), none, false, []⟩, ⟨(some 8), (.bin .leq (.tmp 7) (.const (.int .i64 1))), none, false, []⟩]) (.cond (.tmp 8) (.seq (.reg [⟨(some 6), (.mv (.const (.int .i64 0))), none, false, []⟩]) .ret) .skip)) (.seq (.seq (.reg [⟨(some 9), (.mv (.tmp 1)), none, false, []⟩, ⟨(some 10), (.mv (.tmp 0)), none, false, []⟩, ⟨(some 11), (.len (.tmp 10)), none, false, []⟩, ⟨(some 12), (.bin .lss (.tmp 9) (.tmp 11)), none, false, []⟩]) (.cond (.tmp 12) (.seq (.reg [⟨(some 13), (.mv (.tmp 0)), none, false, []⟩, ⟨(some 14), (.mv (.tmp 1)), none, false, []⟩, ⟨(some 15), (.iaddr 1 (.tmp 13) (.tmp 14)), none, false, []⟩, ⟨(some 16), (.load false 1 (.tmp 15)), none, false, []⟩, ⟨(some 17), (.cvt .i64 (.tmp 16)), none, false, []⟩, ⟨(some 18), (.mv (.tmp 2)), none, false, []⟩, ⟨(some 19), (.bin .rem (.tmp 17) (.tmp 18)), none, false, []⟩, ⟨(some 6), (.mv (.tmp 19)), none, false, []⟩]) .ret) .skip)) (.seq (.reg [⟨(some 20), (.mv (.tmp 1)), none, false, []⟩, ⟨(some 21), (.bin .mul (.tmp 20) (.const (.int .i64 37))), none, false, []⟩, ⟨(some 22), (.bin .add (.tmp 21) (.const (.int .i64 11))), none, false, []⟩, ⟨(some 23), (.mv (.tmp 2)), none, false, []⟩, ⟨(some 24), (.bin .rem (.tmp 22) (.tmp 23)), none, false, []⟩, ⟨(some 6), (.mv (.tmp 24)), none, false, []⟩]) .ret))))
def laws_b10At : PFunc := ⟨25, [(.tmp 6)], laws_b10At_c⟩
theorem laws_b10At_t : tab 16 = some laws_b10At := by kernel_rfl
def laws_b10Nums_b0 : PCode := (.seq (.seq (.reg [⟨(some 11), (.mv (.tmp 5)), none, false, []⟩, ⟨(some 12), (.mv (.tmp 0)), none, false, []⟩, ⟨(some 13), (.len (.tmp 12)), none, false, []⟩, ⟨(some 14), (.bin .lss (.tmp 11) (.tmp 13)), none, false, []⟩]) (.cond (.tmp 14) .skip (.exit 0))) (.seq (.block 1 (.seq (.reg [⟨(some 17), (.mv (.tmp 0)), none, false, []⟩, ⟨(some 18), (.mv (.tmp 5)), none, false, []⟩, ⟨(some 19), (.iaddr 1 (.tmp 17) (.tmp 18)), none, false, []⟩, ⟨(some 20), (.load false 1 (.tmp 19)), none, false, []⟩, ⟨(some 21), (.mv (.tmp 1)), none, false, []⟩, ⟨(some 22), (.mv (.tmp 5)), none, false, []⟩, ⟨(some 23), (.iaddr 1 (.tmp 21) (.tmp 22)), none, false, []⟩, ⟨(some 24), (.load false 1 (.tmp 23)), none, false, []⟩, ⟨(some 25), (.bin .neq (.tmp 20) (.tmp 24)), none, false, []⟩]) (.cond (.tmp 25) (.seq (.reg [⟨(some 4), (.mv (.const (.bool false))), none, false, []⟩]) .ret) .skip))) (.reg [⟨(some 15), (.mv (.tmp 5)), none, false, []⟩, ⟨(some 16), (.bin .add (.tmp 15) (.const (.int .i64 1))), none, false, []⟩, ⟨(some 5), (.mv (.tmp 16)), none, false, []⟩])))
def laws_b10Nums_c : PCode := (.seq (.reg [⟨(some 4), (.mv (.const (.bool false))), none, false, []⟩]) (.seq (.seq (.reg [⟨(some 6), (.mv (.tmp 0)), none, false, []⟩, ⟨(some 7), (.len (.tmp 6)), none, false, []⟩, ⟨(some 8), (.mv (.tmp 1)), none, false, []⟩, ⟨(some 9), (.len (.tmp 8)), none, false, []⟩, ⟨(some 10), (.bin .neq (.tmp 7) (.tmp 9)), none, false, []⟩]) (.cond (.tmp 10) (.seq (.reg [⟨(some 4), (.mv (.const (.bool false))), none, false, []⟩]) .ret) .skip)) (.seq (.seq (.reg [⟨(some 5), (.mv (.const (.int .i64 0))), none, false, []⟩]) (.block 0 (.loop laws_b10Nums_b0))) (.seq (.reg [⟨(some 4), (.mv (.const (.bool true))), none, false, []⟩]) .ret))))
def laws_b10Nums : PFunc := ⟨26, [(.tmp 4)], laws_b10Nums_c⟩
theorem laws_b10Nums_t : tab 18 = some laws_b10Nums := by kernel_rfl
def laws_b10Has_b0 : PCode := (.seq (.reg [⟨(some 9), (.bin .lss (.tmp 8) (.tmp 7)), none, false, []⟩]) (.seq (.cond (.tmp 9) .skip (.exit 0)) (.seq (.block 1 (.seq (.reg [⟨(some 10), (.mv (.tmp 8)), none, false, []⟩, ⟨(some 5), (.mv (.tmp 10)), none, false, []⟩]) (.seq (.reg [⟨(some 11), (.mv (.tmp 0)), none, false, []⟩, ⟨(some 12), (.mv (.tmp 5)), none, false, []⟩, ⟨(some 13), (.iaddr 1 (.tmp 11) (.tmp 12)), none, false, []⟩, ⟨(some 14), (.load false 1 (.tmp 13)), none, false, []⟩, ⟨(some 15), (.mv (.tmp 1)), none, false, []⟩, ⟨(some 16), (.bin .eql (.tmp 14) (.tmp 15)), none, false, []⟩]) (.cond (.tmp 16) (.seq (.reg [⟨(some 4), (.mv (.const (.bool true))), none, false, []⟩]) .ret) .skip)))) (.reg [⟨(some 17), (.bin .add (.tmp 8) (.const (.int .i64 1))), none, false, []⟩, ⟨(some 8), (.mv (.tmp 17)), none, false, []⟩]))))
def laws_b10Has_c : PCode := (.seq (.reg [⟨(some 4), (.mv (.const (.bool false))), none, false, []⟩]) (.seq (.seq (.reg [⟨(some 6), (.mv (.tmp 0)), none, false, []⟩, ⟨(some 7), (.len (.tmp 6)), none, false, []⟩, ⟨(some 8), (.mv (.const (.int .i64 0))), none, false, []⟩]) (.block 0 (.loop laws_b10Has_b0))) (.seq (.reg [⟨(some 4), (.mv (.const (.bool false))), none, false, []⟩]) .ret)))
def laws_b10Has : PFunc := ⟨18, [(.tmp 4)], laws_b10Has_c⟩
theorem laws_b10Has_t : tab 19 = some laws_b10Has := by kernel_rfl
end Go.PM

/- Which functions' calls are told with their rows. -/
namespace Go.PM

def raws : List Nat := []
 ++ [7]
 ++ [10]
 ++ [11]
 ++ [12]
 ++ [20]
 ++ [21]
 ++ [17]
 ++ [8]
 ++ [6]
 ++ [32]
 ++ [31]
 ++ [24]
 ++ [45]
 ++ [49]
 ++ [46]
 ++ [35]
 ++ [51]
 ++ [56]
 ++ [52]
 ++ [36]
 ++ [15]

end Go.PM

/- A logic over the pure machine: its values told as trees of elements, without addresses; what is still written, as rows. Definitions alone. -/
namespace Go.PM

/-- What is known of a list's room: nothing; it is its own block's whole, and closed; it is no list at all. -/
inductive TK where
  | op
  | cl (e : Nat)
  | nil
  deriving DecidableEq

inductive VV where
  | any
  | sc (v : Value)
  | agg (cs : List VV)
  | tup (vs : List VV)
  | tree (es : List VV) (k : TK)
  | tptr (x : VV) (off : Nat)
  | ref (b g o n c : Nat)
  | ptr (b g j off : Nat)
  | clo (f : Nat) (caps : List VV)
  deriving Inhabited

inductive VBlk where
  | dead
  | row (g : Nat) (es : List VV) (e : Nat) (w : Bool)
  deriving Inhabited
abbrev VHeap := List VBlk
abbrev VEnv := Nat → VV

def vundef : VV := .tup []
def isSc : Value → Bool
  | .bool _ | .int _ _ | .string _ | .pointer none | .nilFunc | .nilIface => true
  | _ => false
def inj1 : Value → VV
  | .slice none 0 0 => .tree [] .nil
  | v => if isSc v then .sc v else .any
def inj : Value → VV
  | .agg cs => .agg (cs.toList.map inj1)
  | .tuple vs => if vs.isEmpty then .tup [] else .any
  | v => inj1 v
def vev (ρ : VEnv) : Operand → VV
  | .tmp t => ρ t
  | .const v => inj v
  | .global _ => .any
  | .func f => .clo f []
def vput (ρ : VEnv) : Option Nat → VV → VEnv
  | none, _ => ρ
  | some d, v => fun k => if k = d then v else ρ k

def vcells : VV → List VV
  | .agg cs => cs
  | v => [v]
def elemOf : List VV → VV
  | [x] => x
  | cs => .agg cs
def vscal : VV → Bool
  | .any | .agg _ | .tup _ => false
  | _ => true

/-- Elements of one size. -/
def uni : List VV → Bool
  | [] => true
  | x :: xs => xs.all fun y => (vcells y).length == (vcells x).length
mutual
/-- Values without rows: trees of an unknown room. -/
def pureV : VV → Bool
  | .any => false
  | .sc v => isSc v
  | .agg cs => pureL cs
  | .tup vs => pureL vs
  | .tree es k => decide (k = .op) && pureL es && uni es
  | .tptr x _ => pureV x
  | .ref .. => false
  | .ptr .. => false
  | .clo _ caps => pureL caps
def pureL : List VV → Bool
  | [] => true
  | x :: xs => pureV x && pureL xs
end
/-- An element that stands for itself. -/
def elemOk : VV → Bool
  | .agg [_] => false
  | _ => true
mutual
/-- Pure values of which there is one alone. -/
def resV : VV → Bool
  | .any => false
  | .sc v => isSc v
  | .agg cs => resL cs
  | .tup vs => resL vs
  | .tree es k => decide (k = .op) && resL es && uni es && es.all elemOk
  | .tptr _ _ => false
  | .ref .. => false
  | .ptr .. => false
  | .clo _ _ => false
def resL : List VV → Bool
  | [] => true
  | x :: xs => resV x && resL xs
end
mutual
/-- Values in which no list stands. -/
def flatV : VV → Bool
  | .sc v => isSc v
  | .agg cs => flatL cs
  | .tup vs => flatL vs
  | _ => false
def flatL : List VV → Bool
  | [] => true
  | x :: xs => flatV x && flatL xs
end
mutual
/-- Values whose rows lie below k. -/
def below (k : Nat) : VV → Bool
  | .any => true
  | .sc _ => true
  | .agg cs => belowL k cs
  | .tup vs => belowL k vs
  | .tree es _ => belowL k es
  | .tptr x _ => below k x
  | .ref b _ _ _ _ => decide (b < k)
  | .ptr b _ _ _ => decide (b < k)
  | .clo _ caps => belowL k caps
def belowL (k : Nat) : List VV → Bool
  | [] => true
  | x :: xs => below k x && belowL k xs
end
def scrub (k : Nat) (v : VV) : VV := if below k v then v else .any

/-- The row of a reference that still holds. -/
def vrow (H : VHeap) (b g : Nat) : Option (List VV × Nat × Bool) :=
  match H[b]? with
  | some (.row g' es e w) => if g' = g then some (es, e, w) else none
  | _ => none

/-! ### operations that look at values alone -/
def veqCells : List CK → List VV → List VV → Option Bool
  | [], [], [] => some true
  | k :: ks, .sc x :: xs, .sc y :: ys => match eqCell k x y with
    | some true => veqCells ks xs ys
    | some false => some false
    | none => none
  | _, _, _ => none
def vsplice (cs : List VV) (o : Nat) (new : List VV) : List VV := cs.take o ++ new ++ cs.drop (o + new.length)
def isAny : VV → Bool
  | .any => true
  | _ => false
def vfill (places : List (Nat × Nat)) (cells : List VV) : List (Nat × VV) → Option (List VV)
  | [] => some cells
  | (i, v) :: rest =>
    match places[i]? with
    | none => none
    | some (off, size) =>
      if (vcells v).length = size ∧ off + size ≤ cells.length ∧ isAny v = false then
        vfill places (cells.take off ++ vcells v ++ cells.drop (off + size)) rest
      else none
def litFill (e : Nat) (es : List VV) : List (Nat × VV) → Option (List VV)
  | [] => some es
  | (i, v) :: rest => if i < es.length ∧ (vcells v).length = e ∧ (vcells v).all vscal then litFill e (es.set i v) rest else none
/-- A bound of a slice expression: its number. -/
def vnum : Option VV → Option (Option Value)
  | none => some none
  | some (.sc v) => some (some v)
  | some _ => none
def rdCells (agg : Bool) (size : Nat) (x : VV) (o : Nat) : Option VV :=
  if agg then (if o + size ≤ (vcells x).length then some (.agg (((vcells x).drop o).take size)) else none) else (vcells x)[o]?

/-- How the makings of a function's body are told: what is boxed is never written; a list that is written out is a row. -/
structure Fl where
  bf : Bool
  lr : Bool

def vload (agg : Bool) (size : Nat) (p : VV) (H : VHeap) : Option VV :=
  match p with
  | .tptr x o => rdCells agg size x o
  | .ptr b g j o => match vrow H b g with
    | some (es, _, _) => match es[j]? with
      | some x => rdCells agg size x o
      | none => none
    | none => none
  | _ => none
def viaddr (size : Nat) (x i : VV) (H : VHeap) : Option VV :=
  match x, i with
  | .tree es _, .sc (.int _ i) => if 0 ≤ i then match es[i.toNat]? with
    | some x => if (vcells x).length = size then some (.tptr x 0) else none
    | none => none
    else none
  | .ref b g o n _, .sc (.int _ i) => match vrow H b g with
    | some (_, e, _) => if e = size ∧ 0 ≤ i ∧ i < n then some (.ptr b g (o + i.toNat) 0) else none
    | none => none
  | _, _ => none
def vsub (size : Nat) (x : VV) (l h m : Option VV) (H : VHeap) : Option VV :=
  match vnum l, vnum h, vnum m with
  | some lv, some hv, some mv =>
    match x with
    | .tree (y :: ys) _ =>
      if (vcells y).length = size then
        match pbound mv (some (ys.length + 1)) (ys.length + 1) with
        | none => none
        | some m => match pbound hv (if mv.isSome then none else some (ys.length + 1)) m with
          | none => none
          | some h => match pbound lv (some 0) h with
            | none => none
            | some l => if mv.isSome ∧ m = l then some (.tree [] (.cl size)) else some (.tree (((y :: ys).drop l).take (h - l)) .op)
      else none
    | .ref b g o n c =>
      match vrow H b g with
      | some (_, e, _) =>
        if e = size then
          match pbound mv (some c) c with
          | none => none
          | some m => match pbound hv (if mv.isSome then none else some n) m with
            | none => none
            | some h => match pbound lv (some 0) h with
              | none => none
              | some l => if mv.isSome ∧ m = l then some (.tree [] (.cl size)) else some (.ref b g (o + l) (h - l) (m - l))
        else none
      | none => none
    | _ => none
  | _, _, _ => none
def vbytes : List VV → Option (List UInt8)
  | [] => some []
  | .sc (.int .u8 n) :: r => (vbytes r).map (UInt8.ofNat n.toNat :: ·)
  | _ => none
/-- The elements of what is appended or copied. -/
def vsource (size : Nat) (y : VV) (H : VHeap) : Option (List VV) :=
  match y with
  | .tree es _ => if es.all fun x => (vcells x).length == size && (vcells x).all vscal then some es else none
  | .ref b g o n _ => match vrow H b g with
    | some (es, e, _) => if e = size ∧ o + n ≤ es.length ∧ (((es.drop o).take n).all fun x => (vcells x).all vscal) then some ((es.drop o).take n) else none
    | none => none
  | .sc (.string s) => if size = 1 then some (s.data.toList.map fun b => .sc (.int .u8 b.toNat)) else none
  | _ => none
/-- append of elements to a list. -/
def vappend (lo size bytes : Nat) (x : VV) (new : List VV) (H : VHeap) : Option (VV × VHeap) :=
  if 1 ≤ bytes ∧ 1 ≤ size then
    match x with
    | .tree [] .nil => if new.length = 0 then some (x, H) else if new.length * bytes ≤ 140737488355328 then some (.ref H.length 0 0 new.length new.length, H ++ [.row 0 new size true]) else none
    | .tree es (.cl e) => if e = size then (if new.length = 0 then some (x, H) else if (es.length + new.length) * bytes ≤ 140737488355328 then some (.ref H.length 0 0 (es.length + new.length) (es.length + new.length), H ++ [.row 0 (es ++ new) size true]) else none) else none
    | .ref b g o n c => match vrow H b g with
      | some (es, e, true) =>
        if e = size ∧ lo ≤ b ∧ o + n ≤ es.length then
          if n + new.length ≤ c then
            if new.length = 0 then some (x, H)
            else if o + n + new.length ≤ es.length then some (.ref b g o (n + new.length) c, H.set b (.row g (vsplice es (o + n) new) e true))
            else none
          else if (n + new.length) * bytes ≤ 140737488355328 then some (.ref b (g + 1) 0 (n + new.length) (n + new.length), H.set b (.row (g + 1) ((es.drop o).take n ++ new) e true))
          else none
        else none
      | _ => none
    | _ => none
  else none
def vstore (lo size : Nat) (p v : VV) (H : VHeap) : Option VHeap :=
  match p with
  | .ptr b g j o => match vrow H b g with
    | some (es, e, true) => match es[j]? with
      | some x =>
        if (vcells v).length = size ∧ lo ≤ b ∧ (vcells v).all vscal then
          if o = 0 ∧ size = e then some (H.set b (.row g (es.set j v) e true))
          else if 2 ≤ e ∧ o + size ≤ e then some (H.set b (.row g (es.set j (.agg (vsplice (vcells x) o (vcells v)))) e true))
          else none
        else none
      | none => none
    | _ => none
  | _ => none
def vmake (zero : List Value) (bytes : Nat) (l c : VV) (H : VHeap) : Option (VV × VHeap) :=
  match l, c with
  | .sc (.int .i64 l), .sc (.int .i64 c) => if 0 ≤ l ∧ l ≤ c ∧ c * bytes ≤ 281474976710656 ∧ c ≤ 9223372036854775807 then
      some (.ref H.length 0 0 l.toNat c.toNat, H ++ [.row 0 (List.replicate c.toNat (elemOf (zero.map inj1))) zero.length true]) else none
  | _, _ => none
def vlit (lr : Bool) (zero : List Value) (n : Nat) (parts : List (Nat × VV)) (H : VHeap) : Option (VV × VHeap) :=
  match litFill zero.length (List.replicate n (elemOf (zero.map inj1))) parts with
  | some es => if (zero.map inj1).all vscal then (if n = 0 ∨ lr = true then some (.ref H.length 0 0 n n, H ++ [.row 0 es zero.length true]) else some (.tree es (.cl zero.length), H)) else none
  | none => none
def vcopy (lo size : Nat) (x y : VV) (H : VHeap) : Option (VV × VHeap) :=
  match x, vsource size y H with
  | .tree [] .nil, some _ => some (.sc (.int .i64 0), H)
  | .ref b g o d _, some new => match vrow H b g with
    | some (es, e, true) => if e = size ∧ lo ≤ b ∧ o + (new.take d).length ≤ es.length then some (.sc (.int .i64 (new.take d).length), H.set b (.row g (vsplice es o (new.take d)) e true)) else none
    | _ => none
  | _, _ => none
def vclear (lo : Nat) (zero : List Value) (x : VV) (H : VHeap) : Option VHeap :=
  match x with
  | .ref b g o n _ => match vrow H b g with
    | some (es, e, true) => if n = 0 then some H else if e = zero.length ∧ lo ≤ b ∧ o + n ≤ es.length ∧ (zero.map inj1).all vscal then some (H.set b (.row g (vsplice es o (List.replicate n (elemOf (zero.map inj1)))) e true)) else none
    | _ => none
  | _ => none
def visnil (neg : Bool) (x : VV) (H : VHeap) : Option VV :=
  match x with
  | .tree [] .nil => some (.sc (.bool (true != neg)))
  | .tree [] (.cl _) => some (.sc (.bool (false != neg)))
  | .tree (_ :: _) _ => some (.sc (.bool (false != neg)))
  | .ref b g _ _ _ => (vrow H b g).map fun _ => .sc (.bool (false != neg))
  | _ => none
def vlen (x : VV) (H : VHeap) : Option VV :=
  match x with
  | .tree es _ => some (.sc (.int .i64 es.length))
  | .ref b g _ n _ => (vrow H b g).map fun _ => .sc (.int .i64 n)
  | _ => none
def vfaddr (off : Nat) (x : VV) (H : VHeap) : Option VV :=
  match x with
  | .tptr x o => some (.tptr x (o + off))
  | .ptr b g j o => (vrow H b g).map fun _ => .ptr b g j (o + off)
  | _ => none
def vchk (x : VV) (H : VHeap) : Option VV :=
  match x with
  | .tptr x o => some (.tptr x o)
  | .ptr b g j o => (vrow H b g).map fun _ => .ptr b g j o
  | _ => none
def vssub (x : VV) (l h : Option VV) : Option VV :=
  match x, vnum l, vnum h with
  | .sc (.string s), some lv, some hv => match psliceB lv hv s.size with
    | some (l, h) => some (.sc (.string (s.extract l h)))
    | none => none
  | _, _, _ => none
def vfld (agg : Bool) (off size : Nat) (x : VV) : Option VV :=
  match x with
  | .agg cs => if agg then (if off + size ≤ cs.length then some (.agg ((cs.drop off).take size)) else none) else cs[off]?
  | _ => none
def vsc1 (f : Value → Option Value) (x : VV) : Option VV :=
  match x with
  | .sc a => (f a).map .sc
  | _ => none
def vsc2 (f : Value → Value → Option Value) (x y : VV) : Option VV :=
  match x, y with
  | .sc a, .sc b => (f a b).map .sc
  | _, _ => none
def vpick (c a b : VV) : Option VV :=
  match c with
  | .sc (.bool t) => some (if t then a else b)
  | _ => none
def vext (i : Nat) (x : VV) : Option VV :=
  match x with
  | .tup vs => vs[i]?
  | _ => none
def veqagg (neg : Bool) (ks : List CK) (x y : VV) : Option VV :=
  match x, y with
  | .agg a, .agg b => (veqCells ks a b).map fun t => .sc (.bool (t != neg))
  | _, _ => none
def cvsV : Value → Option Value
  | .string s => some (.string s)
  | _ => none
def slenV : Value → Option Value
  | .string s => some (.int .i64 s.size)
  | _ => none
def sidxV : Value → Value → Option Value
  | .string s, .int _ i => if 0 ≤ i ∧ i < s.size then some (.int .u8 ((s.data.toList.getD i.toNat 0).toNat : Int)) else none
  | _, _ => none

/-- What an operation comes to, calls left out. -/
def vop (fl : Fl) (lo : Nat) (o : POp) (ρ : VEnv) (H : VHeap) : Option (VV × VHeap) :=
  match o with
  | .mv x => some (vev ρ x, H)
  | .pick c a b => (vpick (vev ρ c) (vev ρ a) (vev ρ b)).map (·, H)
  | .bin op x y => (vsc2 (pbin op) (vev ρ x) (vev ρ y)).map (·, H)
  | .eqb neg x y => (vsc2 (eqbV neg) (vev ρ x) (vev ρ y)).map (·, H)
  | .isnil neg x => (visnil neg (vev ρ x) H).map (·, H)
  | .eqagg neg ks x y => (veqagg neg ks (vev ρ x) (vev ρ y)).map (·, H)
  | .un op x => (vsc1 (pun op) (vev ρ x)).map (·, H)
  | .cvt k x => (vsc1 (cvtV k) (vev ρ x)).map (·, H)
  | .cvs x => (vsc1 cvsV (vev ρ x)).map (·, H)
  | .ext x i => (vext i (vev ρ x)).map (·, H)
  | .fld agg off size x => (vfld agg off size (vev ρ x)).map (·, H)
  | .build zero places parts => (vfill places (zero.map inj1) (parts.map fun (i, x) => (i, vev ρ x))).map fun cs => (.agg cs, H)
  | .chk x => (vchk (vev ρ x) H).map (·, H)
  | .faddr off x => (vfaddr off (vev ρ x) H).map (·, H)
  | .iaddr size x i => (viaddr size (vev ρ x) (vev ρ i) H).map (·, H)
  | .sidx x i => (vsc2 sidxV (vev ρ x) (vev ρ i)).map (·, H)
  | .ssub x l h => (vssub (vev ρ x) (l.map (vev ρ)) (h.map (vev ρ))).map (·, H)
  | .mkfn f caps => some (.clo f (caps.map (vev ρ)), H)
  | .len x => (vlen (vev ρ x) H).map (·, H)
  | .slen x => (vsc1 slenV (vev ρ x)).map (·, H)
  | .min x y => (vsc2 minV (vev ρ x) (vev ρ y)).map (·, H)
  | .max x y => (vsc2 maxV (vev ρ x) (vev ρ y)).map (·, H)
  | .load agg size p => (vload agg size (vev ρ p) H).map (·, H)
  | .sub size x l h m => (vsub size (vev ρ x) (l.map (vev ρ)) (h.map (vev ρ)) (m.map (vev ρ)) H).map (·, H)
  | .b2s x => match vev ρ x with
    | .sc _ => none
    | y => match vsource 1 y H with
      | some es => (vbytes es).map fun bs => (.sc (.string ⟨bs.toArray⟩), H)
      | none => none
  | .new zero => if (zero.map inj1).all vscal then some (.ptr H.length 0 0 0, H ++ [.row 0 [elemOf (zero.map inj1)] zero.length true]) else none
  | .box x => if (vcells (vev ρ x)).all vscal then (if fl.bf then some (.tptr (vev ρ x) 0, H) else some (.ptr H.length 0 0 0, H ++ [.row 0 [vev ρ x] (vcells (vev ρ x)).length true])) else none
  | .make zero bytes l c => if (zero.map inj1).all vscal then vmake zero bytes (vev ρ l) (vev ρ c) H else none
  | .lit zero n parts => vlit fl.lr zero n (parts.map fun (i, x) => (i, vev ρ x)) H
  | .store size p v => (vstore lo size (vev ρ p) (vev ρ v) H).map fun H' => (vundef, H')
  | .app size bytes x y => match vsource size (vev ρ y) H with
    | some new => vappend lo size bytes (vev ρ x) new H
    | none => none
  | .appz zero bytes x n => match vev ρ n with
    | .sc (.int .i64 n) => if 0 ≤ n ∧ n * bytes ≤ 140737488355328 ∧ (zero.map inj1).all vscal then vappend lo zero.length bytes (vev ρ x) (List.replicate n.toNat (elemOf (zero.map inj1))) H else none
    | _ => none
  | .copy size x y => vcopy lo size (vev ρ x) (vev ρ y) H
  | .clear zero x => (vclear lo zero (vev ρ x) H).map fun H' => (vundef, H')
  | _ => none

/-! ### what must keep off -/
inductive VBx where
  | no
  | row (i : Nat) (w : Bool)
  | old (i : Nat)
  | tree
  | bad
def vblk (H : VHeap) : VV → VBx
  | .tree [] .nil => .no
  | .tree _ _ => .tree
  | .tptr _ _ => .tree
  | .ref b g _ _ _ => match vrow H b g with
    | some (_, _, w) => .row b w
    | none => .old b
  | .ptr b g _ _ => match vrow H b g with
    | some (_, _, w) => .row b w
    | none => .old b
  | .any => .bad
  | _ => .no
def vkoff (H : VHeap) (x y : VV) : Bool :=
  match vblk H x, vblk H y with
  | .bad, _ => false
  | _, .bad => false
  | .no, _ => true
  | _, .no => true
  | .row i _, .row j _ => i != j
  | .row i _, .old j => i != j
  | .old i, .row j _ => i != j
  | .old _, .old _ => false
  | .old _, .tree => false
  | .tree, .old _ => false
  | .row _ w, .tree => w
  | .tree, .row _ w => w
  | .tree, .tree => false
def vkeeps (ρ : VEnv) (H : VHeap) (c : Operand × Operand) : Bool := vkoff H (vev ρ c.1) (vev ρ c.2)

def vwanted (g : Option (Nat × Bool)) (ρ : VEnv) : Option Bool :=
  match g with
  | none => some true
  | some (t, want) => match ρ t with
    | .sc (.bool b) => some (b == want)
    | .tup _ => some false
    | _ => none

/-! ### what is handed over: rows told as trees -/
def fz : Nat → VHeap → VV → Option VV
  | 0, _, _ => none
  | d + 1, H, v =>
    if pureV v then some v else
    match v with
    | .agg cs => (cs.mapM (fz d H)).map .agg
    | .tup vs => (vs.mapM (fz d H)).map .tup
    | .tree es _ => (es.mapM (fz d H)).map (.tree · .op)
    | .tptr x o => (fz d H x).map (.tptr · o)
    | .ref b g o n c => match vrow H b g with
      | some (es, _, _) => if o + n ≤ es.length ∧ n ≤ c then (((es.drop o).take n).mapM (fz d H)).map (.tree · .op) else none
      | none => none
    | .ptr b g j o => match vrow H b g with
      | some (es, _, _) => match es[j]? with
        | some x => (fz d H x).map (.tptr · o)
        | none => none
      | none => none
    | .clo f caps => (caps.mapM (fz d H)).map (.clo f ·)
    | _ => none
def fzIds : Nat → VHeap → VV → List Nat
  | 0, _, _ => []
  | d + 1, H, v =>
    if pureV v then [] else
    match v with
    | .agg cs => cs.flatMap (fzIds d H)
    | .tup vs => vs.flatMap (fzIds d H)
    | .tree es _ => es.flatMap (fzIds d H)
    | .tptr x _ => fzIds d H x
    | .ref b g o n _ => match vrow H b g with
      | some (es, _, _) => b :: ((es.drop o).take n).flatMap (fzIds d H)
      | none => []
    | .ptr b g j _ => match vrow H b g with
      | some (es, _, _) => match es[j]? with
        | some x => b :: fzIds d H x
        | none => []
      | none => []
    | .clo _ caps => caps.flatMap (fzIds d H)
    | _ => []
def freeze1 (H : VHeap) (b : Nat) : VHeap :=
  match H[b]? with
  | some (.row g es e _) => H.set b (.row g es e false)
  | _ => H
def freezeAll (H : VHeap) (ids : List Nat) : VHeap := ids.foldl freeze1 H
def depth : Nat := 8

end Go.PM

/- How values and rows of the logic stand to the pure machine's values and heap. -/
namespace Go.PM

structure View where
  m : Nat → Nat
  F : Nat → Prop
  H : VHeap
  P : Heap
  base : Nat

def kindOk (k : TK) (n c e : Nat) (p : Bool) : Prop :=
  match k with
  | .op => True
  | .cl e' => e' = e ∧ c = n ∧ p = false
  | .nil => False

mutual
inductive VR (V : View) : VV → Value → Prop
  | any (v : Value) : VR V .any v
  | sc (v : Value) (h : isSc v = true) : VR V (.sc v) v
  | agg (cs : List VV) (ps : List Value) (h : VL V cs ps) : VR V (.agg cs) (.agg ps.toArray)
  | tup (cs : List VV) (ps : List Value) (h : VL V cs ps) : VR V (.tup cs) (.tuple ps.toArray)
  | tnil (k : TK) (hk : k = .op ∨ k = .nil) : VR V (.tree [] k) (.slice none 0 0)
  | tree (es : List VV) (k : TK) (b o c : Nat) (r : List Value) (e : Nat) (p : Bool) (hF : V.F b) (hb : V.P[b]? = some (.row r e p)) (ho : o + es.length * e ≤ r.length)
      (hc : es.length ≤ c) (he : ∀ x ∈ es, (vcells x).length = e) (hk : kindOk k es.length c e p) (hl : VL V (es.flatMap vcells) ((r.drop o).take (es.length * e))) :
      VR V (.tree es k) (.slice (some ⟨b, o, none⟩) es.length c)
  | tptr (x : VV) (off b o : Nat) (r : List Value) (e : Nat) (p : Bool) (hF : V.F b) (hb : V.P[b]? = some (.row r e p)) (ho : o + (vcells x).length ≤ r.length)
      (hl : VL V (vcells x) ((r.drop o).take (vcells x).length)) : VR V (.tptr x off) (.pointer (some ⟨b, o + off, none⟩))
  | ref (b g o n c : Nat) (a : Option Addr) (n' c' : Nat) (hlt : b < V.H.length) (hg : ∀ g' es e w, V.H[b]? = some (.row g' es e w) → g ≤ g')
      (h : ∀ es e w, V.H[b]? = some (.row g es e w) → a = some ⟨V.m b, o * e, none⟩ ∧ n' = n ∧ c' = c)
      (hq : ∀ a0, a = some a0 → V.base ≤ a0.block ∧ a0.block < V.P.length ∧ ∀ b' g' es e w, V.H[b']? = some (.row g' es e w) → b' ≠ b → V.m b' ≠ a0.block) : VR V (.ref b g o n c) (.slice a n' c')
  | ptr (b g j off : Nat) (a : Option Addr) (hlt : b < V.H.length) (hg : ∀ g' es e w, V.H[b]? = some (.row g' es e w) → g ≤ g')
      (h : ∀ es e w, V.H[b]? = some (.row g es e w) → a = some ⟨V.m b, j * e + off, none⟩)
      (hq : ∀ a0, a = some a0 → V.base ≤ a0.block ∧ a0.block < V.P.length ∧ ∀ b' g' es e w, V.H[b']? = some (.row g' es e w) → b' ≠ b → V.m b' ≠ a0.block) : VR V (.ptr b g j off) (.pointer a)
  | clo (f : Nat) (caps : List VV) (ps : List Value) (h : VL V caps ps) : VR V (.clo f caps) (.func (.func f) #[] ps.toArray)
inductive VL (V : View) : List VV → List Value → Prop
  | nil : VL V [] []
  | cons (x : VV) (v : Value) (xs : List VV) (vs : List Value) (h : VR V x v) (hs : VL V xs vs) : VL V (x :: xs) (v :: vs)
end

structure Up (V V' : View) : Prop where
  F : ∀ b, V.F b → V'.F b
  P : ∀ b, V.F b → V'.P[b]? = V.P[b]?
  len : V.H.length ≤ V'.H.length
  row : ∀ b g' es' e w', b < V.H.length → V'.H[b]? = some (.row g' es' e w') → ∃ g es w, V.H[b]? = some (.row g es e w) ∧ g ≤ g' ∧ (g' = g → V'.m b = V.m b)
  bas : V'.base = V.base
  plen : V.P.length ≤ V'.P.length
  old : ∀ b g es e w, V'.H[b]? = some (.row g es e w) → V'.m b < V.P.length → ∃ g0 es0 w0, V.H[b]? = some (.row g0 es0 e w0) ∧ V'.m b = V.m b ∧ (w = true → w0 = true)

section
variable {V V' V'' : View}
theorem Up.refl (V : View) : Up V V := ⟨fun _ h => h, fun _ _ => rfl, Nat.le_refl _, fun b g es e w _ h => ⟨g, es, w, h, Nat.le_refl _, fun _ => rfl⟩, rfl, Nat.le_refl _, fun b g es e w h _ => ⟨g, es, w, h, rfl, id⟩⟩
theorem Up.trans (h : Up V V') (h' : Up V' V'') : Up V V'' :=
  ⟨fun b hb => h'.F b (h.F b hb), fun b hb => (h'.P b (h.F b hb)).trans (h.P b hb), Nat.le_trans h.len h'.len, fun b g es e w hb hr => by
    obtain ⟨g1, es1, w1, h1, h2, h3⟩ := h'.row b g es e w (Nat.lt_of_lt_of_le hb h.len) hr
    obtain ⟨g2, es2, w2, h4, h5, h6⟩ := h.row b g1 es1 e w1 hb h1
    exact ⟨g2, es2, w2, h4, Nat.le_trans h5 h2, fun hg => (h3 (by omega)).trans (h6 (by omega))⟩, h'.bas.trans h.bas, Nat.le_trans h.plen h'.plen, fun b g es e w hb hm => by
      obtain ⟨g1, es1, w1, h1, h2, h3⟩ := h'.old b g es e w hb (Nat.lt_of_lt_of_le hm h.plen)
      obtain ⟨g2, es2, w2, h4, h5, h6⟩ := h.old b g1 es1 e w1 h1 (by rw [← h2]; exact hm)
      exact ⟨g2, es2, w2, h4, h2.trans h5, fun hw => h6 (h3 hw)⟩⟩
theorem Up.hq (u : Up V V') {b q : Nat} (h : V.base ≤ q ∧ q < V.P.length ∧ ∀ b' g' es e w, V.H[b']? = some (.row g' es e w) → b' ≠ b → V.m b' ≠ q) : V'.base ≤ q ∧ q < V'.P.length ∧ ∀ b' g' es e w, V'.H[b']? = some (.row g' es e w) → b' ≠ b → V'.m b' ≠ q := by
  refine ⟨by rw [u.bas]; exact h.1, Nat.lt_of_lt_of_le h.2.1 u.plen, fun b' g' es e w hb hne hm => ?_⟩
  obtain ⟨g0, es0, w0, h1, h2, _⟩ := u.old b' g' es e w hb (by rw [hm]; exact h.2.1)
  exact h.2.2 b' _ _ _ _ h1 hne (h2.symm.trans hm)

theorem VR.mono (u : Up V V') {x : VV} {v : Value} (h : VR V x v) : VR V' x v := by
  induction h using VR.rec (motive_2 := fun xs vs _ => VL V' xs vs) with
  | any => exact .any _
  | sc _ h => exact .sc _ h
  | agg cs ps _ ih => exact .agg _ _ ih
  | tup cs ps _ ih => exact .tup _ _ ih
  | tnil k hk => exact .tnil k hk
  | tree es k b o c r e p hF hb ho hc he hk _ ih => exact .tree es k b o c r e p (u.F _ hF) (by rw [u.P _ hF]; exact hb) ho hc he hk ih
  | tptr x off b o r e p hF hb ho _ ih => exact .tptr x off b o r e p (u.F _ hF) (by rw [u.P _ hF]; exact hb) ho ih
  | ref b g o n c a n' c' hlt hg h hq =>
    refine .ref b g o n c a n' c' (Nat.lt_of_lt_of_le hlt u.len) (fun g' es e w hr => ?_) (fun es e w hr => ?_) fun a0 ha => u.hq (hq a0 ha)
    · obtain ⟨g1, es1, w1, h1, h2, _⟩ := u.row b g' es e w hlt hr
      exact Nat.le_trans (hg _ _ _ _ h1) h2
    · obtain ⟨g1, es1, w1, h1, h2, h3⟩ := u.row b g es e w hlt hr
      have h4 := hg _ _ _ _ h1
      have h5 : g = g1 := by omega
      subst h5
      rw [h3 rfl]
      exact h _ _ _ h1
  | ptr b g j off a hlt hg h hq =>
    refine .ptr b g j off a (Nat.lt_of_lt_of_le hlt u.len) (fun g' es e w hr => ?_) (fun es e w hr => ?_) fun a0 ha => u.hq (hq a0 ha)
    · obtain ⟨g1, es1, w1, h1, h2, _⟩ := u.row b g' es e w hlt hr
      exact Nat.le_trans (hg _ _ _ _ h1) h2
    · obtain ⟨g1, es1, w1, h1, h2, h3⟩ := u.row b g es e w hlt hr
      have h4 := hg _ _ _ _ h1
      have h5 : g = g1 := by omega
      subst h5
      rw [h3 rfl]
      exact h _ _ _ h1
  | clo f caps ps _ ih => exact .clo _ _ _ ih
  | nil => exact .nil
  | cons x v xs vs _ _ ih ihs => exact .cons _ _ _ _ ih ihs
theorem VL.mono (u : Up V V') {xs : List VV} {vs : List Value} (h : VL V xs vs) : VL V' xs vs := by
  induction xs generalizing vs with
  | nil => cases h; exact .nil
  | cons x xs ih => cases h with
    | cons _ v _ vs h hs => exact .cons _ _ _ _ (h.mono u) (ih hs)
end

section
variable {V : View} {xs ys : List VV} {vs ws : List Value}
theorem VL.length : ∀ {xs : List VV} {vs : List Value}, VL V xs vs → vs.length = xs.length
  | _, _, .nil => rfl
  | _, _, .cons _ _ _ _ _ hs => by simp [hs.length]
theorem VL.append : ∀ {xs : List VV} {vs : List Value}, VL V xs vs → VL V ys ws → VL V (xs ++ ys) (vs ++ ws)
  | _, _, .nil, h' => h'
  | _, _, .cons _ _ _ _ h hs, h' => .cons _ _ _ _ h (hs.append h')
theorem VL.take (n : Nat) : ∀ {xs : List VV} {vs : List Value} , VL V xs vs → VL V (xs.take n) (vs.take n) := by
  induction n with
  | zero => intro xs vs _; simp; exact .nil
  | succ n ih => intro xs vs h; cases h with
    | nil => simp; exact .nil
    | cons x v xs vs h hs => exact .cons _ _ _ _ h (ih hs)
theorem VL.drop (n : Nat) : ∀ {xs : List VV} {vs : List Value} , VL V xs vs → VL V (xs.drop n) (vs.drop n) := by
  induction n with
  | zero => intro xs vs h; simpa using h
  | succ n ih => intro xs vs h; cases h with
    | nil => simp; exact .nil
    | cons x v xs vs h hs => exact ih hs
theorem VL.get (h : VL V xs vs) {i : Nat} {x : VV} (hx : xs[i]? = some x) : ∃ v, vs[i]? = some v ∧ VR V x v := by
  induction i generalizing xs vs with
  | zero => cases h with
    | nil => cases hx
    | cons y v xs vs h hs => simp at hx; subst hx; exact ⟨v, rfl, h⟩
  | succ i ih => cases h with
    | nil => cases hx
    | cons y v xs vs h hs => exact ih hs (by simpa using hx)
theorem VL.map {α : Type} {f : α → VV} {g : α → Value} : ∀ {l : List α}, (∀ x ∈ l, VR V (f x) (g x)) → VL V (l.map f) (l.map g)
  | [], _ => .nil
  | x :: l, h => .cons _ _ _ _ (h x (by simp)) (VL.map fun y hy => h y (by simp [hy]))
theorem VL.replicate {x : VV} {v : Value} (h : VR V x v) : ∀ n, VL V (List.replicate n x) (List.replicate n v)
  | 0 => .nil
  | n + 1 => .cons _ _ _ _ h (VL.replicate h n)
theorem VL.splice {cs new : List VV} {ps pn : List Value} (h : VL V cs ps) (hn : VL V new pn) (o : Nat) : VL V (vsplice cs o new) (splice ps o pn) := by
  unfold vsplice PM.splice
  rw [← hn.length]
  exact ((h.take o).append hn).append (h.drop _)

theorem VR.inj1 (v : Value) : VR V (inj1 v) v := by
  unfold PM.inj1
  split
  · exact .tnil _ (.inr rfl)
  · split
    · rename_i h; exact .sc _ h
    · exact .any _
theorem VR.inj (v : Value) : VR V (inj v) v := by
  unfold PM.inj
  split
  · rename_i cs
    have : (Value.agg cs) = .agg cs.toList.toArray := by simp
    rw [this]
    refine .agg _ _ ?_
    have := VL.map (V := V) (f := PM.inj1) (g := id) (l := cs.toList) fun x _ => VR.inj1 x
    simpa using this
  · rename_i vs
    split
    · rename_i h
      have : vs = [].toArray := by simpa using h
      rw [this]
      exact .tup _ _ .nil
    · exact .any _
  · exact VR.inj1 _
theorem VL.zero (z : List Value) : VL V (z.map PM.inj1) z := by
  have := VL.map (V := V) (f := PM.inj1) (g := id) (l := z) fun x _ => VR.inj1 x
  simpa using this

theorem VR.cells {x : VV} {v : Value} (h : VR V x v) (hx : x ≠ .any) : VL V (vcells x) (pcells v) := by
  cases h with
  | any => exact absurd rfl hx
  | sc v h =>
    have : pcells v = [v] := by cases v <;> first | rfl | cases h
    rw [this]
    exact .cons _ _ _ _ (.sc v h) .nil
  | agg cs ps h => simpa [vcells, pcells] using h
  | tup cs ps h => exact .cons _ _ _ _ (.tup _ _ h) .nil
  | tnil k hk => exact .cons _ _ _ _ (.tnil k hk) .nil
  | tree es k b o c r e p hF hb ho hc he hk hl => exact .cons _ _ _ _ (.tree es k b o c r e p hF hb ho hc he hk hl) .nil
  | tptr x off b o r e p hF hb ho hl => exact .cons _ _ _ _ (.tptr x off b o r e p hF hb ho hl) .nil
  | ref b g o n c a n' c' hlt hg h hq => exact .cons _ _ _ _ (.ref b g o n c a n' c' hlt hg h hq) .nil
  | ptr b g j off a hlt hg h hq => exact .cons _ _ _ _ (.ptr b g j off a hlt hg h hq) .nil
  | clo f caps ps h => exact .cons _ _ _ _ (.clo _ _ _ h) .nil
theorem VR.scal {x : VV} {v : Value} (h : VR V x v) (hx : vscal x = true) : scal v = true := by
  cases h with
  | sc v h => cases v <;> first | rfl | cases h
  | any => cases hx
  | agg => cases hx
  | tup => cases hx
  | _ => rfl
theorem VL.scal : ∀ {xs : List VV} {vs : List Value}, VL V xs vs → xs.all vscal = true → vs.all PM.scal = true
  | _, _, .nil, _ => rfl
  | _, _, .cons _ _ _ _ h hs, hx => by
    rw [List.all_cons, Bool.and_eq_true] at hx ⊢
    exact ⟨h.scal hx.1, hs.scal hx.2⟩
theorem notAny {x : VV} (h : (vcells x).all vscal = true) : x ≠ .any := by
  rintro rfl
  cases h

/-! ### elements one behind another -/
theorem flatv_len {es : List VV} {e : Nat} (he : ∀ x ∈ es, (vcells x).length = e) : (es.flatMap vcells).length = es.length * e := by
  induction es with
  | nil => simp
  | cons x xs ih =>
    rw [List.flatMap_cons, List.length_append, ih fun y hy => he y (List.mem_cons_of_mem _ hy), he x List.mem_cons_self, List.length_cons, Nat.succ_mul]
    omega
theorem flatv_drop {es : List VV} {e : Nat} (he : ∀ x ∈ es, (vcells x).length = e) (i : Nat) : (es.flatMap vcells).drop (i * e) = (es.drop i).flatMap vcells := by
  induction i generalizing es with
  | zero => simp
  | succ i ih =>
    cases es with
    | nil => simp
    | cons x xs =>
      have hx := he x List.mem_cons_self
      rw [List.flatMap_cons, List.drop_succ_cons, ← ih fun y hy => he y (List.mem_cons_of_mem _ hy), show (i + 1) * e = (vcells x).length + i * e by rw [hx, Nat.succ_mul]; omega, List.drop_append]
      simp
theorem flatv_take {es : List VV} {e : Nat} (he : ∀ x ∈ es, (vcells x).length = e) (i : Nat) : (es.flatMap vcells).take (i * e) = (es.take i).flatMap vcells := by
  induction i generalizing es with
  | zero => simp
  | succ i ih =>
    cases es with
    | nil => simp
    | cons x xs =>
      have hx := he x List.mem_cons_self
      rw [List.flatMap_cons, List.take_succ_cons, List.flatMap_cons, ← ih fun y hy => he y (List.mem_cons_of_mem _ hy), show (i + 1) * e = (vcells x).length + i * e by rw [hx, Nat.succ_mul]; omega, List.take_append]
      simp
      exact List.take_of_length_le (by omega)
theorem flatv_at {es : List VV} {e : Nat} (he : ∀ x ∈ es, (vcells x).length = e) {j : Nat} {x : VV} (hx : es[j]? = some x) : ((es.flatMap vcells).drop (j * e)).take e = vcells x := by
  obtain ⟨hlt, hx'⟩ := List.getElem?_eq_some_iff.1 hx
  rw [flatv_drop he, List.drop_eq_getElem_cons hlt, hx', List.flatMap_cons, List.take_append, ← he x (List.mem_of_getElem? hx)]
  simp
theorem flatv_splice {es new : List VV} {e : Nat} (he : ∀ x ∈ es, (vcells x).length = e) (hn : ∀ x ∈ new, (vcells x).length = e) (o : Nat) : vsplice (es.flatMap vcells) (o * e) (new.flatMap vcells) = (vsplice es o new).flatMap vcells := by
  unfold vsplice
  rw [flatv_take he, flatv_len hn, show o * e + new.length * e = (o + new.length) * e by rw [Nat.add_mul], flatv_drop he]
  simp
theorem vsplice_one {es : List VV} {j : Nat} {x : VV} (hj : j < es.length) : vsplice es j [x] = es.set j x := by
  unfold vsplice
  rw [List.set_eq_take_append_cons_drop, if_pos hj]
  simp
theorem vsplice_len {cs new : List VV} {o : Nat} (h : o + new.length ≤ cs.length) : (vsplice cs o new).length = cs.length := by
  unfold vsplice
  simp
  omega
theorem vsplice_mem {cs new : List VV} {o : Nat} {x : VV} (h : x ∈ vsplice cs o new) : x ∈ cs ∨ x ∈ new := by
  unfold vsplice at h
  rw [List.mem_append, List.mem_append] at h
  rcases h with (h | h) | h
  · exact .inl (List.mem_of_mem_take h)
  · exact .inr h
  · exact .inl (List.mem_of_mem_drop h)
theorem vcells_elemOf {cs : List VV} (h : cs.all vscal = true) : vcells (elemOf cs) = cs := by
  unfold elemOf
  split
  · rename_i x
    simp only [List.all_cons, List.all_nil, Bool.and_true] at h
    cases x <;> first | rfl | cases h
  · rfl

theorem vrow_some {H : VHeap} {b g : Nat} {es : List VV} {e : Nat} {w : Bool} : vrow H b g = some (es, e, w) ↔ H[b]? = some (.row g es e w) := by
  unfold vrow
  constructor
  · intro h
    split at h
    · rename_i hb
      split at h
      · rename_i hg; subst hg; cases h; exact hb
      · cases h
    · cases h
  · intro h
    rw [h]
    simp

end

/-! ### where a run stands, and what it has done -/
structure SR (V : View) (lo lop : Nat) : Prop where
  row : ∀ b g es e w, V.H[b]? = some (.row g es e w) → ∃ r p, V.P[V.m b]? = some (.row r e p) ∧ (∀ x ∈ es, (vcells x).length = e) ∧ VL V (es.flatMap vcells) r
  wr : ∀ b g es e, V.H[b]? = some (.row g es e true) → ¬ V.F (V.m b) ∧ (lo ≤ b → lop ≤ V.m b)
  inj : ∀ a b g es e w g' es' e' w', V.H[a]? = some (.row g es e w) → V.H[b]? = some (.row g' es' e' w') → V.m a = V.m b → a = b
  fr : ∀ b, V.F b → b < V.P.length
  lol : lop ≤ V.P.length
  bas : V.base ≤ V.P.length

structure Eff (lo : Nat) (V V' : View) : Prop extends Up V V' where
  keep : ∀ q, q < V.P.length → (∀ b g es e, V.H[b]? = some (.row g es e true) → lo ≤ b → V.m b ≠ q) → V'.P[q]? = V.P[q]?
  fnew : ∀ q, V'.F q → V.F q ∨ V.P.length ≤ q ∨ ∃ b g es e w, V.H[b]? = some (.row g es e w) ∧ V.m b = q

section
variable {V V' V'' : View} {lo : Nat}
theorem Eff.refl (lo : Nat) (V : View) : Eff lo V V :=
  { Up.refl V with keep := fun _ _ _ => rfl, fnew := fun _ h => .inl h }
theorem Eff.trans (h : Eff lo V V') (h' : Eff lo V' V'') : Eff lo V V'' :=
  { Up.trans h.toUp h'.toUp with
    keep := fun q hq hn => by
      rw [h'.keep q (Nat.lt_of_lt_of_le hq h.plen) ?_, h.keep q hq hn]
      intro b g es e hb hl hm
      obtain ⟨g1, es1, w1, h1, h2, h3⟩ := h.old b g es e true hb (by rw [hm]; exact hq)
      have := h3 rfl
      subst this
      exact hn b g1 es1 e h1 hl (h2.symm.trans hm)
    fnew := fun q hq => by
      rcases h'.fnew q hq with h1 | h1 | ⟨b, g, es, e, w, h1, h2⟩
      · exact h.fnew q h1
      · exact .inr (.inl (Nat.le_trans h.plen h1))
      · rcases Nat.lt_or_ge q V.P.length with hl | hl
        · obtain ⟨g1, es1, w1, h3, h4, _⟩ := h.old b g es e w h1 (by rw [h2]; exact hl)
          exact .inr (.inr ⟨b, g1, es1, e, w1, h3, h4.symm.trans h2⟩)
        · exact .inr (.inl hl) }
end
end Go.PM
