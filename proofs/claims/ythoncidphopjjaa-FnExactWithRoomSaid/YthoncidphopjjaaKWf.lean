/- Texts of a claim, in one: part 6. -/
import Derived.KernelRfl
import Derived.Test.YthoncidphopjjaaKWe

/- The pure machine's form of functions, as the settings give it: LH. -/
set_option linter.unusedSimpArgs false
set_option linter.unusedVariables false
namespace Go.PM
def laws_szCustomerS_c : PCode := (.seq (.reg [⟨(some 4), (.mv (.const (.int .i64 0))), none, false, []⟩]) (.seq (.reg [⟨(some 5), (.mv (.tmp 1)), none, false, []⟩, ⟨(some 6), (.mv (.tmp 0)), none, false, []⟩, ⟨(some 7), (.len (.tmp 6)), none, false, []⟩, ⟨(some 8), (.bin .sub (.tmp 5) (.tmp 7)), none, false, []⟩, ⟨(some 1), (.mv (.tmp 8)), none, false, []⟩]) (.seq (.seq (.reg [⟨(some 9), (.mv (.tmp 1)), none, false, []⟩, ⟨(some 10), (.bin .lss (.tmp 9) (.const (.int .i64 0))), none, false, []⟩]) (.cond (.tmp 10) (.seq (.reg [⟨(some 4), (.mv (.const (.int .i64 (-1)))), none, false, []⟩]) .ret) .skip)) (.seq (.reg [⟨(some 11), (.mv (.tmp 1)), none, false, []⟩, ⟨(some 4), (.mv (.tmp 11)), none, false, []⟩]) .ret))))
def laws_szCustomerS : PFunc := ⟨12, [(.tmp 4)], laws_szCustomerS_c⟩
theorem laws_szCustomerS_t : tab 5 = some laws_szCustomerS := by kernel_rfl
def laws_toCustomerS_b0 : PCode := (.seq (.seq (.reg [⟨(some 21), (.mv (.tmp 6)), none, false, []⟩, ⟨(some 22), (.mv (.tmp 0)), none, false, []⟩, ⟨(some 23), (.len (.tmp 22)), none, false, []⟩, ⟨(some 24), (.bin .lss (.tmp 21) (.tmp 23)), none, false, []⟩]) (.cond (.tmp 24) .skip (.exit 0))) (.seq (.block 1 (.reg [⟨(some 27), (.mv (.tmp 5)), none, false, []⟩, ⟨(some 28), (.mv (.tmp 6)), none, false, []⟩, ⟨(some 29), (.mv (.tmp 0)), none, false, []⟩, ⟨(some 30), (.mv (.tmp 6)), none, false, []⟩, ⟨(some 31), (.iaddr 3 (.tmp 29) (.tmp 30)), none, false, []⟩, ⟨(some 32), (.load true 3 (.tmp 31)), none, false, []⟩, ⟨(some 33), (.call 27 [(.tmp 32)]), none, false, []⟩, ⟨(some 34), (.iaddr 3 (.tmp 27) (.tmp 28)), none, false, []⟩, ⟨none, (.store 3 (.tmp 34) (.tmp 33)), none, false, []⟩])) (.reg [⟨(some 25), (.mv (.tmp 6)), none, false, []⟩, ⟨(some 26), (.bin .add (.tmp 25) (.const (.int .i64 1))), none, false, []⟩, ⟨(some 6), (.mv (.tmp 26)), none, false, []⟩])))
def laws_toCustomerS_b1 : PCode := (.seq (.seq (.reg [⟨(some 37), (.mv (.tmp 7)), none, false, []⟩, ⟨(some 38), (.mv (.tmp 5)), none, false, []⟩, ⟨(some 39), (.len (.tmp 38)), none, false, []⟩, ⟨(some 40), (.bin .lss (.tmp 37) (.tmp 39)), none, false, []⟩]) (.cond (.tmp 40) .skip (.exit 2))) (.seq (.block 3 (.reg [⟨(some 43), (.mv (.tmp 5)), none, false, []⟩, ⟨(some 44), (.mv (.tmp 7)), none, false, []⟩, ⟨(some 45), (.call 28 []), none, false, []⟩, ⟨(some 46), (.iaddr 3 (.tmp 43) (.tmp 44)), none, false, []⟩, ⟨none, (.store 3 (.tmp 46) (.tmp 45)), none, false, []⟩])) (.reg [⟨(some 41), (.mv (.tmp 7)), none, false, []⟩, ⟨(some 42), (.bin .add (.tmp 41) (.const (.int .i64 1))), none, false, []⟩, ⟨(some 7), (.mv (.tmp 42)), none, false, []⟩])))
def laws_toCustomerS_c : PCode := (.seq (.reg [⟨(some 4), (.mv (.const (.slice none 0 0))), none, false, []⟩]) (.seq (.seq (.reg [⟨(some 8), (.mv (.tmp 1)), none, false, []⟩, ⟨(some 9), (.mv (.tmp 8)), none, false, []⟩, ⟨(some 10), (.mv (.tmp 0)), (some (9, true)), false, []⟩, ⟨(some 11), (.len (.tmp 10)), (some (9, true)), false, []⟩, ⟨(some 12), (.bin .eql (.tmp 11) (.const (.int .i64 0))), (some (9, true)), false, []⟩, ⟨(some 13), (.pick (.tmp 9) (.tmp 12) (.const (.bool false))), none, false, []⟩]) (.cond (.tmp 13) (.seq (.reg [⟨(some 4), (.mv (.const (.slice none 0 0))), none, false, []⟩]) .ret) .skip)) (.seq (.reg [⟨(some 14), (.mv (.tmp 0)), none, false, []⟩, ⟨(some 15), (.len (.tmp 14)), none, false, []⟩, ⟨(some 16), (.mv (.tmp 0)), none, false, []⟩, ⟨(some 17), (.len (.tmp 16)), none, false, []⟩, ⟨(some 18), (.call 26 [(.tmp 17)]), none, false, []⟩, ⟨(some 19), (.bin .add (.tmp 15) (.tmp 18)), none, false, []⟩, ⟨(some 20), (.make [(.int .i64 0), (.int .i64 0), (.int .i64 0)] 24 (.tmp 19) (.tmp 19)), none, false, []⟩, ⟨(some 5), (.mv (.tmp 20)), none, false, []⟩]) (.seq (.seq (.reg [⟨(some 6), (.mv (.const (.int .i64 0))), none, false, []⟩]) (.block 0 (.loop laws_toCustomerS_b0))) (.seq (.seq (.reg [⟨(some 35), (.mv (.tmp 0)), none, false, []⟩, ⟨(some 36), (.len (.tmp 35)), none, false, []⟩, ⟨(some 7), (.mv (.tmp 36)), none, false, []⟩]) (.block 2 (.loop laws_toCustomerS_b1))) (.seq (.reg [⟨(some 47), (.mv (.tmp 5)), none, false, []⟩, ⟨(some 48), (.mv (.tmp 0)), none, false, []⟩, ⟨(some 49), (.len (.tmp 48)), none, false, []⟩, ⟨(some 50), (.sub 3 (.tmp 47) none (some (.tmp 49)) none), none, false, []⟩, ⟨(some 4), (.mv (.tmp 50)), none, false, []⟩]) .ret))))))
def laws_toCustomerS : PFunc := ⟨51, [(.tmp 4)], laws_toCustomerS_c⟩
theorem laws_toCustomerS_t : tab 7 = some laws_toCustomerS := by kernel_rfl
def laws_intactCustomerS_c : PCode := (.seq (.reg [⟨(some 4), (.mv (.const (.bool false))), none, false, []⟩]) (.seq (.reg [⟨(some 6), (.mv (.tmp 1)), none, false, []⟩, ⟨(some 7), (.len (.tmp 6)), none, false, []⟩, ⟨(some 8), (.mv (.tmp 1)), none, false, []⟩, ⟨(some 9), (.len (.tmp 8)), none, false, []⟩, ⟨(some 10), (.call 26 [(.tmp 9)]), none, false, []⟩, ⟨(some 11), (.bin .add (.tmp 7) (.tmp 10)), none, false, []⟩, ⟨(some 5), (.mv (.tmp 11)), none, false, []⟩]) (.seq (.reg [⟨(some 12), (.mv (.tmp 0)), none, false, []⟩, ⟨(some 13), (.len (.tmp 12)), none, false, []⟩, ⟨(some 14), (.mv (.tmp 1)), none, false, []⟩, ⟨(some 15), (.len (.tmp 14)), none, false, []⟩, ⟨(some 16), (.bin .eql (.tmp 13) (.tmp 15)), none, false, []⟩, ⟨(some 17), (.mv (.tmp 16)), none, false, []⟩, ⟨(some 18), (.mv (.tmp 0)), (some (17, true)), false, []⟩, ⟨(some 19), (.mv (.tmp 5)), (some (17, true)), false, []⟩, ⟨(some 20), (.sub 3 (.tmp 18) none (some (.tmp 19)) none), (some (17, true)), false, []⟩, ⟨(some 21), (.mv (.tmp 1)), (some (17, true)), false, []⟩, ⟨(some 22), (.mv (.tmp 5)), (some (17, true)), false, []⟩, ⟨(some 23), (.sub 3 (.tmp 21) none (some (.tmp 22)) none), (some (17, true)), false, []⟩, ⟨(some 24), (.call 34 [(.tmp 20), (.tmp 23)]), (some (17, true)), true, []⟩, ⟨(some 25), (.pick (.tmp 17) (.tmp 24) (.const (.bool false))), none, false, []⟩, ⟨(some 4), (.mv (.tmp 25)), none, false, []⟩]) .ret)))
def laws_intactCustomerS : PFunc := ⟨26, [(.tmp 4)], laws_intactCustomerS_c⟩
theorem laws_intactCustomerS_t : tab 10 = some laws_intactCustomerS := by kernel_rfl
def laws_markCustomerS_b0 : PCode := (.seq (.seq (.reg [⟨(some 6), (.mv (.tmp 5)), none, false, []⟩, ⟨(some 7), (.mv (.tmp 0)), none, false, []⟩, ⟨(some 8), (.len (.tmp 7)), none, false, []⟩, ⟨(some 9), (.bin .lss (.tmp 6) (.tmp 8)), none, false, []⟩]) (.cond (.tmp 9) .skip (.exit 0))) (.seq (.block 1 (.seq (.reg [⟨(some 12), (.mv (.tmp 0)), none, false, []⟩, ⟨(some 13), (.mv (.tmp 5)), none, false, []⟩, ⟨(some 14), (.mv (.tmp 1)), none, false, []⟩, ⟨(some 15), (.iaddr 3 (.tmp 12) (.tmp 13)), none, false, []⟩, ⟨(some 16), (.faddr 0 (.tmp 15)), none, false, []⟩, ⟨none, (.store 1 (.tmp 16) (.tmp 14)), none, false, []⟩]) (.seq (.reg [⟨(some 17), (.mv (.tmp 1)), none, false, []⟩, ⟨(some 18), (.bin .add (.tmp 17) (.const (.int .i64 1))), none, false, []⟩, ⟨(some 1), (.mv (.tmp 18)), none, false, []⟩]) (.seq (.reg [⟨(some 19), (.mv (.tmp 0)), none, false, []⟩, ⟨(some 20), (.mv (.tmp 5)), none, false, []⟩, ⟨(some 21), (.mv (.tmp 1)), none, false, []⟩, ⟨(some 22), (.iaddr 3 (.tmp 19) (.tmp 20)), none, false, []⟩, ⟨(some 23), (.faddr 1 (.tmp 22)), none, false, []⟩, ⟨none, (.store 1 (.tmp 23) (.tmp 21)), none, false, []⟩]) (.seq (.reg [⟨(some 24), (.mv (.tmp 1)), none, false, []⟩, ⟨(some 25), (.bin .add (.tmp 24) (.const (.int .i64 1))), none, false, []⟩, ⟨(some 1), (.mv (.tmp 25)), none, false, []⟩]) (.seq (.reg [⟨(some 26), (.mv (.tmp 0)), none, false, []⟩, ⟨(some 27), (.mv (.tmp 5)), none, false, []⟩, ⟨(some 28), (.mv (.tmp 1)), none, false, []⟩, ⟨(some 29), (.iaddr 3 (.tmp 26) (.tmp 27)), none, false, []⟩, ⟨(some 30), (.faddr 2 (.tmp 29)), none, false, []⟩, ⟨none, (.store 1 (.tmp 30) (.tmp 28)), none, false, []⟩]) (.reg [⟨(some 31), (.mv (.tmp 1)), none, false, []⟩, ⟨(some 32), (.bin .add (.tmp 31) (.const (.int .i64 1))), none, false, []⟩, ⟨(some 1), (.mv (.tmp 32)), none, false, []⟩]))))))) (.reg [⟨(some 10), (.mv (.tmp 5)), none, false, []⟩, ⟨(some 11), (.bin .add (.tmp 10) (.const (.int .i64 1))), none, false, []⟩, ⟨(some 5), (.mv (.tmp 11)), none, false, []⟩])))
def laws_markCustomerS_c : PCode := (.seq (.reg [⟨(some 4), (.mv (.const (.int .i64 0))), none, false, []⟩]) (.seq (.seq (.reg [⟨(some 5), (.mv (.const (.int .i64 0))), none, false, []⟩]) (.block 0 (.loop laws_markCustomerS_b0))) (.seq (.reg [⟨(some 33), (.mv (.tmp 1)), none, false, []⟩, ⟨(some 4), (.mv (.tmp 33)), none, false, []⟩]) .ret)))
def laws_markCustomerS : PFunc := ⟨34, [(.tmp 4)], laws_markCustomerS_c⟩
theorem laws_markCustomerS_t : tab 11 = some laws_markCustomerS := by kernel_rfl
def laws_markInt64S_b0 : PCode := (.seq (.seq (.reg [⟨(some 6), (.mv (.tmp 5)), none, false, []⟩, ⟨(some 7), (.mv (.tmp 0)), none, false, []⟩, ⟨(some 8), (.len (.tmp 7)), none, false, []⟩, ⟨(some 9), (.bin .lss (.tmp 6) (.tmp 8)), none, false, []⟩]) (.cond (.tmp 9) .skip (.exit 0))) (.seq (.block 1 (.seq (.reg [⟨(some 12), (.mv (.tmp 0)), none, false, []⟩, ⟨(some 13), (.mv (.tmp 5)), none, false, []⟩, ⟨(some 14), (.mv (.tmp 1)), none, false, []⟩, ⟨(some 15), (.iaddr 1 (.tmp 12) (.tmp 13)), none, false, []⟩, ⟨none, (.store 1 (.tmp 15) (.tmp 14)), none, false, []⟩]) (.reg [⟨(some 16), (.mv (.tmp 1)), none, false, []⟩, ⟨(some 17), (.bin .add (.tmp 16) (.const (.int .i64 1))), none, false, []⟩, ⟨(some 1), (.mv (.tmp 17)), none, false, []⟩]))) (.reg [⟨(some 10), (.mv (.tmp 5)), none, false, []⟩, ⟨(some 11), (.bin .add (.tmp 10) (.const (.int .i64 1))), none, false, []⟩, ⟨(some 5), (.mv (.tmp 11)), none, false, []⟩])))
def laws_markInt64S_c : PCode := (.seq (.reg [⟨(some 4), (.mv (.const (.int .i64 0))), none, false, []⟩]) (.seq (.seq (.reg [⟨(some 5), (.mv (.const (.int .i64 0))), none, false, []⟩]) (.block 0 (.loop laws_markInt64S_b0))) (.seq (.reg [⟨(some 18), (.mv (.tmp 1)), none, false, []⟩, ⟨(some 4), (.mv (.tmp 18)), none, false, []⟩]) .ret)))
def laws_markInt64S : PFunc := ⟨19, [(.tmp 4)], laws_markInt64S_c⟩
theorem laws_markInt64S_t : tab 12 = some laws_markInt64S := by kernel_rfl
def laws_roomBehind_c : PCode := (.seq (.reg [⟨(some 2), (.mv (.const (.int .i64 0))), none, false, []⟩]) (.seq (.seq (.reg [⟨(some 3), (.mv (.tmp 0)), none, false, []⟩, ⟨(some 4), (.bin .rem (.tmp 3) (.const (.int .i64 6))), none, false, []⟩, ⟨(some 5), (.bin .eql (.tmp 4) (.const (.int .i64 5))), none, false, []⟩]) (.cond (.tmp 5) (.seq (.reg [⟨(some 2), (.mv (.const (.int .i64 0))), none, false, []⟩]) .ret) .skip)) (.seq (.seq (.reg [⟨(some 6), (.mv (.tmp 0)), none, false, []⟩, ⟨(some 7), (.bin .rem (.tmp 6) (.const (.int .i64 3))), none, false, []⟩, ⟨(some 8), (.bin .eql (.tmp 7) (.const (.int .i64 0))), none, false, []⟩]) (.cond (.tmp 8) (.seq (.reg [⟨(some 2), (.mv (.const (.int .i64 1))), none, false, []⟩]) .ret) .skip)) (.seq (.reg [⟨(some 9), (.mv (.tmp 0)), none, false, []⟩, ⟨(some 2), (.mv (.tmp 9)), none, false, []⟩]) .ret))))
def laws_roomBehind : PFunc := ⟨10, [(.tmp 2)], laws_roomBehind_c⟩
theorem laws_roomBehind_t : tab 26 = some laws_roomBehind := by kernel_rfl
def laws_toCustomer_c : PCode := (.seq (.reg [⟨(some 1), (.box (.tmp 0)), none, false, []⟩, ⟨(some 2), (.new [(.int .i64 0), (.int .i64 0), (.int .i64 0)]), none, false, []⟩]) (.seq (.reg [⟨(some 3), (.new [(.int .i64 0), (.int .i64 0), (.int .i64 0)]), none, false, []⟩]) (.seq (.reg [⟨(some 4), (.faddr 0 (.tmp 1)), none, false, []⟩, ⟨(some 5), (.load false 1 (.tmp 4)), none, false, []⟩, ⟨(some 6), (.faddr 0 (.tmp 3)), none, false, []⟩, ⟨none, (.store 1 (.tmp 6) (.tmp 5)), none, false, []⟩]) (.seq (.reg [⟨(some 7), (.faddr 1 (.tmp 1)), none, false, []⟩, ⟨(some 8), (.load false 1 (.tmp 7)), none, false, []⟩, ⟨(some 9), (.faddr 1 (.tmp 3)), none, false, []⟩, ⟨none, (.store 1 (.tmp 9) (.tmp 8)), none, false, []⟩]) (.seq (.reg [⟨(some 10), (.faddr 2 (.tmp 1)), none, false, []⟩, ⟨(some 11), (.load false 1 (.tmp 10)), none, false, []⟩, ⟨(some 12), (.faddr 2 (.tmp 3)), none, false, []⟩, ⟨none, (.store 1 (.tmp 12) (.tmp 11)), none, false, []⟩]) (.seq (.reg [⟨(some 13), (.load true 3 (.tmp 3)), none, false, []⟩, ⟨none, (.store 3 (.tmp 2) (.tmp 13)), none, false, []⟩]) .ret))))))
def laws_toCustomer : PFunc := ⟨14, [(.cell 2 true 3)], laws_toCustomer_c⟩
theorem laws_toCustomer_t : tab 27 = some laws_toCustomer := by kernel_rfl
def laws_fillerCustomer_c : PCode := (.seq (.reg [⟨(some 0), (.new [(.int .i64 0), (.int .i64 0), (.int .i64 0)]), none, false, []⟩]) (.seq (.reg [⟨(some 1), (.build [(.int .i64 0), (.int .i64 0), (.int .i64 0)] [(0, 1), (1, 1), (2, 1)] [(0, (.const (.int .i64 (-7000000000000000101)))), (1, (.const (.int .i64 (-7000000000000000101)))), (2, (.const (.int .i64 (-7000000000000000101))))]), none, false, []⟩, ⟨none, (.store 3 (.tmp 0) (.tmp 1)), none, false, []⟩]) .ret))
def laws_fillerCustomer : PFunc := ⟨2, [(.cell 0 true 3)], laws_fillerCustomer_c⟩
theorem laws_fillerCustomer_t : tab 28 = some laws_fillerCustomer := by kernel_rfl
def laws_eqCustomerS_b0 : PCode := (.seq (.seq (.reg [⟨(some 11), (.mv (.tmp 5)), none, false, []⟩, ⟨(some 12), (.mv (.tmp 0)), none, false, []⟩, ⟨(some 13), (.len (.tmp 12)), none, false, []⟩, ⟨(some 14), (.bin .lss (.tmp 11) (.tmp 13)), none, false, []⟩]) (.cond (.tmp 14) .skip (.exit 0))) (.seq (.block 1 (.seq (.reg [⟨(some 17), (.mv (.tmp 0)), none, false, []⟩, ⟨(some 18), (.mv (.tmp 5)), none, false, []⟩, ⟨(some 19), (.iaddr 3 (.tmp 17) (.tmp 18)), none, false, []⟩, ⟨(some 20), (.load true 3 (.tmp 19)), none, false, []⟩, ⟨(some 21), (.mv (.tmp 1)), none, false, []⟩, ⟨(some 22), (.mv (.tmp 5)), none, false, []⟩, ⟨(some 23), (.iaddr 3 (.tmp 21) (.tmp 22)), none, false, []⟩, ⟨(some 24), (.load true 3 (.tmp 23)), none, false, []⟩, ⟨(some 25), (.call 50 [(.tmp 20), (.tmp 24)]), none, true, []⟩, ⟨(some 26), (.un .not (.tmp 25)), none, false, []⟩]) (.cond (.tmp 26) (.seq (.reg [⟨(some 4), (.mv (.const (.bool false))), none, false, []⟩]) .ret) .skip))) (.reg [⟨(some 15), (.mv (.tmp 5)), none, false, []⟩, ⟨(some 16), (.bin .add (.tmp 15) (.const (.int .i64 1))), none, false, []⟩, ⟨(some 5), (.mv (.tmp 16)), none, false, []⟩])))
def laws_eqCustomerS_c : PCode := (.seq (.reg [⟨(some 4), (.mv (.const (.bool false))), none, false, []⟩]) (.seq (.seq (.reg [⟨(some 6), (.mv (.tmp 0)), none, false, []⟩, ⟨(some 7), (.len (.tmp 6)), none, false, []⟩, ⟨(some 8), (.mv (.tmp 1)), none, false, []⟩, ⟨(some 9), (.len (.tmp 8)), none, false, []⟩, ⟨(some 10), (.bin .neq (.tmp 7) (.tmp 9)), none, false, []⟩]) (.cond (.tmp 10) (.seq (.reg [⟨(some 4), (.mv (.const (.bool false))), none, false, []⟩]) .ret) .skip)) (.seq (.seq (.reg [⟨(some 5), (.mv (.const (.int .i64 0))), none, false, []⟩]) (.block 0 (.loop laws_eqCustomerS_b0))) (.seq (.reg [⟨(some 4), (.mv (.const (.bool true))), none, false, []⟩]) .ret))))
def laws_eqCustomerS : PFunc := ⟨27, [(.tmp 4)], laws_eqCustomerS_c⟩
theorem laws_eqCustomerS_t : tab 34 = some laws_eqCustomerS := by kernel_rfl
def laws_eqInt64S_b0 : PCode := (.seq (.seq (.reg [⟨(some 11), (.mv (.tmp 5)), none, false, []⟩, ⟨(some 12), (.mv (.tmp 0)), none, false, []⟩, ⟨(some 13), (.len (.tmp 12)), none, false, []⟩, ⟨(some 14), (.bin .lss (.tmp 11) (.tmp 13)), none, false, []⟩]) (.cond (.tmp 14) .skip (.exit 0))) (.seq (.block 1 (.seq (.reg [⟨(some 17), (.mv (.tmp 0)), none, false, []⟩, ⟨(some 18), (.mv (.tmp 5)), none, false, []⟩, ⟨(some 19), (.iaddr 1 (.tmp 17) (.tmp 18)), none, false, []⟩, ⟨(some 20), (.load false 1 (.tmp 19)), none, false, []⟩, ⟨(some 21), (.mv (.tmp 1)), none, false, []⟩, ⟨(some 22), (.mv (.tmp 5)), none, false, []⟩, ⟨(some 23), (.iaddr 1 (.tmp 21) (.tmp 22)), none, false, []⟩, ⟨(some 24), (.load false 1 (.tmp 23)), none, false, []⟩, ⟨(some 25), (.bin .neq (.tmp 20) (.tmp 24)), none, false, []⟩]) (.cond (.tmp 25) (.seq (.reg [⟨(some 4), (.mv (.const (.bool false))), none, false, []⟩]) .ret) .skip))) (.reg [⟨(some 15), (.mv (.tmp 5)), none, false, []⟩, ⟨(some 16), (.bin .add (.tmp 15) (.const (.int .i64 1))), none, false, []⟩, ⟨(some 5), (.mv (.tmp 16)), none, false, []⟩])))
def laws_eqInt64S_c : PCode := (.seq (.reg [⟨(some 4), (.mv (.const (.bool false))), none, false, []⟩]) (.seq (.seq (.reg [⟨(some 6), (.mv (.tmp 0)), none, false, []⟩, ⟨(some 7), (.len (.tmp 6)), none, false, []⟩, ⟨(some 8), (.mv (.tmp 1)), none, false, []⟩, ⟨(some 9), (.len (.tmp 8)), none, false, []⟩, ⟨(some 10), (.bin .neq (.tmp 7) (.tmp 9)), none, false, []⟩]) (.cond (.tmp 10) (.seq (.reg [⟨(some 4), (.mv (.const (.bool false))), none, false, []⟩]) .ret) .skip)) (.seq (.seq (.reg [⟨(some 5), (.mv (.const (.int .i64 0))), none, false, []⟩]) (.block 0 (.loop laws_eqInt64S_b0))) (.seq (.reg [⟨(some 4), (.mv (.const (.bool true))), none, false, []⟩]) .ret))))
def laws_eqInt64S : PFunc := ⟨26, [(.tmp 4)], laws_eqInt64S_c⟩
theorem laws_eqInt64S_t : tab 9 = some laws_eqInt64S := by kernel_rfl
def laws_eqCustomer_c : PCode := (.seq (.reg [⟨(some 2), (.box (.tmp 0)), none, false, []⟩, ⟨(some 3), (.box (.tmp 1)), none, false, []⟩, ⟨(some 4), (.mv (.const (.bool false))), none, false, []⟩]) (.seq (.seq (.reg [⟨(some 5), (.faddr 0 (.tmp 2)), none, false, []⟩, ⟨(some 6), (.load false 1 (.tmp 5)), none, false, []⟩, ⟨(some 7), (.faddr 0 (.tmp 3)), none, false, []⟩, ⟨(some 8), (.load false 1 (.tmp 7)), none, false, []⟩, ⟨(some 9), (.bin .neq (.tmp 6) (.tmp 8)), none, false, []⟩]) (.cond (.tmp 9) (.seq (.reg [⟨(some 4), (.mv (.const (.bool false))), none, false, []⟩]) .ret) .skip)) (.seq (.seq (.reg [⟨(some 10), (.faddr 1 (.tmp 2)), none, false, []⟩, ⟨(some 11), (.load false 1 (.tmp 10)), none, false, []⟩, ⟨(some 12), (.faddr 1 (.tmp 3)), none, false, []⟩, ⟨(some 13), (.load false 1 (.tmp 12)), none, false, []⟩, ⟨(some 14), (.bin .neq (.tmp 11) (.tmp 13)), none, false, []⟩]) (.cond (.tmp 14) (.seq (.reg [⟨(some 4), (.mv (.const (.bool false))), none, false, []⟩]) .ret) .skip)) (.seq (.seq (.reg [⟨(some 15), (.faddr 2 (.tmp 2)), none, false, []⟩, ⟨(some 16), (.load false 1 (.tmp 15)), none, false, []⟩, ⟨(some 17), (.faddr 2 (.tmp 3)), none, false, []⟩, ⟨(some 18), (.load false 1 (.tmp 17)), none, false, []⟩, ⟨(some 19), (.bin .neq (.tmp 16) (.tmp 18)), none, false, []⟩]) (.cond (.tmp 19) (.seq (.reg [⟨(some 4), (.mv (.const (.bool false))), none, false, []⟩]) .ret) .skip)) (.seq (.reg [⟨(some 4), (.mv (.const (.bool true))), none, false, []⟩]) .ret)))))
def laws_eqCustomer : PFunc := ⟨20, [(.tmp 4)], laws_eqCustomer_c⟩
theorem laws_eqCustomer_t : tab 50 = some laws_eqCustomer := by kernel_rfl
def laws_heldInt64S_b0 : PCode := (.seq (.seq (.reg [⟨(some 6), (.mv (.tmp 5)), none, false, []⟩, ⟨(some 7), (.mv (.tmp 0)), none, false, []⟩, ⟨(some 8), (.len (.tmp 7)), none, false, []⟩, ⟨(some 9), (.bin .lss (.tmp 6) (.tmp 8)), none, false, []⟩]) (.cond (.tmp 9) .skip (.exit 0))) (.seq (.block 1 (.seq (.seq (.reg [⟨(some 12), (.mv (.tmp 0)), none, false, []⟩, ⟨(some 13), (.mv (.tmp 5)), none, false, []⟩, ⟨(some 14), (.iaddr 1 (.tmp 12) (.tmp 13)), none, false, []⟩, ⟨(some 15), (.load false 1 (.tmp 14)), none, false, []⟩, ⟨(some 16), (.mv (.tmp 1)), none, false, []⟩, ⟨(some 17), (.bin .neq (.tmp 15) (.tmp 16)), none, false, []⟩]) (.cond (.tmp 17) (.seq (.reg [⟨(some 4), (.mv (.const (.int .i64 (-1)))), none, false, []⟩]) .ret) .skip)) (.reg [⟨(some 18), (.mv (.tmp 1)), none, false, []⟩, ⟨(some 19), (.bin .add (.tmp 18) (.const (.int .i64 1))), none, false, []⟩, ⟨(some 1), (.mv (.tmp 19)), none, false, []⟩]))) (.reg [⟨(some 10), (.mv (.tmp 5)), none, false, []⟩, ⟨(some 11), (.bin .add (.tmp 10) (.const (.int .i64 1))), none, false, []⟩, ⟨(some 5), (.mv (.tmp 11)), none, false, []⟩])))
def laws_heldInt64S_c : PCode := (.seq (.reg [⟨(some 4), (.mv (.const (.int .i64 0))), none, false, []⟩]) (.seq (.seq (.reg [⟨(some 5), (.mv (.const (.int .i64 0))), none, false, []⟩]) (.block 0 (.loop laws_heldInt64S_b0))) (.seq (.reg [⟨(some 20), (.mv (.tmp 1)), none, false, []⟩, ⟨(some 4), (.mv (.tmp 20)), none, false, []⟩]) .ret)))
def laws_heldInt64S : PFunc := ⟨21, [(.tmp 4)], laws_heldInt64S_c⟩
theorem laws_heldInt64S_t : tab 13 = some laws_heldInt64S := by kernel_rfl
def laws_b10Long_c : PCode := (.seq (.reg [⟨(some 4), (.mv (.const (.bool false))), none, false, []⟩]) (.seq (.reg [⟨(some 5), (.mv (.tmp 0)), none, false, []⟩, ⟨(some 6), (.len (.tmp 5)), none, false, []⟩, ⟨(some 7), (.bin .gtr (.tmp 6) (.const (.int .i64 1048576))), none, false, []⟩, ⟨(some 8), (.mv (.tmp 7)), none, false, []⟩, ⟨(some 9), (.mv (.tmp 1)), (some (8, false)), false, []⟩, ⟨(some 10), (.len (.tmp 9)), (some (8, false)), false, []⟩, ⟨(some 11), (.bin .gtr (.tmp 10) (.const (.int .i64 1048576))), (some (8, false)), false, []⟩, ⟨(some 12), (.pick (.tmp 8) (.const (.bool true)) (.tmp 11)), none, false, []⟩, ⟨(some 4), (.mv (.tmp 12)), none, false, []⟩]) .ret))
def laws_b10Long : PFunc := ⟨13, [(.tmp 4)], laws_b10Long_c⟩
theorem laws_b10Long_t : tab 14 = some laws_b10Long := by kernel_rfl
def laws_b10At_c : PCode := (.seq (.reg [⟨(some 6), (.mv (.const (.int .i64 0))), none, false, []⟩]) (.seq (.seq (.reg [⟨(some 7), (.mv (.tmp 2)), none, false, []⟩, ⟨(some 8), (.bin .leq (.tmp 7) (.const (.int .i64 1))), none, false, []⟩]) (.cond (.tmp 8) (.seq (.reg [⟨(some 6), (.mv (.const (.int .i64 0))), none, false, []⟩]) .ret) .skip)) (.seq (.seq (.reg [⟨(some 9), (.mv (.tmp 1)), none, false, []⟩, ⟨(some 10), (.mv (.tmp 0)), none, false, []⟩, ⟨(some 11), (.len (.tmp 10)), none, false, []⟩, ⟨(some 12), (.bin .lss (.tmp 9) (.tmp 11)), none, false, []⟩]) (.cond (.tmp 12) (.seq (.reg [⟨(some 13), (.mv (.tmp 0)), none, false, []⟩, ⟨(some 14), (.mv (.tmp 1)), none, false, []⟩, ⟨(some 15), (.iaddr 1 (.tmp 13) (.tmp 14)), none, false, []⟩, ⟨(some 16), (.load false 1 (.tmp 15)), none, false, []⟩, ⟨(some 17), (.cvt .i64 (.tmp 16)), none, false, []⟩, ⟨(some 18), (.mv (.tmp 2)), none, false, []⟩, ⟨(some 19), (.bin .rem (.tmp 17) (.tmp 18)), none, false, []⟩, ⟨(some 6), (.mv (.tmp 19)), none, false, []⟩]) .ret) .skip)) (.seq (.reg [⟨(some 20), (.mv (.tmp 1)), none, false, []⟩, ⟨(some 21), (.bin .mul (.tmp 20) (.const (.int .i64 37))), none, false, []⟩, ⟨(some 22), (.bin .add (.tmp 21) (.const (.int .i64 11))), none, false, []⟩, ⟨(some 23), (.mv (.tmp 2)), none, false, []⟩, ⟨(some 24), (.bin .rem (.tmp 22) (.tmp 23)), none, false, []⟩, ⟨(some 6), (.mv (.tmp 24)), none, false, []⟩]) .ret))))
def laws_b10At : PFunc := ⟨25, [(.tmp 6)], laws_b10At_c⟩
theorem laws_b10At_t : tab 16 = some laws_b10At := by kernel_rfl
def laws_b10Nums_b0 : PCode := (.seq (.seq (.reg [⟨(some 11), (.mv (.tmp 5)), none, false, []⟩, ⟨(some 12), (.mv (.tmp 0)), none, false, []⟩, ⟨(some 13), (.len (.tmp 12)), none, false, []⟩, ⟨(some 14), (.bin .lss (.tmp 11) (.tmp 13)), none, false, []⟩]) (.cond (.tmp 14) .skip (.exit 0))) (.seq (.block 1 (.seq (.reg [⟨(some 17), (.mv (.tmp 0)), none, false, []⟩, ⟨(some 18), (.mv (.tmp 5)), none, false, []⟩, ⟨(some 19), (.iaddr 1 (.tmp 17) (.tmp 18)), none, false, []⟩, ⟨(some 20), (.load false 1 (.tmp 19)), none, false, []⟩, ⟨(some 21), (.mv (.tmp 1)), none, false, []⟩, ⟨(some 22), (.mv (.tmp 5)), none, false, []⟩, ⟨(some 23), (.iaddr 1 (.tmp 21) (.tmp 22)), none, false, []⟩, ⟨(some 24), (.load false 1 (.tmp 23)), none, false, []⟩, ⟨(some 25), (.bin .neq (.tmp 20) (.tmp 24)), none, false, []⟩]) (.cond (.tmp 25) (.seq (.reg [⟨(some 4), (.mv (.const (.bool false))), none, false, []⟩]) .ret) .skip))) (.reg [⟨(some 15), (.mv (.tmp 5)), none, false, []⟩, ⟨(some 16), (.bin .add (.tmp 15) (.const (.int .i64 1))), none, false, []⟩, ⟨(some 5), (.mv (.tmp 16)), none, false, []⟩])))
def laws_b10Nums_c : PCode := (.seq (.reg [⟨(some 4), (.mv (.const (.bool false))), none, false, []⟩]) (.seq (.seq (.reg [⟨(some 6), (.mv (.tmp 0)), none, false, []⟩, ⟨(some 7), (.len (.tmp 6)), none, false, []⟩, ⟨(some 8), (.mv (.tmp 1)), none, false, []⟩, ⟨(some 9), (.len (.tmp 8)), none, false, []⟩, ⟨(some 10), (.bin .neq (.tmp 7) (.tmp 9)), none, false, []⟩]) (.cond (.tmp 10) (.seq (.reg [⟨(some 4), (.mv (.const (.bool false))), none, false, []⟩]) .ret) .skip)) (.seq (.seq (.reg [⟨(some 5), (.mv (.const (.int .i64 0))), none, false, []⟩]) (.block 0 (.loop laws_b10Nums_b0))) (.seq (.reg [⟨(some 4), (.mv (.const (.bool true))), none, false, []⟩]) .ret))))
def laws_b10Nums : PFunc := ⟨26, [(.tmp 4)], laws_b10Nums_c⟩
theorem laws_b10Nums_t : tab 18 = some laws_b10Nums := by kernel_rfl
def laws_b10Has_b0 : PCode := (.seq (.reg [⟨(some 9), (.bin .lss (.tmp 8) (.tmp 7)), none, false, []⟩]) (.seq (.cond (.tmp 9) .skip (.exit 0)) (.seq (.block 1 (.seq (.reg [⟨(some 10), (.mv (.tmp 8)), none, false, []⟩, ⟨(some 5), (.mv (.tmp 10)), none, false, []⟩]) (.seq (.reg [⟨(some 11), (.mv (.tmp 0)), none, false, []⟩, ⟨(some 12), (.mv (.tmp 5)), none, false, []⟩, ⟨(some 13), (.iaddr 1 (.tmp 11) (.tmp 12)), none, false, []⟩, ⟨(some 14), (.load false 1 (.tmp 13)), none, false, []⟩, ⟨(some 15), (.mv (.tmp 1)), none, false, []⟩, ⟨(some 16), (.bin .eql (.tmp 14) (.tmp 15)), none, false, []⟩]) (.cond (.tmp 16) (.seq (.reg [⟨(some 4), (.mv (.const (.bool true))), none, false, []⟩]) .ret) .skip)))) (.reg [⟨(some 17), (.bin .add (.tmp 8) (.const (.int .i64 1))), none, false, []⟩, ⟨(some 8), (.mv (.tmp 17)), none, false, []⟩]))))
def laws_b10Has_c : PCode := (.seq (.reg [⟨(some 4), (.mv (.const (.bool false))), none, false, []⟩]) (.seq (.seq (.reg [⟨(some 6), (.mv (.tmp 0)), none, false, []⟩, ⟨(some 7), (.len (.tmp 6)), none, false, []⟩, ⟨(some 8), (.mv (.const (.int .i64 0))), none, false, []⟩]) (.block 0 (.loop laws_b10Has_b0))) (.seq (.reg [⟨(some 4), (.mv (.const (.bool false))), none, false, []⟩]) .ret)))
def laws_b10Has : PFunc := ⟨18, [(.tmp 4)], laws_b10Has_c⟩
theorem laws_b10Has_t : tab 19 = some laws_b10Has := by kernel_rfl
end Go.PM

/- A function that looks at trees and hands back rows of its own: called where the trees are rows. -/
namespace Go.PM

mutual
/-- Values that hold rows from n on, and no trees. -/
def ownV (n : Nat) : VV → Bool
  | .any => false
  | .sc v => isSc v
  | .agg cs => ownL n cs
  | .tup vs => ownL n vs
  | .tree es k => es.isEmpty && decide (k = .nil)
  | .tptr _ _ => false
  | .ref b _ _ _ _ => decide (n ≤ b)
  | .ptr b _ _ _ => decide (n ≤ b)
  | .clo _ _ => false
def ownL (n : Nat) : List VV → Bool
  | [] => true
  | x :: xs => ownV n x && ownL n xs
end
theorem ownL_mem {n : Nat} {es : List VV} : ownL n es = true ↔ ∀ x ∈ es, ownV n x = true := by
  induction es with
  | nil => simp [ownL]
  | cons x xs ih => simp [ownL, ih]
theorem ownL_flat {n : Nat} {es : List VV} (h : ownL n es = true) : ownL n (es.flatMap vcells) = true := by
  rw [ownL_mem] at h ⊢
  intro x hx
  obtain ⟨y, hy, hxy⟩ := List.mem_flatMap.1 hx
  have := h y hy
  unfold vcells at hxy
  split at hxy
  · exact ownL_mem.1 (by simpa [ownV] using this) x hxy
  · rw [List.mem_singleton] at hxy; subst hxy; exact this
def rowsOwn (n : Nat) (L : VHeap) : Bool := L.all fun
  | .row _ es _ _ => ownL n es
  | .dead => true

theorem VR.own {V V' : View} {k0 : Nat} (hq0 : ∀ q, V.base ≤ q ∧ q < V.P.length → V'.base ≤ q ∧ q < V'.P.length ∧ ∀ b' g' es e w, b' < k0 → V'.H[b']? = some (.row g' es e w) → V'.m b' ≠ q) (hl : V.H.length ≤ V'.H.length) (hH : ∀ b, k0 ≤ b → V'.H[b]? = V.H[b]?) (hm : ∀ b, k0 ≤ b → V'.m b = V.m b) {x : VV} {v : Value} (h : VR V x v) : ownV k0 x = true → VR V' x v := by
  induction h using VR.rec (motive_2 := fun xs vs _ => ownL k0 xs = true → VL V' xs vs) with
  | any => intro hx; cases hx
  | sc _ h => intro _; exact .sc _ h
  | agg cs ps _ ih => intro hx; exact .agg _ _ (ih hx)
  | tup cs ps _ ih => intro hx; exact .tup _ _ (ih hx)
  | tnil k hk => intro _; exact .tnil k hk
  | tree es k b o c r e p hF hb ho hc he hk _ _ =>
    intro hx
    simp only [ownV, Bool.and_eq_true, decide_eq_true_eq] at hx
    obtain ⟨_, rfl⟩ := hx
    exact hk.elim
  | tptr => intro hx; cases hx
  | ref b g o n c a n' c' hlt hg ha hq =>
    intro hx
    have hb : k0 ≤ b := by simpa [ownV] using hx
    exact .ref b g o n c a n' c' (Nat.lt_of_lt_of_le hlt hl) (fun g' es e w hr => hg g' es e w (by rw [← hH b hb]; exact hr)) (fun es e w hr => by rw [hm b hb]; exact ha es e w (by rw [← hH b hb]; exact hr)) fun a0 h => by
      obtain ⟨q1, q2, q3⟩ := hq a0 h
      obtain ⟨q4, q5, q6⟩ := hq0 _ ⟨q1, q2⟩
      refine ⟨q4, q5, fun b' g' es e w hr hne => ?_⟩
      rcases Nat.lt_or_ge b' k0 with hlt' | hge
      · exact q6 b' g' es e w hlt' hr
      · rw [hm b' hge]
        exact q3 b' g' es e w (by rw [← hH b' hge]; exact hr) hne
  | ptr b g j off a hlt hg ha hq =>
    intro hx
    have hb : k0 ≤ b := by simpa [ownV] using hx
    exact .ptr b g j off a (Nat.lt_of_lt_of_le hlt hl) (fun g' es e w hr => hg g' es e w (by rw [← hH b hb]; exact hr)) (fun es e w hr => by rw [hm b hb]; exact ha es e w (by rw [← hH b hb]; exact hr)) fun a0 h => by
      obtain ⟨q1, q2, q3⟩ := hq a0 h
      obtain ⟨q4, q5, q6⟩ := hq0 _ ⟨q1, q2⟩
      refine ⟨q4, q5, fun b' g' es e w hr hne => ?_⟩
      rcases Nat.lt_or_ge b' k0 with hlt' | hge
      · exact q6 b' g' es e w hlt' hr
      · rw [hm b' hge]
        exact q3 b' g' es e w (by rw [← hH b' hge]; exact hr) hne
  | clo => intro hx; cases hx
  | nil => exact .nil
  | cons x v xs vs _ _ ih ihs =>
    rename_i hx
    simp only [ownL, Bool.and_eq_true] at hx
    exact .cons _ _ _ _ (ih hx.1) (ihs hx.2)
theorem VL.own {V V' : View} {n : Nat} (hq0 : ∀ q, V.base ≤ q ∧ q < V.P.length → V'.base ≤ q ∧ q < V'.P.length ∧ ∀ b' g' es e w, b' < n → V'.H[b']? = some (.row g' es e w) → V'.m b' ≠ q) (hl : V.H.length ≤ V'.H.length) (hH : ∀ b, n ≤ b → V'.H[b]? = V.H[b]?) (hm : ∀ b, n ≤ b → V'.m b = V.m b) {xs : List VV} {vs : List Value} (h : VL V xs vs) (hx : ownL n xs = true) : VL V' xs vs := by
  induction xs generalizing vs with
  | nil => cases h; exact .nil
  | cons x xs ih => cases h with
    | cons _ v _ vs h hs =>
      simp only [ownL, Bool.and_eq_true] at hx
      exact .cons _ _ _ _ (h.own hq0 hl hH hm hx.1) (ih hs hx.2)

theorem VL.ofBare {V' : View} {G : Nat → Prop} {P : Heap} {xs : List VV} {vs : List Value} (hF : ∀ b, G b → V'.F b ∧ V'.P[b]? = P[b]?) (h : VL (bare G P) xs vs) : VL V' xs vs := by
  induction xs generalizing vs with
  | nil => cases h; exact .nil
  | cons x xs ih => cases h with
    | cons _ v _ vs h hs => exact .cons _ _ _ _ (h.ofBare hF) (ih hs)

/-- A contract: a call with these trees comes to an end, and then this holds of its value, and of rows of its own, from whatever number on. -/
def FC (f : Nat) (args : List VV) (R : Nat → VV → VHeap → Prop) : Prop :=
  ∀ n, VRaw f args n (List.replicate n .dead) fun r H' => ∃ L, H' = List.replicate n .dead ++ L ∧ ownV n r = true ∧ rowsOwn n L = true ∧ R n r L

theorem FC.walk {f : Nat} {pf : PFunc} {args : List VV} {R : Nat → VV → VHeap → Prop} (fl : Fl) (ht : tab f = some pf) (hn : args.length ≤ pf.ntmps)
    (h : ∀ n, VW fl n pf.body (vretQ pf.res fun r H' => ∃ L, H' = List.replicate n .dead ++ L ∧ ownV n r = true ∧ rowsOwn n L = true ∧ R n r L) (vpenv args) (List.replicate n .dead)) : FC f args R :=
  fun n => VRaw.walk fl ht hn (h n)

theorem FC.raw {f : Nat} {args args' : List VV} {R : Nat → VV → VHeap → Prop} {H : VHeap} {lo : Nat} (h : FC f args' R) (hf : args.mapM (fz depth H) = some args') : VRaw f args lo H fun r H' => ∃ L, H' = H ++ L ∧ R H.length r L ∧ ownV H.length r = true ∧ rowsOwn H.length L = true := by
  intro V lop pargs hH hS hl
  have h1 := h H.length
  let V0 : View := { m := V.m, F := (· < V.P.length), H := List.replicate H.length .dead, P := V.P, base := V.P.length }
  have nodead : ∀ (b g : Nat) (es : List VV) (e : Nat) (w : Bool), V0.H[b]? ≠ some (.row g es e w) := by
    intro b g es e w hb
    have := List.eq_of_mem_replicate (List.mem_of_getElem? hb)
    cases this
  have hS0 : SR V0 H.length lop := ⟨fun b g es e w hb => absurd hb (nodead _ _ _ _ _), fun b g es e hb => absurd hb (nodead _ _ _ _ _), fun a b g es e w _ _ _ _ ha => absurd ha (nodead _ _ _ _ _), fun b hb => hb, hS.lol, Nat.le_refl _⟩
  have hl0 : VL V0 args' pargs := by
    have := fzL_sound hS (G := (· < V.P.length)) (fun q hq => hS.fr q hq) hl (by rw [hH]; exact hf) (fun i _ g es e w hb => hS.mlt hb)
    exact VL.ofBare (V' := V0) (fun b hb => ⟨hb, rfl⟩) this
  obtain ⟨pv, V1, r, k1, k3, k4, k5, L, k2, h2, h3, hR⟩ := h1 V0 lop pargs rfl hS0 hl0
  have hmnew : ∀ b g es e w, V1.H[b]? = some (.row g es e w) → V.P.length ≤ V1.m b := by
    intro b g es e w hb
    rcases Nat.lt_or_ge (V1.m b) V.P.length with hlt | hge
    · obtain ⟨g0, es0, w0, j1, _⟩ := k4.old b g es e w hb hlt
      exact absurd j1 (nodead _ _ _ _ _)
    · exact hge
  have hlen1 : V1.H.length = H.length + (L).length := by rw [k2]; simp
  have hkeep : ∀ q, q < V.P.length → V1.P[q]? = V.P[q]? := fun q hq => k4.keep q hq fun b g es e hb => absurd hb (nodead _ _ _ _ _)
  let V2 : View := { m := fun b => if b < H.length then V.m b else V1.m b, F := V.F, H := H ++ L, P := V1.P, base := V.base }
  have getL : ∀ b, H.length ≤ b → V2.H[b]? = V1.H[b]? := fun b hb => by
    show (H ++ L)[b]? = _
    rw [k2, List.getElem?_append_right hb, List.getElem?_append_right (by simpa using hb), List.length_replicate]
  have mL : ∀ b, H.length ≤ b → V2.m b = V1.m b := fun b hb => by
    show (if b < H.length then V.m b else V1.m b) = _
    rw [if_neg (by omega)]
  have getS : ∀ b, b < H.length → V2.H[b]? = V.H[b]? := fun b hb => by
    show (H ++ L)[b]? = _
    rw [List.getElem?_append_left hb, hH]
  have mS : ∀ b, b < H.length → V2.m b = V.m b := fun b hb => by
    show (if b < H.length then V.m b else V1.m b) = _
    rw [if_pos hb]
  have hU : Up V V2 := ⟨fun _ h => h, fun b hb => hkeep b (hS.fr b hb), by show V.H.length ≤ (H ++ L).length; rw [hH]; simp, fun b g es e w hlt hb => ⟨g, es, w, by rw [← getS b (by rw [← hH]; exact hlt)]; exact hb, Nat.le_refl _, fun _ => mS b (by rw [← hH]; exact hlt)⟩, rfl, k4.plen, fun b g es e w hb hm => by
      rcases Nat.lt_or_ge b H.length with h | h
      · exact ⟨g, es, w, by rw [← getS b h]; exact hb, mS b h, id⟩
      · rw [mL b h] at hm
        have := hmnew b g es e w (by rw [← getL b h]; exact hb)
        omega⟩
  have case2 : ∀ {b g es e w}, V2.H[b]? = some (.row g es e w) → (b < H.length ∧ V.H[b]? = some (.row g es e w)) ∨ (H.length ≤ b ∧ V1.H[b]? = some (.row g es e w)) := by
    intro b g es e w hb
    rcases Nat.lt_or_ge b H.length with h | h
    · exact .inl ⟨h, by rw [← getS b h]; exact hb⟩
    · exact .inr ⟨h, by rw [← getL b h]; exact hb⟩
  have hlen2 : V1.H.length ≤ V2.H.length := by show _ ≤ (H ++ L).length; rw [hlen1]; simp
  have hrow2 : ∀ {b g es e w}, H.length ≤ b → V1.H[b]? = some (.row g es e w) → ownL H.length es = true := by
    intro b g es e w hb hr
    rw [k2, List.getElem?_append_right (by simpa using hb)] at hr
    exact List.all_eq_true.1 h3 _ (List.mem_of_getElem? hr)
  have hq0 : ∀ q, V1.base ≤ q ∧ q < V1.P.length → V2.base ≤ q ∧ q < V2.P.length ∧ ∀ b' g' es e w, b' < H.length → V2.H[b']? = some (.row g' es e w) → V2.m b' ≠ q := by
    intro q hq
    have hb1 : V.P.length ≤ q := by have := k4.bas; rw [this] at hq; exact hq.1
    refine ⟨Nat.le_trans hS.bas hb1, hq.2, fun b' g' es e w hlt hr hm => ?_⟩
    rw [mS b' hlt] at hm
    have := hS.mlt (by rw [← getS b' hlt]; exact hr)
    omega
  refine ⟨pv, V2, r, k1, ⟨fun b g es e w hb => ?_, fun b g es e hb => ?_, fun a b g es e w g' es' e' w' ha hb hm => ?_, fun b hb => ?_, ?_, Nat.le_trans hS.bas k4.plen⟩, { hU with keep := fun q hq _ => hkeep q hq, fnew := fun q hq => .inl hq }, ?_, L, rfl, hR, h2, h3⟩
  · rcases case2 hb with ⟨h, hb⟩ | ⟨h, hb⟩
    · obtain ⟨r, p, j1, j2, j3⟩ := hS.row b g es e w hb
      exact ⟨r, p, by rw [mS b h]; exact (hkeep _ (hS.mlt hb)).trans j1, j2, j3.mono hU⟩
    · obtain ⟨r, p, j1, j2, j3⟩ := k3.row b g es e w hb
      exact ⟨r, p, by rw [mL b h]; exact j1, j2, j3.own hq0 hlen2 (fun b hb => getL b hb) (fun b hb => mL b hb) (ownL_flat (hrow2 h hb))⟩
  · rcases case2 hb with ⟨h, hb⟩ | ⟨h, hb⟩
    · rw [mS b h]
      exact hS.wr b g es e hb
    · rw [mL b h]
      have := hmnew b g es e true hb
      exact ⟨fun hF => by have := hS.fr _ hF; omega, fun _ => Nat.le_trans hS.lol this⟩
  · rcases case2 ha with ⟨h, ha⟩ | ⟨h, ha⟩ <;> rcases case2 hb with ⟨h', hb⟩ | ⟨h', hb⟩
    · rw [mS a h, mS b h'] at hm
      exact hS.inj a b _ _ _ _ _ _ _ _ ha hb hm
    · rw [mS a h, mL b h'] at hm
      have := hmnew b _ _ _ _ hb
      have := hS.mlt ha
      omega
    · rw [mL a h, mS b h'] at hm
      have := hmnew a _ _ _ _ ha
      have := hS.mlt hb
      omega
    · rw [mL a h, mL b h'] at hm
      exact k3.inj a b _ _ _ _ _ _ _ _ ha hb hm
  · exact Nat.lt_of_lt_of_le (hS.fr b hb) k4.plen
  · exact Nat.le_trans hS.lol k4.plen
  · exact k5.own hq0 hlen2 (fun b hb => getL b hb) (fun b hb => mL b hb) h2

/-- Calls that are told with their rows. -/
theorem vcall_raw {f : Nat} {args : List VV} {lo : Nat} {H : VHeap} {K : VV → VHeap → Prop} (hraw : raws.contains f = true) (h : VRaw f args lo H K) : vcallP f args lo H K := by
  unfold vcallP
  rw [if_pos hraw]
  exact h
theorem FC.call {f : Nat} {args args' : List VV} {R : Nat → VV → VHeap → Prop} {H : VHeap} {lo : Nat} {K : VV → VHeap → Prop} (h : FC f args' R) (hraw : raws.contains f = true) (hf : args.mapM (fz depth H) = some args') (hk : ∀ r L, R H.length r L → K r (H ++ L)) : vcallP f args lo H K :=
  vcall_raw hraw ((h.raw hf).mono fun r H' ⟨L, h1, h2, _⟩ => by subst h1; exact hk r L h2)
theorem FC.callO {f : Nat} {args args' : List VV} {R : Nat → VV → VHeap → Prop} {H : VHeap} {lo : Nat} {K : VV → VHeap → Prop} (h : FC f args' R) (hraw : raws.contains f = true) (hf : args.mapM (fz depth H) = some args') (hk : ∀ r L, R H.length r L → ownV H.length r = true → rowsOwn H.length L = true → K r (H ++ L)) : vcallP f args lo H K :=
  vcall_raw hraw ((h.raw hf).mono fun r H' ⟨L, h1, h2, h3, h4⟩ => by subst h1; exact hk r L h2 h3 h4)

/-! ### rows that are forgotten -/
/-- The same rows, or fewer. -/
def Kills (H K : VHeap) : Prop := K.length = H.length ∧ ∀ (b g : Nat) (es : List VV) (e : Nat) (w : Bool), K[b]? = some (.row g es e w) → H[b]? = some (.row g es e w)
theorem VR.kill {V : View} {K : VHeap} (hK : Kills V.H K) {x : VV} {v : Value} (h : VR V x v) : VR { V with H := K } x v := by
  induction h using VR.rec (motive_2 := fun xs vs _ => VL { V with H := K } xs vs) with
  | any => exact .any _
  | sc _ h => exact .sc _ h
  | agg cs ps _ ih => exact .agg _ _ ih
  | tup cs ps _ ih => exact .tup _ _ ih
  | tnil k hk => exact .tnil k hk
  | tree es k b o c r e p hF hb ho hc he hk _ ih => exact .tree es k b o c r e p hF hb ho hc he hk ih
  | tptr x off b o r e p hF hb ho _ ih => exact .tptr x off b o r e p hF hb ho ih
  | ref b g o n c a n' c' hlt hg ha hq =>
    exact .ref b g o n c a n' c' (by show b < K.length; rw [hK.1]; exact hlt) (fun g' es e w hr => hg g' es e w (hK.2 _ _ _ _ _ hr)) (fun es e w hr => ha es e w (hK.2 _ _ _ _ _ hr)) fun a0 h => ⟨(hq a0 h).1, (hq a0 h).2.1, fun b' g' es e w hr => (hq a0 h).2.2 b' g' es e w (hK.2 _ _ _ _ _ hr)⟩
  | ptr b g j off a hlt hg ha hq =>
    exact .ptr b g j off a (by show b < K.length; rw [hK.1]; exact hlt) (fun g' es e w hr => hg g' es e w (hK.2 _ _ _ _ _ hr)) (fun es e w hr => ha es e w (hK.2 _ _ _ _ _ hr)) fun a0 h => ⟨(hq a0 h).1, (hq a0 h).2.1, fun b' g' es e w hr => (hq a0 h).2.2 b' g' es e w (hK.2 _ _ _ _ _ hr)⟩
  | clo f caps ps _ ih => exact .clo _ _ _ ih
  | nil => exact .nil
  | cons x v xs vs _ _ ih ihs => exact .cons _ _ _ _ ih ihs
theorem VL.kill {V : View} {K : VHeap} (hK : Kills V.H K) {xs : List VV} {vs : List Value} (h : VL V xs vs) : VL { V with H := K } xs vs := by
  induction xs generalizing vs with
  | nil => cases h; exact .nil
  | cons x xs ih => cases h with
    | cons _ v _ vs h hs => exact .cons _ _ _ _ (h.kill hK) (ih hs)
theorem VRaw.kill {f : Nat} {args : List VV} {lo : Nat} {H : VHeap} {P P' : VV → VHeap → Prop} (h : VRaw f args lo H P) (hk : ∀ v H', P v H' → ∃ K, Kills H' K ∧ P' v K) : VRaw f args lo H P' := by
  intro V lop pargs hH hS hl
  obtain ⟨pv, V', v, h1, h2, h3, h4, h5⟩ := h V lop pargs hH hS hl
  obtain ⟨K, hK, h6⟩ := hk _ _ h5
  refine ⟨pv, { V' with H := K }, v, h1, ⟨fun b g es e w hb => ?_, fun b g es e hb => h2.wr b g es e (hK.2 _ _ _ _ _ hb), fun a b g es e w g' es' e' w' ha hb hm => h2.inj a b _ _ _ _ _ _ _ _ (hK.2 _ _ _ _ _ ha) (hK.2 _ _ _ _ _ hb) hm, h2.fr, h2.lol, h2.bas⟩,
    { F := h3.F, P := h3.P, len := by show V.H.length ≤ K.length; rw [hK.1]; exact h3.len, row := fun b g es e w hlt hb => h3.row b g es e w hlt (hK.2 _ _ _ _ _ hb), bas := h3.bas, plen := h3.plen, old := fun b g es e w hb hm => h3.old b g es e w (hK.2 _ _ _ _ _ hb) hm, keep := h3.keep, fnew := h3.fnew }, h4.kill hK, h6⟩
  obtain ⟨r, p, j1, j2, j3⟩ := h2.row b g es e w (hK.2 _ _ _ _ _ hb)
  exact ⟨r, p, j1, j2, j3.kill hK⟩
/-- As `FC.walk`; rows may be forgotten at the end. -/
theorem FC.walkK {f : Nat} {pf : PFunc} {args : List VV} {R : Nat → VV → VHeap → Prop} (fl : Fl) (ht : tab f = some pf) (hn : args.length ≤ pf.ntmps)
    (h : ∀ n, VW fl n pf.body (vretQ pf.res fun r H' => ∃ L, Kills H' (List.replicate n .dead ++ L) ∧ ownV n r = true ∧ rowsOwn n L = true ∧ R n r L) (vpenv args) (List.replicate n .dead)) : FC f args R :=
  fun n => (VRaw.walk fl ht hn (h n)).kill fun _ _ ⟨L, h1, h2, h3, h4⟩ => ⟨_, h1, L, rfl, h2, h3, h4⟩
end Go.PM

/- What the statements' own helpers for lists of numbers and of customers come to. -/
namespace Go.PM

/-- How many cells stand behind a list of n elements. -/
def room (n : Nat) : Nat := if n % 6 = 5 then 0 else if n % 3 = 0 then 1 else n
theorem room_le (n : Nat) : room n ≤ n + 1 := by unfold room; split <;> (try split) <;> omega

theorem laws_roomBehind_v (n : Nat) : TC 26 [VI n] (VI (room n)) := by
  refine TC.walk ⟨true, false⟩ laws_roomBehind_t rfl (Nat.le_of_ble_eq_true rfl) rfl rfl ?_
  have e1 : pbin .rem (.int .i64 (n : Int)) (.int .i64 6) = some (.int .i64 (n % 6 : Nat)) := by rw [pbin_rem (by decide)]; rfl
  have e2 : pbin .rem (.int .i64 (n : Int)) (.int .i64 3) = some (.int .i64 (n % 3 : Nat)) := by rw [pbin_rem (by decide)]; rfl
  by_cases h1 : ((n % 6 : Nat) : Int) = 5
  · simp only [laws_roomBehind, laws_roomBehind_c, e1, h1, VX, Nat.reduceEqDiff, Nat.reduceAdd]
    unfold room
    rw [if_pos (by omega)]
    exact fz_res rfl
  · by_cases h2 : ((n % 3 : Nat) : Int) = 0
    · simp only [laws_roomBehind, laws_roomBehind_c, e1, e2, h1, h2, VX, Nat.reduceEqDiff, Nat.reduceAdd]
      unfold room
      rw [if_neg (by omega), if_pos (by omega)]
      exact fz_res rfl
    · simp only [laws_roomBehind, laws_roomBehind_c, e1, e2, h1, h2, VX, Nat.reduceEqDiff, Nat.reduceAdd]
      unfold room
      rw [if_neg (by omega), if_neg (by omega)]
      exact fz_res rfl

/-! ### numbers -/
abbrev nV (n : Int) : VV := .sc (.int .i64 n)
theorem nV_len : ∀ x : Int, (vcells (nV x)).length = 1 := fun _ => rfl
abbrev numsV (xs : List Int) : VV := listV nV xs
theorem nums_pure (xs : List Int) : pureV (numsV xs) = true := pure_list nV_len fun _ => rfl
theorem nums_pureL (xs : List Int) : pureL (xs.map nV) = true := pure_map fun _ => rfl
theorem nums_res (xs : List Int) : resV (numsV xs) = true := res_list nV_len (fun _ => rfl) fun _ => rfl

theorem laws_eqInt64S_v (xs ys : List Int) (hn : xs.length ≤ 1000000000) : TC 9 [numsV xs, numsV ys] (.sc (.bool (decide (xs = ys)))) := by
  refine TC.walk ⟨true, false⟩ laws_eqInt64S_t rfl (Nat.le_of_ble_eq_true rfl) (by simp [pureL, nums_pure]) rfl ?_
  by_cases hl : (xs.length : Int) = (ys.length : Int)
  · simp only [laws_eqInt64S, laws_eqInt64S_c, hl, VX, Nat.reduceEqDiff, Nat.reduceAdd]
    refine VW_loop (fun (i : Nat) ρ H => i ≤ xs.length ∧ H = [] ∧ xs.take i = ys.take i ∧ ρ 0 = numsV xs ∧ ρ 1 = numsV ys ∧ ρ 5 = VI i) (fun i => xs.length - i) 0 ⟨Nat.zero_le _, rfl, by simp, rfl, rfl, rfl⟩ ?_
    rintro i ρ H ⟨hi, rfl, ht, h0, h1, h5⟩
    by_cases hin : (i : Int) < (xs.length : Int)
    · obtain ⟨x, hx⟩ : ∃ x, xs[i]? = some x := ⟨_, List.getElem?_eq_getElem (by omega)⟩
      obtain ⟨y, hy⟩ : ∃ y, ys[i]? = some y := ⟨_, List.getElem?_eq_getElem (by omega)⟩
      have e1 := viaddr_map (f := nV) (t := .op) (H := []) (size := 1) (k := .i64) hx rfl
      have e2 := viaddr_map (f := nV) (t := .op) (H := []) (size := 1) (k := .i64) hy rfl
      have wi : IntKind.i64.wrap ((i : Int) + 1) = ((i + 1 : Nat) : Int) := wrapN (i + 1) (by omega) (by omega)
      by_cases hxy : x = y
      · simp only [laws_eqInt64S_b0, h0, h1, h5, hin, e1, e2, hxy, wi, VX, Nat.reduceEqDiff, Nat.reduceAdd]
        refine ⟨i + 1, by omega, by omega, ?_⟩
        rw [List.take_add_one, List.take_add_one, hx, hy, ht, hxy]
        (repeat' apply And.intro) <;> first | rfl | trivial
      · simp only [laws_eqInt64S_b0, h0, h1, h5, hin, e1, e2, hxy, VX, Nat.reduceEqDiff, Nat.reduceAdd]
        have : ¬ xs = ys := fun h => hxy (by rw [h, hy] at hx; injection hx with hx; exact hx.symm)
        simp only [this, decide_false]
        exact fz_res rfl
    · simp only [laws_eqInt64S_b0, h0, h1, h5, hin, VX, Nat.reduceEqDiff, Nat.reduceAdd]
      have : xs = ys := by
        rw [List.take_of_length_le (by omega), List.take_of_length_le (by omega)] at ht
        exact ht
      simp only [this, decide_true]
      exact fz_res rfl
  · simp only [laws_eqInt64S, laws_eqInt64S_c, hl, VX, Nat.reduceEqDiff, Nat.reduceAdd]
    have : ¬ xs = ys := fun h => hl (by rw [h])
    simp only [this, decide_false]
    exact fz_res rfl

/-- Numbers one behind another. -/
def iota (k : Int) (n : Nat) : List Int := (List.range n).map fun (j : Nat) => k + (j : Int)
theorem iota_len (k : Int) (n : Nat) : (iota k n).length = n := by simp [iota]
theorem iota_get {k : Int} {n j : Nat} (h : j < n) : (iota k n)[j]? = some (k + (j : Int)) := by simp [iota, h]

theorem laws_heldInt64S_v (k : Int) (n : Nat) (hk : 0 ≤ k ∧ k ≤ 1000000000) (hn : n ≤ 1000000000) : TC 13 [numsV (iota k n), VI k] (VI (k + n)) := by
  refine TC.walk ⟨true, false⟩ laws_heldInt64S_t rfl (Nat.le_of_ble_eq_true rfl) (by simp [pureL, nums_pure]; rfl) rfl ?_
  simp only [laws_heldInt64S, laws_heldInt64S_c, VX, Nat.reduceEqDiff, Nat.reduceAdd]
  refine VW_loop (fun (i : Nat) ρ H => i ≤ n ∧ H = [] ∧ ρ 0 = numsV (iota k n) ∧ ρ 1 = VI (k + i) ∧ ρ 5 = VI i) (fun i => n - i) 0 ⟨Nat.zero_le _, rfl, rfl, by simp only [VX, Nat.reduceEqDiff, Nat.reduceAdd]; simp, rfl⟩ ?_
  rintro i ρ H ⟨hi, rfl, h0, h1, h5⟩
  have hlen := iota_len k n
  by_cases hin : (i : Int) < (n : Int)
  · have e1 := viaddr_map (f := nV) (t := .op) (H := []) (size := 1) (k := .i64) (iota_get (k := k) (show i < n by omega)) rfl
    have w1 : IntKind.i64.wrap (k + i + 1) = k + ((i + 1 : Nat) : Int) := by rw [wrap64 (by omega) (by omega)]; omega
    have wi : IntKind.i64.wrap ((i : Int) + 1) = ((i + 1 : Nat) : Int) := wrapN (i + 1) (by omega) (by omega)
    simp only [laws_heldInt64S_b0, h0, h1, h5, hin, e1, w1, wi, hlen, eq_self, VX, Nat.reduceEqDiff, Nat.reduceAdd]
    exact ⟨i + 1, by omega, by omega, by (repeat' apply And.intro) <;> first | rfl | trivial⟩
  · have hie : i = n := by omega
    subst hie
    simp only [laws_heldInt64S_b0, h0, h1, h5, hin, hlen, VX, Nat.reduceEqDiff, Nat.reduceAdd]
    exact fz_res rfl

theorem laws_markInt64S_v {lo b g n c : Nat} {H : VHeap} (xs : List Int) (k : Int) (hr : vrow H b g = some (xs.map nV, 1, true)) (hn : n ≤ xs.length) (hlo : lo ≤ b) (hk : 0 ≤ k ∧ k ≤ 1000000000) (hn' : n ≤ 1000000000) :
    VRaw 12 [.ref b g 0 n c, VI k] lo H fun r H' => r = VI (k + n) ∧ H' = H.set b (.row g ((iota k n ++ xs.drop n).map nV) 1 true) := by
  refine VRaw.walk ⟨true, false⟩ laws_markInt64S_t (Nat.le_of_ble_eq_true rfl) ?_
  have hb : b < H.length := (List.getElem?_eq_some_iff.1 (vrow_some.1 hr)).1
  have h00 : H = H.set b (.row g ((iota k 0 ++ xs.drop 0).map nV) 1 true) := by
    have h' := vrow_some.1 hr
    obtain ⟨hlt, hge⟩ := List.getElem?_eq_some_iff.1 h'
    have : iota k 0 ++ xs.drop 0 = xs := by simp [iota]
    rw [this, ← hge, List.set_getElem_self]
  simp only [laws_markInt64S, laws_markInt64S_c, VX, Nat.reduceEqDiff, Nat.reduceAdd]
  refine VW_loop (fun (i : Nat) ρ H1 => i ≤ n ∧ H1 = H.set b (.row g ((iota k i ++ xs.drop i).map nV) 1 true) ∧ ρ 0 = .ref b g 0 n c ∧ ρ 1 = VI (k + i) ∧ ρ 5 = VI i) (fun i => n - i) 0 ⟨Nat.zero_le _, h00, rfl, by simp only [VX, Nat.reduceEqDiff, Nat.reduceAdd]; simp, rfl⟩ ?_
  rintro i ρ H1 ⟨hi, rfl, h0, h1, h5⟩
  have hR : vrow (H.set b (.row g ((iota k i ++ xs.drop i).map nV) 1 true)) b g = some ((iota k i ++ xs.drop i).map nV, 1, true) := vrow_some.2 (List.getElem?_set_self hb)
  have hlen : (iota k i ++ xs.drop i).length = xs.length := by simp [iota_len]; omega
  have el := vlen_ref (o := 0) (n := n) (c := c) hR
  by_cases hin : (i : Int) < (n : Int)
  · have e1 := viaddr_row (o := 0) (n := n) (c := c) (i := i) (k := .i64) hR (by omega)
    have e2 := vstore_map (f := nV) (e := 1) (x := k + i) (j := i) (lo := lo) hR (by omega) hlo rfl rfl
    have hs : (iota k i ++ xs.drop i).set i (k + i) = iota k (i + 1) ++ xs.drop (i + 1) := by
      obtain ⟨x, hx⟩ : ∃ x, xs[i]? = some x := ⟨_, List.getElem?_eq_getElem (by omega)⟩
      have hd : xs.drop i = x :: xs.drop (i + 1) := by
        have hlt := List.getElem?_eq_some_iff.1 hx
        rw [List.drop_eq_getElem_cons hlt.1, hlt.2]
      rw [List.set_append_right _ _ (by rw [iota_len]; exact Nat.le_refl _), iota_len, Nat.sub_self, hd, List.set_cons_zero]
      simp [iota, List.range_succ]
    rw [List.set_set, hs] at e2
    have w1 : IntKind.i64.wrap (k + i + 1) = k + ((i + 1 : Nat) : Int) := by rw [wrap64 (by omega) (by omega)]; omega
    have wi : IntKind.i64.wrap ((i : Int) + 1) = ((i + 1 : Nat) : Int) := wrapN (i + 1) (by omega) (by omega)
    simp only [laws_markInt64S_b0, h0, h1, h5, hin, el, e1, e2, w1, wi, VX, Nat.reduceEqDiff, Nat.reduceAdd]
    exact ⟨i + 1, by omega, by omega, by (repeat' apply And.intro) <;> first | rfl | trivial⟩
  · have hie : i = n := by omega
    subst hie
    simp only [laws_markInt64S_b0, h0, h1, h5, hin, el, VX, Nat.reduceEqDiff, Nat.reduceAdd]

/-! ### lists that are handed to the program -/
theorem vrow_D {n g e : Nat} {es : List VV} {w : Bool} {K : VHeap} : vrow (List.replicate n VBlk.dead ++ .row g es e w :: K) n g = some (es, e, w) := vrow_top (by simp)
theorem set_D {n : Nat} {x y : VBlk} {K : VHeap} : (List.replicate n VBlk.dead ++ x :: K).set n y = List.replicate n VBlk.dead ++ y :: K := by
  rw [List.set_append_right _ _ (by simp)]
  simp
theorem set_step {α : Type} (ys : List α) (k : Nat) (z x : α) : (ys ++ List.replicate (k + 1) z).set ys.length x = (ys ++ [x]) ++ List.replicate k z := by
  rw [List.set_append_right _ _ (Nat.le_refl _), Nat.sub_self, List.replicate_succ, List.set_cons_zero, List.append_assoc]
  rfl
/-- What a list that is handed to the program is made into: a row of its own, with room behind. -/
def filledS {α : Type} (fill : α) (xs : List α) : List α := xs ++ List.replicate (room xs.length) fill
theorem filledS_len {α : Type} (fill : α) (xs : List α) : (filledS fill xs).length = xs.length + room xs.length := by simp [filledS]
theorem filledS_take {α : Type} (fill : α) (xs : List α) : (filledS fill xs).take xs.length = xs := by simp [filledS]
/-- What is handed over. -/
def ToR {α : Type} (f : α → VV) (e : Nat) (fill : α) (xs : List α) (bare : Bool) (n : Nat) (r : VV) (L : VHeap) : Prop :=
  (bare = true ∧ xs = [] ∧ r = .tree [] .nil ∧ L = []) ∨ (r = .ref n 0 0 xs.length (xs.length + room xs.length) ∧ L = [.row 0 ((filledS fill xs).map f) e true])
theorem ToR.no {α : Type} {f : α → VV} {e : Nat} {fill : α} {xs : List α} {n : Nat} {r : VV} {L : VHeap} (h : ToR f e fill xs false n r L) : r = .ref n 0 0 xs.length (xs.length + room xs.length) ∧ L = [.row 0 ((filledS fill xs).map f) e true] := by
  rcases h with h | h
  · cases h.1
  · exact h

theorem ownL_map {α : Type} {f : α → VV} {n : Nat} (hf : ∀ x, ownV n (f x) = true) (xs : List α) : ownL n (xs.map f) = true := by
  rw [ownL_mem]
  intro x hx
  obtain ⟨y, _, rfl⟩ := List.mem_map.1 hx
  exact hf y

end Go.PM

/- Customers, as the statements hand them over. -/
namespace Go.PM

def cV (c : Cust) : VV := .agg [nV c.t, nV c.w, nV c.k]
theorem cV_len : ∀ c : Cust, (vcells (cV c)).length = 3 := fun _ => rfl
theorem rd_cV {c : Cust} : rdCells true 3 (cV c) 0 = some (cV c) := rfl
abbrev custsV (xs : List Cust) : VV := listV cV xs
theorem custsV_pure (xs : List Cust) : pureV (custsV xs) = true := pure_list cV_len fun _ => rfl
theorem custsV_res (xs : List Cust) : resV (custsV xs) = true := res_list cV_len (fun _ => rfl) fun _ => rfl
def fillC : Cust := ⟨-7000000000000000101, -7000000000000000101, -7000000000000000101⟩

theorem laws_toCustomer_v (x : Cust) : TC 27 [cV x] (cV x) := by
  refine TC.walk ⟨true, false⟩ laws_toCustomer_t rfl (Nat.le_of_ble_eq_true rfl) rfl rfl ?_
  simp only [laws_toCustomer, laws_toCustomer_c, cV, VX, Nat.reduceEqDiff, Nat.reduceAdd, vload_pdef, vstore_pdef, viaddr_rdef, vlen_rdef, vfaddr_pdef, vchk_pdef, visnil_rdef, visnil_nil, visnil_cons, vrow_zero, vrow_succ, List.set_cons_zero, List.set_cons_succ, elemOf_one, elemOf_two, vresult, vresAll, vres1, vfill, isAny_sc, isAny_tree, isAny_ref, isAny_agg, isAny_clo, List.take_zero, List.take_succ_cons, List.take_nil, List.drop_zero, List.drop_succ_cons, List.drop_nil, List.append_nil, Nat.reduceLeDiff, Nat.le_refl, vsplice, Nat.reduceLT, Int.toNat_natCast, eq_self, ge_iff_le, Bool.and_eq_true, Nat.reduceSub]
  exact fz_res rfl
theorem laws_fillerCustomer_v : TC 28 [] (cV fillC) := by
  refine TC.walk ⟨true, false⟩ laws_fillerCustomer_t rfl (Nat.le_of_ble_eq_true rfl) rfl rfl ?_
  simp only [laws_fillerCustomer, laws_fillerCustomer_c, VX, Nat.reduceEqDiff, Nat.reduceAdd, vload_pdef, vstore_pdef, viaddr_rdef, vlen_rdef, vfaddr_pdef, vchk_pdef, visnil_rdef, visnil_nil, visnil_cons, vrow_zero, vrow_succ, List.set_cons_zero, List.set_cons_succ, elemOf_one, elemOf_two, vresult, vresAll, vres1, vfill, isAny_sc, isAny_tree, isAny_ref, isAny_agg, isAny_clo, List.take_zero, List.take_succ_cons, List.take_nil, List.drop_zero, List.drop_succ_cons, List.drop_nil, List.append_nil, Nat.reduceLeDiff, Nat.le_refl, vsplice, Nat.reduceLT, Int.toNat_natCast, eq_self, ge_iff_le, Bool.and_eq_true, Nat.reduceSub]
  exact fz_res rfl
theorem laws_eqCustomer_v (x y : Cust) : TC 50 [cV x, cV y] (.sc (.bool (decide (x = y)))) := by
  refine TC.walk ⟨true, false⟩ laws_eqCustomer_t rfl (Nat.le_of_ble_eq_true rfl) rfl rfl ?_
  have e : x = y ↔ x.t = y.t ∧ x.w = y.w ∧ x.k = y.k := by cases x; cases y; simp
  by_cases h1 : x.t = y.t
  · by_cases h2 : x.w = y.w
    · by_cases h3 : x.k = y.k <;> simp only [laws_eqCustomer, laws_eqCustomer_c, e, h1, h2, h3, cV, VX, Nat.reduceEqDiff, Nat.reduceAdd, vload_pdef, vstore_pdef, viaddr_rdef, vlen_rdef, vfaddr_pdef, vchk_pdef, visnil_rdef, visnil_nil, visnil_cons, vrow_zero, vrow_succ, List.set_cons_zero, List.set_cons_succ, elemOf_one, elemOf_two, vresult, vresAll, vres1, vfill, isAny_sc, isAny_tree, isAny_ref, isAny_agg, isAny_clo, List.take_zero, List.take_succ_cons, List.take_nil, List.drop_zero, List.drop_succ_cons, List.drop_nil, List.append_nil, Nat.reduceLeDiff, Nat.le_refl, vsplice, Nat.reduceLT, Int.toNat_natCast, eq_self, ge_iff_le, Bool.and_eq_true, Nat.reduceSub] <;> exact fz_res rfl
    · simp only [laws_eqCustomer, laws_eqCustomer_c, e, h1, h2, cV, VX, Nat.reduceEqDiff, Nat.reduceAdd, vload_pdef, vstore_pdef, viaddr_rdef, vlen_rdef, vfaddr_pdef, vchk_pdef, visnil_rdef, visnil_nil, visnil_cons, vrow_zero, vrow_succ, List.set_cons_zero, List.set_cons_succ, elemOf_one, elemOf_two, vresult, vresAll, vres1, vfill, isAny_sc, isAny_tree, isAny_ref, isAny_agg, isAny_clo, List.take_zero, List.take_succ_cons, List.take_nil, List.drop_zero, List.drop_succ_cons, List.drop_nil, List.append_nil, Nat.reduceLeDiff, Nat.le_refl, vsplice, Nat.reduceLT, Int.toNat_natCast, eq_self, ge_iff_le, Bool.and_eq_true, Nat.reduceSub]
      exact fz_res rfl
  · simp only [laws_eqCustomer, laws_eqCustomer_c, e, h1, cV, VX, Nat.reduceEqDiff, Nat.reduceAdd, vload_pdef, vstore_pdef, viaddr_rdef, vlen_rdef, vfaddr_pdef, vchk_pdef, visnil_rdef, visnil_nil, visnil_cons, vrow_zero, vrow_succ, List.set_cons_zero, List.set_cons_succ, elemOf_one, elemOf_two, vresult, vresAll, vres1, vfill, isAny_sc, isAny_tree, isAny_ref, isAny_agg, isAny_clo, List.take_zero, List.take_succ_cons, List.take_nil, List.drop_zero, List.drop_succ_cons, List.drop_nil, List.append_nil, Nat.reduceLeDiff, Nat.le_refl, vsplice, Nat.reduceLT, Int.toNat_natCast, eq_self, ge_iff_le, Bool.and_eq_true, Nat.reduceSub]
    exact fz_res rfl
end Go.PM

/- How the statements hand lists over, and look at them: CustomerS. -/
namespace Go.PM
set_option maxHeartbeats 1000000 in
theorem laws_toCustomerS_v (xs : List Cust) (bare : Bool) (hn : xs.length ≤ 1000000000) : FC 7 [custsV xs, .sc (.bool bare)] (ToR cV 3 fillC xs bare) := by
  refine FC.walk ⟨true, false⟩ laws_toCustomerS_t (Nat.le_of_ble_eq_true rfl) fun n => ?_
  have hr := room_le xs.length
  by_cases hb : bare = true ∧ (xs.length : Int) = 0
  · obtain ⟨rfl, h0⟩ := hb
    simp only [laws_toCustomerS, laws_toCustomerS_c, h0, VX, Nat.reduceEqDiff, Nat.reduceAdd]
    refine ⟨[], by simp, rfl, rfl, .inl ⟨rfl, ?_, rfl, rfl⟩⟩
    cases xs with
    | nil => rfl
    | cons x xs => simp at h0; omega
  have hb' : bare = true → ¬ (xs.length : Int) = 0 := fun h h' => hb ⟨h, h'⟩
  clear hb
  have w1 : IntKind.i64.wrap ((xs.length : Int) + (room xs.length : Int)) = ((xs.length + room xs.length : Nat) : Int) := wrapN _ (by omega) (by omega)
  have em := vmake_map (H := List.replicate n VBlk.dead) (z := [.int .i64 0, .int .i64 0, .int .i64 0]) (bytes := 24) (n := xs.length + room xs.length) (f := cV) (x := ⟨0, 0, 0⟩) rfl (by omega) (by omega)
  rw [List.length_replicate] at em
  have main : ∀ ρ : VEnv, ρ 0 = custsV xs → ρ 5 = .ref n 0 0 (xs.length + room xs.length) (xs.length + room xs.length) → ρ 6 = VI 0 → ∀ Q : VQ,
      (∀ ρ' : VEnv, ρ' 0 = custsV xs → ρ' 5 = .ref n 0 0 (xs.length + room xs.length) (xs.length + room xs.length) → Q (.exit 0) ρ' (List.replicate n VBlk.dead ++ [.row 0 ((xs ++ List.replicate (room xs.length) (⟨0, 0, 0⟩ : Cust)).map cV) 3 true])) →
      VW ⟨true, false⟩ n (.loop laws_toCustomerS_b0) Q ρ (List.replicate n VBlk.dead ++ [.row 0 ((List.replicate (xs.length + room xs.length) (⟨0, 0, 0⟩ : Cust)).map cV) 3 true]) := by
    intro ρ h0 h5 h6 Q hQ
    refine VW_loop (fun (i : Nat) ρ H => i ≤ xs.length ∧ H = List.replicate n VBlk.dead ++ [.row 0 ((xs.take i ++ List.replicate (xs.length + room xs.length - i) (⟨0, 0, 0⟩ : Cust)).map cV) 3 true] ∧ ρ 0 = custsV xs ∧ ρ 5 = .ref n 0 0 (xs.length + room xs.length) (xs.length + room xs.length) ∧ ρ 6 = VI i) (fun i => xs.length - i) 0 ⟨Nat.zero_le _, by simp, h0, h5, h6⟩ ?_
    rintro i ρ H ⟨hi, rfl, h0, h5, h6⟩
    by_cases hin : (i : Int) < (xs.length : Int)
    · obtain ⟨x, hx⟩ : ∃ x, xs[i]? = some x := ⟨_, List.getElem?_eq_getElem (by omega)⟩
      have e1 := viaddr_map (f := cV) (t := .op) (H := List.replicate n VBlk.dead ++ [.row 0 ((xs.take i ++ List.replicate (xs.length + room xs.length - i) (⟨0, 0, 0⟩ : Cust)).map cV) 3 true]) (size := 3) (k := .i64) hx rfl
      have e3 := viaddr_row (H := List.replicate n VBlk.dead ++ [.row 0 ((xs.take i ++ List.replicate (xs.length + room xs.length - i) (⟨0, 0, 0⟩ : Cust)).map cV) 3 true]) (b := n) (g := 0) (o := 0) (n := xs.length + room xs.length) (c := xs.length + room xs.length) (i := i) (k := .i64) vrow_D (by omega)
      have hlt : (xs.take i).length = i := by simp; omega
      have e4 := vstore_map (H := List.replicate n VBlk.dead ++ [.row 0 ((xs.take i ++ List.replicate (xs.length + room xs.length - i) (⟨0, 0, 0⟩ : Cust)).map cV) 3 true]) (f := cV) (e := 3) (x := x) (j := i) (lo := n) (b := n) (g := 0) vrow_D (by simp; omega) (Nat.le_refl _) rfl rfl
      have hst := set_step (xs.take i) (xs.length + room xs.length - (i + 1)) (⟨0, 0, 0⟩ : Cust) x
      rw [hlt, show xs.length + room xs.length - (i + 1) + 1 = xs.length + room xs.length - i by omega] at hst
      have htk : xs.take i ++ [x] = xs.take (i + 1) := by rw [List.take_add_one, hx]; rfl
      rw [set_D, hst, htk] at e4
      have wi : IntKind.i64.wrap ((i : Int) + 1) = ((i + 1 : Nat) : Int) := wrapN (i + 1) (by omega) (by omega)
      simp only [laws_toCustomerS_b0, laws_toCustomer_v, laws_fillerCustomer_v, rd_cV, h0, h5, h6, hin, e1, e3, e4, wi, VX, Nat.reduceEqDiff, Nat.reduceAdd]
      exact ⟨i + 1, by omega, by omega, by (repeat' apply And.intro) <;> first | rfl | trivial⟩
    · have hie : i = xs.length := by omega
      subst hie
      simp only [laws_toCustomerS_b0, laws_toCustomer_v, laws_fillerCustomer_v, rd_cV, h0, h5, h6, hin, VX, Nat.reduceEqDiff, Nat.reduceAdd]
      rw [List.take_length, Nat.add_sub_cancel_left]
      exact hQ _ h0 h5
  have main2 : ∀ ρ : VEnv, ρ 0 = custsV xs → ρ 5 = .ref n 0 0 (xs.length + room xs.length) (xs.length + room xs.length) → ρ 7 = VI xs.length → ∀ Q : VQ,
      (∀ ρ' : VEnv, ρ' 0 = custsV xs → ρ' 5 = .ref n 0 0 (xs.length + room xs.length) (xs.length + room xs.length) → Q (.exit 2) ρ' (List.replicate n VBlk.dead ++ [.row 0 ((filledS fillC xs).map cV) 3 true])) →
      VW ⟨true, false⟩ n (.loop laws_toCustomerS_b1) Q ρ (List.replicate n VBlk.dead ++ [.row 0 ((xs ++ List.replicate (room xs.length) (⟨0, 0, 0⟩ : Cust)).map cV) 3 true]) := by
    intro ρ h0 h5 h6 Q hQ
    refine VW_loop (fun (j : Nat) ρ H => j ≤ room xs.length ∧ H = List.replicate n VBlk.dead ++ [.row 0 ((xs ++ List.replicate j fillC ++ List.replicate (room xs.length - j) (⟨0, 0, 0⟩ : Cust)).map cV) 3 true] ∧ ρ 0 = custsV xs ∧ ρ 5 = .ref n 0 0 (xs.length + room xs.length) (xs.length + room xs.length) ∧ ρ 7 = VI (xs.length + j : Nat)) (fun j => room xs.length - j) 0 ⟨Nat.zero_le _, by simp, h0, h5, h6⟩ ?_
    rintro j ρ H ⟨hi, rfl, h0, h5, h6⟩
    have el := vlen_ref (H := List.replicate n VBlk.dead ++ [.row 0 ((xs ++ List.replicate j fillC ++ List.replicate (room xs.length - j) (⟨0, 0, 0⟩ : Cust)).map cV) 3 true]) (b := n) (g := 0) (o := 0) (n := xs.length + room xs.length) (c := xs.length + room xs.length) vrow_D
    by_cases hin : ((xs.length + j : Nat) : Int) < ((xs.length + room xs.length : Nat) : Int)
    · have e3 := viaddr_row (H := List.replicate n VBlk.dead ++ [.row 0 ((xs ++ List.replicate j fillC ++ List.replicate (room xs.length - j) (⟨0, 0, 0⟩ : Cust)).map cV) 3 true]) (b := n) (g := 0) (o := 0) (n := xs.length + room xs.length) (c := xs.length + room xs.length) (i := xs.length + j) (k := .i64) vrow_D (by omega)
      have e4 := vstore_map (H := List.replicate n VBlk.dead ++ [.row 0 ((xs ++ List.replicate j fillC ++ List.replicate (room xs.length - j) (⟨0, 0, 0⟩ : Cust)).map cV) 3 true]) (f := cV) (e := 3) (x := fillC) (j := xs.length + j) (lo := n) (b := n) (g := 0) vrow_D (by simp; omega) (Nat.le_refl _) rfl rfl
      have hst := set_step (xs ++ List.replicate j fillC) (room xs.length - (j + 1)) (⟨0, 0, 0⟩ : Cust) fillC
      rw [show (xs ++ List.replicate j fillC).length = xs.length + j by simp, show room xs.length - (j + 1) + 1 = room xs.length - j by omega, show xs ++ List.replicate j fillC ++ [fillC] = xs ++ List.replicate (j + 1) fillC by rw [List.append_assoc, ← List.replicate_succ']] at hst
      rw [set_D, hst] at e4
      have wi : IntKind.i64.wrap (((xs.length + j : Nat) : Int) + 1) = ((xs.length + (j + 1) : Nat) : Int) := wrapN _ (by omega) (by omega)
      simp only [laws_toCustomerS_b1, laws_toCustomer_v, laws_fillerCustomer_v, rd_cV, h0, h5, h6, hin, el, e3, e4, wi, VX, Nat.reduceEqDiff, Nat.reduceAdd]
      exact ⟨j + 1, by omega, by omega, by (repeat' apply And.intro) <;> first | rfl | trivial⟩
    · have hie : j = room xs.length := by omega
      subst hie
      simp only [laws_toCustomerS_b1, laws_toCustomer_v, laws_fillerCustomer_v, rd_cV, h0, h5, h6, hin, el, VX, Nat.reduceEqDiff, Nat.reduceAdd]
      rw [Nat.sub_self, List.replicate_zero, List.append_nil]
      exact hQ _ h0 h5
  have fin : ∀ ρ' : VEnv, vsub 3 (.ref n 0 0 (xs.length + room xs.length) (xs.length + room xs.length)) none (some (VI xs.length)) none (List.replicate n VBlk.dead ++ [.row 0 ((filledS fillC xs).map cV) 3 true]) = some (.ref n 0 0 xs.length (xs.length + room xs.length)) := by
    intro _
    rw [vsub_ref_to vrow_D (by omega)]
  cases bare with
  | true =>
    have hb0 := hb' rfl
    simp only [laws_toCustomerS, laws_toCustomerS_c, hb0, w1, em, laws_roomBehind_v, VX, Nat.reduceEqDiff, Nat.reduceAdd]
    refine main _ rfl rfl rfl _ fun ρ' h0 h5 => ?_
    simp only [h0, h5, VX, Nat.reduceEqDiff, Nat.reduceAdd]
    refine main2 _ (by exact h0) (by exact h5) rfl _ fun ρ'' h0 h5 => ?_
    simp only [h0, h5, fin ρ'', VX, Nat.reduceEqDiff, Nat.reduceAdd]
    refine ⟨_, rfl, by simp [ownV], by simp [rowsOwn, ownL_map (f := cV) (fun _ => rfl)], .inr ⟨rfl, rfl⟩⟩
  | false =>
    simp only [laws_toCustomerS, laws_toCustomerS_c, w1, em, laws_roomBehind_v, VX, Nat.reduceEqDiff, Nat.reduceAdd]
    refine main _ rfl rfl rfl _ fun ρ' h0 h5 => ?_
    simp only [h0, h5, VX, Nat.reduceEqDiff, Nat.reduceAdd]
    refine main2 _ (by exact h0) (by exact h5) rfl _ fun ρ'' h0 h5 => ?_
    simp only [h0, h5, fin ρ'', VX, Nat.reduceEqDiff, Nat.reduceAdd]
    refine ⟨_, rfl, by simp [ownV], by simp [rowsOwn, ownL_map (f := cV) (fun _ => rfl)], .inr ⟨rfl, rfl⟩⟩

theorem laws_eqCustomerS_v (xs ys : List Cust) (hn : xs.length ≤ 1000000000) : TC 34 [custsV xs, custsV ys] (.sc (.bool (decide (xs = ys)))) := by
  refine TC.walk ⟨true, false⟩ laws_eqCustomerS_t rfl (Nat.le_of_ble_eq_true rfl) (by simp [pureL, custsV_pure]) rfl ?_
  by_cases hl : (xs.length : Int) = (ys.length : Int)
  · simp only [laws_eqCustomerS, laws_eqCustomerS_c, hl, VX, Nat.reduceEqDiff, Nat.reduceAdd]
    refine VW_loop (fun (i : Nat) ρ H => i ≤ xs.length ∧ H = [] ∧ xs.take i = ys.take i ∧ ρ 0 = custsV xs ∧ ρ 1 = custsV ys ∧ ρ 5 = VI i) (fun i => xs.length - i) 0 ⟨Nat.zero_le _, rfl, by simp, rfl, rfl, rfl⟩ ?_
    rintro i ρ H ⟨hi, rfl, ht, h0, h1, h5⟩
    by_cases hin : (i : Int) < (xs.length : Int)
    · obtain ⟨x, hx⟩ : ∃ x, xs[i]? = some x := ⟨_, List.getElem?_eq_getElem (by omega)⟩
      obtain ⟨y, hy⟩ : ∃ y, ys[i]? = some y := ⟨_, List.getElem?_eq_getElem (by omega)⟩
      have e1 := viaddr_map (f := cV) (t := .op) (H := []) (size := 3) (k := .i64) hx rfl
      have e2 := viaddr_map (f := cV) (t := .op) (H := []) (size := 3) (k := .i64) hy rfl
      have wi : IntKind.i64.wrap ((i : Int) + 1) = ((i + 1 : Nat) : Int) := wrapN (i + 1) (by omega) (by omega)
      by_cases hxy : x = y
      · simp only [laws_eqCustomerS_b0, laws_eqCustomer_v, rd_cV, h0, h1, h5, hin, e1, e2, hxy, wi, VX, Nat.reduceEqDiff, Nat.reduceAdd]
        refine ⟨i + 1, by omega, by omega, ?_⟩
        rw [List.take_add_one, List.take_add_one, hx, hy, ht, hxy]
        (repeat' apply And.intro) <;> first | rfl | trivial
      · simp only [laws_eqCustomerS_b0, laws_eqCustomer_v, rd_cV, h0, h1, h5, hin, e1, e2, hxy, VX, Nat.reduceEqDiff, Nat.reduceAdd]
        have : ¬ xs = ys := fun h => hxy (by rw [h, hy] at hx; injection hx with hx; exact hx.symm)
        simp only [this, decide_false]
        exact fz_res rfl
    · simp only [laws_eqCustomerS_b0, h0, h1, h5, hin, VX, Nat.reduceEqDiff, Nat.reduceAdd]
      have : xs = ys := by
        rw [List.take_of_length_le (by omega), List.take_of_length_le (by omega)] at ht
        exact ht
      simp only [this, decide_true]
      exact fz_res rfl
  · simp only [laws_eqCustomerS, laws_eqCustomerS_c, hl, VX, Nat.reduceEqDiff, Nat.reduceAdd]
    have : ¬ xs = ys := fun h => hl (by rw [h])
    simp only [this, decide_false]
    exact fz_res rfl


theorem laws_intactCustomerS_v {lo b b' : Nat} {H : VHeap} (xs : List Cust) (hn : xs.length ≤ 400000000) (hX : vrow H b 0 = some ((filledS fillC xs).map cV, 3, true)) (hY : vrow H b' 0 = some ((filledS fillC xs).map cV, 3, true)) {K : VV → VHeap → Prop} (hk : K (.sc (.bool true)) H) :
    vcallP 10 [.ref b 0 0 xs.length (xs.length + room xs.length), .ref b' 0 0 xs.length (xs.length + room xs.length)] lo H K := by
  refine vcall_raw rfl (VRaw.walk ⟨true, false⟩ laws_intactCustomerS_t (Nat.le_of_ble_eq_true rfl) ?_)
  have hr := room_le xs.length
  have hf := filledS_len fillC xs
  have w1 : IntKind.i64.wrap ((xs.length : Int) + (room xs.length : Int)) = ((xs.length + room xs.length : Nat) : Int) := wrapN _ (by omega) (by omega)
  have l1 := vlen_ref (o := 0) (n := xs.length) (c := xs.length + room xs.length) hX
  have l2 := vlen_ref (o := 0) (n := xs.length) (c := xs.length + room xs.length) hY
  have e1 := vsub_ref_to (o := 0) (n := xs.length) (c := xs.length + room xs.length) (h := xs.length + room xs.length) (k2 := .i64) hX (Nat.le_refl _)
  have e2 := vsub_ref_to (o := 0) (n := xs.length) (c := xs.length + room xs.length) (h := xs.length + room xs.length) (k2 := .i64) hY (Nat.le_refl _)
  have f1 : fz depth H (.ref b 0 0 (xs.length + room xs.length) (xs.length + room xs.length)) = some (custsV (filledS fillC xs)) := fz_row hX (by simp [hf]) (Nat.le_refl _) (pure_map fun _ => rfl)
  have f2 : fz depth H (.ref b' 0 0 (xs.length + room xs.length) (xs.length + room xs.length)) = some (custsV (filledS fillC xs)) := fz_row hY (by simp [hf]) (Nat.le_refl _) (pure_map fun _ => rfl)
  have e3 := (laws_eqCustomerS_v (filledS fillC xs) (filledS fillC xs) (by omega)).flat (H := H) rfl (by simp [pureL, custsV_pure]) (fz2 f1 f2) rfl
  simp only [laws_intactCustomerS, laws_intactCustomerS_c, laws_roomBehind_v, l1, l2, w1, e1, e2, e3, eq_self, VX, Nat.reduceEqDiff, Nat.reduceAdd]
  exact hk
end Go.PM
