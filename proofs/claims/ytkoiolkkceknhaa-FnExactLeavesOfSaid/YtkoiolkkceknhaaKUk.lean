/- Texts of a claim, in one: part 11. -/
import Derived.KernelRfl
import Derived.Test.YtkoiolkkceknhaaKUj

/- The pure machine's form of functions, as the settings give it: S5. -/
set_option linter.unusedSimpArgs false
set_option linter.unusedVariables false
namespace Go.PM
def spec_l05Fits_c : PCode := (.seq (.reg [⟨(some 6), (.mv (.const (.bool false))), none, false, []⟩]) (.seq (.reg [⟨(some 7), (.mv (.tmp 0)), none, false, []⟩, ⟨(some 8), (.call 61 [(.tmp 7), (.const (.int .i64 0)), (.const (.int .i64 3))]), none, false, []⟩, ⟨(some 9), (.mv (.tmp 8)), none, false, []⟩, ⟨(some 10), (.mv (.tmp 1)), (some (9, true)), false, []⟩, ⟨(some 11), (.call 61 [(.tmp 10), (.const (.int .i64 1)), (.const (.int .i64 8))]), (some (9, true)), false, []⟩, ⟨(some 12), (.pick (.tmp 9) (.tmp 11) (.const (.bool false))), none, false, []⟩, ⟨(some 13), (.mv (.tmp 12)), none, false, []⟩, ⟨(some 14), (.mv (.tmp 2)), (some (13, true)), false, []⟩, ⟨(some 15), (.call 56 [(.tmp 14)]), (some (13, true)), false, []⟩, ⟨(some 16), (.pick (.tmp 13) (.tmp 15) (.const (.bool false))), none, false, []⟩, ⟨(some 6), (.mv (.tmp 16)), none, false, []⟩]) .ret))
def spec_l05Fits : PFunc := ⟨17, [(.tmp 6)], spec_l05Fits_c⟩
theorem spec_l05Fits_t : tab 84 = some spec_l05Fits := by kernel_rfl
def spec_l05Waits_b0 : PCode := (.seq (.reg [⟨(some 16), (.bin .lss (.tmp 15) (.tmp 14)), none, false, []⟩]) (.seq (.cond (.tmp 16) .skip (.exit 0)) (.seq (.block 1 (.seq (.reg [⟨(some 17), (.mv (.tmp 15)), none, false, []⟩, ⟨(some 8), (.mv (.tmp 17)), none, false, []⟩]) (.reg [⟨(some 18), (.mv (.tmp 7)), none, false, []⟩, ⟨(some 19), (.mv (.tmp 8)), none, false, []⟩, ⟨(some 20), (.iaddr 1 (.tmp 18) (.tmp 19)), none, false, []⟩, ⟨(some 21), (.load false 1 (.tmp 20)), none, false, []⟩, ⟨(some 22), (.mv (.tmp 2)), none, false, []⟩, ⟨(some 23), (.mv (.tmp 8)), none, false, []⟩, ⟨(some 24), (.iaddr 3 (.tmp 22) (.tmp 23)), none, false, []⟩, ⟨(some 25), (.faddr 0 (.tmp 24)), none, false, []⟩, ⟨(some 26), (.load false 1 (.tmp 25)), none, false, []⟩, ⟨(some 27), (.bin .sub (.tmp 21) (.tmp 26)), none, false, []⟩, ⟨(some 28), (.iaddr 1 (.tmp 18) (.tmp 19)), none, false, []⟩, ⟨none, (.store 1 (.tmp 28) (.tmp 27)), none, false, []⟩]))) (.reg [⟨(some 29), (.bin .add (.tmp 15) (.const (.int .i64 1))), none, false, []⟩, ⟨(some 15), (.mv (.tmp 29)), none, false, []⟩]))))
def spec_l05Waits_c : PCode := (.seq (.reg [⟨(some 6), (.mv (.const (.slice none 0 0))), none, false, []⟩]) (.seq (.reg [⟨(some 9), (.mv (.tmp 0)), none, false, []⟩, ⟨(some 10), (.mv (.tmp 1)), none, false, []⟩, ⟨(some 11), (.mv (.tmp 2)), none, false, []⟩, ⟨(some 12), (.call 85 [(.tmp 9), (.tmp 10), (.tmp 11)]), none, false, []⟩, ⟨(some 7), (.mv (.tmp 12)), none, false, []⟩]) (.seq (.seq (.reg [⟨(some 13), (.mv (.tmp 7)), none, false, []⟩, ⟨(some 14), (.len (.tmp 13)), none, false, []⟩, ⟨(some 15), (.mv (.const (.int .i64 0))), none, false, []⟩]) (.block 0 (.loop spec_l05Waits_b0))) (.seq (.reg [⟨(some 30), (.mv (.tmp 7)), none, false, []⟩, ⟨(some 6), (.mv (.tmp 30)), none, false, []⟩]) .ret))))
def spec_l05Waits : PFunc := ⟨31, [(.tmp 6)], spec_l05Waits_c⟩
theorem spec_l05Waits_t : tab 90 = some spec_l05Waits := by kernel_rfl
def spec_l05Are_b0 : PCode := (.seq (.reg [⟨(some 8), (.bin .lss (.tmp 7) (.tmp 6)), none, false, []⟩]) (.seq (.cond (.tmp 8) .skip (.exit 0)) (.seq (.block 1 (.seq (.reg [⟨(some 9), (.mv (.tmp 7)), none, false, []⟩, ⟨(some 3), (.mv (.tmp 9)), none, false, []⟩]) (.seq (.reg [⟨(some 10), (.mv (.tmp 0)), none, false, []⟩, ⟨(some 11), (.mv (.tmp 3)), none, false, []⟩, ⟨(some 12), (.iaddr 3 (.tmp 10) (.tmp 11)), none, false, []⟩, ⟨(some 13), (.load true 3 (.tmp 12)), none, false, []⟩, ⟨(some 4), (.new [(.int .i64 0), (.int .i64 0), (.int .i64 0)]), none, false, []⟩, ⟨none, (.store 3 (.tmp 4) (.tmp 13)), none, false, []⟩]) (.seq (.reg [⟨(some 14), (.faddr 0 (.tmp 4)), none, false, []⟩, ⟨(some 15), (.load false 1 (.tmp 14)), none, false, []⟩, ⟨(some 16), (.call 61 [(.tmp 15), (.const (.int .i64 0)), (.const (.int .i64 10000))]), none, true, []⟩, ⟨(some 17), (.un .not (.tmp 16)), none, false, []⟩, ⟨(some 18), (.mv (.tmp 17)), none, false, []⟩, ⟨(some 19), (.faddr 1 (.tmp 4)), (some (18, false)), false, []⟩, ⟨(some 20), (.load false 1 (.tmp 19)), (some (18, false)), false, []⟩, ⟨(some 21), (.call 61 [(.tmp 20), (.const (.int .i64 1)), (.const (.int .i64 1000))]), (some (18, false)), true, []⟩, ⟨(some 22), (.un .not (.tmp 21)), (some (18, false)), false, []⟩, ⟨(some 23), (.pick (.tmp 18) (.const (.bool true)) (.tmp 22)), none, false, []⟩, ⟨(some 24), (.mv (.tmp 23)), none, false, []⟩, ⟨(some 25), (.faddr 2 (.tmp 4)), (some (24, false)), false, []⟩, ⟨(some 26), (.load false 1 (.tmp 25)), (some (24, false)), false, []⟩, ⟨(some 27), (.call 61 [(.tmp 26), (.const (.int .i64 0)), (.const (.int .i64 9))]), (some (24, false)), true, []⟩, ⟨(some 28), (.un .not (.tmp 27)), (some (24, false)), false, []⟩, ⟨(some 29), (.pick (.tmp 24) (.const (.bool true)) (.tmp 28)), none, false, []⟩, ⟨(some 30), (.mv (.tmp 29)), none, false, []⟩, ⟨(some 31), (.mv (.tmp 3)), (some (30, false)), false, []⟩, ⟨(some 32), (.bin .gtr (.tmp 31) (.const (.int .i64 0))), (some (30, false)), false, []⟩, ⟨(some 33), (.mv (.tmp 32)), (some (30, false)), false, []⟩, ⟨(some 34), (.mv (.tmp 0)), (some (33, true)), false, []⟩, ⟨(some 35), (.mv (.tmp 3)), (some (33, true)), false, []⟩, ⟨(some 36), (.bin .sub (.tmp 35) (.const (.int .i64 1))), (some (33, true)), false, []⟩, ⟨(some 37), (.iaddr 3 (.tmp 34) (.tmp 36)), (some (33, true)), false, []⟩, ⟨(some 38), (.faddr 0 (.tmp 37)), (some (33, true)), false, []⟩, ⟨(some 39), (.load false 1 (.tmp 38)), (some (33, true)), false, []⟩, ⟨(some 40), (.faddr 0 (.tmp 4)), (some (33, true)), false, []⟩, ⟨(some 41), (.load false 1 (.tmp 40)), (some (33, true)), false, []⟩, ⟨(some 42), (.bin .gtr (.tmp 39) (.tmp 41)), (some (33, true)), false, []⟩, ⟨(some 43), (.pick (.tmp 33) (.tmp 42) (.const (.bool false))), (some (30, false)), false, []⟩, ⟨(some 44), (.pick (.tmp 30) (.const (.bool true)) (.tmp 43)), none, false, []⟩]) (.cond (.tmp 44) (.seq (.reg [⟨(some 2), (.mv (.const (.bool false))), none, false, []⟩]) .ret) .skip))))) (.reg [⟨(some 45), (.bin .add (.tmp 7) (.const (.int .i64 1))), none, false, []⟩, ⟨(some 7), (.mv (.tmp 45)), none, false, []⟩]))))
def spec_l05Are_c : PCode := (.seq (.reg [⟨(some 2), (.mv (.const (.bool false))), none, false, []⟩]) (.seq (.seq (.reg [⟨(some 5), (.mv (.tmp 0)), none, false, []⟩, ⟨(some 6), (.len (.tmp 5)), none, false, []⟩, ⟨(some 7), (.mv (.const (.int .i64 0))), none, false, []⟩]) (.block 0 (.loop spec_l05Are_b0))) (.seq (.reg [⟨(some 46), (.mv (.tmp 0)), none, false, []⟩, ⟨(some 47), (.len (.tmp 46)), none, false, []⟩, ⟨(some 48), (.bin .leq (.tmp 47) (.const (.int .i64 24))), none, false, []⟩, ⟨(some 2), (.mv (.tmp 48)), none, false, []⟩]) .ret)))
def spec_l05Are : PFunc := ⟨49, [(.tmp 2)], spec_l05Are_c⟩
theorem spec_l05Are_t : tab 56 = some spec_l05Are := by kernel_rfl
def spec_l05Starts_b0 : PCode := (.seq (.reg [⟨(some 17), (.bin .lss (.tmp 16) (.tmp 15)), none, false, []⟩]) (.seq (.cond (.tmp 17) .skip (.exit 0)) (.seq (.block 1 (.seq (.reg [⟨(some 18), (.mv (.tmp 16)), none, false, []⟩, ⟨(some 8), (.mv (.tmp 18)), none, false, []⟩]) (.reg [⟨(some 19), (.mv (.tmp 7)), none, false, []⟩, ⟨(some 20), (.mv (.tmp 8)), none, false, []⟩, ⟨(some 21), (.iaddr 1 (.tmp 19) (.tmp 20)), none, false, []⟩, ⟨none, (.store 1 (.tmp 21) (.const (.int .i64 (-1)))), none, false, []⟩]))) (.reg [⟨(some 22), (.bin .add (.tmp 16) (.const (.int .i64 1))), none, false, []⟩, ⟨(some 16), (.mv (.tmp 22)), none, false, []⟩]))))
def spec_l05Starts_b1 : PCode := (.seq (.seq (.reg [⟨(some 25), (.mv (.tmp 2)), none, false, []⟩, ⟨(some 26), (.mv (.tmp 7)), none, false, []⟩, ⟨(some 27), (.mv (.tmp 9)), none, false, []⟩, ⟨(some 28), (.call 101 [(.tmp 25), (.tmp 26), (.tmp 27)]), none, false, []⟩, ⟨(some 29), (.mv (.tmp 1)), none, false, []⟩, ⟨(some 30), (.bin .lss (.tmp 28) (.tmp 29)), none, false, []⟩]) (.cond (.tmp 30) .skip (.exit 4))) (.block 5 (.seq (.reg [⟨(some 31), (.mv (.tmp 0)), none, false, []⟩, ⟨(some 32), (.mv (.tmp 2)), none, false, []⟩, ⟨(some 33), (.mv (.tmp 7)), none, false, []⟩, ⟨(some 34), (.mv (.tmp 9)), none, false, []⟩, ⟨(some 35), (.call 102 [(.tmp 31), (.tmp 32), (.tmp 33), (.tmp 34)]), none, false, []⟩, ⟨(some 10), (.mv (.tmp 35)), none, false, []⟩]) (.seq (.seq (.reg [⟨(some 36), (.mv (.tmp 10)), none, false, []⟩, ⟨(some 37), (.bin .lss (.tmp 36) (.const (.int .i64 0))), none, false, []⟩]) (.cond (.tmp 37) (.exit 4) .skip)) (.reg [⟨(some 38), (.mv (.tmp 7)), none, false, []⟩, ⟨(some 39), (.mv (.tmp 10)), none, false, []⟩, ⟨(some 40), (.mv (.tmp 9)), none, false, []⟩, ⟨(some 41), (.iaddr 1 (.tmp 38) (.tmp 39)), none, false, []⟩, ⟨none, (.store 1 (.tmp 41) (.tmp 40)), none, false, []⟩])))))
def spec_l05Starts_b2 : PCode := (.seq (.seq (.reg [⟨(some 23), (.mv (.tmp 9)), none, false, []⟩, ⟨(some 24), (.bin .geq (.tmp 23) (.const (.int .i64 0))), none, false, []⟩]) (.cond (.tmp 24) .skip (.exit 2))) (.block 3 (.seq (.block 4 (.loop spec_l05Starts_b1)) (.reg [⟨(some 42), (.mv (.tmp 2)), none, false, []⟩, ⟨(some 43), (.mv (.tmp 7)), none, false, []⟩, ⟨(some 44), (.mv (.tmp 9)), none, false, []⟩, ⟨(some 45), (.call 103 [(.tmp 42), (.tmp 43), (.tmp 44)]), none, false, []⟩, ⟨(some 9), (.mv (.tmp 45)), none, false, []⟩]))))
def spec_l05Starts_c : PCode := (.seq (.reg [⟨(some 6), (.mv (.const (.slice none 0 0))), none, false, []⟩]) (.seq (.reg [⟨(some 11), (.mv (.tmp 2)), none, false, []⟩, ⟨(some 12), (.len (.tmp 11)), none, false, []⟩, ⟨(some 13), (.make [(.int .i64 0)] 8 (.tmp 12) (.tmp 12)), none, false, []⟩, ⟨(some 7), (.mv (.tmp 13)), none, false, []⟩]) (.seq (.seq (.reg [⟨(some 14), (.mv (.tmp 7)), none, false, []⟩, ⟨(some 15), (.len (.tmp 14)), none, false, []⟩, ⟨(some 16), (.mv (.const (.int .i64 0))), none, false, []⟩]) (.block 0 (.loop spec_l05Starts_b0))) (.seq (.reg [⟨(some 9), (.mv (.const (.int .i64 0))), none, false, []⟩]) (.seq (.block 2 (.loop spec_l05Starts_b2)) (.seq (.reg [⟨(some 46), (.mv (.tmp 7)), none, false, []⟩, ⟨(some 6), (.mv (.tmp 46)), none, false, []⟩]) .ret))))))
def spec_l05Starts : PFunc := ⟨47, [(.tmp 6)], spec_l05Starts_c⟩
theorem spec_l05Starts_t : tab 85 = some spec_l05Starts := by kernel_rfl
def spec_l05Busy_b0 : PCode := (.seq (.reg [⟨(some 12), (.bin .lss (.tmp 11) (.tmp 10)), none, false, []⟩]) (.seq (.cond (.tmp 12) .skip (.exit 0)) (.seq (.block 1 (.seq (.reg [⟨(some 13), (.mv (.tmp 11)), none, false, []⟩, ⟨(some 8), (.mv (.tmp 13)), none, false, []⟩]) (.seq (.reg [⟨(some 14), (.mv (.tmp 1)), none, false, []⟩, ⟨(some 15), (.mv (.tmp 8)), none, false, []⟩, ⟨(some 16), (.iaddr 1 (.tmp 14) (.tmp 15)), none, false, []⟩, ⟨(some 17), (.load false 1 (.tmp 16)), none, false, []⟩, ⟨(some 18), (.bin .geq (.tmp 17) (.const (.int .i64 0))), none, false, []⟩, ⟨(some 19), (.mv (.tmp 18)), none, false, []⟩, ⟨(some 20), (.mv (.tmp 1)), (some (19, true)), false, []⟩, ⟨(some 21), (.mv (.tmp 8)), (some (19, true)), false, []⟩, ⟨(some 22), (.iaddr 1 (.tmp 20) (.tmp 21)), (some (19, true)), false, []⟩, ⟨(some 23), (.load false 1 (.tmp 22)), (some (19, true)), false, []⟩, ⟨(some 24), (.mv (.tmp 2)), (some (19, true)), false, []⟩, ⟨(some 25), (.bin .leq (.tmp 23) (.tmp 24)), (some (19, true)), false, []⟩, ⟨(some 26), (.pick (.tmp 19) (.tmp 25) (.const (.bool false))), none, false, []⟩, ⟨(some 27), (.mv (.tmp 26)), none, false, []⟩, ⟨(some 28), (.mv (.tmp 1)), (some (27, true)), false, []⟩, ⟨(some 29), (.mv (.tmp 8)), (some (27, true)), false, []⟩, ⟨(some 30), (.iaddr 1 (.tmp 28) (.tmp 29)), (some (27, true)), false, []⟩, ⟨(some 31), (.load false 1 (.tmp 30)), (some (27, true)), false, []⟩, ⟨(some 32), (.mv (.tmp 0)), (some (27, true)), false, []⟩, ⟨(some 33), (.mv (.tmp 8)), (some (27, true)), false, []⟩, ⟨(some 34), (.iaddr 3 (.tmp 32) (.tmp 33)), (some (27, true)), false, []⟩, ⟨(some 35), (.faddr 1 (.tmp 34)), (some (27, true)), false, []⟩, ⟨(some 36), (.load false 1 (.tmp 35)), (some (27, true)), false, []⟩, ⟨(some 37), (.bin .add (.tmp 31) (.tmp 36)), (some (27, true)), false, []⟩, ⟨(some 38), (.mv (.tmp 2)), (some (27, true)), false, []⟩, ⟨(some 39), (.bin .gtr (.tmp 37) (.tmp 38)), (some (27, true)), false, []⟩, ⟨(some 40), (.pick (.tmp 27) (.tmp 39) (.const (.bool false))), none, false, []⟩]) (.cond (.tmp 40) (.reg [⟨(some 41), (.mv (.tmp 7)), none, false, []⟩, ⟨(some 42), (.bin .add (.tmp 41) (.const (.int .i64 1))), none, false, []⟩, ⟨(some 7), (.mv (.tmp 42)), none, false, []⟩]) .skip)))) (.reg [⟨(some 43), (.bin .add (.tmp 11) (.const (.int .i64 1))), none, false, []⟩, ⟨(some 11), (.mv (.tmp 43)), none, false, []⟩]))))
def spec_l05Busy_c : PCode := (.seq (.reg [⟨(some 6), (.mv (.const (.int .i64 0))), none, false, []⟩]) (.seq (.reg [⟨(some 7), (.mv (.const (.int .i64 0))), none, false, []⟩]) (.seq (.seq (.reg [⟨(some 9), (.mv (.tmp 0)), none, false, []⟩, ⟨(some 10), (.len (.tmp 9)), none, false, []⟩, ⟨(some 11), (.mv (.const (.int .i64 0))), none, false, []⟩]) (.block 0 (.loop spec_l05Busy_b0))) (.seq (.reg [⟨(some 44), (.mv (.tmp 7)), none, false, []⟩, ⟨(some 6), (.mv (.tmp 44)), none, false, []⟩]) .ret))))
def spec_l05Busy : PFunc := ⟨45, [(.tmp 6)], spec_l05Busy_c⟩
theorem spec_l05Busy_t : tab 101 = some spec_l05Busy := by kernel_rfl
def spec_l05Next_b0 : PCode := (.seq (.reg [⟨(some 14), (.bin .lss (.tmp 13) (.tmp 12)), none, false, []⟩]) (.seq (.cond (.tmp 14) .skip (.exit 0)) (.seq (.block 1 (.seq (.reg [⟨(some 15), (.mv (.tmp 13)), none, false, []⟩, ⟨(some 10), (.mv (.tmp 15)), none, false, []⟩]) (.seq (.seq (.reg [⟨(some 16), (.mv (.tmp 2)), none, false, []⟩, ⟨(some 17), (.mv (.tmp 10)), none, false, []⟩, ⟨(some 18), (.iaddr 1 (.tmp 16) (.tmp 17)), none, false, []⟩, ⟨(some 19), (.load false 1 (.tmp 18)), none, false, []⟩, ⟨(some 20), (.bin .geq (.tmp 19) (.const (.int .i64 0))), none, false, []⟩, ⟨(some 21), (.mv (.tmp 20)), none, false, []⟩, ⟨(some 22), (.mv (.tmp 1)), (some (21, false)), false, []⟩, ⟨(some 23), (.mv (.tmp 10)), (some (21, false)), false, []⟩, ⟨(some 24), (.iaddr 3 (.tmp 22) (.tmp 23)), (some (21, false)), false, []⟩, ⟨(some 25), (.faddr 0 (.tmp 24)), (some (21, false)), false, []⟩, ⟨(some 26), (.load false 1 (.tmp 25)), (some (21, false)), false, []⟩, ⟨(some 27), (.mv (.tmp 3)), (some (21, false)), false, []⟩, ⟨(some 28), (.bin .gtr (.tmp 26) (.tmp 27)), (some (21, false)), false, []⟩, ⟨(some 29), (.pick (.tmp 21) (.const (.bool true)) (.tmp 28)), none, false, []⟩]) (.cond (.tmp 29) (.exit 1) .skip)) (.seq (.reg [⟨(some 30), (.mv (.tmp 9)), none, false, []⟩, ⟨(some 31), (.bin .lss (.tmp 30) (.const (.int .i64 0))), none, false, []⟩, ⟨(some 32), (.mv (.tmp 31)), none, false, []⟩, ⟨(some 33), (.mv (.tmp 0)), (some (32, false)), false, []⟩, ⟨(some 34), (.mv (.tmp 1)), (some (32, false)), false, []⟩, ⟨(some 35), (.mv (.tmp 10)), (some (32, false)), false, []⟩, ⟨(some 36), (.mv (.tmp 9)), (some (32, false)), false, []⟩, ⟨(some 37), (.call 111 [(.tmp 33), (.tmp 34), (.tmp 35), (.tmp 36)]), (some (32, false)), false, []⟩, ⟨(some 38), (.pick (.tmp 32) (.const (.bool true)) (.tmp 37)), none, false, []⟩]) (.cond (.tmp 38) (.reg [⟨(some 39), (.mv (.tmp 10)), none, false, []⟩, ⟨(some 9), (.mv (.tmp 39)), none, false, []⟩]) .skip))))) (.reg [⟨(some 40), (.bin .add (.tmp 13) (.const (.int .i64 1))), none, false, []⟩, ⟨(some 13), (.mv (.tmp 40)), none, false, []⟩]))))
def spec_l05Next_c : PCode := (.seq (.reg [⟨(some 8), (.mv (.const (.int .i64 0))), none, false, []⟩]) (.seq (.reg [⟨(some 9), (.mv (.const (.int .i64 (-1)))), none, false, []⟩]) (.seq (.seq (.reg [⟨(some 11), (.mv (.tmp 1)), none, false, []⟩, ⟨(some 12), (.len (.tmp 11)), none, false, []⟩, ⟨(some 13), (.mv (.const (.int .i64 0))), none, false, []⟩]) (.block 0 (.loop spec_l05Next_b0))) (.seq (.reg [⟨(some 41), (.mv (.tmp 9)), none, false, []⟩, ⟨(some 8), (.mv (.tmp 41)), none, false, []⟩]) .ret))))
def spec_l05Next : PFunc := ⟨42, [(.tmp 8)], spec_l05Next_c⟩
theorem spec_l05Next_t : tab 102 = some spec_l05Next := by kernel_rfl
def spec_l05Later_b0 : PCode := (.seq (.reg [⟨(some 13), (.bin .lss (.tmp 12) (.tmp 11)), none, false, []⟩]) (.seq (.cond (.tmp 13) .skip (.exit 0)) (.seq (.block 1 (.seq (.reg [⟨(some 14), (.mv (.tmp 12)), none, false, []⟩, ⟨(some 8), (.mv (.tmp 14)), none, false, []⟩]) (.seq (.reg [⟨(some 15), (.mv (.tmp 0)), none, false, []⟩, ⟨(some 16), (.mv (.tmp 8)), none, false, []⟩, ⟨(some 17), (.iaddr 3 (.tmp 15) (.tmp 16)), none, false, []⟩, ⟨(some 18), (.faddr 0 (.tmp 17)), none, false, []⟩, ⟨(some 19), (.load false 1 (.tmp 18)), none, false, []⟩, ⟨(some 9), (.mv (.tmp 19)), none, false, []⟩]) (.seq (.seq (.reg [⟨(some 20), (.mv (.tmp 1)), none, false, []⟩, ⟨(some 21), (.mv (.tmp 8)), none, false, []⟩, ⟨(some 22), (.iaddr 1 (.tmp 20) (.tmp 21)), none, false, []⟩, ⟨(some 23), (.load false 1 (.tmp 22)), none, false, []⟩, ⟨(some 24), (.bin .geq (.tmp 23) (.const (.int .i64 0))), none, false, []⟩]) (.cond (.tmp 24) (.reg [⟨(some 25), (.mv (.tmp 1)), none, false, []⟩, ⟨(some 26), (.mv (.tmp 8)), none, false, []⟩, ⟨(some 27), (.iaddr 1 (.tmp 25) (.tmp 26)), none, false, []⟩, ⟨(some 28), (.load false 1 (.tmp 27)), none, false, []⟩, ⟨(some 29), (.mv (.tmp 0)), none, false, []⟩, ⟨(some 30), (.mv (.tmp 8)), none, false, []⟩, ⟨(some 31), (.iaddr 3 (.tmp 29) (.tmp 30)), none, false, []⟩, ⟨(some 32), (.faddr 1 (.tmp 31)), none, false, []⟩, ⟨(some 33), (.load false 1 (.tmp 32)), none, false, []⟩, ⟨(some 34), (.bin .add (.tmp 28) (.tmp 33)), none, false, []⟩, ⟨(some 9), (.mv (.tmp 34)), none, false, []⟩]) .skip)) (.seq (.reg [⟨(some 35), (.mv (.tmp 9)), none, false, []⟩, ⟨(some 36), (.mv (.tmp 2)), none, false, []⟩, ⟨(some 37), (.bin .gtr (.tmp 35) (.tmp 36)), none, false, []⟩, ⟨(some 38), (.mv (.tmp 37)), none, false, []⟩, ⟨(some 39), (.mv (.tmp 7)), (some (38, true)), false, []⟩, ⟨(some 40), (.bin .lss (.tmp 39) (.const (.int .i64 0))), (some (38, true)), false, []⟩, ⟨(some 41), (.mv (.tmp 40)), (some (38, true)), false, []⟩, ⟨(some 42), (.mv (.tmp 9)), (some (41, false)), false, []⟩, ⟨(some 43), (.mv (.tmp 7)), (some (41, false)), false, []⟩, ⟨(some 44), (.bin .lss (.tmp 42) (.tmp 43)), (some (41, false)), false, []⟩, ⟨(some 45), (.pick (.tmp 41) (.const (.bool true)) (.tmp 44)), (some (38, true)), false, []⟩, ⟨(some 46), (.pick (.tmp 38) (.tmp 45) (.const (.bool false))), none, false, []⟩]) (.cond (.tmp 46) (.reg [⟨(some 47), (.mv (.tmp 9)), none, false, []⟩, ⟨(some 7), (.mv (.tmp 47)), none, false, []⟩]) .skip)))))) (.reg [⟨(some 48), (.bin .add (.tmp 12) (.const (.int .i64 1))), none, false, []⟩, ⟨(some 12), (.mv (.tmp 48)), none, false, []⟩]))))
def spec_l05Later_c : PCode := (.seq (.reg [⟨(some 6), (.mv (.const (.int .i64 0))), none, false, []⟩]) (.seq (.reg [⟨(some 7), (.mv (.const (.int .i64 (-1)))), none, false, []⟩]) (.seq (.seq (.reg [⟨(some 10), (.mv (.tmp 0)), none, false, []⟩, ⟨(some 11), (.len (.tmp 10)), none, false, []⟩, ⟨(some 12), (.mv (.const (.int .i64 0))), none, false, []⟩]) (.block 0 (.loop spec_l05Later_b0))) (.seq (.reg [⟨(some 49), (.mv (.tmp 7)), none, false, []⟩, ⟨(some 6), (.mv (.tmp 49)), none, false, []⟩]) .ret))))
def spec_l05Later : PFunc := ⟨50, [(.tmp 6)], spec_l05Later_c⟩
theorem spec_l05Later_t : tab 103 = some spec_l05Later := by kernel_rfl
def spec_l05Before_c : PCode := (.seq (.reg [⟨(some 8), (.mv (.const (.bool false))), none, false, []⟩]) (.seq (.seq (.reg [⟨(some 9), (.mv (.tmp 0)), none, false, []⟩]) (.block 0 (.seq (.reg [⟨(some 11), (.bin .eql (.tmp 9) (.const (.int .i64 1))), none, false, []⟩, ⟨(some 10), (.mv (.tmp 11)), none, false, []⟩]) (.cond (.tmp 10) (.seq (.reg [⟨(some 8), (.mv (.const (.bool true))), none, false, []⟩]) .ret) (.seq (.reg [⟨(some 13), (.bin .eql (.tmp 9) (.const (.int .i64 2))), none, false, []⟩, ⟨(some 12), (.mv (.tmp 13)), none, false, []⟩]) (.cond (.tmp 12) (.seq (.reg [⟨(some 14), (.mv (.tmp 1)), none, false, []⟩, ⟨(some 15), (.mv (.tmp 2)), none, false, []⟩, ⟨(some 16), (.iaddr 3 (.tmp 14) (.tmp 15)), none, false, []⟩, ⟨(some 17), (.faddr 1 (.tmp 16)), none, false, []⟩, ⟨(some 18), (.load false 1 (.tmp 17)), none, false, []⟩, ⟨(some 19), (.mv (.tmp 1)), none, false, []⟩, ⟨(some 20), (.mv (.tmp 3)), none, false, []⟩, ⟨(some 21), (.iaddr 3 (.tmp 19) (.tmp 20)), none, false, []⟩, ⟨(some 22), (.faddr 1 (.tmp 21)), none, false, []⟩, ⟨(some 23), (.load false 1 (.tmp 22)), none, false, []⟩, ⟨(some 24), (.bin .lss (.tmp 18) (.tmp 23)), none, false, []⟩, ⟨(some 8), (.mv (.tmp 24)), none, false, []⟩]) .ret) (.seq (.reg [⟨(some 26), (.bin .eql (.tmp 9) (.const (.int .i64 3))), none, false, []⟩, ⟨(some 25), (.mv (.tmp 26)), none, false, []⟩]) (.cond (.tmp 25) (.seq (.reg [⟨(some 27), (.mv (.tmp 1)), none, false, []⟩, ⟨(some 28), (.mv (.tmp 2)), none, false, []⟩, ⟨(some 29), (.iaddr 3 (.tmp 27) (.tmp 28)), none, false, []⟩, ⟨(some 30), (.faddr 2 (.tmp 29)), none, false, []⟩, ⟨(some 31), (.load false 1 (.tmp 30)), none, false, []⟩, ⟨(some 32), (.mv (.tmp 1)), none, false, []⟩, ⟨(some 33), (.mv (.tmp 3)), none, false, []⟩, ⟨(some 34), (.iaddr 3 (.tmp 32) (.tmp 33)), none, false, []⟩, ⟨(some 35), (.faddr 2 (.tmp 34)), none, false, []⟩, ⟨(some 36), (.load false 1 (.tmp 35)), none, false, []⟩, ⟨(some 37), (.bin .lss (.tmp 31) (.tmp 36)), none, false, []⟩, ⟨(some 8), (.mv (.tmp 37)), none, false, []⟩]) .ret) .skip)))))))) (.seq (.reg [⟨(some 8), (.mv (.const (.bool false))), none, false, []⟩]) .ret)))
def spec_l05Before : PFunc := ⟨38, [(.tmp 8)], spec_l05Before_c⟩
theorem spec_l05Before_t : tab 111 = some spec_l05Before := by kernel_rfl
def spec_AreCustomers_c : PCode := (.seq (.reg [⟨(some 2), (.mv (.const (.bool false))), none, false, []⟩]) (.seq (.reg [⟨(some 3), (.mv (.tmp 0)), none, false, []⟩, ⟨(some 4), (.call 56 [(.tmp 3)]), none, false, []⟩, ⟨(some 2), (.mv (.tmp 4)), none, false, []⟩]) .ret))
def spec_AreCustomers : PFunc := ⟨5, [(.tmp 2)], spec_AreCustomers_c⟩
theorem spec_AreCustomers_t : tab 16 = some spec_AreCustomers := by kernel_rfl
def spec_WorkLeft_b0 : PCode := (.seq (.reg [⟨(some 20), (.bin .lss (.tmp 19) (.tmp 18)), none, false, []⟩]) (.seq (.cond (.tmp 20) .skip (.exit 0)) (.seq (.block 1 (.seq (.reg [⟨(some 21), (.mv (.tmp 19)), none, false, []⟩, ⟨(some 8), (.mv (.tmp 21)), none, false, []⟩]) (.seq (.seq (.reg [⟨(some 22), (.mv (.tmp 0)), none, false, []⟩, ⟨(some 23), (.mv (.tmp 8)), none, false, []⟩, ⟨(some 24), (.iaddr 3 (.tmp 22) (.tmp 23)), none, false, []⟩, ⟨(some 25), (.faddr 0 (.tmp 24)), none, false, []⟩, ⟨(some 26), (.load false 1 (.tmp 25)), none, false, []⟩, ⟨(some 27), (.mv (.tmp 1)), none, false, []⟩, ⟨(some 28), (.bin .gtr (.tmp 26) (.tmp 27)), none, false, []⟩]) (.cond (.tmp 28) (.exit 0) .skip)) (.seq (.reg [⟨(some 29), (.mv (.tmp 6)), none, false, []⟩, ⟨(some 30), (.mv (.tmp 0)), none, false, []⟩, ⟨(some 31), (.mv (.tmp 8)), none, false, []⟩, ⟨(some 32), (.iaddr 3 (.tmp 30) (.tmp 31)), none, false, []⟩, ⟨(some 33), (.faddr 0 (.tmp 32)), none, false, []⟩, ⟨(some 34), (.load false 1 (.tmp 33)), none, false, []⟩, ⟨(some 35), (.mv (.tmp 7)), none, false, []⟩, ⟨(some 36), (.bin .sub (.tmp 34) (.tmp 35)), none, false, []⟩, ⟨(some 37), (.bin .sub (.tmp 29) (.tmp 36)), none, false, []⟩, ⟨(some 38), (.call 62 [(.const (.int .i64 0)), (.tmp 37)]), none, true, []⟩, ⟨(some 39), (.mv (.tmp 0)), none, false, []⟩, ⟨(some 40), (.mv (.tmp 8)), none, false, []⟩, ⟨(some 41), (.iaddr 3 (.tmp 39) (.tmp 40)), none, false, []⟩, ⟨(some 42), (.faddr 1 (.tmp 41)), none, false, []⟩, ⟨(some 43), (.load false 1 (.tmp 42)), none, false, []⟩, ⟨(some 44), (.bin .add (.tmp 38) (.tmp 43)), none, false, []⟩, ⟨(some 6), (.mv (.tmp 44)), none, false, []⟩]) (.reg [⟨(some 45), (.mv (.tmp 0)), none, false, []⟩, ⟨(some 46), (.mv (.tmp 8)), none, false, []⟩, ⟨(some 47), (.iaddr 3 (.tmp 45) (.tmp 46)), none, false, []⟩, ⟨(some 48), (.faddr 0 (.tmp 47)), none, false, []⟩, ⟨(some 49), (.load false 1 (.tmp 48)), none, false, []⟩, ⟨(some 7), (.mv (.tmp 49)), none, false, []⟩]))))) (.reg [⟨(some 50), (.bin .add (.tmp 19) (.const (.int .i64 1))), none, false, []⟩, ⟨(some 19), (.mv (.tmp 50)), none, false, []⟩]))))
def spec_WorkLeft_c : PCode := (.seq (.reg [⟨(some 4), (.mv (.const (.int .i64 0))), none, false, []⟩, ⟨(some 5), (.mv (.const (.bool false))), none, false, []⟩]) (.seq (.seq (.reg [⟨(some 9), (.mv (.tmp 0)), none, false, []⟩, ⟨(some 10), (.call 56 [(.tmp 9)]), none, false, []⟩, ⟨(some 11), (.un .not (.tmp 10)), none, false, []⟩, ⟨(some 12), (.mv (.tmp 11)), none, false, []⟩, ⟨(some 13), (.mv (.tmp 1)), (some (12, false)), false, []⟩, ⟨(some 14), (.call 61 [(.tmp 13), (.const (.int .i64 0)), (.const (.int .i64 1000000000))]), (some (12, false)), false, []⟩, ⟨(some 15), (.un .not (.tmp 14)), (some (12, false)), false, []⟩, ⟨(some 16), (.pick (.tmp 12) (.const (.bool true)) (.tmp 15)), none, false, []⟩]) (.cond (.tmp 16) (.seq (.reg [⟨(some 4), (.mv (.const (.int .i64 0))), none, false, []⟩, ⟨(some 5), (.mv (.const (.bool false))), none, false, []⟩]) .ret) .skip)) (.seq (.reg [⟨(some 6), (.mv (.const (.int .i64 0))), none, false, []⟩]) (.seq (.reg [⟨(some 7), (.mv (.const (.int .i64 0))), none, false, []⟩]) (.seq (.seq (.reg [⟨(some 17), (.mv (.tmp 0)), none, false, []⟩, ⟨(some 18), (.len (.tmp 17)), none, false, []⟩, ⟨(some 19), (.mv (.const (.int .i64 0))), none, false, []⟩]) (.block 0 (.loop spec_WorkLeft_b0))) (.seq (.reg [⟨(some 51), (.mv (.tmp 6)), none, false, []⟩, ⟨(some 52), (.mv (.tmp 1)), none, false, []⟩, ⟨(some 53), (.mv (.tmp 7)), none, false, []⟩, ⟨(some 54), (.bin .sub (.tmp 52) (.tmp 53)), none, false, []⟩, ⟨(some 55), (.bin .sub (.tmp 51) (.tmp 54)), none, false, []⟩, ⟨(some 56), (.call 62 [(.const (.int .i64 0)), (.tmp 55)]), none, false, []⟩, ⟨(some 4), (.mv (.tmp 56)), none, false, []⟩, ⟨(some 5), (.mv (.const (.bool true))), none, false, []⟩]) .ret))))))
def spec_WorkLeft : PFunc := ⟨57, [(.tmp 4), (.tmp 5)], spec_WorkLeft_c⟩
theorem spec_WorkLeft_t : tab 20 = some spec_WorkLeft := by kernel_rfl
def spec_TimeInSystem_b0 : PCode := (.seq (.reg [⟨(some 15), (.bin .lss (.tmp 14) (.tmp 13)), none, false, []⟩]) (.seq (.cond (.tmp 15) .skip (.exit 0)) (.seq (.block 1 (.seq (.reg [⟨(some 16), (.mv (.tmp 14)), none, false, []⟩, ⟨(some 7), (.mv (.tmp 16)), none, false, []⟩]) (.reg [⟨(some 17), (.mv (.tmp 6)), none, false, []⟩, ⟨(some 18), (.mv (.tmp 1)), none, false, []⟩, ⟨(some 19), (.mv (.tmp 7)), none, false, []⟩, ⟨(some 20), (.iaddr 1 (.tmp 18) (.tmp 19)), none, false, []⟩, ⟨(some 21), (.load false 1 (.tmp 20)), none, false, []⟩, ⟨(some 22), (.mv (.tmp 0)), none, false, []⟩, ⟨(some 23), (.mv (.tmp 7)), none, false, []⟩, ⟨(some 24), (.iaddr 3 (.tmp 22) (.tmp 23)), none, false, []⟩, ⟨(some 25), (.faddr 0 (.tmp 24)), none, false, []⟩, ⟨(some 26), (.load false 1 (.tmp 25)), none, false, []⟩, ⟨(some 27), (.bin .sub (.tmp 21) (.tmp 26)), none, false, []⟩, ⟨(some 28), (.bin .add (.tmp 17) (.tmp 27)), none, false, []⟩, ⟨(some 6), (.mv (.tmp 28)), none, false, []⟩]))) (.reg [⟨(some 29), (.bin .add (.tmp 14) (.const (.int .i64 1))), none, false, []⟩, ⟨(some 14), (.mv (.tmp 29)), none, false, []⟩]))))
def spec_TimeInSystem_c : PCode := (.seq (.reg [⟨(some 4), (.mv (.const (.int .i64 0))), none, false, []⟩, ⟨(some 5), (.mv (.const (.bool false))), none, false, []⟩]) (.seq (.seq (.reg [⟨(some 8), (.mv (.tmp 0)), none, false, []⟩, ⟨(some 9), (.mv (.tmp 1)), none, false, []⟩, ⟨(some 10), (.call 63 [(.tmp 8), (.tmp 9)]), none, false, []⟩, ⟨(some 11), (.un .not (.tmp 10)), none, false, []⟩]) (.cond (.tmp 11) (.seq (.reg [⟨(some 4), (.mv (.const (.int .i64 0))), none, false, []⟩, ⟨(some 5), (.mv (.const (.bool false))), none, false, []⟩]) .ret) .skip)) (.seq (.reg [⟨(some 6), (.mv (.const (.int .i64 0))), none, false, []⟩]) (.seq (.seq (.reg [⟨(some 12), (.mv (.tmp 0)), none, false, []⟩, ⟨(some 13), (.len (.tmp 12)), none, false, []⟩, ⟨(some 14), (.mv (.const (.int .i64 0))), none, false, []⟩]) (.block 0 (.loop spec_TimeInSystem_b0))) (.seq (.reg [⟨(some 30), (.mv (.tmp 6)), none, false, []⟩, ⟨(some 4), (.mv (.tmp 30)), none, false, []⟩, ⟨(some 5), (.mv (.const (.bool true))), none, false, []⟩]) .ret)))))
def spec_TimeInSystem : PFunc := ⟨31, [(.tmp 4), (.tmp 5)], spec_TimeInSystem_c⟩
theorem spec_TimeInSystem_t : tab 22 = some spec_TimeInSystem := by kernel_rfl
def spec_InSystem_b0 : PCode := (.seq (.reg [⟨(some 22), (.bin .lss (.tmp 21) (.tmp 20)), none, false, []⟩]) (.seq (.cond (.tmp 22) .skip (.exit 0)) (.seq (.block 1 (.seq (.reg [⟨(some 23), (.mv (.tmp 21)), none, false, []⟩, ⟨(some 9), (.mv (.tmp 23)), none, false, []⟩]) (.seq (.reg [⟨(some 24), (.mv (.tmp 0)), none, false, []⟩, ⟨(some 25), (.mv (.tmp 9)), none, false, []⟩, ⟨(some 26), (.iaddr 3 (.tmp 24) (.tmp 25)), none, false, []⟩, ⟨(some 27), (.faddr 0 (.tmp 26)), none, false, []⟩, ⟨(some 28), (.load false 1 (.tmp 27)), none, false, []⟩, ⟨(some 29), (.mv (.tmp 2)), none, false, []⟩, ⟨(some 30), (.bin .leq (.tmp 28) (.tmp 29)), none, false, []⟩, ⟨(some 31), (.mv (.tmp 30)), none, false, []⟩, ⟨(some 32), (.mv (.tmp 1)), (some (31, true)), false, []⟩, ⟨(some 33), (.mv (.tmp 9)), (some (31, true)), false, []⟩, ⟨(some 34), (.iaddr 1 (.tmp 32) (.tmp 33)), (some (31, true)), false, []⟩, ⟨(some 35), (.load false 1 (.tmp 34)), (some (31, true)), false, []⟩, ⟨(some 36), (.mv (.tmp 2)), (some (31, true)), false, []⟩, ⟨(some 37), (.bin .gtr (.tmp 35) (.tmp 36)), (some (31, true)), false, []⟩, ⟨(some 38), (.pick (.tmp 31) (.tmp 37) (.const (.bool false))), none, false, []⟩]) (.cond (.tmp 38) (.reg [⟨(some 39), (.mv (.tmp 8)), none, false, []⟩, ⟨(some 40), (.bin .add (.tmp 39) (.const (.int .i64 1))), none, false, []⟩, ⟨(some 8), (.mv (.tmp 40)), none, false, []⟩]) .skip)))) (.reg [⟨(some 41), (.bin .add (.tmp 21) (.const (.int .i64 1))), none, false, []⟩, ⟨(some 21), (.mv (.tmp 41)), none, false, []⟩]))))
def spec_InSystem_c : PCode := (.seq (.reg [⟨(some 6), (.mv (.const (.int .i64 0))), none, false, []⟩, ⟨(some 7), (.mv (.const (.bool false))), none, false, []⟩]) (.seq (.seq (.reg [⟨(some 10), (.mv (.tmp 0)), none, false, []⟩, ⟨(some 11), (.mv (.tmp 1)), none, false, []⟩, ⟨(some 12), (.call 63 [(.tmp 10), (.tmp 11)]), none, false, []⟩, ⟨(some 13), (.un .not (.tmp 12)), none, false, []⟩, ⟨(some 14), (.mv (.tmp 13)), none, false, []⟩, ⟨(some 15), (.mv (.tmp 2)), (some (14, false)), false, []⟩, ⟨(some 16), (.call 61 [(.tmp 15), (.const (.int .i64 0)), (.const (.int .i64 1000000000))]), (some (14, false)), false, []⟩, ⟨(some 17), (.un .not (.tmp 16)), (some (14, false)), false, []⟩, ⟨(some 18), (.pick (.tmp 14) (.const (.bool true)) (.tmp 17)), none, false, []⟩]) (.cond (.tmp 18) (.seq (.reg [⟨(some 6), (.mv (.const (.int .i64 0))), none, false, []⟩, ⟨(some 7), (.mv (.const (.bool false))), none, false, []⟩]) .ret) .skip)) (.seq (.reg [⟨(some 8), (.mv (.const (.int .i64 0))), none, false, []⟩]) (.seq (.seq (.reg [⟨(some 19), (.mv (.tmp 0)), none, false, []⟩, ⟨(some 20), (.len (.tmp 19)), none, false, []⟩, ⟨(some 21), (.mv (.const (.int .i64 0))), none, false, []⟩]) (.block 0 (.loop spec_InSystem_b0))) (.seq (.reg [⟨(some 42), (.mv (.tmp 8)), none, false, []⟩, ⟨(some 6), (.mv (.tmp 42)), none, false, []⟩, ⟨(some 7), (.mv (.const (.bool true))), none, false, []⟩]) .ret)))))
def spec_InSystem : PFunc := ⟨43, [(.tmp 6), (.tmp 7)], spec_InSystem_c⟩
theorem spec_InSystem_t : tab 26 = some spec_InSystem := by kernel_rfl
def spec_BusyTimes_b0 : PCode := (.seq (.reg [⟨(some 15), (.bin .lss (.tmp 14) (.tmp 13)), none, false, []⟩]) (.seq (.cond (.tmp 15) .skip (.exit 0)) (.seq (.block 1 (.seq (.reg [⟨(some 16), (.mv (.tmp 14)), none, false, []⟩, ⟨(some 5), (.mv (.tmp 16)), none, false, []⟩]) (.seq (.reg [⟨(some 17), (.mv (.tmp 0)), none, false, []⟩, ⟨(some 18), (.mv (.tmp 5)), none, false, []⟩, ⟨(some 19), (.iaddr 3 (.tmp 17) (.tmp 18)), none, false, []⟩, ⟨(some 20), (.load true 3 (.tmp 19)), none, false, []⟩, ⟨(some 6), (.new [(.int .i64 0), (.int .i64 0), (.int .i64 0)]), none, false, []⟩, ⟨none, (.store 3 (.tmp 6) (.tmp 20)), none, false, []⟩]) (.seq (.reg [⟨(some 21), (.mv (.tmp 4)), none, false, []⟩, ⟨(some 22), (.len (.tmp 21)), none, false, []⟩, ⟨(some 7), (.mv (.tmp 22)), none, false, []⟩]) (.seq (.reg [⟨(some 23), (.mv (.tmp 7)), none, false, []⟩, ⟨(some 24), (.bin .gtr (.tmp 23) (.const (.int .i64 0))), none, false, []⟩, ⟨(some 25), (.mv (.tmp 24)), none, false, []⟩, ⟨(some 26), (.mv (.tmp 4)), (some (25, true)), false, []⟩, ⟨(some 27), (.mv (.tmp 7)), (some (25, true)), false, []⟩, ⟨(some 28), (.bin .sub (.tmp 27) (.const (.int .i64 1))), (some (25, true)), false, []⟩, ⟨(some 29), (.iaddr 1 (.tmp 26) (.tmp 28)), (some (25, true)), false, []⟩, ⟨(some 30), (.load false 1 (.tmp 29)), (some (25, true)), false, []⟩, ⟨(some 31), (.iaddr 1 (.tmp 30) (.const (.int .i64 1))), (some (25, true)), false, []⟩, ⟨(some 32), (.load false 1 (.tmp 31)), (some (25, true)), false, []⟩, ⟨(some 33), (.faddr 0 (.tmp 6)), (some (25, true)), false, []⟩, ⟨(some 34), (.load false 1 (.tmp 33)), (some (25, true)), false, []⟩, ⟨(some 35), (.bin .geq (.tmp 32) (.tmp 34)), (some (25, true)), false, []⟩, ⟨(some 36), (.pick (.tmp 25) (.tmp 35) (.const (.bool false))), none, false, []⟩]) (.cond (.tmp 36) (.reg [⟨(some 37), (.mv (.tmp 4)), none, false, []⟩, ⟨(some 38), (.mv (.tmp 7)), none, false, []⟩, ⟨(some 39), (.bin .sub (.tmp 38) (.const (.int .i64 1))), none, false, []⟩, ⟨(some 40), (.mv (.tmp 4)), none, false, []⟩, ⟨(some 41), (.mv (.tmp 7)), none, false, []⟩, ⟨(some 42), (.bin .sub (.tmp 41) (.const (.int .i64 1))), none, false, []⟩, ⟨(some 43), (.iaddr 1 (.tmp 40) (.tmp 42)), none, false, []⟩, ⟨(some 44), (.load false 1 (.tmp 43)), none, false, []⟩, ⟨(some 45), (.iaddr 1 (.tmp 44) (.const (.int .i64 0))), none, false, []⟩, ⟨(some 46), (.load false 1 (.tmp 45)), none, false, []⟩, ⟨(some 47), (.mv (.tmp 4)), none, false, []⟩, ⟨(some 48), (.mv (.tmp 7)), none, false, []⟩, ⟨(some 49), (.bin .sub (.tmp 48) (.const (.int .i64 1))), none, false, []⟩, ⟨(some 50), (.iaddr 1 (.tmp 47) (.tmp 49)), none, false, []⟩, ⟨(some 51), (.load false 1 (.tmp 50)), none, false, []⟩, ⟨(some 52), (.iaddr 1 (.tmp 51) (.const (.int .i64 1))), none, false, []⟩, ⟨(some 53), (.load false 1 (.tmp 52)), none, false, []⟩, ⟨(some 54), (.faddr 1 (.tmp 6)), none, false, []⟩, ⟨(some 55), (.load false 1 (.tmp 54)), none, false, []⟩, ⟨(some 56), (.bin .add (.tmp 53) (.tmp 55)), none, false, []⟩, ⟨(some 57), (.lit [(.int .i64 0)] 2 [(0, (.tmp 46)), (1, (.tmp 56))]), none, true, []⟩, ⟨(some 58), (.iaddr 1 (.tmp 37) (.tmp 39)), none, false, []⟩, ⟨none, (.store 1 (.tmp 58) (.tmp 57)), none, false, []⟩]) (.reg [⟨(some 59), (.mv (.tmp 4)), none, false, []⟩, ⟨(some 60), (.faddr 0 (.tmp 6)), none, false, []⟩, ⟨(some 61), (.load false 1 (.tmp 60)), none, false, []⟩, ⟨(some 62), (.faddr 0 (.tmp 6)), none, false, []⟩, ⟨(some 63), (.load false 1 (.tmp 62)), none, false, []⟩, ⟨(some 64), (.faddr 1 (.tmp 6)), none, false, []⟩, ⟨(some 65), (.load false 1 (.tmp 64)), none, false, []⟩, ⟨(some 66), (.bin .add (.tmp 63) (.tmp 65)), none, false, []⟩, ⟨(some 67), (.lit [(.int .i64 0)] 2 [(0, (.tmp 61)), (1, (.tmp 66))]), none, false, []⟩, ⟨(some 68), (.lit [(.slice none 0 0)] 1 [(0, (.tmp 67))]), none, false, []⟩, ⟨(some 69), (.app 1 24 (.tmp 59) (.tmp 68)), none, false, []⟩, ⟨(some 4), (.mv (.tmp 69)), none, false, []⟩]))))))) (.reg [⟨(some 70), (.bin .add (.tmp 14) (.const (.int .i64 1))), none, false, []⟩, ⟨(some 14), (.mv (.tmp 70)), none, false, []⟩]))))
def spec_BusyTimes_c : PCode := (.seq (.reg [⟨(some 2), (.mv (.const (.slice none 0 0))), none, false, []⟩, ⟨(some 3), (.mv (.const (.bool false))), none, false, []⟩]) (.seq (.seq (.reg [⟨(some 8), (.mv (.tmp 0)), none, false, []⟩, ⟨(some 9), (.call 56 [(.tmp 8)]), none, false, []⟩, ⟨(some 10), (.un .not (.tmp 9)), none, false, []⟩]) (.cond (.tmp 10) (.seq (.reg [⟨(some 2), (.mv (.const (.slice none 0 0))), none, false, []⟩, ⟨(some 3), (.mv (.const (.bool false))), none, false, []⟩]) .ret) .skip)) (.seq (.reg [⟨(some 11), (.lit [(.slice none 0 0)] 0 []), none, false, []⟩, ⟨(some 4), (.mv (.tmp 11)), none, false, []⟩]) (.seq (.seq (.reg [⟨(some 12), (.mv (.tmp 0)), none, false, []⟩, ⟨(some 13), (.len (.tmp 12)), none, false, []⟩, ⟨(some 14), (.mv (.const (.int .i64 0))), none, false, []⟩]) (.block 0 (.loop spec_BusyTimes_b0))) (.seq (.reg [⟨(some 71), (.mv (.tmp 4)), none, false, []⟩, ⟨(some 2), (.mv (.tmp 71)), none, false, []⟩, ⟨(some 3), (.mv (.const (.bool true))), none, false, []⟩]) .ret)))))
def spec_BusyTimes : PFunc := ⟨72, [(.tmp 2), (.tmp 3)], spec_BusyTimes_c⟩
theorem spec_BusyTimes_t : tab 28 = some spec_BusyTimes := by kernel_rfl
def spec_Interrupted_b0 : PCode := (.seq (.seq (.reg [⟨(some 25), (.mv (.tmp 6)), none, false, []⟩, ⟨(some 26), (.len (.tmp 25)), none, false, []⟩, ⟨(some 27), (.bin .gtr (.tmp 26) (.const (.int .i64 0))), none, false, []⟩, ⟨(some 28), (.mv (.tmp 27)), none, false, []⟩, ⟨(some 29), (.mv (.tmp 8)), (some (28, true)), false, []⟩, ⟨(some 30), (.mv (.tmp 0)), (some (28, true)), false, []⟩, ⟨(some 31), (.len (.tmp 30)), (some (28, true)), false, []⟩, ⟨(some 32), (.bin .eql (.tmp 29) (.tmp 31)), (some (28, true)), false, []⟩, ⟨(some 33), (.mv (.tmp 32)), (some (28, true)), false, []⟩, ⟨(some 34), (.mv (.tmp 7)), (some (33, false)), false, []⟩, ⟨(some 35), (.mv (.tmp 0)), (some (33, false)), false, []⟩, ⟨(some 36), (.mv (.tmp 8)), (some (33, false)), false, []⟩, ⟨(some 37), (.iaddr 3 (.tmp 35) (.tmp 36)), (some (33, false)), false, []⟩, ⟨(some 38), (.faddr 0 (.tmp 37)), (some (33, false)), false, []⟩, ⟨(some 39), (.load false 1 (.tmp 38)), (some (33, false)), false, []⟩, ⟨(some 40), (.bin .lss (.tmp 34) (.tmp 39)), (some (33, false)), false, []⟩, ⟨(some 41), (.pick (.tmp 33) (.const (.bool true)) (.tmp 40)), (some (28, true)), false, []⟩, ⟨(some 42), (.pick (.tmp 28) (.tmp 41) (.const (.bool false))), none, false, []⟩]) (.cond (.tmp 42) .skip (.exit 2))) (.block 3 (.seq (.reg [⟨(some 43), (.mv (.tmp 6)), none, false, []⟩, ⟨(some 44), (.mv (.tmp 6)), none, false, []⟩, ⟨(some 45), (.len (.tmp 44)), none, false, []⟩, ⟨(some 46), (.bin .sub (.tmp 45) (.const (.int .i64 1))), none, false, []⟩, ⟨(some 47), (.iaddr 1 (.tmp 43) (.tmp 46)), none, false, []⟩, ⟨(some 48), (.load false 1 (.tmp 47)), none, false, []⟩, ⟨(some 9), (.mv (.tmp 48)), none, false, []⟩]) (.seq (.reg [⟨(some 49), (.mv (.tmp 7)), none, false, []⟩, ⟨(some 50), (.mv (.tmp 5)), none, false, []⟩, ⟨(some 51), (.mv (.tmp 9)), none, false, []⟩, ⟨(some 52), (.iaddr 1 (.tmp 50) (.tmp 51)), none, false, []⟩, ⟨(some 53), (.load false 1 (.tmp 52)), none, false, []⟩, ⟨(some 54), (.bin .add (.tmp 49) (.tmp 53)), none, false, []⟩, ⟨(some 10), (.mv (.tmp 54)), none, false, []⟩]) (.seq (.seq (.reg [⟨(some 55), (.mv (.tmp 8)), none, false, []⟩, ⟨(some 56), (.mv (.tmp 0)), none, false, []⟩, ⟨(some 57), (.len (.tmp 56)), none, false, []⟩, ⟨(some 58), (.bin .lss (.tmp 55) (.tmp 57)), none, false, []⟩, ⟨(some 59), (.mv (.tmp 58)), none, false, []⟩, ⟨(some 60), (.mv (.tmp 10)), (some (59, true)), false, []⟩, ⟨(some 61), (.mv (.tmp 0)), (some (59, true)), false, []⟩, ⟨(some 62), (.mv (.tmp 8)), (some (59, true)), false, []⟩, ⟨(some 63), (.iaddr 3 (.tmp 61) (.tmp 62)), (some (59, true)), false, []⟩, ⟨(some 64), (.faddr 0 (.tmp 63)), (some (59, true)), false, []⟩, ⟨(some 65), (.load false 1 (.tmp 64)), (some (59, true)), false, []⟩, ⟨(some 66), (.bin .gtr (.tmp 60) (.tmp 65)), (some (59, true)), false, []⟩, ⟨(some 67), (.pick (.tmp 59) (.tmp 66) (.const (.bool false))), none, false, []⟩]) (.cond (.tmp 67) (.seq (.reg [⟨(some 68), (.mv (.tmp 5)), none, false, []⟩, ⟨(some 69), (.mv (.tmp 9)), none, false, []⟩, ⟨(some 70), (.iaddr 1 (.tmp 68) (.tmp 69)), none, false, []⟩, ⟨(some 71), (.load false 1 (.tmp 70)), none, false, []⟩, ⟨(some 72), (.mv (.tmp 0)), none, false, []⟩, ⟨(some 73), (.mv (.tmp 8)), none, false, []⟩, ⟨(some 74), (.iaddr 3 (.tmp 72) (.tmp 73)), none, false, []⟩, ⟨(some 75), (.faddr 0 (.tmp 74)), none, false, []⟩, ⟨(some 76), (.load false 1 (.tmp 75)), none, false, []⟩, ⟨(some 77), (.mv (.tmp 7)), none, false, []⟩, ⟨(some 78), (.bin .sub (.tmp 76) (.tmp 77)), none, false, []⟩, ⟨(some 79), (.bin .sub (.tmp 71) (.tmp 78)), none, false, []⟩, ⟨(some 80), (.iaddr 1 (.tmp 68) (.tmp 69)), none, false, []⟩, ⟨none, (.store 1 (.tmp 80) (.tmp 79)), none, false, []⟩]) (.seq (.reg [⟨(some 81), (.mv (.tmp 0)), none, false, []⟩, ⟨(some 82), (.mv (.tmp 8)), none, false, []⟩, ⟨(some 83), (.iaddr 3 (.tmp 81) (.tmp 82)), none, false, []⟩, ⟨(some 84), (.faddr 0 (.tmp 83)), none, false, []⟩, ⟨(some 85), (.load false 1 (.tmp 84)), none, false, []⟩, ⟨(some 7), (.mv (.tmp 85)), none, false, []⟩]) (.exit 2))) .skip)) (.seq (.reg [⟨(some 86), (.mv (.tmp 10)), none, false, []⟩, ⟨(some 7), (.mv (.tmp 86)), none, false, []⟩]) (.seq (.reg [⟨(some 87), (.mv (.tmp 4)), none, false, []⟩, ⟨(some 88), (.mv (.tmp 9)), none, false, []⟩, ⟨(some 89), (.mv (.tmp 10)), none, false, []⟩, ⟨(some 90), (.iaddr 1 (.tmp 87) (.tmp 88)), none, false, []⟩, ⟨none, (.store 1 (.tmp 90) (.tmp 89)), none, false, []⟩]) (.seq (.reg [⟨(some 91), (.mv (.tmp 5)), none, false, []⟩, ⟨(some 92), (.mv (.tmp 9)), none, false, []⟩, ⟨(some 93), (.iaddr 1 (.tmp 91) (.tmp 92)), none, false, []⟩, ⟨none, (.store 1 (.tmp 93) (.const (.int .i64 0))), none, false, []⟩]) (.reg [⟨(some 94), (.mv (.tmp 6)), none, false, []⟩, ⟨(some 95), (.mv (.tmp 6)), none, false, []⟩, ⟨(some 96), (.len (.tmp 95)), none, false, []⟩, ⟨(some 97), (.bin .sub (.tmp 96) (.const (.int .i64 1))), none, false, []⟩, ⟨(some 98), (.sub 1 (.tmp 94) none (some (.tmp 97)) none), none, false, []⟩, ⟨(some 6), (.mv (.tmp 98)), none, false, []⟩])))))))))
def spec_Interrupted_b1 : PCode := (.seq (.seq (.reg [⟨(some 19), (.mv (.tmp 8)), none, false, []⟩, ⟨(some 20), (.mv (.tmp 0)), none, false, []⟩, ⟨(some 21), (.len (.tmp 20)), none, false, []⟩, ⟨(some 22), (.bin .leq (.tmp 19) (.tmp 21)), none, false, []⟩]) (.cond (.tmp 22) .skip (.exit 0))) (.seq (.block 1 (.seq (.block 2 (.loop spec_Interrupted_b0)) (.seq (.reg [⟨(some 99), (.mv (.tmp 8)), none, false, []⟩, ⟨(some 100), (.mv (.tmp 0)), none, false, []⟩, ⟨(some 101), (.len (.tmp 100)), none, false, []⟩, ⟨(some 102), (.bin .lss (.tmp 99) (.tmp 101)), none, false, []⟩]) (.cond (.tmp 102) (.seq (.reg [⟨(some 103), (.mv (.tmp 0)), none, false, []⟩, ⟨(some 104), (.mv (.tmp 8)), none, false, []⟩, ⟨(some 105), (.iaddr 3 (.tmp 103) (.tmp 104)), none, false, []⟩, ⟨(some 106), (.faddr 0 (.tmp 105)), none, false, []⟩, ⟨(some 107), (.load false 1 (.tmp 106)), none, false, []⟩, ⟨(some 7), (.mv (.tmp 107)), none, false, []⟩]) (.seq (.reg [⟨(some 108), (.mv (.tmp 5)), none, false, []⟩, ⟨(some 109), (.mv (.tmp 0)), none, false, []⟩, ⟨(some 110), (.mv (.tmp 8)), none, false, []⟩, ⟨(some 111), (.iaddr 3 (.tmp 109) (.tmp 110)), none, false, []⟩, ⟨(some 112), (.faddr 1 (.tmp 111)), none, false, []⟩, ⟨(some 113), (.load false 1 (.tmp 112)), none, false, []⟩, ⟨(some 114), (.lit [(.int .i64 0)] 1 [(0, (.tmp 113))]), none, false, []⟩, ⟨(some 115), (.app 1 8 (.tmp 108) (.tmp 114)), none, false, []⟩, ⟨(some 5), (.mv (.tmp 115)), none, false, []⟩]) (.reg [⟨(some 116), (.mv (.tmp 6)), none, false, []⟩, ⟨(some 117), (.mv (.tmp 8)), none, false, []⟩, ⟨(some 118), (.lit [(.int .i64 0)] 1 [(0, (.tmp 117))]), none, false, []⟩, ⟨(some 119), (.app 1 8 (.tmp 116) (.tmp 118)), none, false, []⟩, ⟨(some 6), (.mv (.tmp 119)), none, false, []⟩]))) .skip)))) (.reg [⟨(some 23), (.mv (.tmp 8)), none, false, []⟩, ⟨(some 24), (.bin .add (.tmp 23) (.const (.int .i64 1))), none, false, []⟩, ⟨(some 8), (.mv (.tmp 24)), none, false, []⟩])))
def spec_Interrupted_c : PCode := (.seq (.reg [⟨(some 2), (.mv (.const (.slice none 0 0))), none, false, []⟩, ⟨(some 3), (.mv (.const (.bool false))), none, false, []⟩]) (.seq (.seq (.reg [⟨(some 11), (.mv (.tmp 0)), none, false, []⟩, ⟨(some 12), (.call 56 [(.tmp 11)]), none, false, []⟩, ⟨(some 13), (.un .not (.tmp 12)), none, false, []⟩]) (.cond (.tmp 13) (.seq (.reg [⟨(some 2), (.mv (.const (.slice none 0 0))), none, false, []⟩, ⟨(some 3), (.mv (.const (.bool false))), none, false, []⟩]) .ret) .skip)) (.seq (.reg [⟨(some 14), (.mv (.tmp 0)), none, false, []⟩, ⟨(some 15), (.len (.tmp 14)), none, false, []⟩, ⟨(some 16), (.make [(.int .i64 0)] 8 (.tmp 15) (.tmp 15)), none, false, []⟩, ⟨(some 4), (.mv (.tmp 16)), none, false, []⟩]) (.seq (.reg [⟨(some 17), (.lit [(.int .i64 0)] 0 []), none, false, []⟩, ⟨(some 5), (.mv (.tmp 17)), none, false, []⟩]) (.seq (.reg [⟨(some 18), (.lit [(.int .i64 0)] 0 []), none, false, []⟩, ⟨(some 6), (.mv (.tmp 18)), none, false, []⟩]) (.seq (.reg [⟨(some 7), (.mv (.const (.int .i64 0))), none, false, []⟩]) (.seq (.seq (.reg [⟨(some 8), (.mv (.const (.int .i64 0))), none, false, []⟩]) (.block 0 (.loop spec_Interrupted_b1))) (.seq (.reg [⟨(some 120), (.mv (.tmp 4)), none, false, []⟩, ⟨(some 2), (.mv (.tmp 120)), none, false, []⟩, ⟨(some 3), (.mv (.const (.bool true))), none, false, []⟩]) .ret))))))))
def spec_Interrupted : PFunc := ⟨121, [(.tmp 2), (.tmp 3)], spec_Interrupted_c⟩
theorem spec_Interrupted_t : tab 39 = some spec_Interrupted := by kernel_rfl
def spec_WithPatience_b0 : PCode := (.seq (.reg [⟨(some 24), (.bin .lss (.tmp 23) (.tmp 22)), none, false, []⟩]) (.seq (.cond (.tmp 24) .skip (.exit 0)) (.seq (.block 1 (.seq (.reg [⟨(some 25), (.mv (.tmp 23)), none, false, []⟩, ⟨(some 8), (.mv (.tmp 25)), none, false, []⟩]) (.seq (.seq (.reg [⟨(some 26), (.mv (.tmp 1)), none, false, []⟩, ⟨(some 27), (.mv (.tmp 8)), none, false, []⟩, ⟨(some 28), (.iaddr 1 (.tmp 26) (.tmp 27)), none, false, []⟩, ⟨(some 29), (.load false 1 (.tmp 28)), none, false, []⟩, ⟨(some 30), (.call 61 [(.tmp 29), (.const (.int .i64 0)), (.const (.int .i64 10000))]), none, false, []⟩, ⟨(some 31), (.un .not (.tmp 30)), none, false, []⟩]) (.cond (.tmp 31) (.seq (.reg [⟨(some 4), (.mv (.const (.slice none 0 0))), none, false, []⟩, ⟨(some 5), (.mv (.const (.bool false))), none, false, []⟩]) .ret) .skip)) (.seq (.reg [⟨(some 32), (.mv (.tmp 7)), none, false, []⟩, ⟨(some 33), (.mv (.tmp 0)), none, false, []⟩, ⟨(some 34), (.mv (.tmp 8)), none, false, []⟩, ⟨(some 35), (.iaddr 3 (.tmp 33) (.tmp 34)), none, false, []⟩, ⟨(some 36), (.faddr 0 (.tmp 35)), none, false, []⟩, ⟨(some 37), (.load false 1 (.tmp 36)), none, false, []⟩, ⟨(some 38), (.call 62 [(.tmp 32), (.tmp 37)]), none, false, []⟩, ⟨(some 9), (.mv (.tmp 38)), none, false, []⟩]) (.seq (.seq (.reg [⟨(some 39), (.mv (.tmp 9)), none, false, []⟩, ⟨(some 40), (.mv (.tmp 0)), none, false, []⟩, ⟨(some 41), (.mv (.tmp 8)), none, false, []⟩, ⟨(some 42), (.iaddr 3 (.tmp 40) (.tmp 41)), none, false, []⟩, ⟨(some 43), (.faddr 0 (.tmp 42)), none, false, []⟩, ⟨(some 44), (.load false 1 (.tmp 43)), none, false, []⟩, ⟨(some 45), (.bin .sub (.tmp 39) (.tmp 44)), none, false, []⟩, ⟨(some 46), (.mv (.tmp 1)), none, false, []⟩, ⟨(some 47), (.mv (.tmp 8)), none, false, []⟩, ⟨(some 48), (.iaddr 1 (.tmp 46) (.tmp 47)), none, false, []⟩, ⟨(some 49), (.load false 1 (.tmp 48)), none, false, []⟩, ⟨(some 50), (.bin .gtr (.tmp 45) (.tmp 49)), none, false, []⟩]) (.cond (.tmp 50) (.seq (.reg [⟨(some 51), (.mv (.tmp 6)), none, false, []⟩, ⟨(some 52), (.lit [(.int .i64 0)] 1 [(0, (.const (.int .i64 (-1))))]), none, false, []⟩, ⟨(some 53), (.app 1 8 (.tmp 51) (.tmp 52)), none, false, []⟩, ⟨(some 6), (.mv (.tmp 53)), none, false, []⟩]) (.exit 1)) .skip)) (.seq (.reg [⟨(some 54), (.mv (.tmp 6)), none, false, []⟩, ⟨(some 55), (.mv (.tmp 9)), none, false, []⟩, ⟨(some 56), (.lit [(.int .i64 0)] 1 [(0, (.tmp 55))]), none, false, []⟩, ⟨(some 57), (.app 1 8 (.tmp 54) (.tmp 56)), none, false, []⟩, ⟨(some 6), (.mv (.tmp 57)), none, false, []⟩]) (.reg [⟨(some 58), (.mv (.tmp 9)), none, false, []⟩, ⟨(some 59), (.mv (.tmp 0)), none, false, []⟩, ⟨(some 60), (.mv (.tmp 8)), none, false, []⟩, ⟨(some 61), (.iaddr 3 (.tmp 59) (.tmp 60)), none, false, []⟩, ⟨(some 62), (.faddr 1 (.tmp 61)), none, false, []⟩, ⟨(some 63), (.load false 1 (.tmp 62)), none, false, []⟩, ⟨(some 64), (.bin .add (.tmp 58) (.tmp 63)), none, false, []⟩, ⟨(some 7), (.mv (.tmp 64)), none, false, []⟩]))))))) (.reg [⟨(some 65), (.bin .add (.tmp 23) (.const (.int .i64 1))), none, false, []⟩, ⟨(some 23), (.mv (.tmp 65)), none, false, []⟩]))))
def spec_WithPatience_c : PCode := (.seq (.reg [⟨(some 4), (.mv (.const (.slice none 0 0))), none, false, []⟩, ⟨(some 5), (.mv (.const (.bool false))), none, false, []⟩]) (.seq (.seq (.reg [⟨(some 10), (.mv (.tmp 0)), none, false, []⟩, ⟨(some 11), (.call 56 [(.tmp 10)]), none, false, []⟩, ⟨(some 12), (.un .not (.tmp 11)), none, false, []⟩, ⟨(some 13), (.mv (.tmp 12)), none, false, []⟩, ⟨(some 14), (.mv (.tmp 1)), (some (13, false)), false, []⟩, ⟨(some 15), (.len (.tmp 14)), (some (13, false)), false, []⟩, ⟨(some 16), (.mv (.tmp 0)), (some (13, false)), false, []⟩, ⟨(some 17), (.len (.tmp 16)), (some (13, false)), false, []⟩, ⟨(some 18), (.bin .neq (.tmp 15) (.tmp 17)), (some (13, false)), false, []⟩, ⟨(some 19), (.pick (.tmp 13) (.const (.bool true)) (.tmp 18)), none, false, []⟩]) (.cond (.tmp 19) (.seq (.reg [⟨(some 4), (.mv (.const (.slice none 0 0))), none, false, []⟩, ⟨(some 5), (.mv (.const (.bool false))), none, false, []⟩]) .ret) .skip)) (.seq (.reg [⟨(some 20), (.lit [(.int .i64 0)] 0 []), none, false, []⟩, ⟨(some 6), (.mv (.tmp 20)), none, false, []⟩]) (.seq (.reg [⟨(some 7), (.mv (.const (.int .i64 0))), none, false, []⟩]) (.seq (.seq (.reg [⟨(some 21), (.mv (.tmp 0)), none, false, []⟩, ⟨(some 22), (.len (.tmp 21)), none, false, []⟩, ⟨(some 23), (.mv (.const (.int .i64 0))), none, false, []⟩]) (.block 0 (.loop spec_WithPatience_b0))) (.seq (.reg [⟨(some 66), (.mv (.tmp 6)), none, false, []⟩, ⟨(some 4), (.mv (.tmp 66)), none, false, []⟩, ⟨(some 5), (.mv (.const (.bool true))), none, false, []⟩]) .ret))))))
def spec_WithPatience : PFunc := ⟨67, [(.tmp 4), (.tmp 5)], spec_WithPatience_c⟩
theorem spec_WithPatience_t : tab 44 = some spec_WithPatience := by kernel_rfl
def spec_MixCustomers_b0 : PCode := (.seq (.seq (.reg [⟨(some 18), (.mv (.tmp 7)), none, false, []⟩, ⟨(some 19), (.mv (.tmp 0)), none, false, []⟩, ⟨(some 20), (.len (.tmp 19)), none, false, []⟩, ⟨(some 21), (.bin .lss (.tmp 18) (.tmp 20)), none, false, []⟩, ⟨(some 22), (.mv (.tmp 21)), none, false, []⟩, ⟨(some 23), (.mv (.tmp 8)), (some (22, false)), false, []⟩, ⟨(some 24), (.mv (.tmp 1)), (some (22, false)), false, []⟩, ⟨(some 25), (.len (.tmp 24)), (some (22, false)), false, []⟩, ⟨(some 26), (.bin .lss (.tmp 23) (.tmp 25)), (some (22, false)), false, []⟩, ⟨(some 27), (.pick (.tmp 22) (.const (.bool true)) (.tmp 26)), none, false, []⟩]) (.cond (.tmp 27) .skip (.exit 0))) (.block 1 (.seq (.reg [⟨(some 28), (.mv (.tmp 8)), none, false, []⟩, ⟨(some 29), (.mv (.tmp 1)), none, false, []⟩, ⟨(some 30), (.len (.tmp 29)), none, false, []⟩, ⟨(some 31), (.bin .eql (.tmp 28) (.tmp 30)), none, false, []⟩, ⟨(some 32), (.mv (.tmp 31)), none, false, []⟩, ⟨(some 33), (.mv (.tmp 7)), (some (32, false)), false, []⟩, ⟨(some 34), (.mv (.tmp 0)), (some (32, false)), false, []⟩, ⟨(some 35), (.len (.tmp 34)), (some (32, false)), false, []⟩, ⟨(some 36), (.bin .lss (.tmp 33) (.tmp 35)), (some (32, false)), false, []⟩, ⟨(some 37), (.mv (.tmp 36)), (some (32, false)), false, []⟩, ⟨(some 38), (.mv (.tmp 0)), (some (37, true)), false, []⟩, ⟨(some 39), (.mv (.tmp 7)), (some (37, true)), false, []⟩, ⟨(some 40), (.iaddr 3 (.tmp 38) (.tmp 39)), (some (37, true)), false, []⟩, ⟨(some 41), (.faddr 0 (.tmp 40)), (some (37, true)), false, []⟩, ⟨(some 42), (.load false 1 (.tmp 41)), (some (37, true)), false, []⟩, ⟨(some 43), (.mv (.tmp 1)), (some (37, true)), false, []⟩, ⟨(some 44), (.mv (.tmp 8)), (some (37, true)), false, []⟩, ⟨(some 45), (.iaddr 3 (.tmp 43) (.tmp 44)), (some (37, true)), false, []⟩, ⟨(some 46), (.faddr 0 (.tmp 45)), (some (37, true)), false, []⟩, ⟨(some 47), (.load false 1 (.tmp 46)), (some (37, true)), false, []⟩, ⟨(some 48), (.bin .leq (.tmp 42) (.tmp 47)), (some (37, true)), false, []⟩, ⟨(some 49), (.pick (.tmp 37) (.tmp 48) (.const (.bool false))), (some (32, false)), false, []⟩, ⟨(some 50), (.pick (.tmp 32) (.const (.bool true)) (.tmp 49)), none, false, []⟩]) (.cond (.tmp 50) (.seq (.reg [⟨(some 51), (.mv (.tmp 6)), none, false, []⟩, ⟨(some 52), (.mv (.tmp 0)), none, false, []⟩, ⟨(some 53), (.mv (.tmp 7)), none, false, []⟩, ⟨(some 54), (.iaddr 3 (.tmp 52) (.tmp 53)), none, false, []⟩, ⟨(some 55), (.load true 3 (.tmp 54)), none, false, []⟩, ⟨(some 56), (.lit [(.int .i64 0), (.int .i64 0), (.int .i64 0)] 1 [(0, (.tmp 55))]), none, false, []⟩, ⟨(some 57), (.app 3 24 (.tmp 51) (.tmp 56)), none, false, []⟩, ⟨(some 6), (.mv (.tmp 57)), none, false, []⟩]) (.reg [⟨(some 58), (.mv (.tmp 7)), none, false, []⟩, ⟨(some 59), (.bin .add (.tmp 58) (.const (.int .i64 1))), none, false, []⟩, ⟨(some 7), (.mv (.tmp 59)), none, false, []⟩])) (.seq (.reg [⟨(some 60), (.mv (.tmp 6)), none, false, []⟩, ⟨(some 61), (.mv (.tmp 1)), none, false, []⟩, ⟨(some 62), (.mv (.tmp 8)), none, false, []⟩, ⟨(some 63), (.iaddr 3 (.tmp 61) (.tmp 62)), none, false, []⟩, ⟨(some 64), (.load true 3 (.tmp 63)), none, false, []⟩, ⟨(some 65), (.lit [(.int .i64 0), (.int .i64 0), (.int .i64 0)] 1 [(0, (.tmp 64))]), none, false, []⟩, ⟨(some 66), (.app 3 24 (.tmp 60) (.tmp 65)), none, false, []⟩, ⟨(some 6), (.mv (.tmp 66)), none, false, []⟩]) (.reg [⟨(some 67), (.mv (.tmp 8)), none, false, []⟩, ⟨(some 68), (.bin .add (.tmp 67) (.const (.int .i64 1))), none, false, []⟩, ⟨(some 8), (.mv (.tmp 68)), none, false, []⟩]))))))
def spec_MixCustomers_c : PCode := (.seq (.reg [⟨(some 4), (.mv (.const (.slice none 0 0))), none, false, []⟩, ⟨(some 5), (.mv (.const (.bool false))), none, false, []⟩]) (.seq (.seq (.reg [⟨(some 9), (.mv (.tmp 0)), none, false, []⟩, ⟨(some 10), (.call 56 [(.tmp 9)]), none, false, []⟩, ⟨(some 11), (.un .not (.tmp 10)), none, false, []⟩, ⟨(some 12), (.mv (.tmp 11)), none, false, []⟩, ⟨(some 13), (.mv (.tmp 1)), (some (12, false)), false, []⟩, ⟨(some 14), (.call 56 [(.tmp 13)]), (some (12, false)), false, []⟩, ⟨(some 15), (.un .not (.tmp 14)), (some (12, false)), false, []⟩, ⟨(some 16), (.pick (.tmp 12) (.const (.bool true)) (.tmp 15)), none, false, []⟩]) (.cond (.tmp 16) (.seq (.reg [⟨(some 4), (.mv (.const (.slice none 0 0))), none, false, []⟩, ⟨(some 5), (.mv (.const (.bool false))), none, false, []⟩]) .ret) .skip)) (.seq (.reg [⟨(some 17), (.lit [(.int .i64 0), (.int .i64 0), (.int .i64 0)] 0 []), none, false, []⟩, ⟨(some 6), (.mv (.tmp 17)), none, false, []⟩]) (.seq (.reg [⟨(some 7), (.mv (.const (.int .i64 0))), none, false, []⟩]) (.seq (.reg [⟨(some 8), (.mv (.const (.int .i64 0))), none, false, []⟩]) (.seq (.block 0 (.loop spec_MixCustomers_b0)) (.seq (.seq (.reg [⟨(some 69), (.mv (.tmp 6)), none, false, []⟩, ⟨(some 70), (.call 56 [(.tmp 69)]), none, false, []⟩, ⟨(some 71), (.un .not (.tmp 70)), none, false, []⟩]) (.cond (.tmp 71) (.seq (.reg [⟨(some 4), (.mv (.const (.slice none 0 0))), none, false, []⟩, ⟨(some 5), (.mv (.const (.bool false))), none, false, []⟩]) .ret) .skip)) (.seq (.reg [⟨(some 72), (.mv (.tmp 6)), none, false, []⟩, ⟨(some 4), (.mv (.tmp 72)), none, false, []⟩, ⟨(some 5), (.mv (.const (.bool true))), none, false, []⟩]) .ret))))))))
def spec_MixCustomers : PFunc := ⟨73, [(.tmp 4), (.tmp 5)], spec_MixCustomers_c⟩
theorem spec_MixCustomers_t : tab 46 = some spec_MixCustomers := by kernel_rfl
def spec_StartsOf_c : PCode := (.seq (.reg [⟨(some 6), (.mv (.const (.slice none 0 0))), none, false, []⟩, ⟨(some 7), (.mv (.const (.bool false))), none, false, []⟩]) (.seq (.seq (.reg [⟨(some 8), (.mv (.tmp 0)), none, false, []⟩, ⟨(some 9), (.mv (.tmp 1)), none, false, []⟩, ⟨(some 10), (.mv (.tmp 2)), none, false, []⟩, ⟨(some 11), (.call 84 [(.tmp 8), (.tmp 9), (.tmp 10)]), none, false, []⟩, ⟨(some 12), (.un .not (.tmp 11)), none, false, []⟩]) (.cond (.tmp 12) (.seq (.reg [⟨(some 6), (.mv (.const (.slice none 0 0))), none, false, []⟩, ⟨(some 7), (.mv (.const (.bool false))), none, false, []⟩]) .ret) .skip)) (.seq (.reg [⟨(some 13), (.mv (.tmp 0)), none, false, []⟩, ⟨(some 14), (.mv (.tmp 1)), none, false, []⟩, ⟨(some 15), (.mv (.tmp 2)), none, false, []⟩, ⟨(some 16), (.call 85 [(.tmp 13), (.tmp 14), (.tmp 15)]), none, false, []⟩, ⟨(some 6), (.mv (.tmp 16)), none, false, []⟩, ⟨(some 7), (.mv (.const (.bool true))), none, false, []⟩]) .ret)))
def spec_StartsOf : PFunc := ⟨17, [(.tmp 6), (.tmp 7)], spec_StartsOf_c⟩
theorem spec_StartsOf_t : tab 50 = some spec_StartsOf := by kernel_rfl
def spec_LeavesOf_b0 : PCode := (.seq (.reg [⟨(some 22), (.bin .lss (.tmp 21) (.tmp 20)), none, false, []⟩]) (.seq (.cond (.tmp 22) .skip (.exit 0)) (.seq (.block 1 (.seq (.reg [⟨(some 23), (.mv (.tmp 21)), none, false, []⟩, ⟨(some 9), (.mv (.tmp 23)), none, false, []⟩]) (.reg [⟨(some 24), (.mv (.tmp 8)), none, false, []⟩, ⟨(some 25), (.mv (.tmp 9)), none, false, []⟩, ⟨(some 26), (.iaddr 1 (.tmp 24) (.tmp 25)), none, false, []⟩, ⟨(some 27), (.load false 1 (.tmp 26)), none, false, []⟩, ⟨(some 28), (.mv (.tmp 2)), none, false, []⟩, ⟨(some 29), (.mv (.tmp 9)), none, false, []⟩, ⟨(some 30), (.iaddr 3 (.tmp 28) (.tmp 29)), none, false, []⟩, ⟨(some 31), (.faddr 1 (.tmp 30)), none, false, []⟩, ⟨(some 32), (.load false 1 (.tmp 31)), none, false, []⟩, ⟨(some 33), (.bin .add (.tmp 27) (.tmp 32)), none, false, []⟩, ⟨(some 34), (.iaddr 1 (.tmp 24) (.tmp 25)), none, false, []⟩, ⟨none, (.store 1 (.tmp 34) (.tmp 33)), none, false, []⟩]))) (.reg [⟨(some 35), (.bin .add (.tmp 21) (.const (.int .i64 1))), none, false, []⟩, ⟨(some 21), (.mv (.tmp 35)), none, false, []⟩]))))
def spec_LeavesOf_c : PCode := (.seq (.reg [⟨(some 6), (.mv (.const (.slice none 0 0))), none, false, []⟩, ⟨(some 7), (.mv (.const (.bool false))), none, false, []⟩]) (.seq (.seq (.reg [⟨(some 10), (.mv (.tmp 0)), none, false, []⟩, ⟨(some 11), (.mv (.tmp 1)), none, false, []⟩, ⟨(some 12), (.mv (.tmp 2)), none, false, []⟩, ⟨(some 13), (.call 84 [(.tmp 10), (.tmp 11), (.tmp 12)]), none, false, []⟩, ⟨(some 14), (.un .not (.tmp 13)), none, false, []⟩]) (.cond (.tmp 14) (.seq (.reg [⟨(some 6), (.mv (.const (.slice none 0 0))), none, false, []⟩, ⟨(some 7), (.mv (.const (.bool false))), none, false, []⟩]) .ret) .skip)) (.seq (.reg [⟨(some 15), (.mv (.tmp 0)), none, false, []⟩, ⟨(some 16), (.mv (.tmp 1)), none, false, []⟩, ⟨(some 17), (.mv (.tmp 2)), none, false, []⟩, ⟨(some 18), (.call 85 [(.tmp 15), (.tmp 16), (.tmp 17)]), none, false, []⟩, ⟨(some 8), (.mv (.tmp 18)), none, false, []⟩]) (.seq (.seq (.reg [⟨(some 19), (.mv (.tmp 8)), none, false, []⟩, ⟨(some 20), (.len (.tmp 19)), none, false, []⟩, ⟨(some 21), (.mv (.const (.int .i64 0))), none, false, []⟩]) (.block 0 (.loop spec_LeavesOf_b0))) (.seq (.reg [⟨(some 36), (.mv (.tmp 8)), none, false, []⟩, ⟨(some 6), (.mv (.tmp 36)), none, false, []⟩, ⟨(some 7), (.mv (.const (.bool true))), none, false, []⟩]) .ret)))))
def spec_LeavesOf : PFunc := ⟨37, [(.tmp 6), (.tmp 7)], spec_LeavesOf_c⟩
theorem spec_LeavesOf_t : tab 52 = some spec_LeavesOf := by kernel_rfl
def spec_WaitsOf_c : PCode := (.seq (.reg [⟨(some 6), (.mv (.const (.slice none 0 0))), none, false, []⟩, ⟨(some 7), (.mv (.const (.bool false))), none, false, []⟩]) (.seq (.seq (.reg [⟨(some 8), (.mv (.tmp 0)), none, false, []⟩, ⟨(some 9), (.mv (.tmp 1)), none, false, []⟩, ⟨(some 10), (.mv (.tmp 2)), none, false, []⟩, ⟨(some 11), (.call 84 [(.tmp 8), (.tmp 9), (.tmp 10)]), none, false, []⟩, ⟨(some 12), (.un .not (.tmp 11)), none, false, []⟩]) (.cond (.tmp 12) (.seq (.reg [⟨(some 6), (.mv (.const (.slice none 0 0))), none, false, []⟩, ⟨(some 7), (.mv (.const (.bool false))), none, false, []⟩]) .ret) .skip)) (.seq (.reg [⟨(some 13), (.mv (.tmp 0)), none, false, []⟩, ⟨(some 14), (.mv (.tmp 1)), none, false, []⟩, ⟨(some 15), (.mv (.tmp 2)), none, false, []⟩, ⟨(some 16), (.call 90 [(.tmp 13), (.tmp 14), (.tmp 15)]), none, false, []⟩, ⟨(some 6), (.mv (.tmp 16)), none, false, []⟩, ⟨(some 7), (.mv (.const (.bool true))), none, false, []⟩]) .ret)))
def spec_WaitsOf : PFunc := ⟨17, [(.tmp 6), (.tmp 7)], spec_WaitsOf_c⟩
theorem spec_WaitsOf_t : tab 54 = some spec_WaitsOf := by kernel_rfl
def spec_l05Leaves_b0 : PCode := (.seq (.reg [⟨(some 9), (.bin .lss (.tmp 8) (.tmp 7)), none, false, []⟩]) (.seq (.cond (.tmp 9) .skip (.exit 0)) (.seq (.block 1 (.seq (.reg [⟨(some 10), (.mv (.tmp 8)), none, false, []⟩, ⟨(some 5), (.mv (.tmp 10)), none, false, []⟩]) (.seq (.reg [⟨(some 11), (.mv (.tmp 1)), none, false, []⟩, ⟨(some 12), (.mv (.tmp 5)), none, false, []⟩, ⟨(some 13), (.iaddr 1 (.tmp 11) (.tmp 12)), none, false, []⟩, ⟨(some 14), (.load false 1 (.tmp 13)), none, false, []⟩, ⟨(some 15), (.call 61 [(.tmp 14), (.const (.int .i64 0)), (.const (.int .i64 1000000000))]), none, false, []⟩, ⟨(some 16), (.un .not (.tmp 15)), none, false, []⟩]) (.cond (.tmp 16) (.seq (.reg [⟨(some 4), (.mv (.const (.bool false))), none, false, []⟩]) .ret) .skip)))) (.reg [⟨(some 17), (.bin .add (.tmp 8) (.const (.int .i64 1))), none, false, []⟩, ⟨(some 8), (.mv (.tmp 17)), none, false, []⟩]))))
def spec_l05Leaves_c : PCode := (.seq (.reg [⟨(some 4), (.mv (.const (.bool false))), none, false, []⟩]) (.seq (.seq (.reg [⟨(some 6), (.mv (.tmp 1)), none, false, []⟩, ⟨(some 7), (.len (.tmp 6)), none, false, []⟩, ⟨(some 8), (.mv (.const (.int .i64 0))), none, false, []⟩]) (.block 0 (.loop spec_l05Leaves_b0))) (.seq (.reg [⟨(some 18), (.mv (.tmp 0)), none, false, []⟩, ⟨(some 19), (.call 56 [(.tmp 18)]), none, false, []⟩, ⟨(some 20), (.mv (.tmp 19)), none, false, []⟩, ⟨(some 21), (.mv (.tmp 1)), (some (20, true)), false, []⟩, ⟨(some 22), (.len (.tmp 21)), (some (20, true)), false, []⟩, ⟨(some 23), (.mv (.tmp 0)), (some (20, true)), false, []⟩, ⟨(some 24), (.len (.tmp 23)), (some (20, true)), false, []⟩, ⟨(some 25), (.bin .eql (.tmp 22) (.tmp 24)), (some (20, true)), false, []⟩, ⟨(some 26), (.pick (.tmp 20) (.tmp 25) (.const (.bool false))), none, false, []⟩, ⟨(some 4), (.mv (.tmp 26)), none, false, []⟩]) .ret)))
def spec_l05Leaves : PFunc := ⟨27, [(.tmp 4)], spec_l05Leaves_c⟩
theorem spec_l05Leaves_t : tab 63 = some spec_l05Leaves := by kernel_rfl
end Go.PM

/- The pure machine's form of functions, as the settings give it: S0. -/
namespace Go.PM
def spec_l00In_c : PCode := (.seq (.reg [⟨(some 6), (.mv (.const (.bool false))), none, false, []⟩]) (.seq (.reg [⟨(some 7), (.mv (.tmp 0)), none, false, []⟩, ⟨(some 8), (.mv (.tmp 1)), none, false, []⟩, ⟨(some 9), (.bin .geq (.tmp 7) (.tmp 8)), none, false, []⟩, ⟨(some 10), (.mv (.tmp 9)), none, false, []⟩, ⟨(some 11), (.mv (.tmp 0)), (some (10, true)), false, []⟩, ⟨(some 12), (.mv (.tmp 2)), (some (10, true)), false, []⟩, ⟨(some 13), (.bin .leq (.tmp 11) (.tmp 12)), (some (10, true)), false, []⟩, ⟨(some 14), (.pick (.tmp 10) (.tmp 13) (.const (.bool false))), none, false, []⟩, ⟨(some 6), (.mv (.tmp 14)), none, false, []⟩]) .ret))
def spec_l00In : PFunc := ⟨15, [(.tmp 6)], spec_l00In_c⟩
theorem spec_l00In_t : tab 61 = some spec_l00In := by kernel_rfl
def spec_l00Max_c : PCode := (.seq (.reg [⟨(some 4), (.mv (.const (.int .i64 0))), none, false, []⟩]) (.seq (.seq (.reg [⟨(some 5), (.mv (.tmp 0)), none, false, []⟩, ⟨(some 6), (.mv (.tmp 1)), none, false, []⟩, ⟨(some 7), (.bin .gtr (.tmp 5) (.tmp 6)), none, false, []⟩]) (.cond (.tmp 7) (.seq (.reg [⟨(some 8), (.mv (.tmp 0)), none, false, []⟩, ⟨(some 4), (.mv (.tmp 8)), none, false, []⟩]) .ret) .skip)) (.seq (.reg [⟨(some 9), (.mv (.tmp 1)), none, false, []⟩, ⟨(some 4), (.mv (.tmp 9)), none, false, []⟩]) .ret)))
def spec_l00Max : PFunc := ⟨10, [(.tmp 4)], spec_l00Max_c⟩
theorem spec_l00Max_t : tab 62 = some spec_l00Max := by kernel_rfl
end Go.PM

/- Customers that are right: the program's word and the reference's. -/
namespace Go.PM

theorem impl_in_v (x a b : Int) : TC 60 [VI x, VI a, VI b] (.sc (.bool (decide (a ≤ x ∧ x ≤ b)))) := by
  refine TC.walk ⟨true, false⟩ impl_in_t rfl (Nat.le_of_ble_eq_true rfl) rfl rfl ?_
  by_cases h1 : a ≤ x <;> by_cases h2 : x ≤ b <;> simp only [impl_in, impl_in_c, h1, h2, VX, Nat.reduceEqDiff, Nat.reduceAdd] <;> exact fz_res rfl
theorem spec_l00In_v (x a b : Int) : TC 61 [VI x, VI a, VI b] (.sc (.bool (decide (a ≤ x ∧ x ≤ b)))) := by
  refine TC.walk ⟨true, false⟩ spec_l00In_t rfl (Nat.le_of_ble_eq_true rfl) rfl rfl ?_
  by_cases h1 : a ≤ x <;> by_cases h2 : x ≤ b <;> simp only [spec_l00In, spec_l00In_c, h1, h2, VX, Nat.reduceEqDiff, Nat.reduceAdd] <;> exact fz_res rfl

theorem custAt_prev {cs : List Cust} {i : Nat} {c : Cust} (hc : custOk c) (h : ∀ p, cs[i]? = some p → p.t ≤ c.t) : custAt cs (i + 1) c := ⟨hc, fun p _ hp => h p (by simpa using hp)⟩

set_option maxHeartbeats 2000000 in
theorem impl_AreCustomers_v (cs : List Cust) (hn : cs.length ≤ 1000000000) : TC 18 [custsV cs] (.sc (.bool (decide (custsOk cs)))) := by
  refine TC.walk ⟨true, false⟩ impl_AreCustomers_t rfl (Nat.le_of_ble_eq_true rfl) (by simp [pureL, custsV_pure]) rfl ?_
  simp only [impl_AreCustomers, impl_AreCustomers_c, VX, Nat.reduceEqDiff, Nat.reduceAdd]
  refine VW_loopT (fun (i : Nat) ρ H => i ≤ cs.length ∧ H = [] ∧ (∀ j c, j < i → cs[j]? = some c → custAt cs j c) ∧ ρ 0 = custsV cs ∧ ρ 5 = custsV cs ∧ ρ 6 = VI cs.length ∧ ρ 7 = VI i) (fun i => cs.length - i) 0 ⟨Nat.zero_le _, rfl, fun j c h => by omega, rfl, rfl, rfl, rfl⟩ ?_
  rintro i ρ H ⟨hi, rfl, hall, h0, h5, h6, h7⟩
  by_cases hin : (i : Int) < (cs.length : Int)
  · obtain ⟨c, hc⟩ : ∃ c, cs[i]? = some c := ⟨_, List.getElem?_eq_getElem (by omega)⟩
    have e1 := fun H => viaddr_map (f := cV) (t := .op) (H := H) (size := 3) (k := .i64) hc rfl
    have wi : IntKind.i64.wrap ((i : Int) + 1) = ((i + 1 : Nat) : Int) := wrapN (i + 1) (by omega) (by omega)
    have bad : ¬ custAt cs i c → fz depth [VBlk.row 0 [cV c] 3 true] (.sc (.bool false)) = some (.sc (.bool (decide (custsOk cs)))) := fun h => by
      rw [decide_eq_false (fun hk : custsOk cs => h (hk.1 i c hc))]
      exact fz_res rfl
    have next : custAt cs i c → ∀ j c', j < i + 1 → cs[j]? = some c' → custAt cs j c' := fun h j c' hj hc' => by
      rcases Nat.lt_or_ge j i with hji | hji
      · exact hall j c' hji hc'
      · have : j = i := by omega
        subst this
        rw [hc] at hc'
        injection hc' with hc'
        exact hc' ▸ h
    by_cases k1 : 0 ≤ c.t ∧ c.t ≤ 10000
    · by_cases k2 : 1 ≤ c.w ∧ c.w ≤ 1000
      · by_cases k3 : 0 ≤ c.k ∧ c.k ≤ 9
        · have hok : custOk c := ⟨k1, k2, k3⟩
          cases i with
          | zero =>
            have hz : ¬ ((0 : Int) < ((0 : Nat) : Int)) := by omega
            simp only [impl_AreCustomers_b0, h0, h5, h6, h7, hin, e1, rd_cV, wi, k1, k2, k3, hz, impl_in_v, cV, VX, Nat.reduceEqDiff, Nat.reduceAdd, vload_pdef, vstore_pdef, viaddr_rdef, vlen_rdef, vfaddr_pdef, vchk_pdef, visnil_rdef, visnil_nil, visnil_cons, vrow_zero, vrow_succ, List.set_cons_zero, List.set_cons_succ, elemOf_one, elemOf_two, vresult, vresAll, vres1, vfill, isAny_sc, isAny_tree, isAny_ref, isAny_agg, isAny_clo, List.take_zero, List.take_succ_cons, List.take_nil, List.drop_zero, List.drop_succ_cons, List.drop_nil, List.append_nil, Nat.reduceLeDiff, Nat.le_refl, vsplice, Nat.reduceLT, Int.toNat_natCast, eq_self, ge_iff_le, Bool.and_eq_true, Nat.reduceSub]
            refine ⟨1, by omega, rfl, by omega, next ⟨hok, fun p h => by omega⟩, ?_⟩
            simp only [scrubE_app, h0, h5, h6, scrub_of (custsV_pure _), VX, Nat.reduceEqDiff, Nat.reduceAdd, List.take_zero, rowsBelow, List.all_nil, List.length_nil, scrubE_app, scrub_sc, scrub_of]
          | succ i =>
            have hp : (0 : Int) < ((i + 1 : Nat) : Int) := by omega
            have w2 : IntKind.i64.wrap (((i + 1 : Nat) : Int) - 1) = (i : Int) := wrapN i (by omega) (by omega)
            obtain ⟨p, hpr⟩ : ∃ p, cs[i]? = some p := ⟨_, List.getElem?_eq_getElem (by omega)⟩
            have e2 := fun H => viaddr_map (f := cV) (t := .op) (H := H) (size := 3) (k := .i64) hpr rfl
            by_cases hlt : c.t < p.t
            · simp only [impl_AreCustomers_b0, h0, h5, h6, h7, hin, e1, e2, rd_cV, k1, k2, k3, hp, w2, hlt, impl_in_v, cV, VX, Nat.reduceEqDiff, Nat.reduceAdd, vload_pdef, vstore_pdef, viaddr_rdef, vlen_rdef, vfaddr_pdef, vchk_pdef, visnil_rdef, visnil_nil, visnil_cons, vrow_zero, vrow_succ, List.set_cons_zero, List.set_cons_succ, elemOf_one, elemOf_two, vresult, vresAll, vres1, vfill, isAny_sc, isAny_tree, isAny_ref, isAny_agg, isAny_clo, List.take_zero, List.take_succ_cons, List.take_nil, List.drop_zero, List.drop_succ_cons, List.drop_nil, List.append_nil, Nat.reduceLeDiff, Nat.le_refl, vsplice, Nat.reduceLT, Int.toNat_natCast, eq_self, ge_iff_le, Bool.and_eq_true, Nat.reduceSub]
              exact bad fun h => by have := h.2 p (by omega) (by simpa using hpr); omega
            · simp only [impl_AreCustomers_b0, h0, h5, h6, h7, hin, e1, e2, rd_cV, wi, k1, k2, k3, hp, w2, hlt, impl_in_v, cV, VX, Nat.reduceEqDiff, Nat.reduceAdd, vload_pdef, vstore_pdef, viaddr_rdef, vlen_rdef, vfaddr_pdef, vchk_pdef, visnil_rdef, visnil_nil, visnil_cons, vrow_zero, vrow_succ, List.set_cons_zero, List.set_cons_succ, elemOf_one, elemOf_two, vresult, vresAll, vres1, vfill, isAny_sc, isAny_tree, isAny_ref, isAny_agg, isAny_clo, List.take_zero, List.take_succ_cons, List.take_nil, List.drop_zero, List.drop_succ_cons, List.drop_nil, List.append_nil, Nat.reduceLeDiff, Nat.le_refl, vsplice, Nat.reduceLT, Int.toNat_natCast, eq_self, ge_iff_le, Bool.and_eq_true, Nat.reduceSub]
              refine ⟨i + 1 + 1, by omega, rfl, by omega, next (custAt_prev hok fun q hq => by rw [hpr] at hq; injection hq with hq; subst hq; omega), ?_⟩
              simp only [scrubE_app, h0, h5, h6, scrub_of (custsV_pure _), VX, Nat.reduceEqDiff, Nat.reduceAdd, List.take_zero, rowsBelow, List.all_nil, List.length_nil, scrubE_app, scrub_sc, scrub_of]
        · simp only [impl_AreCustomers_b0, h0, h5, h6, h7, hin, e1, rd_cV, k1, k2, k3, impl_in_v, cV, VX, Nat.reduceEqDiff, Nat.reduceAdd, vload_pdef, vstore_pdef, viaddr_rdef, vlen_rdef, vfaddr_pdef, vchk_pdef, visnil_rdef, visnil_nil, visnil_cons, vrow_zero, vrow_succ, List.set_cons_zero, List.set_cons_succ, elemOf_one, elemOf_two, vresult, vresAll, vres1, vfill, isAny_sc, isAny_tree, isAny_ref, isAny_agg, isAny_clo, List.take_zero, List.take_succ_cons, List.take_nil, List.drop_zero, List.drop_succ_cons, List.drop_nil, List.append_nil, Nat.reduceLeDiff, Nat.le_refl, vsplice, Nat.reduceLT, Int.toNat_natCast, eq_self, ge_iff_le, Bool.and_eq_true, Nat.reduceSub]
          exact bad fun h => k3 h.1.2.2
      · simp only [impl_AreCustomers_b0, h0, h5, h6, h7, hin, e1, rd_cV, k1, k2, impl_in_v, cV, VX, Nat.reduceEqDiff, Nat.reduceAdd, vload_pdef, vstore_pdef, viaddr_rdef, vlen_rdef, vfaddr_pdef, vchk_pdef, visnil_rdef, visnil_nil, visnil_cons, vrow_zero, vrow_succ, List.set_cons_zero, List.set_cons_succ, elemOf_one, elemOf_two, vresult, vresAll, vres1, vfill, isAny_sc, isAny_tree, isAny_ref, isAny_agg, isAny_clo, List.take_zero, List.take_succ_cons, List.take_nil, List.drop_zero, List.drop_succ_cons, List.drop_nil, List.append_nil, Nat.reduceLeDiff, Nat.le_refl, vsplice, Nat.reduceLT, Int.toNat_natCast, eq_self, ge_iff_le, Bool.and_eq_true, Nat.reduceSub]
        exact bad fun h => k2 h.1.2.1
    · simp only [impl_AreCustomers_b0, h0, h5, h6, h7, hin, e1, rd_cV, k1, impl_in_v, cV, VX, Nat.reduceEqDiff, Nat.reduceAdd, vload_pdef, vstore_pdef, viaddr_rdef, vlen_rdef, vfaddr_pdef, vchk_pdef, visnil_rdef, visnil_nil, visnil_cons, vrow_zero, vrow_succ, List.set_cons_zero, List.set_cons_succ, elemOf_one, elemOf_two, vresult, vresAll, vres1, vfill, isAny_sc, isAny_tree, isAny_ref, isAny_agg, isAny_clo, List.take_zero, List.take_succ_cons, List.take_nil, List.drop_zero, List.drop_succ_cons, List.drop_nil, List.append_nil, Nat.reduceLeDiff, Nat.le_refl, vsplice, Nat.reduceLT, Int.toNat_natCast, eq_self, ge_iff_le, Bool.and_eq_true, Nat.reduceSub]
      exact bad fun h => k1 h.1.1
  · have hie : i = cs.length := by omega
    subst hie
    simp only [impl_AreCustomers_b0, h0, h5, h6, h7, hin, VX, Nat.reduceEqDiff, Nat.reduceAdd]
    have : custsOk cs ↔ (cs.length : Int) ≤ 24 := ⟨fun h => by have := h.2; omega, fun h => ⟨fun j c hc => hall j c (List.getElem?_eq_some_iff.1 hc).1 hc, by omega⟩⟩
    simp only [this]
    exact fz_res rfl

set_option maxHeartbeats 2000000 in
theorem spec_l05Are_v (cs : List Cust) (hn : cs.length ≤ 1000000000) : TC 56 [custsV cs] (.sc (.bool (decide (custsOk cs)))) := by
  refine TC.walk ⟨true, false⟩ spec_l05Are_t rfl (Nat.le_of_ble_eq_true rfl) (by simp [pureL, custsV_pure]) rfl ?_
  simp only [spec_l05Are, spec_l05Are_c, VX, Nat.reduceEqDiff, Nat.reduceAdd]
  refine VW_loopT (fun (i : Nat) ρ H => i ≤ cs.length ∧ H = [] ∧ (∀ j c, j < i → cs[j]? = some c → custAt cs j c) ∧ ρ 0 = custsV cs ∧ ρ 5 = custsV cs ∧ ρ 6 = VI cs.length ∧ ρ 7 = VI i) (fun i => cs.length - i) 0 ⟨Nat.zero_le _, rfl, fun j c h => by omega, rfl, rfl, rfl, rfl⟩ ?_
  rintro i ρ H ⟨hi, rfl, hall, h0, h5, h6, h7⟩
  by_cases hin : (i : Int) < (cs.length : Int)
  · obtain ⟨c, hc⟩ : ∃ c, cs[i]? = some c := ⟨_, List.getElem?_eq_getElem (by omega)⟩
    have e1 := fun H => viaddr_map (f := cV) (t := .op) (H := H) (size := 3) (k := .i64) hc rfl
    have wi : IntKind.i64.wrap ((i : Int) + 1) = ((i + 1 : Nat) : Int) := wrapN (i + 1) (by omega) (by omega)
    have bad : ¬ custAt cs i c → fz depth [VBlk.row 0 [cV c] 3 true] (.sc (.bool false)) = some (.sc (.bool (decide (custsOk cs)))) := fun h => by
      rw [decide_eq_false (fun hk : custsOk cs => h (hk.1 i c hc))]
      exact fz_res rfl
    have next : custAt cs i c → ∀ j c', j < i + 1 → cs[j]? = some c' → custAt cs j c' := fun h j c' hj hc' => by
      rcases Nat.lt_or_ge j i with hji | hji
      · exact hall j c' hji hc'
      · have : j = i := by omega
        subst this
        rw [hc] at hc'
        injection hc' with hc'
        exact hc' ▸ h
    by_cases k1 : 0 ≤ c.t ∧ c.t ≤ 10000
    · by_cases k2 : 1 ≤ c.w ∧ c.w ≤ 1000
      · by_cases k3 : 0 ≤ c.k ∧ c.k ≤ 9
        · have hok : custOk c := ⟨k1, k2, k3⟩
          cases i with
          | zero =>
            have hz : ¬ ((0 : Int) < ((0 : Nat) : Int)) := by omega
            simp only [spec_l05Are_b0, h0, h5, h6, h7, hin, e1, rd_cV, wi, k1, k2, k3, hz, spec_l00In_v, cV, VX, Nat.reduceEqDiff, Nat.reduceAdd, vload_pdef, vstore_pdef, viaddr_rdef, vlen_rdef, vfaddr_pdef, vchk_pdef, visnil_rdef, visnil_nil, visnil_cons, vrow_zero, vrow_succ, List.set_cons_zero, List.set_cons_succ, elemOf_one, elemOf_two, vresult, vresAll, vres1, vfill, isAny_sc, isAny_tree, isAny_ref, isAny_agg, isAny_clo, List.take_zero, List.take_succ_cons, List.take_nil, List.drop_zero, List.drop_succ_cons, List.drop_nil, List.append_nil, Nat.reduceLeDiff, Nat.le_refl, vsplice, Nat.reduceLT, Int.toNat_natCast, eq_self, ge_iff_le, Bool.and_eq_true, Nat.reduceSub]
            refine ⟨1, by omega, rfl, by omega, next ⟨hok, fun p h => by omega⟩, ?_⟩
            simp only [scrubE_app, h0, h5, h6, scrub_of (custsV_pure _), VX, Nat.reduceEqDiff, Nat.reduceAdd, List.take_zero, rowsBelow, List.all_nil, List.length_nil, scrubE_app, scrub_sc, scrub_of]
          | succ i =>
            have hp : (0 : Int) < ((i + 1 : Nat) : Int) := by omega
            have w2 : IntKind.i64.wrap (((i + 1 : Nat) : Int) - 1) = (i : Int) := wrapN i (by omega) (by omega)
            obtain ⟨p, hpr⟩ : ∃ p, cs[i]? = some p := ⟨_, List.getElem?_eq_getElem (by omega)⟩
            have e2 := fun H => viaddr_map (f := cV) (t := .op) (H := H) (size := 3) (k := .i64) hpr rfl
            by_cases hlt : c.t < p.t
            · simp only [spec_l05Are_b0, h0, h5, h6, h7, hin, e1, e2, rd_cV, k1, k2, k3, hp, w2, hlt, spec_l00In_v, cV, VX, Nat.reduceEqDiff, Nat.reduceAdd, vload_pdef, vstore_pdef, viaddr_rdef, vlen_rdef, vfaddr_pdef, vchk_pdef, visnil_rdef, visnil_nil, visnil_cons, vrow_zero, vrow_succ, List.set_cons_zero, List.set_cons_succ, elemOf_one, elemOf_two, vresult, vresAll, vres1, vfill, isAny_sc, isAny_tree, isAny_ref, isAny_agg, isAny_clo, List.take_zero, List.take_succ_cons, List.take_nil, List.drop_zero, List.drop_succ_cons, List.drop_nil, List.append_nil, Nat.reduceLeDiff, Nat.le_refl, vsplice, Nat.reduceLT, Int.toNat_natCast, eq_self, ge_iff_le, Bool.and_eq_true, Nat.reduceSub]
              exact bad fun h => by have := h.2 p (by omega) (by simpa using hpr); omega
            · simp only [spec_l05Are_b0, h0, h5, h6, h7, hin, e1, e2, rd_cV, wi, k1, k2, k3, hp, w2, hlt, spec_l00In_v, cV, VX, Nat.reduceEqDiff, Nat.reduceAdd, vload_pdef, vstore_pdef, viaddr_rdef, vlen_rdef, vfaddr_pdef, vchk_pdef, visnil_rdef, visnil_nil, visnil_cons, vrow_zero, vrow_succ, List.set_cons_zero, List.set_cons_succ, elemOf_one, elemOf_two, vresult, vresAll, vres1, vfill, isAny_sc, isAny_tree, isAny_ref, isAny_agg, isAny_clo, List.take_zero, List.take_succ_cons, List.take_nil, List.drop_zero, List.drop_succ_cons, List.drop_nil, List.append_nil, Nat.reduceLeDiff, Nat.le_refl, vsplice, Nat.reduceLT, Int.toNat_natCast, eq_self, ge_iff_le, Bool.and_eq_true, Nat.reduceSub]
              refine ⟨i + 1 + 1, by omega, rfl, by omega, next (custAt_prev hok fun q hq => by rw [hpr] at hq; injection hq with hq; subst hq; omega), ?_⟩
              simp only [scrubE_app, h0, h5, h6, scrub_of (custsV_pure _), VX, Nat.reduceEqDiff, Nat.reduceAdd, List.take_zero, rowsBelow, List.all_nil, List.length_nil, scrubE_app, scrub_sc, scrub_of]
        · simp only [spec_l05Are_b0, h0, h5, h6, h7, hin, e1, rd_cV, k1, k2, k3, spec_l00In_v, cV, VX, Nat.reduceEqDiff, Nat.reduceAdd, vload_pdef, vstore_pdef, viaddr_rdef, vlen_rdef, vfaddr_pdef, vchk_pdef, visnil_rdef, visnil_nil, visnil_cons, vrow_zero, vrow_succ, List.set_cons_zero, List.set_cons_succ, elemOf_one, elemOf_two, vresult, vresAll, vres1, vfill, isAny_sc, isAny_tree, isAny_ref, isAny_agg, isAny_clo, List.take_zero, List.take_succ_cons, List.take_nil, List.drop_zero, List.drop_succ_cons, List.drop_nil, List.append_nil, Nat.reduceLeDiff, Nat.le_refl, vsplice, Nat.reduceLT, Int.toNat_natCast, eq_self, ge_iff_le, Bool.and_eq_true, Nat.reduceSub]
          exact bad fun h => k3 h.1.2.2
      · simp only [spec_l05Are_b0, h0, h5, h6, h7, hin, e1, rd_cV, k1, k2, spec_l00In_v, cV, VX, Nat.reduceEqDiff, Nat.reduceAdd, vload_pdef, vstore_pdef, viaddr_rdef, vlen_rdef, vfaddr_pdef, vchk_pdef, visnil_rdef, visnil_nil, visnil_cons, vrow_zero, vrow_succ, List.set_cons_zero, List.set_cons_succ, elemOf_one, elemOf_two, vresult, vresAll, vres1, vfill, isAny_sc, isAny_tree, isAny_ref, isAny_agg, isAny_clo, List.take_zero, List.take_succ_cons, List.take_nil, List.drop_zero, List.drop_succ_cons, List.drop_nil, List.append_nil, Nat.reduceLeDiff, Nat.le_refl, vsplice, Nat.reduceLT, Int.toNat_natCast, eq_self, ge_iff_le, Bool.and_eq_true, Nat.reduceSub]
        exact bad fun h => k2 h.1.2.1
    · simp only [spec_l05Are_b0, h0, h5, h6, h7, hin, e1, rd_cV, k1, spec_l00In_v, cV, VX, Nat.reduceEqDiff, Nat.reduceAdd, vload_pdef, vstore_pdef, viaddr_rdef, vlen_rdef, vfaddr_pdef, vchk_pdef, visnil_rdef, visnil_nil, visnil_cons, vrow_zero, vrow_succ, List.set_cons_zero, List.set_cons_succ, elemOf_one, elemOf_two, vresult, vresAll, vres1, vfill, isAny_sc, isAny_tree, isAny_ref, isAny_agg, isAny_clo, List.take_zero, List.take_succ_cons, List.take_nil, List.drop_zero, List.drop_succ_cons, List.drop_nil, List.append_nil, Nat.reduceLeDiff, Nat.le_refl, vsplice, Nat.reduceLT, Int.toNat_natCast, eq_self, ge_iff_le, Bool.and_eq_true, Nat.reduceSub]
      exact bad fun h => k1 h.1.1
  · have hie : i = cs.length := by omega
    subst hie
    simp only [spec_l05Are_b0, h0, h5, h6, h7, hin, VX, Nat.reduceEqDiff, Nat.reduceAdd]
    have : custsOk cs ↔ (cs.length : Int) ≤ 24 := ⟨fun h => by have := h.2; omega, fun h => ⟨fun j c hc => hall j c (List.getElem?_eq_some_iff.1 hc).1 hc, by omega⟩⟩
    simp only [this]
    exact fz_res rfl
end Go.PM

/- Patience: the program and the reference, walked. -/
namespace Go.PM

/-- A list of numbers of one's own, and a word. -/
def LR (vals : List Int) (ok : Bool) (n : Nat) (r : VV) (L : VHeap) : Prop :=
  ∃ v, r = .tup [v, .sc (.bool ok)] ∧ ((v = .tree [] .nil ∧ vals = []) ∨ ∃ i g c, v = .ref (n + i) g 0 vals.length c ∧ vals.length ≤ c ∧ L[i]? = some (.row g (vals.map nV) 1 true))

theorem slices_IndexFunc_i64_v (xs : List Int) (g : Nat) (p : Int → Bool) (hg : ∀ x, TC g [VI x] (.sc (.bool (p x)))) (hn : xs.length ≤ 1000000000) :
    ∃ k : Int, (0 ≤ k ↔ xs.any p = true) ∧ TC 97 [numsV xs, .clo g []] (VI k) := by
  refine ⟨match xs.findIdx? p with | some i => i | none => -1, ?_, ?_⟩
  · cases h : xs.findIdx? p with
    | none =>
      rw [List.findIdx?_eq_none_iff] at h
      simp only [List.any_eq_true]
      constructor
      · intro h'; omega
      · rintro ⟨x, hx, hp⟩; rw [h x hx] at hp; cases hp
    | some i =>
      simp only [List.any_eq_true]
      obtain ⟨hi, hp, _⟩ := List.findIdx?_eq_some_iff_getElem.1 h
      exact ⟨fun _ => ⟨_, List.getElem_mem hi, hp⟩, fun _ => by omega⟩
  · refine TC.walk ⟨true, false⟩ slices_IndexFunc___int64_int64__t rfl (Nat.le_of_ble_eq_true rfl) (by simp [pureL, nums_pure]; rfl) rfl ?_
    simp only [slices_IndexFunc___int64_int64_, slices_IndexFunc___int64_int64__c, VX, Nat.reduceEqDiff, Nat.reduceAdd]
    refine VW_loop (fun (i : Nat) ρ H => i ≤ xs.length ∧ H = [] ∧ (∀ j x, j < i → xs[j]? = some x → p x = false) ∧ ρ 0 = numsV xs ∧ ρ 1 = .clo g [] ∧ ρ 7 = VI xs.length ∧ ρ 8 = VI i) (fun i => xs.length - i) 0 ⟨Nat.zero_le _, rfl, fun j x h => by omega, rfl, rfl, rfl, rfl⟩ ?_
    rintro i ρ H ⟨hi, rfl, hall, h0, h1, h7, h8⟩
    by_cases hin : (i : Int) < (xs.length : Int)
    · obtain ⟨x, hx⟩ : ∃ x, xs[i]? = some x := ⟨_, List.getElem?_eq_getElem (by omega)⟩
      have e1 := viaddr_map (f := nV) (t := .op) (H := []) (size := 1) (k := .i64) hx rfl
      have wi : IntKind.i64.wrap ((i : Int) + 1) = ((i + 1 : Nat) : Int) := wrapN (i + 1) (by omega) (by omega)
      have e2 := hg x
      cases hp : p x with
      | false =>
        simp only [slices_IndexFunc___int64_int64__b0, h0, h1, h7, h8, hin, e1, e2, hp, wi, VX, Nat.reduceEqDiff, Nat.reduceAdd]
        refine ⟨i + 1, by omega, by omega, fun j y hj hy => ?_, by (repeat' apply And.intro) <;> first | rfl | trivial⟩
        rcases Nat.lt_or_ge j i with hji | hji
        · exact hall j y hji hy
        · have : j = i := by omega
          subst this
          rw [hx] at hy
          injection hy with hy
          exact hy ▸ hp
      | true =>
        simp only [slices_IndexFunc___int64_int64__b0, h0, h1, h7, h8, hin, e1, e2, hp, wi, VX, Nat.reduceEqDiff, Nat.reduceAdd]
        have : xs.findIdx? p = some i := by
          rw [List.findIdx?_eq_some_iff_getElem]
          obtain ⟨hlt, hge⟩ := List.getElem?_eq_some_iff.1 hx
          exact ⟨hlt, by rw [hge]; exact hp, fun j hj => by
            have := hall j _ hj (List.getElem?_eq_getElem (by omega))
            simp [this]⟩
        rw [this]
        exact fz_res rfl
    · simp only [slices_IndexFunc___int64_int64__b0, h0, h1, h7, h8, hin, VX, Nat.reduceEqDiff, Nat.reduceAdd]
      have : xs.findIdx? p = none := by
        rw [List.findIdx?_eq_none_iff]
        intro x hx
        obtain ⟨j, hj⟩ := List.getElem?_of_mem hx
        exact hall j x (by have := (List.getElem?_eq_some_iff.1 hj).1; omega) hj
      rw [this]
      exact fz_res rfl
theorem slices_ContainsFunc_i64_v (xs : List Int) (g : Nat) (p : Int → Bool) (hg : ∀ x, TC g [VI x] (.sc (.bool (p x)))) (hn : xs.length ≤ 1000000000) : TC 77 [numsV xs, .clo g []] (.sc (.bool (xs.any p))) := by
  refine TC.walk ⟨true, false⟩ slices_ContainsFunc___int64_int64__t rfl (Nat.le_of_ble_eq_true rfl) (by simp [pureL, nums_pure]; rfl) rfl ?_
  obtain ⟨k, hk, hc⟩ := slices_IndexFunc_i64_v xs g p hg hn
  have e : decide (0 ≤ k) = xs.any p := by
    cases h : xs.any p with
    | true => rw [decide_eq_true (hk.2 h)]
    | false => rw [decide_eq_false fun h' => by rw [hk.1 h'] at h; cases h]
  simp only [slices_ContainsFunc___int64_int64_, slices_ContainsFunc___int64_int64__c, hc, e, VX, Nat.reduceEqDiff, Nat.reduceAdd]
  exact fz_res rfl

theorem impl_WithPatience_1_v (x : Int) : TC 78 [VI x] (.sc (.bool (!decide (0 ≤ x ∧ x ≤ 10000)))) := by
  refine TC.walk ⟨true, false⟩ impl_WithPatience_1_t rfl (Nat.le_of_ble_eq_true rfl) rfl rfl ?_
  simp only [impl_WithPatience_1, impl_WithPatience_1_c, impl_in_v, VX, Nat.reduceEqDiff, Nat.reduceAdd]
  exact fz_res rfl
theorem spec_l00Max_v (x y : Int) : TC 62 [VI x, VI y] (VI (max x y)) := by
  refine TC.walk ⟨true, false⟩ spec_l00Max_t rfl (Nat.le_of_ble_eq_true rfl) rfl rfl ?_
  by_cases h : y < x
  · simp only [spec_l00Max, spec_l00Max_c, h, VX, Nat.reduceEqDiff, Nat.reduceAdd]
    rw [Int.max_eq_left (by omega)]
    exact fz_res rfl
  · simp only [spec_l00Max, spec_l00Max_c, h, VX, Nat.reduceEqDiff, Nat.reduceAdd]
    rw [Int.max_eq_right (by omega)]
    exact fz_res rfl

set_option maxHeartbeats 2000000 in
theorem impl_WithPatience_v (cs : List Cust) (ps : List Int) (hn : cs.length ≤ 1000000000) (hp : ps.length ≤ 1000000000) : FC 45 [custsV cs, numsV ps] (LR (ptV cs ps) (decide (ptOk cs ps))) := by
  refine FC.walk ⟨true, false⟩ impl_WithPatience_t (Nat.le_of_ble_eq_true rfl) fun n => ?_
  have bad : ¬ ptOk cs ps → LR (ptV cs ps) (decide (ptOk cs ps)) n (.tup [.tree [] .nil, .sc (.bool false)]) [] := fun h => by
    unfold ptV
    rw [if_neg h, decide_eq_false h]
    exact ⟨_, rfl, .inl ⟨rfl, rfl⟩⟩
  have eA := impl_AreCustomers_v cs hn
  by_cases hc : custsOk cs
  · by_cases hl : (ps.length : Int) = (cs.length : Int)
    · have eF := slices_ContainsFunc_i64_v ps 78 (fun x => !decide (0 ≤ x ∧ x ≤ 10000)) impl_WithPatience_1_v hp
      by_cases ha : ∀ x ∈ ps, 0 ≤ x ∧ x ≤ 10000
      · have hany : (ps.any fun x => !decide (0 ≤ x ∧ x ≤ 10000)) = false := by
          rw [List.any_eq_false]
          intro x hx
          simp [ha x hx]
        have hok : ptOk cs ps := ⟨hc, by omega, ha⟩
        have hlen := hc.2
        have e0 := vlit_nil (H := List.replicate n VBlk.dead) (lr := false) (z := [.int .i64 0]) rfl
        simp only [impl_WithPatience, impl_WithPatience_c, eA, eF, hc, hl, hany, e0, VX, Nat.reduceEqDiff, Nat.reduceAdd, vrow_D0, vrow_Dk, set_D0, set_Dk, len_D, List.append_assoc, Nat.le_add_right, take_Dk, take_D0, List.length_replicate]
        refine VW_loopT (fun (s : Nat × Int × List Int) ρ H => s.1 ≤ cs.length ∧ (0 ≤ s.2.1 ∧ s.2.1 ≤ 10000 + 11000 * s.1) ∧ H = List.replicate n VBlk.dead ++ [.row s.1 (s.2.2.map nV) 1 true] ∧ s.2.2.length = s.1 ∧ s.2.2 ++ ptList (cs.drop s.1) (ps.drop s.1) s.2.1 = ptList cs ps 0 ∧
          ρ 1 = numsV ps ∧ ρ 26 = custsV cs ∧ ρ 27 = VI cs.length ∧ ρ 28 = VI s.1 ∧ ρ 7 = VI s.2.1 ∧ ρ 6 = .ref n s.1 0 s.1 s.1) (fun s => cs.length - s.1) (0, 0, []) ⟨Nat.zero_le _, by simp, rfl, rfl, rfl, rfl, rfl, rfl, rfl, rfl, rfl⟩ ?_
        rintro ⟨i, fr, out⟩ ρ H ⟨hi, hf, rfl, hol, hpt, h1, h26, h27, h28, h7, h6⟩
        simp only at hi hf hol hpt h28 h7 h6
        by_cases hin : (i : Int) < (cs.length : Int)
        · obtain ⟨x, hx⟩ : ∃ x, cs[i]? = some x := ⟨_, List.getElem?_eq_getElem (by omega)⟩
          obtain ⟨y, hy⟩ : ∃ y, ps[i]? = some y := ⟨_, List.getElem?_eq_getElem (by omega)⟩
          have hb := hc.at hx
          rw [drop_cons hx, drop_cons hy, ptList] at hpt
          have e1 := fun H => viaddr_map (f := cV) (t := .op) (H := H) (size := 3) (k := .i64) hx rfl
          have e2 := fun H => viaddr_map (f := nV) (t := .op) (H := H) (size := 1) (k := .i64) hy rfl
          have wi : IntKind.i64.wrap ((i : Int) + 1) = ((i + 1 : Nat) : Int) := wrapN (i + 1) (by omega) (by omega)
          have w1 : IntKind.i64.wrap (max x.t fr - x.t) = max x.t fr - x.t := wrap64 (by omega) (by omega)
          have w2 : IntKind.i64.wrap (max x.t fr + x.w) = max x.t fr + x.w := wrap64 (by omega) (by omega)
          have eL : ∀ v H, vlit false [.int .i64 0] 1 [(0, nV v)] H = some (.tree [nV v] (.cl 1), H) := fun v H => vlit_one rfl rfl rfl
          have eS : ∀ v H, vsource 1 (.tree [nV v] (.cl 1)) H = some [nV v] := fun v H => vsource_one rfl rfl
          have eP : ∀ v, vappend n 1 8 (.ref n i 0 i i) [nV v] (List.replicate n VBlk.dead ++ [.row i (out.map nV) 1 true, .row 0 [.agg [nV x.t, nV x.w, nV x.k]] 3 true]) = some (.ref n (i + 1) 0 (i + 1) (i + 1), List.replicate n VBlk.dead ++ [.row (i + 1) ((out ++ [v]).map nV) 1 true, .row 0 [.agg [nV x.t, nV x.w, nV x.k]] 3 true]) := fun v => by
            rw [vappend_row (f := nV) (xs := out) (by rw [vrow_D0, vrow_zero]) hol.symm (Nat.le_refl _) (by decide) (by decide) (by omega), set_D0, List.set_cons_zero]
          have post : ∀ (fr' v : Int) (ρ' : VEnv), (0 ≤ fr' ∧ fr' ≤ 10000 + 11000 * ((i + 1 : Nat) : Int)) → (out ++ [v]) ++ ptList (cs.drop (i + 1)) (ps.drop (i + 1)) fr' = ptList cs ps 0 → ρ' 1 = numsV ps → ρ' 26 = custsV cs → ρ' 27 = VI cs.length → ρ' 28 = VI (i + 1 : Nat) → ρ' 7 = VI fr' → ρ' 6 = .ref n (i + 1) 0 (i + 1) (i + 1) →
              ∃ s' : Nat × Int × List Int, cs.length - s'.1 < cs.length - i ∧ rowsBelow (n + 1) (List.replicate n VBlk.dead ++ [.row (i + 1) ((out ++ [v]).map nV) 1 true]) = true ∧ s'.1 ≤ cs.length ∧ (0 ≤ s'.2.1 ∧ s'.2.1 ≤ 10000 + 11000 * s'.1) ∧ List.replicate n VBlk.dead ++ [.row (i + 1) ((out ++ [v]).map nV) 1 true] = List.replicate n VBlk.dead ++ [.row s'.1 (s'.2.2.map nV) 1 true] ∧ s'.2.2.length = s'.1 ∧ s'.2.2 ++ ptList (cs.drop s'.1) (ps.drop s'.1) s'.2.1 = ptList cs ps 0 ∧
              scrubE (n + 1) ρ' 1 = numsV ps ∧ scrubE (n + 1) ρ' 26 = custsV cs ∧ scrubE (n + 1) ρ' 27 = VI cs.length ∧ scrubE (n + 1) ρ' 28 = VI s'.1 ∧ scrubE (n + 1) ρ' 7 = VI s'.2.1 ∧ scrubE (n + 1) ρ' 6 = .ref n s'.1 0 s'.1 s'.1 := by
            intro fr' v ρ' hfr hpt' g1 g26 g27 g28 g7 g6
            refine ⟨(i + 1, fr', out ++ [v]), by simp only; omega, ?_, by simp only; omega, hfr, rfl, by simp [hol], hpt', ?_⟩
            · rw [below_D, below_row (below_pureL _ (nums_pureL _)), below_nil]
            · simp only [scrubE_app, g1, g26, g27, g28, g7, g6, scrub_of (custsV_pure _), scrub_of (nums_pure _), scrub_sc, scrub_ref (Nat.lt_succ_self n), and_self]
          by_cases hlate : y < max x.t fr - x.t
          · rw [if_pos hlate] at hpt
            simp only [impl_WithPatience_b0, h1, h6, h7, h26, h27, h28, hin, e1, e2, rd_cV, wi, w1, w2, eL, eS, eP, hlate, cV, VX, Nat.reduceEqDiff, Nat.reduceAdd, vload_pdef, vstore_pdef, viaddr_rdef, vlen_rdef, vfaddr_pdef, vchk_pdef, visnil_rdef, visnil_nil, visnil_cons, vrow_zero, vrow_succ, List.set_cons_zero, List.set_cons_succ, elemOf_one, elemOf_two, vresult, vresAll, vres1, vfill, isAny_sc, isAny_tree, isAny_ref, isAny_agg, isAny_clo, List.take_zero, List.take_succ_cons, List.take_nil, List.drop_zero, List.drop_succ_cons, List.drop_nil, List.append_nil, Nat.reduceLeDiff, Nat.le_refl, vsplice, Nat.reduceLT, Int.toNat_natCast, eq_self, ge_iff_le, Bool.and_eq_true, Nat.reduceSub, VS_cf, vrow_stale, n_ne_succ, vkeeps, vkoff, vblk, bne_iff_ne, ne_eq, not_false_eq_true, not_true_eq_false, vrow_D0, vrow_Dk, set_D0, set_Dk, len_D, List.append_assoc, Nat.le_add_right, take_Dk, take_D0, List.length_replicate]
            apply post fr (-1)
            all_goals first | rfl | exact h1 | exact h26 | exact h27 | exact h7 | omega | (rw [List.append_assoc]; exact hpt)
          · rw [if_neg hlate] at hpt
            simp only [impl_WithPatience_b0, h1, h6, h7, h26, h27, h28, hin, e1, e2, rd_cV, wi, w1, w2, eL, eS, eP, hlate, cV, VX, Nat.reduceEqDiff, Nat.reduceAdd, vload_pdef, vstore_pdef, viaddr_rdef, vlen_rdef, vfaddr_pdef, vchk_pdef, visnil_rdef, visnil_nil, visnil_cons, vrow_zero, vrow_succ, List.set_cons_zero, List.set_cons_succ, elemOf_one, elemOf_two, vresult, vresAll, vres1, vfill, isAny_sc, isAny_tree, isAny_ref, isAny_agg, isAny_clo, List.take_zero, List.take_succ_cons, List.take_nil, List.drop_zero, List.drop_succ_cons, List.drop_nil, List.append_nil, Nat.reduceLeDiff, Nat.le_refl, vsplice, Nat.reduceLT, Int.toNat_natCast, eq_self, ge_iff_le, Bool.and_eq_true, Nat.reduceSub, VS_cf, vrow_stale, n_ne_succ, vkeeps, vkoff, vblk, bne_iff_ne, ne_eq, not_false_eq_true, not_true_eq_false, vrow_D0, vrow_Dk, set_D0, set_Dk, len_D, List.append_assoc, Nat.le_add_right, take_Dk, take_D0, List.length_replicate]
            apply post (max x.t fr + x.w) (max x.t fr)
            all_goals first | rfl | exact h1 | exact h26 | exact h27 | exact h7 | omega | (rw [List.append_assoc]; exact hpt)
        · have hie : i = cs.length := by omega
          subst hie
          rw [List.drop_of_length_le (Nat.le_refl _), ptList, List.append_nil] at hpt
          · simp only [impl_WithPatience_b0, h1, h6, h7, h26, h27, h28, hin, VX, Nat.reduceEqDiff, Nat.reduceAdd]
            refine ⟨_, rfl, by simp [ownV, ownL, isSc], by simp [rowsOwn, ownL_map (f := nV) (fun _ => rfl)], ?_⟩
            rw [decide_eq_true hok]
            refine ⟨_, rfl, .inr ⟨0, cs.length, cs.length, ?_, ?_, ?_⟩⟩
            · unfold ptV
              rw [if_pos hok, ← hpt, hol]
              rfl
            · unfold ptV
              rw [if_pos hok, ← hpt, hol]
              exact Nat.le_refl _
            · unfold ptV
              rw [if_pos hok, ← hpt]
              rfl
          · exact fun _ _ _ _ h => by cases h
      · have hany : (ps.any fun x => !decide (0 ≤ x ∧ x ≤ 10000)) = true := by
          rw [List.any_eq_true]
          apply Classical.byContradiction
          intro hno
          apply ha
          intro x hx
          apply Classical.byContradiction
          intro hb
          exact hno ⟨x, hx, by rw [decide_eq_false hb]; rfl⟩
        simp only [impl_WithPatience, impl_WithPatience_c, eA, eF, hc, hl, hany, VX, Nat.reduceEqDiff, Nat.reduceAdd]
        exact ⟨[], by simp, rfl, rfl, bad fun h => ha h.2.2⟩
    · simp only [impl_WithPatience, impl_WithPatience_c, eA, hc, hl, VX, Nat.reduceEqDiff, Nat.reduceAdd]
      exact ⟨[], by simp, rfl, rfl, bad fun h => hl (by rw [h.2.1])⟩
  · simp only [impl_WithPatience, impl_WithPatience_c, eA, hc, VX, Nat.reduceEqDiff, Nat.reduceAdd]
    exact ⟨[], by simp, rfl, rfl, bad fun h => hc h.1⟩

set_option maxHeartbeats 2000000 in
theorem spec_WithPatience_v (cs : List Cust) (ps : List Int) (hn : cs.length ≤ 1000000000) (hp : ps.length ≤ 1000000000) : FC 44 [custsV cs, numsV ps] (LR (ptV cs ps) (decide (ptOk cs ps))) := by
  refine FC.walk ⟨true, false⟩ spec_WithPatience_t (Nat.le_of_ble_eq_true rfl) fun n => ?_
  have bad : ∀ L, ¬ ptOk cs ps → LR (ptV cs ps) (decide (ptOk cs ps)) n (.tup [.tree [] .nil, .sc (.bool false)]) L := fun L h => by
    unfold ptV
    rw [if_neg h, decide_eq_false h]
    exact ⟨_, rfl, .inl ⟨rfl, rfl⟩⟩
  have eA := spec_l05Are_v cs hn
  by_cases hc : custsOk cs
  · by_cases hl : (ps.length : Int) = (cs.length : Int)
    · have hlen := hc.2
      have e0 := vlit_nil (H := List.replicate n VBlk.dead) (lr := false) (z := [.int .i64 0]) rfl
      simp only [spec_WithPatience, spec_WithPatience_c, eA, hc, hl, e0, VX, Nat.reduceEqDiff, Nat.reduceAdd, vrow_D0, vrow_Dk, set_D0, set_Dk, len_D, List.append_assoc, Nat.le_add_right, take_Dk, take_D0, List.length_replicate]
      refine VW_loopT (fun (s : Nat × Int × List Int) ρ H => s.1 ≤ cs.length ∧ (0 ≤ s.2.1 ∧ s.2.1 ≤ 10000 + 11000 * s.1) ∧ H = List.replicate n VBlk.dead ++ [.row s.1 (s.2.2.map nV) 1 true] ∧ s.2.2.length = s.1 ∧ s.2.2 ++ ptList (cs.drop s.1) (ps.drop s.1) s.2.1 = ptList cs ps 0 ∧ (∀ j x, j < s.1 → ps[j]? = some x → 0 ≤ x ∧ x ≤ 10000) ∧
        ρ 1 = numsV ps ∧ ρ 0 = custsV cs ∧ ρ 22 = VI cs.length ∧ ρ 23 = VI s.1 ∧ ρ 7 = VI s.2.1 ∧ ρ 6 = .ref n s.1 0 s.1 s.1) (fun s => cs.length - s.1) (0, 0, []) ⟨Nat.zero_le _, by simp, rfl, rfl, rfl, fun j x h => absurd h (Nat.not_lt_zero _), rfl, rfl, rfl, rfl, rfl, rfl⟩ ?_
      rintro ⟨i, fr, out⟩ ρ H ⟨hi, hf, rfl, hol, hpt, hall, h1, h26, h27, h28, h7, h6⟩
      simp only at hi hf hol hpt h28 h7 h6 hall
      by_cases hin : (i : Int) < (cs.length : Int)
      · obtain ⟨x, hx⟩ : ∃ x, cs[i]? = some x := ⟨_, List.getElem?_eq_getElem (by omega)⟩
        obtain ⟨y, hy⟩ : ∃ y, ps[i]? = some y := ⟨_, List.getElem?_eq_getElem (by omega)⟩
        have hb := hc.at hx
        rw [drop_cons hx, drop_cons hy, ptList] at hpt
        have e1 := fun H => viaddr_map (f := cV) (t := .op) (H := H) (size := 3) (k := .i64) hx rfl
        have e2 := fun H => viaddr_map (f := nV) (t := .op) (H := H) (size := 1) (k := .i64) hy rfl
        have wi : IntKind.i64.wrap ((i : Int) + 1) = ((i + 1 : Nat) : Int) := wrapN (i + 1) (by omega) (by omega)
        have w1 : IntKind.i64.wrap (max fr x.t - x.t) = max fr x.t - x.t := wrap64 (by omega) (by omega)
        have w2 : IntKind.i64.wrap (max fr x.t + x.w) = max fr x.t + x.w := wrap64 (by omega) (by omega)
        have eL : ∀ v H, vlit false [.int .i64 0] 1 [(0, nV v)] H = some (.tree [nV v] (.cl 1), H) := fun v H => vlit_one rfl rfl rfl
        have eS : ∀ v H, vsource 1 (.tree [nV v] (.cl 1)) H = some [nV v] := fun v H => vsource_one rfl rfl
        have eP : ∀ v, vappend n 1 8 (.ref n i 0 i i) [nV v] (List.replicate n VBlk.dead ++ [.row i (out.map nV) 1 true]) = some (.ref n (i + 1) 0 (i + 1) (i + 1), List.replicate n VBlk.dead ++ [.row (i + 1) ((out ++ [v]).map nV) 1 true]) := fun v => by
          rw [vappend_row (f := nV) (xs := out) (by rw [vrow_D0, vrow_zero]) hol.symm (Nat.le_refl _) (by decide) (by decide) (by omega), set_D0, List.set_cons_zero]
        by_cases hy1 : 0 ≤ y ∧ y ≤ 10000
        · have post : ∀ (fr' v : Int) (ρ' : VEnv), (0 ≤ fr' ∧ fr' ≤ 10000 + 11000 * ((i + 1 : Nat) : Int)) → (out ++ [v]) ++ ptList (cs.drop (i + 1)) (ps.drop (i + 1)) fr' = ptList cs ps 0 → ρ' 1 = numsV ps → ρ' 0 = custsV cs → ρ' 22 = VI cs.length → ρ' 23 = VI (i + 1 : Nat) → ρ' 7 = VI fr' → ρ' 6 = .ref n (i + 1) 0 (i + 1) (i + 1) →
              ∃ s' : Nat × Int × List Int, cs.length - s'.1 < cs.length - i ∧ rowsBelow (n + 1) (List.replicate n VBlk.dead ++ [.row (i + 1) ((out ++ [v]).map nV) 1 true]) = true ∧ s'.1 ≤ cs.length ∧ (0 ≤ s'.2.1 ∧ s'.2.1 ≤ 10000 + 11000 * s'.1) ∧ List.replicate n VBlk.dead ++ [.row (i + 1) ((out ++ [v]).map nV) 1 true] = List.replicate n VBlk.dead ++ [.row s'.1 (s'.2.2.map nV) 1 true] ∧ s'.2.2.length = s'.1 ∧ s'.2.2 ++ ptList (cs.drop s'.1) (ps.drop s'.1) s'.2.1 = ptList cs ps 0 ∧ (∀ j x, j < s'.1 → ps[j]? = some x → 0 ≤ x ∧ x ≤ 10000) ∧
              scrubE (n + 1) ρ' 1 = numsV ps ∧ scrubE (n + 1) ρ' 0 = custsV cs ∧ scrubE (n + 1) ρ' 22 = VI cs.length ∧ scrubE (n + 1) ρ' 23 = VI s'.1 ∧ scrubE (n + 1) ρ' 7 = VI s'.2.1 ∧ scrubE (n + 1) ρ' 6 = .ref n s'.1 0 s'.1 s'.1 := by
            intro fr' v ρ' hfr hpt' g1 g26 g27 g28 g7 g6
            refine ⟨(i + 1, fr', out ++ [v]), by simp only; omega, ?_, by simp only; omega, hfr, rfl, by simp [hol], hpt', ?_, ?_⟩
            · rw [below_D, below_row (below_pureL _ (nums_pureL _)), below_nil]
            · intro j z hj hz
              simp only at hj
              rcases Nat.lt_or_ge j i with hji | hji
              · exact hall j z hji hz
              · have : j = i := by omega
                subst this
                rw [hy] at hz
                injection hz with hz
                exact hz ▸ hy1
            · simp only [scrubE_app, g1, g26, g27, g28, g7, g6, scrub_of (custsV_pure _), scrub_of (nums_pure _), scrub_sc, scrub_ref (Nat.lt_succ_self n), and_self]
          by_cases hlate : y < max fr x.t - x.t
          · rw [if_pos (by omega)] at hpt
            simp only [spec_WithPatience_b0, spec_l00In_v, spec_l00Max_v, h1, h6, h7, h26, h27, h28, hin, hy1, e1, e2, rd_cV, wi, w1, w2, eL, eS, eP, hlate, cV, VX, Nat.reduceEqDiff, Nat.reduceAdd, vload_pdef, vstore_pdef, viaddr_rdef, vlen_rdef, vfaddr_pdef, vchk_pdef, visnil_rdef, visnil_nil, visnil_cons, vrow_zero, vrow_succ, List.set_cons_zero, List.set_cons_succ, elemOf_one, elemOf_two, vresult, vresAll, vres1, vfill, isAny_sc, isAny_tree, isAny_ref, isAny_agg, isAny_clo, List.take_zero, List.take_succ_cons, List.take_nil, List.drop_zero, List.drop_succ_cons, List.drop_nil, List.append_nil, Nat.reduceLeDiff, Nat.le_refl, vsplice, Nat.reduceLT, Int.toNat_natCast, eq_self, ge_iff_le, Bool.and_eq_true, Nat.reduceSub, VS_cf, vrow_stale, n_ne_succ, vkeeps, vkoff, vblk, bne_iff_ne, ne_eq, not_false_eq_true, not_true_eq_false, vrow_D0, vrow_Dk, set_D0, set_Dk, len_D, List.append_assoc, Nat.le_add_right, take_Dk, take_D0, List.length_replicate]
            apply post fr (-1)
            all_goals first | rfl | exact h1 | exact h26 | exact h27 | exact h7 | omega | (rw [List.append_assoc]; exact hpt)
          · rw [if_neg (by omega)] at hpt
            simp only [spec_WithPatience_b0, spec_l00In_v, spec_l00Max_v, h1, h6, h7, h26, h27, h28, hin, hy1, e1, e2, rd_cV, wi, w1, w2, eL, eS, eP, hlate, cV, VX, Nat.reduceEqDiff, Nat.reduceAdd, vload_pdef, vstore_pdef, viaddr_rdef, vlen_rdef, vfaddr_pdef, vchk_pdef, visnil_rdef, visnil_nil, visnil_cons, vrow_zero, vrow_succ, List.set_cons_zero, List.set_cons_succ, elemOf_one, elemOf_two, vresult, vresAll, vres1, vfill, isAny_sc, isAny_tree, isAny_ref, isAny_agg, isAny_clo, List.take_zero, List.take_succ_cons, List.take_nil, List.drop_zero, List.drop_succ_cons, List.drop_nil, List.append_nil, Nat.reduceLeDiff, Nat.le_refl, vsplice, Nat.reduceLT, Int.toNat_natCast, eq_self, ge_iff_le, Bool.and_eq_true, Nat.reduceSub, VS_cf, vrow_stale, n_ne_succ, vkeeps, vkoff, vblk, bne_iff_ne, ne_eq, not_false_eq_true, not_true_eq_false, vrow_D0, vrow_Dk, set_D0, set_Dk, len_D, List.append_assoc, Nat.le_add_right, take_Dk, take_D0, List.length_replicate]
            apply post (max fr x.t + x.w) (max fr x.t)
            all_goals first | rfl | exact h1 | exact h26 | exact h27 | exact h7 | omega | (rw [List.append_assoc, Int.max_comm]; exact hpt)
        · simp only [spec_WithPatience_b0, spec_l00In_v, h1, h6, h7, h26, h27, h28, hin, hy1, e1, e2, rd_cV, cV, VX, Nat.reduceEqDiff, Nat.reduceAdd]
          refine ⟨_, rfl, by simp [ownV, ownL, isSc], by simp [rowsOwn, ownL_map (f := nV) (fun _ => rfl)], ?_⟩
          exact bad _ fun h => hy1 (h.2.2 y (List.mem_of_getElem? hy))
      · have hie : i = cs.length := by omega
        subst hie
        have hok : ptOk cs ps := ⟨hc, by omega, fun x hx => by
          obtain ⟨j, hj⟩ := List.getElem?_of_mem hx
          exact hall j x (by have := (List.getElem?_eq_some_iff.1 hj).1; omega) hj⟩
        rw [List.drop_of_length_le (Nat.le_refl _), ptList, List.append_nil] at hpt
        · simp only [spec_WithPatience_b0, h1, h6, h7, h26, h27, h28, hin, VX, Nat.reduceEqDiff, Nat.reduceAdd]
          refine ⟨_, rfl, by simp [ownV, ownL, isSc], by simp [rowsOwn, ownL_map (f := nV) (fun _ => rfl)], ?_⟩
          rw [decide_eq_true hok]
          refine ⟨_, rfl, .inr ⟨0, cs.length, cs.length, ?_, ?_, ?_⟩⟩
          · unfold ptV
            rw [if_pos hok, ← hpt, hol]
            rfl
          · unfold ptV
            rw [if_pos hok, ← hpt, hol]
            exact Nat.le_refl _
          · unfold ptV
            rw [if_pos hok, ← hpt]
            rfl
        · exact fun _ _ _ _ h => by cases h
    · simp only [spec_WithPatience, spec_WithPatience_c, eA, hc, hl, VX, Nat.reduceEqDiff, Nat.reduceAdd]
      exact ⟨[], by simp, rfl, rfl, bad _ fun h => hl (by rw [h.2.1])⟩
  · simp only [spec_WithPatience, spec_WithPatience_c, eA, hc, VX, Nat.reduceEqDiff, Nat.reduceAdd]
    exact ⟨[], by simp, rfl, rfl, bad _ fun h => hc h.1⟩
end Go.PM

/- The steps of a statement's walk. -/
namespace Go.PM

/-- A handed list that is looked at. -/
theorem fz_filled {α : Type} {f : α → VV} {e b : Nat} {fill : α} {xs : List α} {H : VHeap} (hp : ∀ x, pureV (f x) = true) (h : vrow H b 0 = some ((filledS fill xs).map f, e, true)) : fz depth H (.ref b 0 0 xs.length (xs.length + room xs.length)) = some (listV f xs) := by
  rw [fz_rowP h (by simp [filledS]) (Nat.le_add_right _ _) (pure_map hp), ← List.map_take, filledS_take]
theorem fz_live {α : Type} {f : α → VV} {e b g c : Nat} {xs : List α} {H : VHeap} (hp : ∀ x, pureV (f x) = true) (h : vrow H b g = some (xs.map f, e, true)) (hc : xs.length ≤ c) : fz depth H (.ref b g 0 xs.length c) = some (listV f xs) := by
  rw [fz_row h (by simp) hc (pure_map hp)]
theorem vrow_pre {H H' : VHeap} {b g : Nat} {x : List VV × Nat × Bool} (hh : H <+: H') (h : vrow H b g = some x) : vrow H' b g = some x := by
  obtain ⟨L, rfl⟩ := hh
  exact vrow_app h
/-- What is handed over is seen as this list, also in longer heaps. -/
def Seen {α : Type} (f : α → VV) (xs : List α) (H : VHeap) (r : VV) : Prop := ∀ H', H <+: H' → fz depth H' r = some (listV f xs)
theorem Seen.now {α : Type} {f : α → VV} {xs : List α} {H : VHeap} {r : VV} (h : Seen f xs H r) : fz depth H r = some (listV f xs) := h H (List.prefix_refl _)
theorem Seen.pre {α : Type} {f : α → VV} {xs : List α} {H H' : VHeap} {r : VV} (h : Seen f xs H r) (hh : H <+: H') : Seen f xs H' r := fun H'' h' => h H'' (hh.trans h')

theorem to_any {α : Type} {f : α → VV} {e F lo : Nat} {fill : α} {xs : List α} {bare : Bool} {H : VHeap} {K : VV → VHeap → Prop} (h : FC F [listV f xs, .sc (.bool bare)] (ToR f e fill xs bare)) (hraw : raws.contains F = true) (hl : ∀ x, (vcells (f x)).length = e) (hp : ∀ x, pureV (f x) = true)
    (hk : ∀ r H', H <+: H' → Seen f xs H' r → K r H') : vcallP F [listV f xs, .sc (.bool bare)] lo H K := by
  refine h.call hraw (mapM_pure (n := 7) (by simp [pureL, pure_list hl hp]; rfl)) ?_
  rintro r L (⟨_, rfl, rfl, rfl⟩ | ⟨rfl, rfl⟩)
  · exact hk _ _ (List.prefix_append _ _) fun H' _ => fz_niltree
  · refine hk _ _ (List.prefix_append _ _) fun H' hh => fz_filled (e := e) (fill := fill) hp (vrow_pre hh ?_)
    exact vrow_of_app (i := 0) rfl
theorem to_row {α : Type} {f : α → VV} {e F lo : Nat} {fill : α} {xs : List α} {H : VHeap} {K : VV → VHeap → Prop} (h : FC F [listV f xs, .sc (.bool false)] (ToR f e fill xs false)) (hraw : raws.contains F = true) (hl : ∀ x, (vcells (f x)).length = e) (hp : ∀ x, pureV (f x) = true)
    (hk : ∀ b H', H <+: H' → H.length ≤ b → vrow H' b 0 = some ((filledS fill xs).map f, e, true) → K (.ref b 0 0 xs.length (xs.length + room xs.length)) H') : vcallP F [listV f xs, .sc (.bool false)] lo H K := by
  refine h.call hraw (mapM_pure (n := 7) (by simp [pureL, pure_list hl hp]; rfl)) ?_
  intro r L hL
  obtain ⟨rfl, rfl⟩ := hL.no
  exact hk _ _ (List.prefix_append _ _) (Nat.le_refl _) (vrow_of_app (i := 0) rfl)
theorem vrow_seen {α : Type} {f : α → VV} {e b : Nat} {fill : α} {xs : List α} {H : VHeap} (hp : ∀ x, pureV (f x) = true) (h : vrow H b 0 = some ((filledS fill xs).map f, e, true)) : Seen f xs H (.ref b 0 0 xs.length (xs.length + room xs.length)) := fun _ hh => fz_filled hp (vrow_pre hh h)

/-- A list of numbers that was handed back: none, or a row with a number from lo to hi. -/
def LV (lo hi : Nat) (vals : List Int) (H : VHeap) (v : VV) : Prop :=
  (v = .tree [] .nil ∧ vals = []) ∨ ∃ b g c, lo ≤ b ∧ b < hi ∧ v = .ref b g 0 vals.length c ∧ vals.length ≤ c ∧ vrow H b g = some (vals.map nV, 1, true)
theorem LV.keep {lo hi : Nat} {vals : List Int} {H H' : VHeap} {v : VV} (h : LV lo hi vals H v) (hk : ∀ b g x, lo ≤ b → b < hi → vrow H b g = some x → vrow H' b g = some x) : LV lo hi vals H' v := by
  rcases h with h | ⟨b, g, c, h1, h2, h3, h4, h5⟩
  · exact .inl h
  · exact .inr ⟨b, g, c, h1, h2, h3, h4, hk _ _ _ h1 h2 h5⟩
theorem LV.pre {lo hi : Nat} {vals : List Int} {H H' : VHeap} {v : VV} (h : LV lo hi vals H v) (hh : H <+: H') : LV lo hi vals H' v := h.keep fun _ _ _ _ _ => vrow_pre hh
theorem LV.set {lo hi b' : Nat} {x : VBlk} {vals : List Int} {H : VHeap} {v : VV} (h : LV lo hi vals H v) (hb : b' < lo ∨ hi ≤ b') : LV lo hi vals (H.set b' x) v := h.keep fun _ _ _ h1 h2 => vrow_set_ne (by omega)
theorem LV.fz {lo hi : Nat} {vals : List Int} {H : VHeap} {v : VV} (h : LV lo hi vals H v) : fz depth H v = some (numsV vals) := by
  rcases h with ⟨rfl, rfl⟩ | ⟨b, g, c, h1, h2, rfl, h4, h5⟩
  · exact fz_niltree
  · exact fz_live (fun _ => rfl) h5 h4
theorem lr_call {F lo : Nat} {args args' : List VV} {vals : List Int} {ok : Bool} {H : VHeap} {K : VV → VHeap → Prop} (h : FC F args' (LR vals ok)) (hraw : raws.contains F = true) (hf : args.mapM (fz depth H) = some args')
    (hk : ∀ v H', H <+: H' → LV H.length H'.length vals H' v → K (.tup [v, .sc (.bool ok)]) H') : vcallP F args lo H K := by
  refine h.call hraw hf ?_
  rintro r L ⟨v, rfl, hv⟩
  refine hk v _ (List.prefix_append _ _) ?_
  rcases hv with h | ⟨i, g, c, rfl, h2, h3⟩
  · exact .inl h
  · have hi := (List.getElem?_eq_some_iff.1 h3).1
    exact .inr ⟨_, g, c, Nat.le_add_right _ _, by rw [List.length_append]; omega, rfl, h2, vrow_of_app h3⟩
theorem eq_nums {lo lo1 hi1 lo2 hi2 : Nat} {xs ys : List Int} {H : VHeap} {v w : VV} {K : VV → VHeap → Prop} (hv : LV lo1 hi1 xs H v) (hw : LV lo2 hi2 ys H w) (hn : xs.length ≤ 1000000000) :
    vcallP 41 [v, w] lo H K = K (.sc (.bool (decide (xs = ys)))) H :=
  TC.flat (laws_eqInt64S_v xs ys hn) rfl (by simp [pureL, nums_pure]) (fz2 hv.fz hw.fz) rfl _ _
theorem held_nums {lo lo1 hi1 : Nat} {k : Int} {n : Nat} {H : VHeap} {v : VV} {K : VV → VHeap → Prop} (hv : LV lo1 hi1 (iota k n) H v) (hk : 0 ≤ k ∧ k ≤ 1000000000) (hn : n ≤ 1000000000) :
    vcallP 43 [v, VI k] lo H K = K (VI (k + n)) H :=
  TC.flat (laws_heldInt64S_v k n hk hn) rfl (by simp [pureL, nums_pure]; rfl) (fz2 hv.fz (fz_res rfl)) rfl _ _
theorem laws_markInt64S_nil {lo : Nat} {H : VHeap} (k : Int) : VRaw 42 [.tree [] .nil, VI k] lo H fun r H' => r = VI k ∧ H' = H := by
  refine VRaw.walk ⟨true, false⟩ laws_markInt64S_t (Nat.le_of_ble_eq_true rfl) ?_
  simp only [laws_markInt64S, laws_markInt64S_c, VX, Nat.reduceEqDiff, Nat.reduceAdd]
  refine VW_loop (fun (_ : Unit) ρ H1 => H1 = H ∧ ρ 0 = .tree [] .nil ∧ ρ 1 = VI k ∧ ρ 5 = VI 0) (fun _ => 0) () ⟨rfl, rfl, rfl, rfl⟩ ?_
  rintro _ ρ H1 ⟨rfl, h0, h1, h5⟩
  simp only [laws_markInt64S_b0, h0, h1, h5, List.length_nil, Int.natCast_zero, Int.lt_irrefl, Int.reduceLT, VX, Nat.reduceEqDiff, Nat.reduceAdd]
theorem mark_LV {lo hi lo' : Nat} {vals : List Int} {H : VHeap} {v : VV} {k : Int} {K : VV → VHeap → Prop} (hv : LV lo hi vals H v) (hlo : lo' ≤ lo) (hk : 0 ≤ k ∧ k ≤ 1000000000) (hn : vals.length ≤ 1000000000)
    (hK : ∀ H', H'.length = H.length → LV lo hi (iota k vals.length) H' v → (∀ b g x, b < lo → vrow H b g = some x → vrow H' b g = some x) → K (VI (k + vals.length)) H') :
    vcallP 42 [v, VI k] lo' H K := by
  rcases hv with ⟨rfl, rfl⟩ | ⟨b, g, c, h1, h2, rfl, h4, h5⟩
  · refine vcall_raw rfl ((laws_markInt64S_nil k).mono ?_)
    rintro r H' ⟨rfl, rfl⟩
    have := hK H' rfl (.inl ⟨rfl, rfl⟩) fun _ _ _ _ h => h
    simpa using this
  · refine vcall_raw rfl ((laws_markInt64S_v vals k h5 (Nat.le_refl _) (Nat.le_trans hlo h1) hk hn).mono ?_)
    rintro r H' ⟨rfl, rfl⟩
    refine hK _ (by simp) (.inr ⟨b, g, c, h1, h2, by rw [iota_len], by rw [iota_len]; exact h4, ?_⟩) fun b' g' x hb' h => vrow_set_ne (by omega) h
    rw [List.drop_length, List.append_nil]
    exact vrow_set_eq h5
theorem mark_nums {lo b : Nat} {xs : List Int} {H : VHeap} {k : Int} {K : VV → VHeap → Prop} (h : vrow H b 0 = some ((filledS fillN xs).map nV, 1, true)) (hlo : lo ≤ b) (hk : 0 ≤ k ∧ k ≤ 1000000000) (hn : xs.length ≤ 1000000000)
    (hK : ∀ x, K (VI (k + xs.length)) (H.set b x)) : vcallP 42 [.ref b 0 0 xs.length (xs.length + room xs.length), VI k] lo H K := by
  refine vcall_raw rfl ((laws_markInt64S_v (filledS fillN xs) k h (by rw [filledS_len]; omega) hlo hk hn).mono ?_)
  rintro r H' ⟨rfl, rfl⟩
  exact hK _
theorem mark_custs {lo b : Nat} {xs : List Cust} {H : VHeap} {k : Int} {K : VV → VHeap → Prop} (h : vrow H b 0 = some ((filledS fillC xs).map cV, 3, true)) (hlo : lo ≤ b) (hk : 0 ≤ k ∧ k ≤ 1000000000) (hn : xs.length ≤ 1000000000)
    (hK : ∀ x, K (VI (k + 3 * xs.length)) (H.set b x)) : vcallP 31 [.ref b 0 0 xs.length (xs.length + room xs.length), VI k] lo H K := by
  refine vcall_raw rfl ((laws_markCustomerS_v (filledS fillC xs) k h (by rw [filledS_len]; omega) hlo hk hn).mono ?_)
  rintro r H' ⟨rfl, ys, rfl⟩
  exact hK _
theorem eqb_self (b : Bool) : eqbV true (Value.bool b) (Value.bool b) = some (.bool false) := by cases b <;> rfl
theorem ptList_len : ∀ (cs : List Cust) (ps : List Int) (f : Int), (ptList cs ps f).length ≤ cs.length := by
  intro cs
  induction cs with
  | nil => intro ps f; unfold ptList; exact Nat.zero_le _
  | cons c cs ih =>
    intro ps f
    cases ps with
    | nil => unfold ptList; exact Nat.zero_le _
    | cons p ps =>
      rw [ptList]
      split
      · have := ih ps f; simp only [List.length_cons]; omega
      · have := ih ps (max c.t f + c.w); simp only [List.length_cons]; omega
theorem ptV_len (cs : List Cust) (ps : List Int) : (ptV cs ps).length ≤ cs.length := by
  unfold ptV
  split
  · exact ptList_len _ _ _
  · exact Nat.zero_le _
end Go.PM

/- Lists of places. -/
namespace Go.PM
abbrev kV (j : Nat) : VV := VI j
abbrev idsV (ws : List Nat) : VV := listV kV ws
theorem ids_pure (ws : List Nat) : pureV (idsV ws) = true := pure_list (size := 1) (fun _ => rfl) fun _ => rfl
theorem and_u64 (n : Nat) (h : n < 18446744073709551616) : pbin .and (.int .u64 (n : Int)) (.int .u64 4294967295) = some (.int .u64 ((n % 4294967296 : Nat) : Int)) := by
  simp only [pbin, if_true]
  have h1 : (BitVec.ofInt IntKind.u64.bits (n : Int) &&& BitVec.ofInt IntKind.u64.bits 4294967295).toNat = n % 4294967296 := by
    rw [BitVec.toNat_and]
    have e1 : (BitVec.ofInt IntKind.u64.bits (n : Int)).toNat = n := by
      rw [BitVec.toNat_ofInt]
      simp only [IntKind.bits]
      omega
    have e2 : (BitVec.ofInt IntKind.u64.bits 4294967295).toNat = 2 ^ 32 - 1 := by
      rw [BitVec.toNat_ofInt]
      simp only [IntKind.bits]
      omega
    rw [e1, e2, Nat.and_two_pow_sub_one_eq_mod]
  rw [h1, wrapU _ (by omega)]
/-- A block that ends in one way. -/
theorem VW_use {fl : Fl} {lo i : Nat} {P : VEnv → VHeap → Prop} {c : PCode} {Q : VQ} {ρ : VEnv} {H : VHeap} (h : VW fl lo (.block i c) (fun e ρ' H' => e = .normal ∧ P ρ' H') ρ H) (hq : ∀ ρ' H', P ρ' H' → Q .normal ρ' H') : VW fl lo c (onExit i Q) ρ H := by
  rw [VW_block] at h
  refine VW_mono (fun x ρ' H' hx => ?_) h
  cases x with
  | normal => exact hq _ _ hx.2
  | exit j =>
    rw [onExit_exit] at hx ⊢
    by_cases hj : j = i
    · rw [if_pos hj] at hx ⊢
      exact hq _ _ hx.2
    · rw [if_neg hj] at hx
      cases hx.1
  | ret => cases hx.1
end Go.PM
