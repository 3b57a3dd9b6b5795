/- Functions of the loaded program with their types' facts laid in (printed by a program, each checked by the kernel). No conditions. -/
import Derived.Test.YtbpabpnpoidpcaaGreatDoorPc6
import Derived.Test.YtbpabpnpoidpcaaGreatDoorPlan
import Derived.KernelRfl
set_option maxRecDepth 100000
set_option linter.unusedVariables false
namespace Go.Proofs.YtbpabpnpoidpcaaGreatDoor
namespace Am
open Go Go.RowKit

/- 4 scantling/scantlinglaw48.StatPercents -/
noncomputable def pf4 : PF := ⟨22, [.tmp 4], (.seq (.reg [⟨(some 4), (.mv (.const (.bool false))), none⟩])
  (.seq (.seq (.reg [⟨(some 5), (.mv (.tmp 0)), none⟩, ⟨(some 6), (.bin .gtr .int (.tmp 5) (.const (.int .i64 1125899906842624))), none⟩, ⟨(some 7), (.mv (.tmp 6)), none⟩, ⟨(some 8), (.mv (.tmp 1)), (some ((some 7), false))⟩, ⟨(some 9), (.bin .gtr .int (.tmp 8) (.const (.int .i64 1125899906842624))), (some ((some 7), false))⟩, ⟨(some 10), (.raw (.pick (.tmp 7) (.const (.bool true)) (.tmp 9))), none⟩])
  (.cond (.tmp 10) (.seq (.reg [⟨(some 11), (.call 6 []), none⟩, ⟨(some 4), (.mv (.tmp 11)), none⟩])
  .ret) .skip))
  (.seq (.reg [⟨(some 12), (.mv (.tmp 0)), none⟩, ⟨(some 13), (.mv (.tmp 1)), none⟩, ⟨(some 14), (.call 13 [(.tmp 12), (.tmp 13)]), none⟩, ⟨(some 15), (.mv (.tmp 0)), none⟩, ⟨(some 16), (.mv (.tmp 1)), none⟩, ⟨(some 17), (.call 14 [(.tmp 15), (.tmp 16)]), none⟩, ⟨(some 18), (.bin .eql .int (.tmp 14) (.tmp 17)), none⟩, ⟨(some 19), (.mv (.tmp 18)), none⟩, ⟨(some 20), (.call 6 []), (some ((some 19), true))⟩, ⟨(some 21), (.raw (.pick (.tmp 19) (.tmp 20) (.const (.bool false)))), none⟩, ⟨(some 4), (.mv (.tmp 21)), none⟩])
  .ret)))⟩
theorem pf4_ok : pfOf Tryz.prog plan 4 = some pf4 := by kernel_rfl
theorem ok4 : fnOk Tryz.prog plan 4 = true := by kernel_rfl
/- 13 scantling/stat.Percent -/
noncomputable def pf13 : PF := ⟨36, [.tmp 4], (.seq (.reg [⟨(some 4), (.mv (.const (.int .i64 0))), none⟩])
  (.seq (.seq (.reg [⟨(some 9), (.mv (.tmp 0)), none⟩, ⟨(some 10), (.bin .lss .int (.tmp 9) (.const (.int .i64 0))), none⟩, ⟨(some 11), (.mv (.tmp 10)), none⟩, ⟨(some 12), (.mv (.tmp 1)), (some ((some 11), false))⟩, ⟨(some 13), (.bin .lss .int (.tmp 12) (.const (.int .i64 1))), (some ((some 11), false))⟩, ⟨(some 14), (.raw (.pick (.tmp 11) (.const (.bool true)) (.tmp 13))), none⟩, ⟨(some 15), (.mv (.tmp 14)), none⟩, ⟨(some 16), (.mv (.tmp 0)), (some ((some 15), false))⟩, ⟨(some 17), (.mv (.tmp 1)), (some ((some 15), false))⟩, ⟨(some 18), (.bin .gtr .int (.tmp 16) (.tmp 17)), (some ((some 15), false))⟩, ⟨(some 19), (.raw (.pick (.tmp 15) (.const (.bool true)) (.tmp 18))), none⟩])
  (.cond (.tmp 19) (.seq (.reg [⟨(some 4), (.mv (.const (.int .i64 0))), none⟩])
  .ret) .skip))
  (.seq (.reg [⟨(some 21), (.mv (.tmp 0)), none⟩, ⟨(some 22), (.cint .u64 (.tmp 21)), none⟩, ⟨(some 23), (.call 42 [(.tmp 22), (.const (.int .u64 100))]), none⟩, ⟨(some 20), (.mv (.tmp 23)), none⟩, ⟨(some 24), (.extract (.tmp 20) 0), none⟩, ⟨(some 25), (.extract (.tmp 20) 1), none⟩, ⟨(some 5), (.mv (.tmp 24)), none⟩, ⟨(some 6), (.mv (.tmp 25)), none⟩])
  (.seq (.reg [⟨(some 27), (.mv (.tmp 5)), none⟩, ⟨(some 28), (.mv (.tmp 6)), none⟩, ⟨(some 29), (.mv (.tmp 1)), none⟩, ⟨(some 30), (.cint .u64 (.tmp 29)), none⟩, ⟨(some 31), (.call 43 [(.tmp 27), (.tmp 28), (.tmp 30)]), none⟩, ⟨(some 26), (.mv (.tmp 31)), none⟩, ⟨(some 32), (.extract (.tmp 26) 0), none⟩, ⟨(some 33), (.extract (.tmp 26) 1), none⟩, ⟨(some 7), (.mv (.tmp 32)), none⟩, ⟨(some 8), (.mv (.tmp 33)), none⟩])
  (.seq (.reg [⟨(some 34), (.mv (.tmp 7)), none⟩, ⟨(some 35), (.cint .i64 (.tmp 34)), none⟩, ⟨(some 4), (.mv (.tmp 35)), none⟩])
  .ret)))))⟩
theorem pf13_ok : pfOf Tryz.prog plan 13 = some pf13 := by kernel_rfl
theorem ok13 : fnOk Tryz.prog plan 13 = true := by kernel_rfl
/- 14 scantling/scantlingref48.Percent -/
noncomputable def pf14 : PF := ⟨20, [.tmp 4], (.seq (.reg [⟨(some 4), (.mv (.const (.int .i64 0))), none⟩])
  (.seq (.seq (.reg [⟨(some 5), (.mv (.tmp 0)), none⟩, ⟨(some 6), (.bin .lss .int (.tmp 5) (.const (.int .i64 0))), none⟩, ⟨(some 7), (.mv (.tmp 6)), none⟩, ⟨(some 8), (.mv (.tmp 1)), (some ((some 7), false))⟩, ⟨(some 9), (.bin .lss .int (.tmp 8) (.const (.int .i64 1))), (some ((some 7), false))⟩, ⟨(some 10), (.raw (.pick (.tmp 7) (.const (.bool true)) (.tmp 9))), none⟩, ⟨(some 11), (.mv (.tmp 10)), none⟩, ⟨(some 12), (.mv (.tmp 0)), (some ((some 11), false))⟩, ⟨(some 13), (.mv (.tmp 1)), (some ((some 11), false))⟩, ⟨(some 14), (.bin .gtr .int (.tmp 12) (.tmp 13)), (some ((some 11), false))⟩, ⟨(some 15), (.raw (.pick (.tmp 11) (.const (.bool true)) (.tmp 14))), none⟩])
  (.cond (.tmp 15) (.seq (.reg [⟨(some 4), (.mv (.const (.int .i64 0))), none⟩])
  .ret) .skip))
  (.seq (.reg [⟨(some 16), (.mv (.tmp 0)), none⟩, ⟨(some 17), (.bin .mul .int (.tmp 16) (.const (.int .i64 100))), none⟩, ⟨(some 18), (.mv (.tmp 1)), none⟩, ⟨(some 19), (.bin .quo .int (.tmp 17) (.tmp 18)), none⟩, ⟨(some 4), (.mv (.tmp 19)), none⟩])
  .ret)))⟩
theorem pf14_ok : pfOf Tryz.prog plan 14 = some pf14 := by kernel_rfl
theorem ok14 : fnOk Tryz.prog plan 14 = true := by kernel_rfl
/- 42 math/bits.Mul64 -/
noncomputable def pf42 : PF := ⟨51, [.tmp 4, .tmp 5], (.seq (.reg [⟨(some 4), (.mv (.const (.int .u64 0))), none⟩, ⟨(some 5), (.mv (.const (.int .u64 0))), none⟩])
  (.seq (.reg [⟨(some 14), (.mv (.tmp 0)), none⟩, ⟨(some 15), (.bin .and .int (.tmp 14) (.const (.int .u64 4294967295))), none⟩, ⟨(some 6), (.mv (.tmp 15)), none⟩])
  (.seq (.reg [⟨(some 16), (.mv (.tmp 0)), none⟩, ⟨(some 17), (.bin .shr .int (.tmp 16) (.const (.int .u64 32))), none⟩, ⟨(some 7), (.mv (.tmp 17)), none⟩])
  (.seq (.reg [⟨(some 18), (.mv (.tmp 1)), none⟩, ⟨(some 19), (.bin .and .int (.tmp 18) (.const (.int .u64 4294967295))), none⟩, ⟨(some 8), (.mv (.tmp 19)), none⟩])
  (.seq (.reg [⟨(some 20), (.mv (.tmp 1)), none⟩, ⟨(some 21), (.bin .shr .int (.tmp 20) (.const (.int .u64 32))), none⟩, ⟨(some 9), (.mv (.tmp 21)), none⟩])
  (.seq (.reg [⟨(some 22), (.mv (.tmp 6)), none⟩, ⟨(some 23), (.mv (.tmp 8)), none⟩, ⟨(some 24), (.bin .mul .int (.tmp 22) (.tmp 23)), none⟩, ⟨(some 10), (.mv (.tmp 24)), none⟩])
  (.seq (.reg [⟨(some 25), (.mv (.tmp 7)), none⟩, ⟨(some 26), (.mv (.tmp 8)), none⟩, ⟨(some 27), (.bin .mul .int (.tmp 25) (.tmp 26)), none⟩, ⟨(some 28), (.mv (.tmp 10)), none⟩, ⟨(some 29), (.bin .shr .int (.tmp 28) (.const (.int .u64 32))), none⟩, ⟨(some 30), (.bin .add .int (.tmp 27) (.tmp 29)), none⟩, ⟨(some 11), (.mv (.tmp 30)), none⟩])
  (.seq (.reg [⟨(some 31), (.mv (.tmp 11)), none⟩, ⟨(some 32), (.bin .and .int (.tmp 31) (.const (.int .u64 4294967295))), none⟩, ⟨(some 12), (.mv (.tmp 32)), none⟩])
  (.seq (.reg [⟨(some 33), (.mv (.tmp 11)), none⟩, ⟨(some 34), (.bin .shr .int (.tmp 33) (.const (.int .u64 32))), none⟩, ⟨(some 13), (.mv (.tmp 34)), none⟩])
  (.seq (.reg [⟨(some 35), (.mv (.tmp 12)), none⟩, ⟨(some 36), (.mv (.tmp 6)), none⟩, ⟨(some 37), (.mv (.tmp 9)), none⟩, ⟨(some 38), (.bin .mul .int (.tmp 36) (.tmp 37)), none⟩, ⟨(some 39), (.bin .add .int (.tmp 35) (.tmp 38)), none⟩, ⟨(some 12), (.mv (.tmp 39)), none⟩])
  (.seq (.reg [⟨(some 40), (.mv (.tmp 7)), none⟩, ⟨(some 41), (.mv (.tmp 9)), none⟩, ⟨(some 42), (.bin .mul .int (.tmp 40) (.tmp 41)), none⟩, ⟨(some 43), (.mv (.tmp 13)), none⟩, ⟨(some 44), (.bin .add .int (.tmp 42) (.tmp 43)), none⟩, ⟨(some 45), (.mv (.tmp 12)), none⟩, ⟨(some 46), (.bin .shr .int (.tmp 45) (.const (.int .u64 32))), none⟩, ⟨(some 47), (.bin .add .int (.tmp 44) (.tmp 46)), none⟩, ⟨(some 4), (.mv (.tmp 47)), none⟩])
  (.seq (.reg [⟨(some 48), (.mv (.tmp 0)), none⟩, ⟨(some 49), (.mv (.tmp 1)), none⟩, ⟨(some 50), (.bin .mul .int (.tmp 48) (.tmp 49)), none⟩, ⟨(some 5), (.mv (.tmp 50)), none⟩])
  .ret))))))))))))⟩
theorem pf42_ok : pfOf Tryz.prog plan 42 = some pf42 := by kernel_rfl
theorem ok42 : fnOk Tryz.prog plan 42 = true := by kernel_rfl
/- 43 math/bits.Div64 -/
noncomputable def pc43_0 : PCode := (.seq (.seq (.reg [⟨(some 67), (.mv (.tmp 15)), none⟩, ⟨(some 68), (.bin .geq .int (.tmp 67) (.const (.int .u64 4294967296))), none⟩, ⟨(some 69), (.mv (.tmp 68)), none⟩, ⟨(some 70), (.mv (.tmp 15)), (some ((some 69), false))⟩, ⟨(some 71), (.mv (.tmp 10)), (some ((some 69), false))⟩, ⟨(some 72), (.bin .mul .int (.tmp 70) (.tmp 71)), (some ((some 69), false))⟩, ⟨(some 73), (.mv (.tmp 16)), (some ((some 69), false))⟩, ⟨(some 74), (.bin .mul .int (.const (.int .u64 4294967296)) (.tmp 73)), (some ((some 69), false))⟩, ⟨(some 75), (.mv (.tmp 13)), (some ((some 69), false))⟩, ⟨(some 76), (.bin .add .int (.tmp 74) (.tmp 75)), (some ((some 69), false))⟩, ⟨(some 77), (.bin .gtr .int (.tmp 72) (.tmp 76)), (some ((some 69), false))⟩, ⟨(some 78), (.raw (.pick (.tmp 69) (.const (.bool true)) (.tmp 77))), none⟩])
  (.cond (.tmp 78) .skip (.exit 0)))
  (.block 1 (.seq (.reg [⟨(some 79), (.mv (.tmp 15)), none⟩, ⟨(some 80), (.bin .sub .int (.tmp 79) (.const (.int .u64 1))), none⟩, ⟨(some 15), (.mv (.tmp 80)), none⟩])
  (.seq (.reg [⟨(some 81), (.mv (.tmp 16)), none⟩, ⟨(some 82), (.mv (.tmp 9)), none⟩, ⟨(some 83), (.bin .add .int (.tmp 81) (.tmp 82)), none⟩, ⟨(some 16), (.mv (.tmp 83)), none⟩])
  (.seq (.reg [⟨(some 84), (.mv (.tmp 16)), none⟩, ⟨(some 85), (.bin .geq .int (.tmp 84) (.const (.int .u64 4294967296))), none⟩])
  (.cond (.tmp 85) (.exit 0) .skip))))))
noncomputable def pc43_1 : PCode := (.seq (.seq (.reg [⟨(some 102), (.mv (.tmp 18)), none⟩, ⟨(some 103), (.bin .geq .int (.tmp 102) (.const (.int .u64 4294967296))), none⟩, ⟨(some 104), (.mv (.tmp 103)), none⟩, ⟨(some 105), (.mv (.tmp 18)), (some ((some 104), false))⟩, ⟨(some 106), (.mv (.tmp 10)), (some ((some 104), false))⟩, ⟨(some 107), (.bin .mul .int (.tmp 105) (.tmp 106)), (some ((some 104), false))⟩, ⟨(some 108), (.mv (.tmp 16)), (some ((some 104), false))⟩, ⟨(some 109), (.bin .mul .int (.const (.int .u64 4294967296)) (.tmp 108)), (some ((some 104), false))⟩, ⟨(some 110), (.mv (.tmp 14)), (some ((some 104), false))⟩, ⟨(some 111), (.bin .add .int (.tmp 109) (.tmp 110)), (some ((some 104), false))⟩, ⟨(some 112), (.bin .gtr .int (.tmp 107) (.tmp 111)), (some ((some 104), false))⟩, ⟨(some 113), (.raw (.pick (.tmp 104) (.const (.bool true)) (.tmp 112))), none⟩])
  (.cond (.tmp 113) .skip (.exit 2)))
  (.block 3 (.seq (.reg [⟨(some 114), (.mv (.tmp 18)), none⟩, ⟨(some 115), (.bin .sub .int (.tmp 114) (.const (.int .u64 1))), none⟩, ⟨(some 18), (.mv (.tmp 115)), none⟩])
  (.seq (.reg [⟨(some 116), (.mv (.tmp 16)), none⟩, ⟨(some 117), (.mv (.tmp 9)), none⟩, ⟨(some 118), (.bin .add .int (.tmp 116) (.tmp 117)), none⟩, ⟨(some 16), (.mv (.tmp 118)), none⟩])
  (.seq (.reg [⟨(some 119), (.mv (.tmp 16)), none⟩, ⟨(some 120), (.bin .geq .int (.tmp 119) (.const (.int .u64 4294967296))), none⟩])
  (.cond (.tmp 120) (.exit 2) .skip))))))
noncomputable def pf43 : PF := ⟨135, [.tmp 6, .tmp 7], (.seq (.reg [⟨(some 6), (.mv (.const (.int .u64 0))), none⟩, ⟨(some 7), (.mv (.const (.int .u64 0))), none⟩])
  (.seq (.seq (.reg [⟨(some 19), (.mv (.tmp 2)), none⟩, ⟨(some 20), (.bin .eql .int (.tmp 19) (.const (.int .u64 0))), none⟩])
  (.cond (.tmp 20) (.reg [⟨(some 21), (.load none (.global 0)), none⟩, ⟨none, (.raw (.panic (.tmp 21))), none⟩]) .skip))
  (.seq (.seq (.reg [⟨(some 22), (.mv (.tmp 2)), none⟩, ⟨(some 23), (.mv (.tmp 0)), none⟩, ⟨(some 24), (.bin .leq .int (.tmp 22) (.tmp 23)), none⟩])
  (.cond (.tmp 24) (.reg [⟨(some 25), (.load none (.global 1)), none⟩, ⟨none, (.raw (.panic (.tmp 25))), none⟩]) .skip))
  (.seq (.seq (.reg [⟨(some 26), (.mv (.tmp 0)), none⟩, ⟨(some 27), (.bin .eql .int (.tmp 26) (.const (.int .u64 0))), none⟩])
  (.cond (.tmp 27) (.seq (.draw [(⟨(some 28), (.mv (.tmp 1)), none⟩, []), (⟨(some 29), (.mv (.tmp 2)), none⟩, []), (⟨(some 30), (.bin .quo .int (.tmp 28) (.tmp 29)), none⟩, []), (⟨(some 31), (.mv (.tmp 1)), none⟩, []), (⟨(some 32), (.mv (.tmp 2)), none⟩, []), (⟨(some 33), (.bin .rem .int (.tmp 31) (.tmp 32)), none⟩, []), (⟨(some 6), (.mv (.tmp 30)), none⟩, []), (⟨(some 7), (.mv (.tmp 33)), none⟩, [])])
  .ret) .skip))
  (.seq (.reg [⟨(some 34), (.mv (.tmp 2)), none⟩, ⟨(some 35), (.call 89 [(.tmp 34)]), none⟩, ⟨(some 36), (.cint .u64 (.tmp 35)), none⟩, ⟨(some 8), (.mv (.tmp 36)), none⟩])
  (.seq (.reg [⟨(some 37), (.mv (.tmp 2)), none⟩, ⟨(some 38), (.mv (.tmp 8)), none⟩, ⟨(some 39), (.bin .shl .int (.tmp 37) (.tmp 38)), none⟩, ⟨(some 2), (.mv (.tmp 39)), none⟩])
  (.seq (.reg [⟨(some 40), (.mv (.tmp 2)), none⟩, ⟨(some 41), (.bin .shr .int (.tmp 40) (.const (.int .u64 32))), none⟩, ⟨(some 9), (.mv (.tmp 41)), none⟩])
  (.seq (.reg [⟨(some 42), (.mv (.tmp 2)), none⟩, ⟨(some 43), (.bin .and .int (.tmp 42) (.const (.int .u64 4294967295))), none⟩, ⟨(some 10), (.mv (.tmp 43)), none⟩])
  (.seq (.reg [⟨(some 44), (.mv (.tmp 0)), none⟩, ⟨(some 45), (.mv (.tmp 8)), none⟩, ⟨(some 46), (.bin .shl .int (.tmp 44) (.tmp 45)), none⟩, ⟨(some 47), (.mv (.tmp 1)), none⟩, ⟨(some 48), (.mv (.tmp 8)), none⟩, ⟨(some 49), (.bin .sub .int (.const (.int .u64 64)) (.tmp 48)), none⟩, ⟨(some 50), (.bin .shr .int (.tmp 47) (.tmp 49)), none⟩, ⟨(some 51), (.bin .or .int (.tmp 46) (.tmp 50)), none⟩, ⟨(some 11), (.mv (.tmp 51)), none⟩])
  (.seq (.reg [⟨(some 52), (.mv (.tmp 1)), none⟩, ⟨(some 53), (.mv (.tmp 8)), none⟩, ⟨(some 54), (.bin .shl .int (.tmp 52) (.tmp 53)), none⟩, ⟨(some 12), (.mv (.tmp 54)), none⟩])
  (.seq (.reg [⟨(some 55), (.mv (.tmp 12)), none⟩, ⟨(some 56), (.bin .shr .int (.tmp 55) (.const (.int .u64 32))), none⟩, ⟨(some 13), (.mv (.tmp 56)), none⟩])
  (.seq (.reg [⟨(some 57), (.mv (.tmp 12)), none⟩, ⟨(some 58), (.bin .and .int (.tmp 57) (.const (.int .u64 4294967295))), none⟩, ⟨(some 14), (.mv (.tmp 58)), none⟩])
  (.seq (.reg [⟨(some 59), (.mv (.tmp 11)), none⟩, ⟨(some 60), (.mv (.tmp 9)), none⟩, ⟨(some 61), (.bin .quo .int (.tmp 59) (.tmp 60)), none⟩, ⟨(some 15), (.mv (.tmp 61)), none⟩])
  (.seq (.reg [⟨(some 62), (.mv (.tmp 11)), none⟩, ⟨(some 63), (.mv (.tmp 15)), none⟩, ⟨(some 64), (.mv (.tmp 9)), none⟩, ⟨(some 65), (.bin .mul .int (.tmp 63) (.tmp 64)), none⟩, ⟨(some 66), (.bin .sub .int (.tmp 62) (.tmp 65)), none⟩, ⟨(some 16), (.mv (.tmp 66)), none⟩])
  (.seq (.block 0 (.loop pc43_0))
  (.seq (.reg [⟨(some 86), (.mv (.tmp 11)), none⟩, ⟨(some 87), (.bin .mul .int (.tmp 86) (.const (.int .u64 4294967296))), none⟩, ⟨(some 88), (.mv (.tmp 13)), none⟩, ⟨(some 89), (.bin .add .int (.tmp 87) (.tmp 88)), none⟩, ⟨(some 90), (.mv (.tmp 15)), none⟩, ⟨(some 91), (.mv (.tmp 2)), none⟩, ⟨(some 92), (.bin .mul .int (.tmp 90) (.tmp 91)), none⟩, ⟨(some 93), (.bin .sub .int (.tmp 89) (.tmp 92)), none⟩, ⟨(some 17), (.mv (.tmp 93)), none⟩])
  (.seq (.reg [⟨(some 94), (.mv (.tmp 17)), none⟩, ⟨(some 95), (.mv (.tmp 9)), none⟩, ⟨(some 96), (.bin .quo .int (.tmp 94) (.tmp 95)), none⟩, ⟨(some 18), (.mv (.tmp 96)), none⟩])
  (.seq (.reg [⟨(some 97), (.mv (.tmp 17)), none⟩, ⟨(some 98), (.mv (.tmp 18)), none⟩, ⟨(some 99), (.mv (.tmp 9)), none⟩, ⟨(some 100), (.bin .mul .int (.tmp 98) (.tmp 99)), none⟩, ⟨(some 101), (.bin .sub .int (.tmp 97) (.tmp 100)), none⟩, ⟨(some 16), (.mv (.tmp 101)), none⟩])
  (.seq (.block 2 (.loop pc43_1))
  (.seq (.reg [⟨(some 121), (.mv (.tmp 15)), none⟩, ⟨(some 122), (.bin .mul .int (.tmp 121) (.const (.int .u64 4294967296))), none⟩, ⟨(some 123), (.mv (.tmp 18)), none⟩, ⟨(some 124), (.bin .add .int (.tmp 122) (.tmp 123)), none⟩, ⟨(some 125), (.mv (.tmp 17)), none⟩, ⟨(some 126), (.bin .mul .int (.tmp 125) (.const (.int .u64 4294967296))), none⟩, ⟨(some 127), (.mv (.tmp 14)), none⟩, ⟨(some 128), (.bin .add .int (.tmp 126) (.tmp 127)), none⟩, ⟨(some 129), (.mv (.tmp 18)), none⟩, ⟨(some 130), (.mv (.tmp 2)), none⟩, ⟨(some 131), (.bin .mul .int (.tmp 129) (.tmp 130)), none⟩, ⟨(some 132), (.bin .sub .int (.tmp 128) (.tmp 131)), none⟩, ⟨(some 133), (.mv (.tmp 8)), none⟩, ⟨(some 134), (.bin .shr .int (.tmp 132) (.tmp 133)), none⟩, ⟨(some 6), (.mv (.tmp 124)), none⟩, ⟨(some 7), (.mv (.tmp 134)), none⟩])
  .ret))))))))))))))))))))⟩
theorem pf43_ok : pfOf Tryz.prog plan 43 = some pf43 := by kernel_rfl
theorem ok43 : fnOk Tryz.prog plan 43 = true := by kernel_rfl

end Am
end Go.Proofs.YtbpabpnpoidpcaaGreatDoor
