/- Functions of the loaded program with their types' facts laid in (printed by a program, each checked by the kernel). No conditions. -/
import Derived.Test.YtbpabpnpoidpcaaGreatDoorPc6
import Derived.Test.YtbpabpnpoidpcaaGreatDoorPlan
import Derived.KernelRfl
set_option maxRecDepth 100000
set_option linter.unusedVariables false
namespace Go.Proofs.YtbpabpnpoidpcaaGreatDoor
namespace Am
open Go Go.RowKit

/- 240 scantling/build.level -/
noncomputable def pc240_0 : PCode := (.seq (.reg [⟨(some 40), (.bin .lss .int (.tmp 39) (.tmp 38)), none⟩])
  (.seq (.cond (.tmp 40) .skip (.exit 2))
  (.seq (.block 3 (.seq (.reg [⟨(some 41), (.indexAddr (.sl 3) (.tmp 37) (.tmp 39)), none⟩, ⟨(some 42), (.load (some 3) (.tmp 41)), none⟩, ⟨(some 15), (.alloc 0 [(.int .i64 0), (.string (bs [])), (.int .i64 0)]), none⟩, ⟨none, (.store 3 (.tmp 15) (.tmp 42)), none⟩])
  (.seq (.reg [⟨(some 43), (.fieldAddr 2 (.tmp 13)), none⟩, ⟨(some 44), (.load none (.tmp 43)), none⟩, ⟨(some 45), (.fieldAddr 0 (.tmp 15)), none⟩, ⟨(some 46), (.load none (.tmp 45)), none⟩, ⟨(some 47), (.buildSlice 1 1 [(0, (.tmp 46))]), none⟩, ⟨(some 48), (.append 1 8 false (.tmp 44) (.tmp 47)), none⟩, ⟨(some 49), (.fieldAddr 2 (.tmp 13)), none⟩, ⟨none, (.store 1 (.tmp 49) (.tmp 48)), none⟩])
  (.reg [⟨(some 50), (.fieldAddr 3 (.tmp 13)), none⟩, ⟨(some 51), (.load none (.tmp 50)), none⟩, ⟨(some 52), (.fieldAddr 1 (.tmp 15)), none⟩, ⟨(some 53), (.load none (.tmp 52)), none⟩, ⟨(some 54), (.buildSlice 1 1 [(0, (.tmp 53))]), none⟩, ⟨(some 55), (.append 1 16 false (.tmp 51) (.tmp 54)), none⟩, ⟨(some 56), (.fieldAddr 3 (.tmp 13)), none⟩, ⟨none, (.store 1 (.tmp 56) (.tmp 55)), none⟩]))))
  (.reg [⟨(some 57), (.bin .add .int (.tmp 39) (.const (.int .i64 1))), none⟩, ⟨(some 39), (.mv (.tmp 57)), none⟩]))))
noncomputable def pc240_1 : PCode := (.seq (.reg [⟨(some 29), (.bin .lss .int (.tmp 28) (.tmp 27)), none⟩])
  (.seq (.cond (.tmp 29) .skip (.exit 0))
  (.seq (.block 1 (.seq (.reg [⟨(some 30), (.indexAddr (.sl 1) (.tmp 26) (.tmp 28)), none⟩, ⟨(some 31), (.load none (.tmp 30)), none⟩, ⟨(some 12), (.mv (.tmp 31)), none⟩])
  (.seq (.reg [⟨(some 32), (.mv (.tmp 1)), none⟩, ⟨(some 33), (.mv (.tmp 2)), none⟩, ⟨(some 34), (.build [(.int .i64 0), (.bool false), (.slice none 0 0), (.slice none 0 0)] [(0, 1), (1, 1), (2, 1), (3, 1)] [(0, (.tmp 32)), (1, (.tmp 33))]), none⟩, ⟨(some 13), (.alloc 0 [(.int .i64 0), (.bool false), (.slice none 0 0), (.slice none 0 0)]), none⟩, ⟨none, (.store 4 (.tmp 13) (.tmp 34)), none⟩])
  (.seq (.seq (.reg [⟨(some 35), (.mv (.tmp 3)), none⟩, ⟨(some 36), (.mv (.tmp 12)), none⟩, ⟨(some 37), (.slice (.sl 3) (.tmp 35) none (some (.tmp 36)) none), none⟩, ⟨(some 38), (.len .sl (.tmp 37)), none⟩, ⟨(some 39), (.mv (.const (.int .i64 0))), none⟩])
  (.block 2 (.loop pc240_0)))
  (.seq (.reg [⟨(some 58), (.mv (.tmp 3)), none⟩, ⟨(some 59), (.mv (.tmp 12)), none⟩, ⟨(some 60), (.slice (.sl 3) (.tmp 58) (some (.tmp 59)) none none), none⟩, ⟨(some 3), (.mv (.tmp 60)), none⟩])
  (.seq (.reg [⟨(some 62), (.load (some 4) (.tmp 13)), none⟩, ⟨(some 63), (.call 289 [(.tmp 62)]), none⟩, ⟨(some 61), (.mv (.tmp 63)), none⟩, ⟨(some 64), (.extract (.tmp 61) 0), none⟩, ⟨(some 65), (.extract (.tmp 61) 1), none⟩, ⟨(some 16), (.mv (.tmp 64)), none⟩, ⟨(some 17), (.mv (.tmp 65)), none⟩])
  (.seq (.seq (.reg [⟨(some 66), (.mv (.tmp 17)), none⟩, ⟨(some 67), (.bin .neq .int (.tmp 66) (.const (.int .i64 0))), none⟩])
  (.cond (.tmp 67) (.seq (.reg [⟨(some 68), (.mv (.tmp 17)), none⟩, ⟨(some 69), (.iface 49 (.tmp 68)), none⟩, ⟨(some 8), (.mv (.const (.slice none 0 0))), none⟩, ⟨(some 9), (.mv (.tmp 69)), none⟩])
  .ret) .skip))
  (.seq (.reg [⟨(some 71), (.mv (.tmp 0)), none⟩, ⟨(some 72), (.mv (.tmp 16)), none⟩, ⟨(some 73), (.call 165 [(.tmp 71), (.const (.int .i64 2)), (.tmp 72)]), none⟩, ⟨(some 70), (.mv (.tmp 73)), none⟩, ⟨(some 74), (.extract (.tmp 70) 0), none⟩, ⟨(some 75), (.extract (.tmp 70) 1), none⟩, ⟨(some 18), (.mv (.tmp 74)), none⟩, ⟨(some 19), (.mv (.tmp 75)), none⟩])
  (.seq (.seq (.reg [⟨(some 76), (.mv (.tmp 19)), none⟩, ⟨(some 77), (.bin .neq .ifc (.tmp 76) (.const .nilIface)), none⟩])
  (.cond (.tmp 77) (.seq (.reg [⟨(some 78), (.mv (.tmp 19)), none⟩, ⟨(some 8), (.mv (.const (.slice none 0 0))), none⟩, ⟨(some 9), (.mv (.tmp 78)), none⟩])
  .ret) .skip))
  (.seq (.reg [⟨(some 79), (.mv (.tmp 18)), none⟩, ⟨(some 80), (.call 102 [(.tmp 79)]), none⟩, ⟨(some 81), (.mv (.tmp 18)), none⟩, ⟨(some 82), (.build [(.int .i64 0), (.string (bs [])), (.int .i64 0)] [(0, 1), (1, 1), (2, 1)] [(1, (.tmp 80)), (2, (.tmp 81))]), none⟩, ⟨(some 20), (.alloc 0 [(.int .i64 0), (.string (bs [])), (.int .i64 0)]), none⟩, ⟨none, (.store 3 (.tmp 20) (.tmp 82)), none⟩])
  (.seq (.seq (.reg [⟨(some 83), (.mv (.tmp 12)), none⟩, ⟨(some 84), (.bin .gtr .int (.tmp 83) (.const (.int .i64 0))), none⟩])
  (.cond (.tmp 84) (.reg [⟨(some 85), (.fieldAddr 2 (.tmp 13)), none⟩, ⟨(some 86), (.load none (.tmp 85)), none⟩, ⟨(some 87), (.indexAddr (.sl 1) (.tmp 86) (.const (.int .i64 0))), none⟩, ⟨(some 88), (.load none (.tmp 87)), none⟩, ⟨(some 89), (.fieldAddr 0 (.tmp 20)), none⟩, ⟨none, (.store 1 (.tmp 89) (.tmp 88)), none⟩]) .skip))
  (.reg [⟨(some 90), (.mv (.tmp 10)), none⟩, ⟨(some 91), (.load (some 3) (.tmp 20)), none⟩, ⟨(some 92), (.buildSlice 3 1 [(0, (.tmp 91))]), none⟩, ⟨(some 93), (.append 3 32 false (.tmp 90) (.tmp 92)), none⟩, ⟨(some 10), (.mv (.tmp 93)), none⟩]))))))))))))
  (.reg [⟨(some 94), (.bin .add .int (.tmp 28) (.const (.int .i64 1))), none⟩, ⟨(some 28), (.mv (.tmp 94)), none⟩]))))
noncomputable def pf240 : PF := ⟨96, [.tmp 8, .tmp 9], (.seq (.reg [⟨(some 8), (.mv (.const (.slice none 0 0))), none⟩, ⟨(some 9), (.mv (.const .nilIface)), none⟩])
  (.seq (.reg [⟨(some 10), (.mv (.const (.slice none 0 0))), none⟩])
  (.seq (.seq (.reg [⟨(some 21), (.mv (.tmp 3)), none⟩, ⟨(some 22), (.len .sl (.tmp 21)), none⟩, ⟨(some 23), (.mv (.tmp 1)), none⟩, ⟨(some 24), (.mv (.tmp 2)), none⟩, ⟨(some 25), (.call 75 [(.tmp 23), (.tmp 24)]), none⟩, ⟨(some 26), (.call 288 [(.tmp 22), (.tmp 25)]), none⟩, ⟨(some 27), (.len .sl (.tmp 26)), none⟩, ⟨(some 28), (.mv (.const (.int .i64 0))), none⟩])
  (.block 0 (.loop pc240_1)))
  (.seq (.reg [⟨(some 95), (.mv (.tmp 10)), none⟩, ⟨(some 8), (.mv (.tmp 95)), none⟩, ⟨(some 9), (.mv (.const .nilIface)), none⟩])
  .ret))))⟩
theorem pf240_ok : pfOf Tryz.prog plan 240 = some pf240 := by kernel_rfl
theorem ok240 : fnOk Tryz.prog plan 240 = true := by kernel_rfl
/- 241 (*scantling/alloc.Alloc).Next -/
noncomputable def pf241 : PF := ⟨20, [.tmp 2, .tmp 3], (.seq (.reg [⟨(some 2), (.mv (.const (.int .i64 0))), none⟩, ⟨(some 3), (.mv (.const .nilIface)), none⟩])
  (.seq (.seq (.reg [⟨(some 6), (.mv (.tmp 0)), none⟩, ⟨(some 7), (.call 153 [(.tmp 6)]), none⟩])
  (.cond (.tmp 7) (.seq (.reg [⟨(some 8), (.iface 49 (.const (.int .i64 18))), none⟩, ⟨(some 2), (.mv (.const (.int .i64 0))), none⟩, ⟨(some 3), (.mv (.tmp 8)), none⟩])
  .ret) .skip))
  (.seq (.reg [⟨(some 10), (.mv (.tmp 0)), none⟩, ⟨(some 11), (.nil (.tmp 10)), none⟩, ⟨(some 12), (.fieldAddr 0 (.tmp 11)), none⟩, ⟨(some 13), (.call 290 [(.tmp 12)]), none⟩, ⟨(some 9), (.mv (.tmp 13)), none⟩, ⟨(some 14), (.extract (.tmp 9) 0), none⟩, ⟨(some 15), (.extract (.tmp 9) 1), none⟩, ⟨(some 4), (.mv (.tmp 14)), none⟩, ⟨(some 5), (.mv (.tmp 15)), none⟩])
  (.seq (.seq (.reg [⟨(some 16), (.mv (.tmp 5)), none⟩, ⟨(some 17), (.un .not (.tmp 16)), none⟩])
  (.cond (.tmp 17) (.seq (.reg [⟨(some 18), (.iface 49 (.const (.int .i64 14))), none⟩, ⟨(some 2), (.mv (.const (.int .i64 0))), none⟩, ⟨(some 3), (.mv (.tmp 18)), none⟩])
  .ret) .skip))
  (.seq (.reg [⟨(some 19), (.mv (.tmp 4)), none⟩, ⟨(some 2), (.mv (.tmp 19)), none⟩, ⟨(some 3), (.mv (.const .nilIface)), none⟩])
  .ret)))))⟩
theorem pf241_ok : pfOf Tryz.prog plan 241 = some pf241 := by kernel_rfl
theorem ok241 : fnOk Tryz.prog plan 241 = true := by kernel_rfl
/- 170 scantling/code.known -/
noncomputable def pf170 : PF := ⟨17, [.tmp 2], (.seq (.reg [⟨(some 2), (.mv (.const (.bool false))), none⟩])
  (.seq (.reg [⟨(some 3), (.mv (.tmp 0)), none⟩, ⟨(some 4), (.bin .eql .int (.tmp 3) (.const (.int .i64 1))), none⟩, ⟨(some 5), (.mv (.tmp 4)), none⟩, ⟨(some 6), (.mv (.tmp 0)), (some ((some 5), false))⟩, ⟨(some 7), (.bin .eql .int (.tmp 6) (.const (.int .i64 2))), (some ((some 5), false))⟩, ⟨(some 8), (.raw (.pick (.tmp 5) (.const (.bool true)) (.tmp 7))), none⟩, ⟨(some 9), (.mv (.tmp 8)), none⟩, ⟨(some 10), (.mv (.tmp 0)), (some ((some 9), false))⟩, ⟨(some 11), (.bin .eql .int (.tmp 10) (.const (.int .i64 4))), (some ((some 9), false))⟩, ⟨(some 12), (.raw (.pick (.tmp 9) (.const (.bool true)) (.tmp 11))), none⟩, ⟨(some 13), (.mv (.tmp 12)), none⟩, ⟨(some 14), (.mv (.tmp 0)), (some ((some 13), false))⟩, ⟨(some 15), (.bin .eql .int (.tmp 14) (.const (.int .i64 8))), (some ((some 13), false))⟩, ⟨(some 16), (.raw (.pick (.tmp 13) (.const (.bool true)) (.tmp 15))), none⟩, ⟨(some 2), (.mv (.tmp 16)), none⟩])
  .ret))⟩
theorem pf170_ok : pfOf Tryz.prog plan 170 = some pf170 := by kernel_rfl
theorem ok170 : fnOk Tryz.prog plan 170 = true := by kernel_rfl
/- 171 scantling/code.fits -/
noncomputable def pf171 : PF := ⟨20, [.tmp 4], (.seq (.reg [⟨(some 4), (.mv (.const (.bool false))), none⟩])
  (.seq (.seq (.reg [⟨(some 5), (.mv (.tmp 0)), none⟩, ⟨(some 6), (.bin .lss .int (.tmp 5) (.const (.int .i64 0))), none⟩])
  (.cond (.tmp 6) (.seq (.reg [⟨(some 4), (.mv (.const (.bool false))), none⟩])
  .ret) .skip))
  (.seq (.seq (.reg [⟨(some 7), (.mv (.tmp 1)), none⟩])
  (.block 0 (.seq (.reg [⟨(some 9), (.bin .eql .int (.tmp 7) (.const (.int .i64 1))), none⟩, ⟨(some 8), (.mv (.tmp 9)), none⟩])
  (.cond (.tmp 8) (.seq (.reg [⟨(some 10), (.mv (.tmp 0)), none⟩, ⟨(some 11), (.bin .lss .int (.tmp 10) (.const (.int .i64 256))), none⟩, ⟨(some 4), (.mv (.tmp 11)), none⟩])
  .ret) (.seq (.reg [⟨(some 13), (.bin .eql .int (.tmp 7) (.const (.int .i64 2))), none⟩, ⟨(some 12), (.mv (.tmp 13)), none⟩])
  (.cond (.tmp 12) (.seq (.reg [⟨(some 14), (.mv (.tmp 0)), none⟩, ⟨(some 15), (.bin .lss .int (.tmp 14) (.const (.int .i64 65536))), none⟩, ⟨(some 4), (.mv (.tmp 15)), none⟩])
  .ret) (.seq (.reg [⟨(some 17), (.bin .eql .int (.tmp 7) (.const (.int .i64 4))), none⟩, ⟨(some 16), (.mv (.tmp 17)), none⟩])
  (.cond (.tmp 16) (.seq (.reg [⟨(some 18), (.mv (.tmp 0)), none⟩, ⟨(some 19), (.bin .lss .int (.tmp 18) (.const (.int .i64 4294967296))), none⟩, ⟨(some 4), (.mv (.tmp 19)), none⟩])
  .ret) .skip))))))))
  (.seq (.reg [⟨(some 4), (.mv (.const (.bool true))), none⟩])
  .ret))))⟩
theorem pf171_ok : pfOf Tryz.prog plan 171 = some pf171 := by kernel_rfl
theorem ok171 : fnOk Tryz.prog plan 171 = true := by kernel_rfl
/- 172 scantling/code.bytes -/
noncomputable def pc172_0 : PCode := (.seq (.seq (.reg [⟨(some 14), (.mv (.tmp 6)), none⟩, ⟨(some 15), (.bin .lss .int (.tmp 14) (.const (.int .i64 8))), none⟩])
  (.cond (.tmp 15) .skip (.exit 5)))
  (.seq (.block 6 (.reg [⟨(some 18), (.mv (.tmp 6)), none⟩, ⟨(some 19), (.mv (.tmp 0)), none⟩, ⟨(some 20), (.mv (.tmp 6)), none⟩, ⟨(some 21), (.bin .mul .int (.const (.int .i64 8)) (.tmp 20)), none⟩, ⟨(some 22), (.bin .shr .int (.tmp 19) (.tmp 21)), none⟩, ⟨(some 23), (.cint .u8 (.tmp 22)), none⟩, ⟨(some 24), (.indexAddr (.arr 8 1) (.tmp 5) (.tmp 18)), none⟩, ⟨none, (.store 1 (.tmp 24) (.tmp 23)), none⟩]))
  (.reg [⟨(some 16), (.mv (.tmp 6)), none⟩, ⟨(some 17), (.bin .add .int (.tmp 16) (.const (.int .i64 1))), none⟩, ⟨(some 6), (.mv (.tmp 17)), none⟩])))
noncomputable def pf172 : PF := ⟨43, [.tmp 4], (.seq (.reg [⟨(some 4), (.mv (.const (.slice none 0 0))), none⟩])
  (.seq (.reg [⟨(some 5), (.alloc 1 (List.replicate 8 (.int .u8 0))), none⟩])
  (.seq (.seq (.reg [⟨(some 7), (.mv (.tmp 1)), none⟩])
  (.block 0 (.seq (.block 4 (.seq (.block 3 (.seq (.block 2 (.seq (.block 1 (.seq (.seq (.seq (.reg [⟨(some 9), (.bin .eql .int (.tmp 7) (.const (.int .i64 8))), none⟩, ⟨(some 8), (.mv (.tmp 9)), none⟩])
  (.cond (.tmp 8) (.exit 1) .skip))
  (.seq (.seq (.reg [⟨(some 11), (.bin .eql .int (.tmp 7) (.const (.int .i64 4))), none⟩, ⟨(some 10), (.mv (.tmp 11)), none⟩])
  (.cond (.tmp 10) (.exit 2) .skip))
  (.seq (.reg [⟨(some 13), (.bin .eql .int (.tmp 7) (.const (.int .i64 2))), none⟩, ⟨(some 12), (.mv (.tmp 13)), none⟩])
  (.cond (.tmp 12) (.exit 3) .skip))))
  (.exit 4)))
  (.seq (.reg [⟨(some 6), (.mv (.const (.int .i64 4))), none⟩])
  (.block 5 (.loop pc172_0)))))
  (.reg [⟨(some 25), (.mv (.tmp 0)), none⟩, ⟨(some 26), (.bin .shr .int (.tmp 25) (.const (.int .u64 24))), none⟩, ⟨(some 27), (.cint .u8 (.tmp 26)), none⟩, ⟨(some 28), (.mv (.tmp 0)), none⟩, ⟨(some 29), (.bin .shr .int (.tmp 28) (.const (.int .u64 16))), none⟩, ⟨(some 30), (.cint .u8 (.tmp 29)), none⟩, ⟨(some 31), (.indexAddr (.arr 8 1) (.tmp 5) (.const (.int .i64 3))), none⟩, ⟨none, (.store 1 (.tmp 31) (.tmp 27)), none⟩, ⟨(some 32), (.indexAddr (.arr 8 1) (.tmp 5) (.const (.int .i64 2))), none⟩, ⟨none, (.store 1 (.tmp 32) (.tmp 30)), none⟩])))
  (.reg [⟨(some 33), (.mv (.tmp 0)), none⟩, ⟨(some 34), (.bin .shr .int (.tmp 33) (.const (.int .u64 8))), none⟩, ⟨(some 35), (.cint .u8 (.tmp 34)), none⟩, ⟨(some 36), (.indexAddr (.arr 8 1) (.tmp 5) (.const (.int .i64 1))), none⟩, ⟨none, (.store 1 (.tmp 36) (.tmp 35)), none⟩])))
  (.seq (.reg [⟨(some 37), (.mv (.tmp 0)), none⟩, ⟨(some 38), (.cint .u8 (.tmp 37)), none⟩, ⟨(some 39), (.indexAddr (.arr 8 1) (.tmp 5) (.const (.int .i64 0))), none⟩, ⟨none, (.store 1 (.tmp 39) (.tmp 38)), none⟩])
  (.exit 0)))))
  (.seq (.reg [⟨(some 40), (.mv (.tmp 1)), none⟩, ⟨(some 41), (.slice (.arr 8 1) (.tmp 5) none (some (.tmp 40)) none), none⟩, ⟨(some 42), (.call 31 [(.tmp 41)]), none⟩, ⟨(some 4), (.mv (.tmp 42)), none⟩])
  .ret))))⟩
theorem pf172_ok : pfOf Tryz.prog plan 172 = some pf172 := by kernel_rfl
theorem ok172 : fnOk Tryz.prog plan 172 = true := by kernel_rfl
/- 174 scantling/code.Put -/
noncomputable def pf174 : PF := ⟨33, [.tmp 8, .tmp 9], (.seq (.reg [⟨(some 8), (.mv (.const (.slice none 0 0))), none⟩, ⟨(some 9), (.mv (.const (.int .i64 0))), none⟩])
  (.seq (.seq (.reg [⟨(some 12), (.mv (.tmp 0)), none⟩, ⟨(some 13), (.mv (.tmp 1)), none⟩, ⟨(some 14), (.mv (.tmp 2)), none⟩, ⟨(some 15), (.call 201 [(.tmp 12), (.tmp 13), (.tmp 14)]), none⟩, ⟨(some 10), (.mv (.tmp 15)), none⟩])
  (.seq (.reg [⟨(some 16), (.mv (.tmp 10)), none⟩, ⟨(some 17), (.bin .neq .int (.tmp 16) (.const (.int .i64 0))), none⟩])
  (.cond (.tmp 17) (.seq (.reg [⟨(some 18), (.mv (.tmp 10)), none⟩, ⟨(some 8), (.mv (.const (.slice none 0 0))), none⟩, ⟨(some 9), (.mv (.tmp 18)), none⟩])
  .ret) .skip)))
  (.seq (.seq (.reg [⟨(some 19), (.mv (.tmp 3)), none⟩, ⟨(some 20), (.mv (.tmp 2)), none⟩, ⟨(some 21), (.call 171 [(.tmp 19), (.tmp 20)]), none⟩, ⟨(some 22), (.un .not (.tmp 21)), none⟩])
  (.cond (.tmp 22) (.seq (.reg [⟨(some 8), (.mv (.const (.slice none 0 0))), none⟩, ⟨(some 9), (.mv (.const (.int .i64 2))), none⟩])
  .ret) .skip))
  (.seq (.reg [⟨(some 23), (.mv (.tmp 0)), none⟩, ⟨(some 24), (.call 31 [(.tmp 23)]), none⟩, ⟨(some 11), (.mv (.tmp 24)), none⟩])
  (.seq (.draw [(⟨(some 25), (.mv (.tmp 11)), none⟩, []), (⟨(some 26), (.mv (.tmp 1)), none⟩, []), (⟨(some 28), (.mv (.tmp 3)), none⟩, []), (⟨(some 29), (.mv (.tmp 2)), none⟩, []), (⟨(some 27), (.slice (.sl 1) (.tmp 25) (some (.tmp 26)) none none), none⟩, []), (⟨(some 30), (.call 172 [(.tmp 28), (.tmp 29)]), none⟩, [⟨(some 27), (.slice (.sl 1) (.tmp 25) (some (.tmp 26)) none none), none⟩]), (⟨(some 31), (.copy 1 false (.tmp 27) (.tmp 30)), none⟩, [])])
  (.seq (.reg [⟨(some 32), (.mv (.tmp 11)), none⟩, ⟨(some 8), (.mv (.tmp 32)), none⟩, ⟨(some 9), (.mv (.const (.int .i64 0))), none⟩])
  .ret))))))⟩
theorem pf174_ok : pfOf Tryz.prog plan 174 = some pf174 := by kernel_rfl
theorem ok174 : fnOk Tryz.prog plan 174 = true := by kernel_rfl
/- 249 (*scantling/audit.auditor).detail -/
noncomputable def pc249_0 : PCode := (.seq (.reg [⟨(some 31), (.bin .lss .int (.tmp 30) (.tmp 29)), none⟩])
  (.seq (.cond (.tmp 31) .skip (.exit 0))
  (.seq (.block 1 (.seq (.reg [⟨(some 32), (.indexAddr (.sl 3) (.tmp 28) (.tmp 30)), none⟩, ⟨(some 33), (.load (some 3) (.tmp 32)), none⟩, ⟨(some 4), (.alloc 0 [(.int .i64 0), (.string (bs [])), (.int .i64 0)]), none⟩, ⟨none, (.store 3 (.tmp 4) (.tmp 33)), none⟩])
  (.seq (.seq (.reg [⟨(some 34), (.fieldAddr 0 (.tmp 4)), none⟩, ⟨(some 35), (.load none (.tmp 34)), none⟩, ⟨(some 36), (.bin .gtr .int (.tmp 35) (.const (.int .i64 16777215))), none⟩])
  (.cond (.tmp 36) (.seq (.draw [(⟨(some 37), (.mv (.tmp 0)), none⟩, []), (⟨(some 38), (.nil (.tmp 37)), none⟩, []), (⟨(some 39), (.fieldAddr 0 (.tmp 38)), none⟩, []), (⟨(some 40), (.fieldAddr 2 (.tmp 4)), none⟩, []), (⟨(some 41), (.load none (.tmp 40)), none⟩, []), (⟨(some 42), (.call 252 [(.tmp 39), (.const (.int .i64 2)), (.tmp 41), (.const (.int .i64 9))]), none⟩, [])])
  (.exit 1)) .skip))
  (.seq (.reg [⟨(some 44), (.fieldAddr 1 (.tmp 4)), none⟩, ⟨(some 45), (.load none (.tmp 44)), none⟩, ⟨(some 46), (.call 296 [(.tmp 45)]), none⟩, ⟨(some 43), (.mv (.tmp 46)), none⟩, ⟨(some 47), (.extract (.tmp 43) 0), none⟩, ⟨(some 48), (.extract (.tmp 43) 1), none⟩, ⟨(some 5), (.alloc 0 [(.int .i64 0), (.int .i64 0), (.int .i64 0), (.int .i64 0)]), none⟩, ⟨none, (.store 4 (.tmp 5) (.tmp 47)), none⟩, ⟨(some 6), (.mv (.tmp 48)), none⟩])
  (.seq (.draw [(⟨(some 49), (.mv (.tmp 0)), none⟩, []), (⟨(some 50), (.nil (.tmp 49)), none⟩, []), (⟨(some 51), (.fieldAddr 0 (.tmp 50)), none⟩, []), (⟨(some 52), (.fieldAddr 2 (.tmp 4)), none⟩, []), (⟨(some 54), (.mv (.tmp 6)), none⟩, []), (⟨(some 53), (.load none (.tmp 52)), none⟩, []), (⟨(some 55), (.call 252 [(.tmp 51), (.const (.int .i64 2)), (.tmp 53), (.tmp 54)]), none⟩, []), (⟨(some 56), (.un .not (.tmp 55)), none⟩, [])])
  (.cond (.tmp 56) (.draw [(⟨(some 57), (.mv (.tmp 0)), none⟩, []), (⟨(some 58), (.nil (.tmp 57)), none⟩, []), (⟨(some 59), (.fieldAddr 14 (.tmp 58)), none⟩, []), (⟨(some 61), (.fieldAddr 0 (.tmp 4)), none⟩, []), (⟨(some 60), (.load none (.tmp 59)), none⟩, []), (⟨(some 62), (.load none (.tmp 61)), none⟩, []), (⟨(some 63), (.load (some 4) (.tmp 5)), none⟩, []), (⟨none, (.raw (.mapUpdate 367 (.tmp 60) (.tmp 62) (.tmp 63))), none⟩, [])]) .skip))))))
  (.reg [⟨(some 64), (.bin .add .int (.tmp 30) (.const (.int .i64 1))), none⟩, ⟨(some 30), (.mv (.tmp 64)), none⟩]))))
noncomputable def pf249 : PF := ⟨65, [], (.seq (.draw [(⟨(some 7), (.mv (.tmp 0)), none⟩, []), (⟨(some 8), (.nil (.tmp 7)), none⟩, []), (⟨(some 9), (.fieldAddr 1 (.tmp 8)), none⟩, []), (⟨(some 11), (.mv (.tmp 0)), none⟩, []), (⟨(some 12), (.nil (.tmp 11)), none⟩, []), (⟨(some 13), (.fieldAddr 2 (.tmp 12)), none⟩, []), (⟨(some 14), (.fieldAddr 6 (.tmp 13)), none⟩, []), (⟨(some 16), (.mv (.tmp 0)), none⟩, []), (⟨(some 17), (.nil (.tmp 16)), none⟩, []), (⟨(some 18), (.fieldAddr 13 (.tmp 17)), none⟩, []), (⟨(some 10), (.load none (.tmp 9)), none⟩, []), (⟨(some 15), (.load none (.tmp 14)), none⟩, []), (⟨(some 19), (.load none (.tmp 18)), none⟩, []), (⟨(some 2), (.alloc 0 [(.slice none 0 0), (.slice none 0 0), (.int .i64 0), (.int .i64 0), (.slice none 0 0)]), none⟩, [⟨(some 10), (.load none (.tmp 9)), none⟩, ⟨(some 15), (.load none (.tmp 14)), none⟩, ⟨(some 19), (.load none (.tmp 18)), none⟩]), (⟨(some 20), (.call 294 [(.tmp 10), (.tmp 15), (.const (.int .i64 3)), (.tmp 19)]), none⟩, [⟨(some 2), (.alloc 0 [(.slice none 0 0), (.slice none 0 0), (.int .i64 0), (.int .i64 0), (.slice none 0 0)]), none⟩]), (⟨none, (.store 5 (.tmp 2) (.tmp 20)), none⟩, [])])
  (.seq (.draw [(⟨(some 21), (.mv (.tmp 0)), none⟩, []), (⟨(some 22), (.nil (.tmp 21)), none⟩, []), (⟨(some 23), (.fieldAddr 0 (.tmp 22)), none⟩, []), (⟨(some 24), (.fieldAddr 4 (.tmp 2)), none⟩, []), (⟨(some 25), (.load none (.tmp 24)), none⟩, []), (⟨(some 26), (.call 295 [(.tmp 23), (.const (.int .i64 2)), (.tmp 25)]), none⟩, [])])
  (.seq (.reg [⟨(some 27), (.fieldAddr 0 (.tmp 2)), none⟩, ⟨(some 28), (.load none (.tmp 27)), none⟩, ⟨(some 29), (.len .sl (.tmp 28)), none⟩, ⟨(some 30), (.mv (.const (.int .i64 0))), none⟩])
  (.block 0 (.loop pc249_0)))))⟩
theorem pf249_ok : pfOf Tryz.prog plan 249 = some pf249 := by kernel_rfl
theorem ok249 : fnOk Tryz.prog plan 249 = true := by kernel_rfl
/- 250 (*scantling/audit.auditor).top -/
noncomputable def pc250_0 : PCode := (.seq (.reg [⟨(some 33), (.bin .lss .int (.tmp 32) (.tmp 31)), none⟩])
  (.seq (.cond (.tmp 33) .skip (.exit 0))
  (.seq (.block 1 (.seq (.reg [⟨(some 34), (.indexAddr (.sl 3) (.tmp 30) (.tmp 32)), none⟩, ⟨(some 35), (.load (some 3) (.tmp 34)), none⟩, ⟨(some 4), (.alloc 0 [(.int .i64 0), (.string (bs [])), (.int .i64 0)]), none⟩, ⟨none, (.store 3 (.tmp 4) (.tmp 35)), none⟩])
  (.seq (.reg [⟨(some 37), (.fieldAddr 1 (.tmp 4)), none⟩, ⟨(some 38), (.load none (.tmp 37)), none⟩, ⟨(some 39), (.call 261 [(.tmp 38)]), none⟩, ⟨(some 36), (.mv (.tmp 39)), none⟩, ⟨(some 40), (.extract (.tmp 36) 0), none⟩, ⟨(some 41), (.extract (.tmp 36) 1), none⟩, ⟨(some 5), (.mv (.tmp 40)), none⟩, ⟨(some 6), (.mv (.tmp 41)), none⟩])
  (.seq (.seq (.draw [(⟨(some 42), (.mv (.tmp 0)), none⟩, []), (⟨(some 43), (.nil (.tmp 42)), none⟩, []), (⟨(some 44), (.fieldAddr 0 (.tmp 43)), none⟩, []), (⟨(some 45), (.fieldAddr 2 (.tmp 4)), none⟩, []), (⟨(some 47), (.mv (.tmp 6)), none⟩, []), (⟨(some 46), (.load none (.tmp 45)), none⟩, []), (⟨(some 48), (.call 252 [(.tmp 44), (.const (.int .i64 3)), (.tmp 46), (.tmp 47)]), none⟩, [])])
  (.cond (.tmp 48) (.exit 1) .skip))
  (.seq (.draw [(⟨(some 49), (.mv (.tmp 0)), none⟩, []), (⟨(some 50), (.nil (.tmp 49)), none⟩, []), (⟨(some 51), (.fieldAddr 15 (.tmp 50)), none⟩, []), (⟨(some 53), (.fieldAddr 0 (.tmp 4)), none⟩, []), (⟨(some 55), (.mv (.tmp 5)), none⟩, []), (⟨(some 52), (.load none (.tmp 51)), none⟩, []), (⟨(some 54), (.load none (.tmp 53)), none⟩, []), (⟨none, (.raw (.mapUpdate 368 (.tmp 52) (.tmp 54) (.tmp 55))), none⟩, [])])
  (.seq (.reg [⟨(some 57), (.mv (.tmp 0)), none⟩, ⟨(some 58), (.nil (.tmp 57)), none⟩, ⟨(some 59), (.fieldAddr 16 (.tmp 58)), none⟩, ⟨(some 60), (.load none (.tmp 59)), none⟩, ⟨(some 61), (.mv (.tmp 5)), none⟩, ⟨(some 62), (.raw (.lookup 369 (.tmp 60) (.tmp 61) true)), none⟩, ⟨(some 56), (.mv (.tmp 62)), none⟩, ⟨(some 63), (.extract (.tmp 56) 0), none⟩, ⟨(some 64), (.extract (.tmp 56) 1), none⟩, ⟨(some 7), (.mv (.tmp 63)), none⟩, ⟨(some 8), (.mv (.tmp 64)), none⟩])
  (.seq (.reg [⟨(some 65), (.mv (.tmp 8)), none⟩, ⟨(some 66), (.un .not (.tmp 65)), none⟩])
  (.cond (.tmp 66) (.draw [(⟨(some 67), (.mv (.tmp 0)), none⟩, []), (⟨(some 68), (.nil (.tmp 67)), none⟩, []), (⟨(some 69), (.fieldAddr 16 (.tmp 68)), none⟩, []), (⟨(some 71), (.mv (.tmp 5)), none⟩, []), (⟨(some 72), (.mv (.tmp 0)), none⟩, []), (⟨(some 73), (.mv (.tmp 5)), none⟩, []), (⟨(some 70), (.load none (.tmp 69)), none⟩, []), (⟨(some 74), (.call 297 [(.tmp 72), (.tmp 73)]), none⟩, [⟨(some 70), (.load none (.tmp 69)), none⟩]), (⟨none, (.raw (.mapUpdate 369 (.tmp 70) (.tmp 71) (.tmp 74))), none⟩, [])]) .skip))))))))
  (.reg [⟨(some 75), (.bin .add .int (.tmp 32) (.const (.int .i64 1))), none⟩, ⟨(some 32), (.mv (.tmp 75)), none⟩]))))
noncomputable def pf250 : PF := ⟨76, [], (.seq (.draw [(⟨(some 9), (.mv (.tmp 0)), none⟩, []), (⟨(some 10), (.nil (.tmp 9)), none⟩, []), (⟨(some 11), (.fieldAddr 1 (.tmp 10)), none⟩, []), (⟨(some 13), (.mv (.tmp 0)), none⟩, []), (⟨(some 14), (.nil (.tmp 13)), none⟩, []), (⟨(some 15), (.fieldAddr 2 (.tmp 14)), none⟩, []), (⟨(some 16), (.fieldAddr 5 (.tmp 15)), none⟩, []), (⟨(some 18), (.mv (.tmp 0)), none⟩, []), (⟨(some 19), (.nil (.tmp 18)), none⟩, []), (⟨(some 20), (.fieldAddr 13 (.tmp 19)), none⟩, []), (⟨(some 12), (.load none (.tmp 11)), none⟩, []), (⟨(some 17), (.load none (.tmp 16)), none⟩, []), (⟨(some 21), (.load none (.tmp 20)), none⟩, []), (⟨(some 2), (.alloc 0 [(.slice none 0 0), (.slice none 0 0), (.int .i64 0), (.int .i64 0), (.slice none 0 0)]), none⟩, [⟨(some 12), (.load none (.tmp 11)), none⟩, ⟨(some 17), (.load none (.tmp 16)), none⟩, ⟨(some 21), (.load none (.tmp 20)), none⟩]), (⟨(some 22), (.call 294 [(.tmp 12), (.tmp 17), (.const (.int .i64 1)), (.tmp 21)]), none⟩, [⟨(some 2), (.alloc 0 [(.slice none 0 0), (.slice none 0 0), (.int .i64 0), (.int .i64 0), (.slice none 0 0)]), none⟩]), (⟨none, (.store 5 (.tmp 2) (.tmp 22)), none⟩, [])])
  (.seq (.draw [(⟨(some 23), (.mv (.tmp 0)), none⟩, []), (⟨(some 24), (.nil (.tmp 23)), none⟩, []), (⟨(some 25), (.fieldAddr 0 (.tmp 24)), none⟩, []), (⟨(some 26), (.fieldAddr 4 (.tmp 2)), none⟩, []), (⟨(some 27), (.load none (.tmp 26)), none⟩, []), (⟨(some 28), (.call 295 [(.tmp 25), (.const (.int .i64 3)), (.tmp 27)]), none⟩, [])])
  (.seq (.reg [⟨(some 29), (.fieldAddr 0 (.tmp 2)), none⟩, ⟨(some 30), (.load none (.tmp 29)), none⟩, ⟨(some 31), (.len .sl (.tmp 30)), none⟩, ⟨(some 32), (.mv (.const (.int .i64 0))), none⟩])
  (.block 0 (.loop pc250_0)))))⟩
theorem pf250_ok : pfOf Tryz.prog plan 250 = some pf250 := by kernel_rfl
theorem ok250 : fnOk Tryz.prog plan 250 = true := by kernel_rfl
/- 251 (*scantling/audit.auditor).devices -/
noncomputable def pc251_0 : PCode := (.seq (.reg [⟨(some 15), (.bin .lss .int (.tmp 14) (.tmp 13)), none⟩])
  (.seq (.cond (.tmp 15) .skip (.exit 0))
  (.seq (.block 1 (.seq (.reg [⟨(some 16), (.indexAddr (.sl 1) (.tmp 12) (.tmp 14)), none⟩, ⟨(some 17), (.load none (.tmp 16)), none⟩, ⟨(some 5), (.mv (.tmp 17)), none⟩])
  (.seq (.reg [⟨(some 19), (.mv (.tmp 0)), none⟩, ⟨(some 20), (.nil (.tmp 19)), none⟩, ⟨(some 21), (.fieldAddr 14 (.tmp 20)), none⟩, ⟨(some 22), (.load none (.tmp 21)), none⟩, ⟨(some 23), (.mv (.tmp 5)), none⟩, ⟨(some 24), (.raw (.lookup 367 (.tmp 22) (.tmp 23) true)), none⟩, ⟨(some 18), (.mv (.tmp 24)), none⟩, ⟨(some 25), (.extract (.tmp 18) 0), none⟩, ⟨(some 26), (.extract (.tmp 18) 1), none⟩, ⟨(some 6), (.alloc 0 [(.int .i64 0), (.int .i64 0), (.int .i64 0), (.int .i64 0)]), none⟩, ⟨none, (.store 4 (.tmp 6) (.tmp 25)), none⟩, ⟨(some 7), (.mv (.tmp 26)), none⟩])
  (.seq (.reg [⟨(some 28), (.mv (.tmp 0)), none⟩, ⟨(some 29), (.nil (.tmp 28)), none⟩, ⟨(some 30), (.fieldAddr 15 (.tmp 29)), none⟩, ⟨(some 31), (.load none (.tmp 30)), none⟩, ⟨(some 32), (.mv (.tmp 5)), none⟩, ⟨(some 33), (.raw (.lookup 368 (.tmp 31) (.tmp 32) true)), none⟩, ⟨(some 27), (.mv (.tmp 33)), none⟩, ⟨(some 34), (.extract (.tmp 27) 0), none⟩, ⟨(some 35), (.extract (.tmp 27) 1), none⟩, ⟨(some 8), (.mv (.tmp 34)), none⟩, ⟨(some 9), (.mv (.tmp 35)), none⟩])
  (.seq (.seq (.reg [⟨(some 36), (.mv (.tmp 7)), none⟩, ⟨(some 37), (.un .not (.tmp 36)), none⟩, ⟨(some 38), (.mv (.tmp 37)), none⟩, ⟨(some 39), (.mv (.tmp 9)), (some ((some 38), false))⟩, ⟨(some 40), (.un .not (.tmp 39)), (some ((some 38), false))⟩, ⟨(some 41), (.raw (.pick (.tmp 38) (.const (.bool true)) (.tmp 40))), none⟩])
  (.cond (.tmp 41) (.seq (.reg [⟨(some 42), (.mv (.tmp 0)), none⟩, ⟨(some 43), (.nil (.tmp 42)), none⟩, ⟨(some 44), (.fieldAddr 0 (.tmp 43)), none⟩, ⟨(some 45), (.mv (.tmp 5)), none⟩, ⟨(some 46), (.call 252 [(.tmp 44), (.const (.int .i64 4)), (.tmp 45), (.const (.int .i64 18))]), none⟩])
  (.exit 1)) .skip))
  (.seq (.reg [⟨(some 47), (.mv (.tmp 0)), none⟩, ⟨(some 48), (.nil (.tmp 47)), none⟩, ⟨(some 49), (.fieldAddr 16 (.tmp 48)), none⟩, ⟨(some 50), (.load none (.tmp 49)), none⟩, ⟨(some 51), (.mv (.tmp 8)), none⟩, ⟨(some 52), (.raw (.lookup 369 (.tmp 50) (.tmp 51) false)), none⟩, ⟨(some 10), (.mv (.tmp 52)), none⟩])
  (.seq (.seq (.reg [⟨(some 53), (.fieldAddr 0 (.tmp 6)), none⟩, ⟨(some 54), (.load none (.tmp 53)), none⟩, ⟨(some 55), (.mv (.tmp 10)), none⟩, ⟨(some 56), (.len .sl (.tmp 55)), none⟩, ⟨(some 57), (.bin .neq .int (.tmp 54) (.tmp 56)), none⟩])
  (.cond (.tmp 57) (.reg [⟨(some 58), (.mv (.tmp 0)), none⟩, ⟨(some 59), (.nil (.tmp 58)), none⟩, ⟨(some 60), (.fieldAddr 0 (.tmp 59)), none⟩, ⟨(some 61), (.mv (.tmp 5)), none⟩, ⟨(some 62), (.call 252 [(.tmp 60), (.const (.int .i64 4)), (.tmp 61), (.const (.int .i64 13))]), none⟩]) .skip))
  (.draw [(⟨(some 63), (.mv (.tmp 3)), none⟩, []), (⟨(some 64), (.mv (.tmp 5)), none⟩, []), (⟨(some 65), (.fieldAddr 1 (.tmp 6)), none⟩, []), (⟨(some 67), (.fieldAddr 2 (.tmp 6)), none⟩, []), (⟨(some 69), (.fieldAddr 3 (.tmp 6)), none⟩, []), (⟨(some 71), (.mv (.tmp 10)), none⟩, []), (⟨(some 66), (.load none (.tmp 65)), none⟩, []), (⟨(some 68), (.load none (.tmp 67)), none⟩, []), (⟨(some 70), (.load none (.tmp 69)), none⟩, []), (⟨(some 72), (.call 299 [(.tmp 71)]), none⟩, [⟨(some 66), (.load none (.tmp 65)), none⟩, ⟨(some 68), (.load none (.tmp 67)), none⟩, ⟨(some 70), (.load none (.tmp 69)), none⟩]), (⟨(some 73), (.build [(.int .i64 0), (.int .i64 0), (.int .i64 0), (.int .i64 0), (.slice none 0 0)] [(0, 1), (1, 1), (2, 1), (3, 1), (4, 1)] [(0, (.tmp 64)), (1, (.tmp 66)), (2, (.tmp 68)), (3, (.tmp 70)), (4, (.tmp 72))]), none⟩, []), (⟨(some 74), (.buildSlice 5 1 [(0, (.tmp 73))]), none⟩, []), (⟨(some 75), (.append 5 56 false (.tmp 63) (.tmp 74)), none⟩, []), (⟨(some 3), (.mv (.tmp 75)), none⟩, [])]))))))))
  (.reg [⟨(some 76), (.bin .add .int (.tmp 14) (.const (.int .i64 1))), none⟩, ⟨(some 14), (.mv (.tmp 76)), none⟩]))))
noncomputable def pf251 : PF := ⟨78, [.tmp 2], (.seq (.reg [⟨(some 2), (.mv (.const (.slice none 0 0))), none⟩])
  (.seq (.reg [⟨(some 3), (.mv (.const (.slice none 0 0))), none⟩])
  (.seq (.seq (.reg [⟨(some 11), (.mv (.tmp 0)), none⟩, ⟨(some 12), (.call 298 [(.tmp 11)]), none⟩, ⟨(some 13), (.len .sl (.tmp 12)), none⟩, ⟨(some 14), (.mv (.const (.int .i64 0))), none⟩])
  (.block 0 (.loop pc251_0)))
  (.seq (.reg [⟨(some 77), (.mv (.tmp 3)), none⟩, ⟨(some 2), (.mv (.tmp 77)), none⟩])
  .ret))))⟩
theorem pf251_ok : pfOf Tryz.prog plan 251 = some pf251 := by kernel_rfl
theorem ok251 : fnOk Tryz.prog plan 251 = true := by kernel_rfl
/- 253 scantling/chart.Data -/
noncomputable def pc253_0 : PCode := (.seq (.reg [⟨(some 42), (.bin .lss .int (.tmp 41) (.tmp 40)), none⟩])
  (.seq (.cond (.tmp 42) .skip (.exit 0))
  (.seq (.block 1 (.seq (.reg [⟨(some 43), (.mv (.tmp 41)), none⟩, ⟨(some 44), (.indexAddr (.sl 3) (.tmp 39) (.tmp 41)), none⟩, ⟨(some 45), (.load (some 3) (.tmp 44)), none⟩, ⟨(some 16), (.alloc 0 [(.int .i64 0), (.string (bs [])), (.int .i64 0)]), none⟩, ⟨(some 15), (.mv (.tmp 43)), none⟩, ⟨none, (.store 3 (.tmp 16) (.tmp 45)), none⟩])
  (.seq (.seq (.reg [⟨(some 46), (.fieldAddr 0 (.tmp 16)), none⟩, ⟨(some 47), (.load none (.tmp 46)), none⟩, ⟨(some 48), (.mv (.tmp 15)), none⟩, ⟨(some 49), (.bin .neq .int (.tmp 47) (.tmp 48)), none⟩])
  (.cond (.tmp 49) (.seq (.reg [⟨(some 50), (.mv (.tmp 1)), none⟩, ⟨(some 51), (.iface 49 (.const (.int .i64 7))), none⟩, ⟨(some 52), (.call 64 [(.tmp 50), (.tmp 51)]), none⟩, ⟨(some 10), (.mv (.const (.slice none 0 0))), none⟩, ⟨(some 11), (.mv (.tmp 52)), none⟩])
  .ret) .skip))
  (.seq (.reg [⟨(some 54), (.fieldAddr 1 (.tmp 16)), none⟩, ⟨(some 55), (.load none (.tmp 54)), none⟩, ⟨(some 56), (.call 260 [(.tmp 55)]), none⟩, ⟨(some 53), (.mv (.tmp 56)), none⟩, ⟨(some 57), (.extract (.tmp 53) 0), none⟩, ⟨(some 58), (.extract (.tmp 53) 1), none⟩, ⟨(some 17), (.alloc 0 [(.int .i64 0), (.int .i64 0), (.int .i64 0)]), none⟩, ⟨none, (.store 3 (.tmp 17) (.tmp 57)), none⟩, ⟨(some 18), (.mv (.tmp 58)), none⟩])
  (.reg [⟨(some 59), (.mv (.tmp 14)), none⟩, ⟨(some 60), (.load (some 3) (.tmp 17)), none⟩, ⟨(some 61), (.fieldAddr 2 (.tmp 16)), none⟩, ⟨(some 62), (.load none (.tmp 61)), none⟩, ⟨(some 63), (.mv (.tmp 18)), none⟩, ⟨(some 64), (.build (List.replicate 5 (.int .i64 0)) [(0, 3), (3, 1), (4, 1)] [(0, (.tmp 60)), (1, (.tmp 62)), (2, (.tmp 63))]), none⟩, ⟨(some 65), (.buildSlice 5 1 [(0, (.tmp 64))]), none⟩, ⟨(some 66), (.append 5 40 false (.tmp 59) (.tmp 65)), none⟩, ⟨(some 14), (.mv (.tmp 66)), none⟩])))))
  (.reg [⟨(some 67), (.bin .add .int (.tmp 41) (.const (.int .i64 1))), none⟩, ⟨(some 41), (.mv (.tmp 67)), none⟩]))))
noncomputable def pf253 : PF := ⟨76, [.tmp 10, .tmp 11], (.seq (.reg [⟨(some 10), (.mv (.const (.slice none 0 0))), none⟩, ⟨(some 11), (.mv (.const .nilIface)), none⟩])
  (.seq (.reg [⟨(some 20), (.mv (.tmp 0)), none⟩, ⟨(some 21), (.mv (.tmp 1)), none⟩, ⟨(some 22), (.mv (.tmp 4)), none⟩, ⟨(some 23), (.call 300 [(.tmp 20), (.tmp 21), (.const (.int .i64 4)), (.tmp 22)]), none⟩, ⟨(some 19), (.mv (.tmp 23)), none⟩, ⟨(some 24), (.extract (.tmp 19) 0), none⟩, ⟨(some 25), (.extract (.tmp 19) 1), none⟩, ⟨(some 12), (.alloc 0 [(.slice none 0 0), (.slice none 0 0), (.int .i64 0), (.int .i64 0), (.slice none 0 0)]), none⟩, ⟨none, (.store 5 (.tmp 12) (.tmp 24)), none⟩, ⟨(some 13), (.mv (.tmp 25)), none⟩])
  (.seq (.seq (.reg [⟨(some 26), (.mv (.tmp 13)), none⟩, ⟨(some 27), (.bin .neq .ifc (.tmp 26) (.const .nilIface)), none⟩])
  (.cond (.tmp 27) (.seq (.reg [⟨(some 28), (.mv (.tmp 13)), none⟩, ⟨(some 10), (.mv (.const (.slice none 0 0))), none⟩, ⟨(some 11), (.mv (.tmp 28)), none⟩])
  .ret) .skip))
  (.seq (.seq (.draw [(⟨(some 29), (.fieldAddr 0 (.tmp 12)), none⟩, []), (⟨(some 32), (.mv (.tmp 3)), none⟩, []), (⟨(some 30), (.load none (.tmp 29)), none⟩, []), (⟨(some 31), (.len .sl (.tmp 30)), none⟩, []), (⟨(some 33), (.call 92 [(.tmp 32)]), none⟩, [⟨(some 30), (.load none (.tmp 29)), none⟩, ⟨(some 31), (.len .sl (.tmp 30)), none⟩]), (⟨(some 34), (.bin .neq .int (.tmp 31) (.tmp 33)), none⟩, [])])
  (.cond (.tmp 34) (.seq (.reg [⟨(some 35), (.mv (.tmp 1)), none⟩, ⟨(some 36), (.iface 49 (.const (.int .i64 7))), none⟩, ⟨(some 37), (.call 64 [(.tmp 35), (.tmp 36)]), none⟩, ⟨(some 10), (.mv (.const (.slice none 0 0))), none⟩, ⟨(some 11), (.mv (.tmp 37)), none⟩])
  .ret) .skip))
  (.seq (.reg [⟨(some 14), (.mv (.const (.slice none 0 0))), none⟩])
  (.seq (.seq (.reg [⟨(some 38), (.fieldAddr 0 (.tmp 12)), none⟩, ⟨(some 39), (.load none (.tmp 38)), none⟩, ⟨(some 40), (.len .sl (.tmp 39)), none⟩, ⟨(some 41), (.mv (.const (.int .i64 0))), none⟩])
  (.block 0 (.loop pc253_0)))
  (.seq (.reg [⟨(some 68), (.mv (.tmp 0)), none⟩, ⟨(some 69), (.mv (.tmp 14)), none⟩, ⟨(some 70), (.mv (.tmp 2)), none⟩, ⟨(some 71), (.mv (.tmp 3)), none⟩, ⟨(some 72), (.mv (.tmp 4)), none⟩, ⟨(some 73), (.call 301 [(.tmp 68), (.tmp 69), (.tmp 70), (.tmp 71), (.tmp 72)]), none⟩, ⟨(some 74), (.extract (.tmp 73) 0), none⟩, ⟨(some 75), (.extract (.tmp 73) 1), none⟩, ⟨(some 10), (.mv (.tmp 74)), none⟩, ⟨(some 11), (.mv (.tmp 75)), none⟩])
  .ret)))))))⟩
theorem pf253_ok : pfOf Tryz.prog plan 253 = some pf253 := by kernel_rfl
theorem ok253 : fnOk Tryz.prog plan 253 = true := by kernel_rfl
/- 254 scantling/chart.Meta -/
noncomputable def pc254_0 : PCode := (.seq (.reg [⟨(some 37), (.bin .lss .int (.tmp 36) (.tmp 35)), none⟩])
  (.seq (.cond (.tmp 37) .skip (.exit 0))
  (.seq (.block 1 (.seq (.reg [⟨(some 38), (.indexAddr (.sl 3) (.tmp 34) (.tmp 36)), none⟩, ⟨(some 39), (.load (some 3) (.tmp 38)), none⟩, ⟨(some 16), (.alloc 0 [(.int .i64 0), (.int .i64 0), (.int .i64 0)]), none⟩, ⟨none, (.store 3 (.tmp 16) (.tmp 39)), none⟩])
  (.reg [⟨(some 40), (.mv (.tmp 14)), none⟩, ⟨(some 41), (.load (some 3) (.tmp 16)), none⟩, ⟨(some 42), (.mv (.tmp 1)), none⟩, ⟨(some 43), (.build (List.replicate 5 (.int .i64 0)) [(0, 3), (3, 1), (4, 1)] [(0, (.tmp 41)), (1, (.tmp 42)), (2, (.const (.int .i64 0)))]), none⟩, ⟨(some 44), (.buildSlice 5 1 [(0, (.tmp 43))]), none⟩, ⟨(some 45), (.append 5 40 false (.tmp 40) (.tmp 44)), none⟩, ⟨(some 14), (.mv (.tmp 45)), none⟩])))
  (.reg [⟨(some 46), (.bin .add .int (.tmp 36) (.const (.int .i64 1))), none⟩, ⟨(some 36), (.mv (.tmp 46)), none⟩]))))
noncomputable def pf254 : PF := ⟨55, [.tmp 10, .tmp 11], (.seq (.reg [⟨(some 10), (.mv (.const (.slice none 0 0))), none⟩, ⟨(some 11), (.mv (.const .nilIface)), none⟩])
  (.seq (.reg [⟨(some 18), (.mv (.tmp 0)), none⟩, ⟨(some 19), (.mv (.tmp 1)), none⟩, ⟨(some 20), (.call 202 [(.tmp 18), (.tmp 19)]), none⟩, ⟨(some 17), (.mv (.tmp 20)), none⟩, ⟨(some 21), (.extract (.tmp 17) 0), none⟩, ⟨(some 22), (.extract (.tmp 17) 1), none⟩, ⟨(some 12), (.mv (.tmp 21)), none⟩, ⟨(some 13), (.mv (.tmp 22)), none⟩])
  (.seq (.seq (.reg [⟨(some 23), (.mv (.tmp 13)), none⟩, ⟨(some 24), (.bin .neq .ifc (.tmp 23) (.const .nilIface)), none⟩])
  (.cond (.tmp 24) (.seq (.reg [⟨(some 25), (.mv (.tmp 13)), none⟩, ⟨(some 10), (.mv (.const (.slice none 0 0))), none⟩, ⟨(some 11), (.mv (.tmp 25)), none⟩])
  .ret) .skip))
  (.seq (.seq (.reg [⟨(some 26), (.mv (.tmp 12)), none⟩, ⟨(some 27), (.len .sl (.tmp 26)), none⟩, ⟨(some 28), (.mv (.tmp 3)), none⟩, ⟨(some 29), (.call 92 [(.tmp 28)]), none⟩, ⟨(some 30), (.bin .neq .int (.tmp 27) (.tmp 29)), none⟩])
  (.cond (.tmp 30) (.seq (.reg [⟨(some 31), (.mv (.tmp 1)), none⟩, ⟨(some 32), (.iface 49 (.const (.int .i64 7))), none⟩, ⟨(some 33), (.call 64 [(.tmp 31), (.tmp 32)]), none⟩, ⟨(some 10), (.mv (.const (.slice none 0 0))), none⟩, ⟨(some 11), (.mv (.tmp 33)), none⟩])
  .ret) .skip))
  (.seq (.reg [⟨(some 14), (.mv (.const (.slice none 0 0))), none⟩])
  (.seq (.seq (.reg [⟨(some 34), (.mv (.tmp 12)), none⟩, ⟨(some 35), (.len .sl (.tmp 34)), none⟩, ⟨(some 36), (.mv (.const (.int .i64 0))), none⟩])
  (.block 0 (.loop pc254_0)))
  (.seq (.reg [⟨(some 47), (.mv (.tmp 0)), none⟩, ⟨(some 48), (.mv (.tmp 14)), none⟩, ⟨(some 49), (.mv (.tmp 2)), none⟩, ⟨(some 50), (.mv (.tmp 3)), none⟩, ⟨(some 51), (.mv (.tmp 4)), none⟩, ⟨(some 52), (.call 301 [(.tmp 47), (.tmp 48), (.tmp 49), (.tmp 50), (.tmp 51)]), none⟩, ⟨(some 53), (.extract (.tmp 52) 0), none⟩, ⟨(some 54), (.extract (.tmp 52) 1), none⟩, ⟨(some 10), (.mv (.tmp 53)), none⟩, ⟨(some 11), (.mv (.tmp 54)), none⟩])
  .ret)))))))⟩
theorem pf254_ok : pfOf Tryz.prog plan 254 = some pf254 := by kernel_rfl
theorem ok254 : fnOk Tryz.prog plan 254 = true := by kernel_rfl
/- 255 scantling/refs.Differ -/
noncomputable def pc255_0 : PCode := (.seq (.reg [⟨(some 13), (.bin .lss .int (.tmp 12) (.tmp 11)), none⟩])
  (.seq (.cond (.tmp 13) .skip (.exit 0))
  (.seq (.block 1 (.seq (.reg [⟨(some 14), (.mv (.tmp 12)), none⟩, ⟨(some 6), (.mv (.tmp 14)), none⟩])
  (.seq (.draw [(⟨(some 15), (.mv (.tmp 6)), none⟩, []), (⟨(some 16), (.mv (.tmp 0)), none⟩, []), (⟨(some 17), (.len .sl (.tmp 16)), none⟩, []), (⟨(some 18), (.bin .geq .int (.tmp 15) (.tmp 17)), none⟩, []), (⟨(some 19), (.mv (.tmp 18)), none⟩, []), (⟨(some 20), (.mv (.tmp 6)), (some ((some 19), false))⟩, []), (⟨(some 21), (.mv (.tmp 1)), (some ((some 19), false))⟩, []), (⟨(some 22), (.len .sl (.tmp 21)), (some ((some 19), false))⟩, []), (⟨(some 23), (.bin .geq .int (.tmp 20) (.tmp 22)), (some ((some 19), false))⟩, []), (⟨(some 24), (.raw (.pick (.tmp 19) (.const (.bool true)) (.tmp 23))), none⟩, []), (⟨(some 25), (.mv (.tmp 24)), none⟩, []), (⟨(some 26), (.mv (.tmp 0)), (some ((some 25), false))⟩, []), (⟨(some 27), (.mv (.tmp 6)), (some ((some 25), false))⟩, []), (⟨(some 28), (.indexAddr (.sl 1) (.tmp 26) (.tmp 27)), (some ((some 25), false))⟩, []), (⟨(some 30), (.mv (.tmp 1)), (some ((some 25), false))⟩, []), (⟨(some 31), (.mv (.tmp 6)), (some ((some 25), false))⟩, []), (⟨(some 32), (.indexAddr (.sl 1) (.tmp 30) (.tmp 31)), (some ((some 25), false))⟩, []), (⟨(some 29), (.load none (.tmp 28)), (some ((some 25), false))⟩, []), (⟨(some 33), (.load none (.tmp 32)), (some ((some 25), false))⟩, []), (⟨(some 34), (.bin .neq .int (.tmp 29) (.tmp 33)), (some ((some 25), false))⟩, []), (⟨(some 35), (.raw (.pick (.tmp 25) (.const (.bool true)) (.tmp 34))), none⟩, [])])
  (.cond (.tmp 35) (.reg [⟨(some 36), (.mv (.tmp 5)), none⟩, ⟨(some 37), (.mv (.tmp 6)), none⟩, ⟨(some 38), (.buildSlice 1 1 [(0, (.tmp 37))]), none⟩, ⟨(some 39), (.append 1 8 false (.tmp 36) (.tmp 38)), none⟩, ⟨(some 5), (.mv (.tmp 39)), none⟩]) .skip))))
  (.reg [⟨(some 40), (.bin .add .int (.tmp 12) (.const (.int .i64 1))), none⟩, ⟨(some 12), (.mv (.tmp 40)), none⟩]))))
noncomputable def pf255 : PF := ⟨42, [.tmp 4], (.seq (.reg [⟨(some 4), (.mv (.const (.slice none 0 0))), none⟩])
  (.seq (.reg [⟨(some 5), (.mv (.const (.slice none 0 0))), none⟩])
  (.seq (.seq (.reg [⟨(some 7), (.mv (.tmp 0)), none⟩, ⟨(some 8), (.len .sl (.tmp 7)), none⟩, ⟨(some 9), (.mv (.tmp 1)), none⟩, ⟨(some 10), (.len .sl (.tmp 9)), none⟩, ⟨(some 11), (.raw (.call { callee := .builtin .max, args := #[(.tmp 8), (.tmp 10)], argTypes := #[3, 3] })), none⟩, ⟨(some 12), (.mv (.const (.int .i64 0))), none⟩])
  (.block 0 (.loop pc255_0)))
  (.seq (.reg [⟨(some 41), (.mv (.tmp 5)), none⟩, ⟨(some 4), (.mv (.tmp 41)), none⟩])
  .ret))))⟩
theorem pf255_ok : pfOf Tryz.prog plan 255 = some pf255 := by kernel_rfl
theorem ok255 : fnOk Tryz.prog plan 255 = true := by kernel_rfl
/- 243 scantling/crc.Sum -/
noncomputable def pc243_0 : PCode := (.seq (.reg [⟨(some 9), (.bin .lss .int (.tmp 8) (.tmp 7)), none⟩])
  (.seq (.cond (.tmp 9) .skip (.exit 0))
  (.seq (.block 1 (.seq (.reg [⟨(some 10), (.indexAddr (.sl 1) (.tmp 6) (.tmp 8)), none⟩, ⟨(some 11), (.load none (.tmp 10)), none⟩, ⟨(some 5), (.mv (.tmp 11)), none⟩])
  (.reg [⟨(some 12), (.mv (.tmp 3)), none⟩, ⟨(some 13), (.mv (.tmp 5)), none⟩, ⟨(some 14), (.call 291 [(.tmp 12), (.tmp 13)]), none⟩, ⟨(some 3), (.mv (.tmp 14)), none⟩])))
  (.reg [⟨(some 15), (.bin .add .int (.tmp 8) (.const (.int .i64 1))), none⟩, ⟨(some 8), (.mv (.tmp 15)), none⟩]))))
noncomputable def pf243 : PF := ⟨19, [.tmp 2], (.seq (.reg [⟨(some 2), (.mv (.const (.int .i64 0))), none⟩])
  (.seq (.reg [⟨(some 3), (.mv (.const (.int .u32 4294967295))), none⟩])
  (.seq (.seq (.reg [⟨(some 6), (.mv (.tmp 0)), none⟩, ⟨(some 7), (.len .sl (.tmp 6)), none⟩, ⟨(some 8), (.mv (.const (.int .i64 0))), none⟩])
  (.block 0 (.loop pc243_0)))
  (.seq (.reg [⟨(some 16), (.mv (.tmp 3)), none⟩, ⟨(some 17), (.bin .xor .int (.tmp 16) (.const (.int .u32 4294967295))), none⟩, ⟨(some 18), (.cint .i64 (.tmp 17)), none⟩, ⟨(some 2), (.mv (.tmp 18)), none⟩])
  .ret))))⟩
theorem pf243_ok : pfOf Tryz.prog plan 243 = some pf243 := by kernel_rfl
theorem ok243 : fnOk Tryz.prog plan 243 = true := by kernel_rfl
/- 244 scantling/seal.Salt -/
noncomputable def pf244 : PF := ⟨12, [.tmp 2], (.seq (.reg [⟨(some 2), (.mv (.const (.int .i64 0))), none⟩])
  (.seq (.seq (.reg [⟨(some 3), (.mv (.tmp 0)), none⟩])
  (.block 0 (.seq (.reg [⟨(some 5), (.bin .eql .int (.tmp 3) (.const (.int .i64 1))), none⟩, ⟨(some 4), (.mv (.tmp 5)), none⟩])
  (.cond (.tmp 4) (.seq (.reg [⟨(some 2), (.mv (.const (.int .i64 160774))), none⟩])
  .ret) (.seq (.reg [⟨(some 7), (.bin .eql .int (.tmp 3) (.const (.int .i64 2))), none⟩, ⟨(some 6), (.mv (.tmp 7)), none⟩])
  (.cond (.tmp 6) (.seq (.reg [⟨(some 2), (.mv (.const (.int .i64 121107))), none⟩])
  .ret) (.seq (.reg [⟨(some 9), (.bin .eql .int (.tmp 3) (.const (.int .i64 3))), none⟩, ⟨(some 8), (.mv (.tmp 9)), none⟩])
  (.cond (.tmp 8) (.seq (.reg [⟨(some 2), (.mv (.const (.int .i64 240779))), none⟩])
  .ret) (.seq (.reg [⟨(some 11), (.bin .eql .int (.tmp 3) (.const (.int .i64 4))), none⟩, ⟨(some 10), (.mv (.tmp 11)), none⟩])
  (.cond (.tmp 10) (.seq (.reg [⟨(some 2), (.mv (.const (.int .i64 160478))), none⟩])
  .ret) .skip))))))))))
  (.seq (.reg [⟨(some 2), (.mv (.const (.int .i64 0))), none⟩])
  .ret)))⟩
theorem pf244_ok : pfOf Tryz.prog plan 244 = some pf244 := by kernel_rfl
theorem ok244 : fnOk Tryz.prog plan 244 = true := by kernel_rfl
/- 256 scantling/block.read[[]scantling/api.Slot] -/
noncomputable def pf256 : PF := ⟨56, [.tmp 8, .tmp 9], (.seq (.reg [⟨(some 8), (.mv (.const (.slice none 0 0))), none⟩, ⟨(some 9), (.mv (.const .nilIface)), none⟩])
  (.seq (.reg [⟨(some 10), (.mv (.const (.slice none 0 0))), none⟩])
  (.seq (.reg [⟨(some 16), (.mv (.tmp 0)), none⟩, ⟨(some 17), (.mv (.tmp 1)), none⟩, ⟨(some 18), (.call 114 [(.tmp 16), (.tmp 17)]), none⟩, ⟨(some 15), (.mv (.tmp 18)), none⟩, ⟨(some 19), (.extract (.tmp 15) 0), none⟩, ⟨(some 20), (.extract (.tmp 15) 1), none⟩, ⟨(some 11), (.mv (.tmp 19)), none⟩, ⟨(some 12), (.mv (.tmp 20)), none⟩])
  (.seq (.seq (.reg [⟨(some 21), (.mv (.tmp 12)), none⟩, ⟨(some 22), (.bin .neq .int (.tmp 21) (.const (.int .i64 0))), none⟩])
  (.cond (.tmp 22) (.seq (.reg [⟨(some 23), (.mv (.tmp 10)), none⟩, ⟨(some 24), (.mv (.tmp 1)), none⟩, ⟨(some 25), (.mv (.tmp 12)), none⟩, ⟨(some 26), (.iface 49 (.tmp 25)), none⟩, ⟨(some 27), (.call 110 [(.tmp 24), (.tmp 26)]), none⟩, ⟨(some 8), (.mv (.tmp 23)), none⟩, ⟨(some 9), (.mv (.tmp 27)), none⟩])
  .ret) .skip))
  (.seq (.reg [⟨(some 29), (.mv (.tmp 11)), none⟩, ⟨(some 30), (.mv (.tmp 2)), none⟩, ⟨(some 31), (.mv (.tmp 1)), none⟩, ⟨(some 32), (.call 115 [(.tmp 29), (.tmp 30), (.tmp 31)]), none⟩, ⟨(some 28), (.mv (.tmp 32)), none⟩, ⟨(some 33), (.extract (.tmp 28) 0), none⟩, ⟨(some 34), (.extract (.tmp 28) 1), none⟩, ⟨(some 13), (.mv (.tmp 33)), none⟩, ⟨(some 12), (.mv (.tmp 34)), none⟩])
  (.seq (.seq (.reg [⟨(some 35), (.mv (.tmp 12)), none⟩, ⟨(some 36), (.bin .neq .int (.tmp 35) (.const (.int .i64 0))), none⟩])
  (.cond (.tmp 36) (.seq (.reg [⟨(some 37), (.mv (.tmp 10)), none⟩, ⟨(some 38), (.mv (.tmp 1)), none⟩, ⟨(some 39), (.mv (.tmp 12)), none⟩, ⟨(some 40), (.iface 49 (.tmp 39)), none⟩, ⟨(some 41), (.call 110 [(.tmp 38), (.tmp 40)]), none⟩, ⟨(some 8), (.mv (.tmp 37)), none⟩, ⟨(some 9), (.mv (.tmp 41)), none⟩])
  .ret) .skip))
  (.seq (.reg [⟨(some 43), (.mv (.tmp 3)), none⟩, ⟨(some 44), (.mv (.tmp 13)), none⟩, ⟨(some 45), (.callv (.tmp 43) [(.tmp 44)]), none⟩, ⟨(some 42), (.mv (.tmp 45)), none⟩, ⟨(some 46), (.extract (.tmp 42) 0), none⟩, ⟨(some 47), (.extract (.tmp 42) 1), none⟩, ⟨(some 14), (.mv (.tmp 46)), none⟩, ⟨(some 12), (.mv (.tmp 47)), none⟩])
  (.seq (.seq (.reg [⟨(some 48), (.mv (.tmp 12)), none⟩, ⟨(some 49), (.bin .neq .int (.tmp 48) (.const (.int .i64 0))), none⟩])
  (.cond (.tmp 49) (.seq (.reg [⟨(some 50), (.mv (.tmp 10)), none⟩, ⟨(some 51), (.mv (.tmp 1)), none⟩, ⟨(some 52), (.mv (.tmp 12)), none⟩, ⟨(some 53), (.iface 49 (.tmp 52)), none⟩, ⟨(some 54), (.call 110 [(.tmp 51), (.tmp 53)]), none⟩, ⟨(some 8), (.mv (.tmp 50)), none⟩, ⟨(some 9), (.mv (.tmp 54)), none⟩])
  .ret) .skip))
  (.seq (.reg [⟨(some 55), (.mv (.tmp 14)), none⟩, ⟨(some 8), (.mv (.tmp 55)), none⟩, ⟨(some 9), (.mv (.const .nilIface)), none⟩])
  .ret)))))))))⟩
theorem pf256_ok : pfOf Tryz.prog plan 256 = some pf256 := by kernel_rfl
theorem ok256 : fnOk Tryz.prog plan 256 = true := by kernel_rfl
/- 257 scantling/slots.Read -/
noncomputable def pc257_0 : PCode := (.seq (.reg [⟨(some 36), (.bin .lss .int (.tmp 35) (.tmp 34)), none⟩])
  (.seq (.cond (.tmp 36) .skip (.exit 0))
  (.seq (.block 1 (.seq (.reg [⟨(some 38), (.mv (.tmp 7)), none⟩, ⟨(some 39), (.callv (.tmp 38) []), none⟩, ⟨(some 40), (.call 260 [(.tmp 39)]), none⟩, ⟨(some 37), (.mv (.tmp 40)), none⟩, ⟨(some 41), (.extract (.tmp 37) 0), none⟩, ⟨(some 42), (.extract (.tmp 37) 1), none⟩, ⟨(some 9), (.alloc 0 [(.int .i64 0), (.int .i64 0), (.int .i64 0)]), none⟩, ⟨none, (.store 3 (.tmp 9) (.tmp 41)), none⟩, ⟨(some 10), (.mv (.tmp 42)), none⟩])
  (.seq (.seq (.reg [⟨(some 43), (.mv (.tmp 10)), none⟩, ⟨(some 44), (.bin .neq .int (.tmp 43) (.const (.int .i64 0))), none⟩])
  (.cond (.tmp 44) (.seq (.reg [⟨(some 45), (.mv (.tmp 10)), none⟩, ⟨(some 2), (.mv (.const (.slice none 0 0))), none⟩, ⟨(some 3), (.mv (.tmp 45)), none⟩])
  .ret) .skip))
  (.reg [⟨(some 46), (.mv (.tmp 8)), none⟩, ⟨(some 47), (.load (some 3) (.tmp 9)), none⟩, ⟨(some 48), (.buildSlice 3 1 [(0, (.tmp 47))]), none⟩, ⟨(some 49), (.append 3 24 false (.tmp 46) (.tmp 48)), none⟩, ⟨(some 8), (.mv (.tmp 49)), none⟩]))))
  (.reg [⟨(some 50), (.bin .add .int (.tmp 35) (.const (.int .i64 1))), none⟩, ⟨(some 35), (.mv (.tmp 50)), none⟩]))))
noncomputable def pf257 : PF := ⟨52, [.tmp 2, .tmp 3], (.seq (.reg [⟨(some 2), (.mv (.const (.slice none 0 0))), none⟩, ⟨(some 3), (.mv (.const (.int .i64 0))), none⟩])
  (.seq (.seq (.reg [⟨(some 11), (.mv (.tmp 0)), none⟩, ⟨(some 12), (.len .sl (.tmp 11)), none⟩, ⟨(some 13), (.bin .neq .int (.tmp 12) (.const (.int .i64 244))), none⟩])
  (.cond (.tmp 13) (.seq (.reg [⟨(some 2), (.mv (.const (.slice none 0 0))), none⟩, ⟨(some 3), (.mv (.const (.int .i64 7))), none⟩])
  .ret) .skip))
  (.seq (.reg [⟨(some 15), (.mv (.tmp 0)), none⟩, ⟨(some 16), (.call 117 [(.tmp 15), (.const (.int .i64 0)), (.const (.int .i64 4))]), none⟩, ⟨(some 14), (.mv (.tmp 16)), none⟩, ⟨(some 17), (.extract (.tmp 14) 0), none⟩, ⟨(some 18), (.extract (.tmp 14) 1), none⟩, ⟨(some 4), (.mv (.tmp 17)), none⟩, ⟨(some 5), (.mv (.tmp 18)), none⟩])
  (.seq (.seq (.reg [⟨(some 19), (.mv (.tmp 4)), none⟩, ⟨(some 20), (.bin .gtr .int (.tmp 19) (.const (.int .i64 15))), none⟩, ⟨(some 21), (.mv (.tmp 20)), none⟩, ⟨(some 22), (.mv (.tmp 0)), (some ((some 21), false))⟩, ⟨(some 23), (.mv (.tmp 4)), (some ((some 21), false))⟩, ⟨(some 24), (.bin .mul .int (.tmp 23) (.const (.int .i64 16))), (some ((some 21), false))⟩, ⟨(some 25), (.bin .add .int (.const (.int .i64 4)) (.tmp 24)), (some ((some 21), false))⟩, ⟨(some 26), (.slice (.sl 1) (.tmp 22) (some (.tmp 25)) none none), (some ((some 21), false))⟩, ⟨(some 27), (.call 208 [(.tmp 26)]), (some ((some 21), false))⟩, ⟨(some 28), (.un .not (.tmp 27)), (some ((some 21), false))⟩, ⟨(some 29), (.raw (.pick (.tmp 21) (.const (.bool true)) (.tmp 28))), none⟩])
  (.cond (.tmp 29) (.seq (.reg [⟨(some 2), (.mv (.const (.slice none 0 0))), none⟩, ⟨(some 3), (.mv (.const (.int .i64 7))), none⟩])
  .ret) .skip))
  (.seq (.reg [⟨(some 30), (.mv (.tmp 0)), none⟩, ⟨(some 31), (.slice (.sl 1) (.tmp 30) (some (.const (.int .i64 4))) none none), none⟩, ⟨(some 32), (.cstr true (.tmp 31)), none⟩, ⟨(some 6), (.alloc 0 [(.string (bs []))]), none⟩, ⟨none, (.store 1 (.tmp 6) (.tmp 32)), none⟩])
  (.seq (.reg [⟨(some 33), (.fn 302 [] [(.tmp 6)]), none⟩, ⟨(some 7), (.mv (.tmp 33)), none⟩])
  (.seq (.reg [⟨(some 8), (.mv (.const (.slice none 0 0))), none⟩])
  (.seq (.seq (.reg [⟨(some 34), (.mv (.tmp 4)), none⟩, ⟨(some 35), (.mv (.const (.int .i64 0))), none⟩])
  (.block 0 (.loop pc257_0)))
  (.seq (.reg [⟨(some 51), (.mv (.tmp 8)), none⟩, ⟨(some 2), (.mv (.tmp 51)), none⟩, ⟨(some 3), (.mv (.const (.int .i64 0))), none⟩])
  .ret)))))))))⟩
theorem pf257_ok : pfOf Tryz.prog plan 257 = some pf257 := by kernel_rfl
theorem ok257 : fnOk Tryz.prog plan 257 = true := by kernel_rfl
/- 258 scantling/block.read[[]int] -/
noncomputable def pf258 : PF := ⟨56, [.tmp 8, .tmp 9], (.seq (.reg [⟨(some 8), (.mv (.const (.slice none 0 0))), none⟩, ⟨(some 9), (.mv (.const .nilIface)), none⟩])
  (.seq (.reg [⟨(some 10), (.mv (.const (.slice none 0 0))), none⟩])
  (.seq (.reg [⟨(some 16), (.mv (.tmp 0)), none⟩, ⟨(some 17), (.mv (.tmp 1)), none⟩, ⟨(some 18), (.call 114 [(.tmp 16), (.tmp 17)]), none⟩, ⟨(some 15), (.mv (.tmp 18)), none⟩, ⟨(some 19), (.extract (.tmp 15) 0), none⟩, ⟨(some 20), (.extract (.tmp 15) 1), none⟩, ⟨(some 11), (.mv (.tmp 19)), none⟩, ⟨(some 12), (.mv (.tmp 20)), none⟩])
  (.seq (.seq (.reg [⟨(some 21), (.mv (.tmp 12)), none⟩, ⟨(some 22), (.bin .neq .int (.tmp 21) (.const (.int .i64 0))), none⟩])
  (.cond (.tmp 22) (.seq (.reg [⟨(some 23), (.mv (.tmp 10)), none⟩, ⟨(some 24), (.mv (.tmp 1)), none⟩, ⟨(some 25), (.mv (.tmp 12)), none⟩, ⟨(some 26), (.iface 49 (.tmp 25)), none⟩, ⟨(some 27), (.call 110 [(.tmp 24), (.tmp 26)]), none⟩, ⟨(some 8), (.mv (.tmp 23)), none⟩, ⟨(some 9), (.mv (.tmp 27)), none⟩])
  .ret) .skip))
  (.seq (.reg [⟨(some 29), (.mv (.tmp 11)), none⟩, ⟨(some 30), (.mv (.tmp 2)), none⟩, ⟨(some 31), (.mv (.tmp 1)), none⟩, ⟨(some 32), (.call 115 [(.tmp 29), (.tmp 30), (.tmp 31)]), none⟩, ⟨(some 28), (.mv (.tmp 32)), none⟩, ⟨(some 33), (.extract (.tmp 28) 0), none⟩, ⟨(some 34), (.extract (.tmp 28) 1), none⟩, ⟨(some 13), (.mv (.tmp 33)), none⟩, ⟨(some 12), (.mv (.tmp 34)), none⟩])
  (.seq (.seq (.reg [⟨(some 35), (.mv (.tmp 12)), none⟩, ⟨(some 36), (.bin .neq .int (.tmp 35) (.const (.int .i64 0))), none⟩])
  (.cond (.tmp 36) (.seq (.reg [⟨(some 37), (.mv (.tmp 10)), none⟩, ⟨(some 38), (.mv (.tmp 1)), none⟩, ⟨(some 39), (.mv (.tmp 12)), none⟩, ⟨(some 40), (.iface 49 (.tmp 39)), none⟩, ⟨(some 41), (.call 110 [(.tmp 38), (.tmp 40)]), none⟩, ⟨(some 8), (.mv (.tmp 37)), none⟩, ⟨(some 9), (.mv (.tmp 41)), none⟩])
  .ret) .skip))
  (.seq (.reg [⟨(some 43), (.mv (.tmp 3)), none⟩, ⟨(some 44), (.mv (.tmp 13)), none⟩, ⟨(some 45), (.callv (.tmp 43) [(.tmp 44)]), none⟩, ⟨(some 42), (.mv (.tmp 45)), none⟩, ⟨(some 46), (.extract (.tmp 42) 0), none⟩, ⟨(some 47), (.extract (.tmp 42) 1), none⟩, ⟨(some 14), (.mv (.tmp 46)), none⟩, ⟨(some 12), (.mv (.tmp 47)), none⟩])
  (.seq (.seq (.reg [⟨(some 48), (.mv (.tmp 12)), none⟩, ⟨(some 49), (.bin .neq .int (.tmp 48) (.const (.int .i64 0))), none⟩])
  (.cond (.tmp 49) (.seq (.reg [⟨(some 50), (.mv (.tmp 10)), none⟩, ⟨(some 51), (.mv (.tmp 1)), none⟩, ⟨(some 52), (.mv (.tmp 12)), none⟩, ⟨(some 53), (.iface 49 (.tmp 52)), none⟩, ⟨(some 54), (.call 110 [(.tmp 51), (.tmp 53)]), none⟩, ⟨(some 8), (.mv (.tmp 50)), none⟩, ⟨(some 9), (.mv (.tmp 54)), none⟩])
  .ret) .skip))
  (.seq (.reg [⟨(some 55), (.mv (.tmp 14)), none⟩, ⟨(some 8), (.mv (.tmp 55)), none⟩, ⟨(some 9), (.mv (.const .nilIface)), none⟩])
  .ret)))))))))⟩
theorem pf258_ok : pfOf Tryz.prog plan 258 = some pf258 := by kernel_rfl
theorem ok258 : fnOk Tryz.prog plan 258 = true := by kernel_rfl
/- 259 scantling/bits.Read -/
noncomputable def pc259_0 : PCode := (.seq (.reg [⟨(some 20), (.bin .lss .int (.tmp 19) (.const (.int .i64 960))), none⟩])
  (.seq (.cond (.tmp 20) .skip (.exit 0))
  (.seq (.block 1 (.seq (.reg [⟨(some 21), (.mv (.tmp 19)), none⟩, ⟨(some 7), (.mv (.tmp 21)), none⟩])
  (.seq (.reg [⟨(some 22), (.mv (.tmp 0)), none⟩, ⟨(some 23), (.mv (.tmp 7)), none⟩, ⟨(some 24), (.bin .quo .int (.tmp 23) (.const (.int .i64 4))), none⟩, ⟨(some 25), (.bin .add .int (.const (.int .i64 4)) (.tmp 24)), none⟩, ⟨(some 26), (.indexAddr (.sl 1) (.tmp 22) (.tmp 25)), none⟩, ⟨(some 27), (.load none (.tmp 26)), none⟩, ⟨(some 28), (.mv (.tmp 7)), none⟩, ⟨(some 29), (.bin .rem .int (.tmp 28) (.const (.int .i64 4))), none⟩, ⟨(some 30), (.bin .mul .int (.tmp 29) (.const (.int .i64 2))), none⟩, ⟨(some 31), (.bin .shr .int (.tmp 27) (.tmp 30)), none⟩, ⟨(some 32), (.cint .i64 (.tmp 31)), none⟩, ⟨(some 33), (.bin .and .int (.tmp 32) (.const (.int .i64 3))), none⟩, ⟨(some 8), (.mv (.tmp 33)), none⟩])
  (.block 2 (.seq (.reg [⟨(some 35), (.mv (.tmp 7)), none⟩, ⟨(some 36), (.mv (.tmp 4)), none⟩, ⟨(some 37), (.bin .lss .int (.tmp 35) (.tmp 36)), none⟩, ⟨(some 34), (.mv (.tmp 37)), none⟩])
  (.cond (.tmp 34) (.reg [⟨(some 38), (.mv (.tmp 6)), none⟩, ⟨(some 39), (.mv (.tmp 8)), none⟩, ⟨(some 40), (.buildSlice 1 1 [(0, (.tmp 39))]), none⟩, ⟨(some 41), (.append 1 8 false (.tmp 38) (.tmp 40)), none⟩, ⟨(some 6), (.mv (.tmp 41)), none⟩]) (.seq (.reg [⟨(some 43), (.mv (.tmp 8)), none⟩, ⟨(some 44), (.bin .neq .int (.tmp 43) (.const (.int .i64 0))), none⟩, ⟨(some 42), (.mv (.tmp 44)), none⟩])
  (.cond (.tmp 42) (.seq (.reg [⟨(some 2), (.mv (.const (.slice none 0 0))), none⟩, ⟨(some 3), (.mv (.const (.int .i64 7))), none⟩])
  .ret) .skip))))))))
  (.reg [⟨(some 45), (.bin .add .int (.tmp 19) (.const (.int .i64 1))), none⟩, ⟨(some 19), (.mv (.tmp 45)), none⟩]))))
noncomputable def pf259 : PF := ⟨47, [.tmp 2, .tmp 3], (.seq (.reg [⟨(some 2), (.mv (.const (.slice none 0 0))), none⟩, ⟨(some 3), (.mv (.const (.int .i64 0))), none⟩])
  (.seq (.seq (.reg [⟨(some 9), (.mv (.tmp 0)), none⟩, ⟨(some 10), (.len .sl (.tmp 9)), none⟩, ⟨(some 11), (.bin .neq .int (.tmp 10) (.const (.int .i64 244))), none⟩])
  (.cond (.tmp 11) (.seq (.reg [⟨(some 2), (.mv (.const (.slice none 0 0))), none⟩, ⟨(some 3), (.mv (.const (.int .i64 7))), none⟩])
  .ret) .skip))
  (.seq (.reg [⟨(some 13), (.mv (.tmp 0)), none⟩, ⟨(some 14), (.call 117 [(.tmp 13), (.const (.int .i64 0)), (.const (.int .i64 4))]), none⟩, ⟨(some 12), (.mv (.tmp 14)), none⟩, ⟨(some 15), (.extract (.tmp 12) 0), none⟩, ⟨(some 16), (.extract (.tmp 12) 1), none⟩, ⟨(some 4), (.mv (.tmp 15)), none⟩, ⟨(some 5), (.mv (.tmp 16)), none⟩])
  (.seq (.seq (.reg [⟨(some 17), (.mv (.tmp 4)), none⟩, ⟨(some 18), (.bin .gtr .int (.tmp 17) (.const (.int .i64 960))), none⟩])
  (.cond (.tmp 18) (.seq (.reg [⟨(some 2), (.mv (.const (.slice none 0 0))), none⟩, ⟨(some 3), (.mv (.const (.int .i64 7))), none⟩])
  .ret) .skip))
  (.seq (.reg [⟨(some 6), (.mv (.const (.slice none 0 0))), none⟩])
  (.seq (.seq (.reg [⟨(some 19), (.mv (.const (.int .i64 0))), none⟩])
  (.block 0 (.loop pc259_0)))
  (.seq (.reg [⟨(some 46), (.mv (.tmp 6)), none⟩, ⟨(some 2), (.mv (.tmp 46)), none⟩, ⟨(some 3), (.mv (.const (.int .i64 0))), none⟩])
  .ret)))))))⟩
theorem pf259_ok : pfOf Tryz.prog plan 259 = some pf259 := by kernel_rfl
theorem ok259 : fnOk Tryz.prog plan 259 = true := by kernel_rfl
/- 260 scantling/value.ReadSlot -/
noncomputable def pf260 : PF := ⟨23, [.cell 2 (some 3), .tmp 3], (.seq (.reg [⟨(some 2), (.alloc 0 [(.int .i64 0), (.int .i64 0), (.int .i64 0)]), none⟩, ⟨(some 3), (.mv (.const (.int .i64 0))), none⟩])
  (.seq (.reg [⟨(some 7), (.call 237 []), none⟩, ⟨(some 8), (.mv (.tmp 0)), none⟩, ⟨(some 9), (.call 303 [(.tmp 7), (.tmp 8)]), none⟩, ⟨(some 6), (.mv (.tmp 9)), none⟩, ⟨(some 10), (.extract (.tmp 6) 0), none⟩, ⟨(some 11), (.extract (.tmp 6) 1), none⟩, ⟨(some 4), (.mv (.tmp 10)), none⟩, ⟨(some 5), (.mv (.tmp 11)), none⟩])
  (.seq (.draw [(⟨(some 12), (.mv (.tmp 4)), none⟩, []), (⟨(some 13), (.indexAddr (.sl 1) (.tmp 12) (.const (.int .i64 0))), none⟩, []), (⟨(some 15), (.mv (.tmp 4)), none⟩, []), (⟨(some 16), (.indexAddr (.sl 1) (.tmp 15) (.const (.int .i64 1))), none⟩, []), (⟨(some 18), (.mv (.tmp 4)), none⟩, []), (⟨(some 19), (.indexAddr (.sl 1) (.tmp 18) (.const (.int .i64 2))), none⟩, []), (⟨(some 22), (.mv (.tmp 5)), none⟩, []), (⟨(some 14), (.load none (.tmp 13)), none⟩, []), (⟨(some 17), (.load none (.tmp 16)), none⟩, []), (⟨(some 20), (.load none (.tmp 19)), none⟩, []), (⟨(some 21), (.build [(.int .i64 0), (.int .i64 0), (.int .i64 0)] [(0, 1), (1, 1), (2, 1)] [(0, (.tmp 14)), (1, (.tmp 17)), (2, (.tmp 20))]), none⟩, []), (⟨none, (.store 3 (.tmp 2) (.tmp 21)), none⟩, []), (⟨(some 3), (.mv (.tmp 22)), none⟩, [])])
  .ret)))⟩
theorem pf260_ok : pfOf Tryz.prog plan 260 = some pf260 := by kernel_rfl
theorem ok260 : fnOk Tryz.prog plan 260 = true := by kernel_rfl
/- 262 scantling/code.Unpack -/
noncomputable def pc262_0 : PCode := (.seq (.reg [⟨(some 15), (.bin .lss .int (.tmp 14) (.tmp 13)), none⟩])
  (.seq (.cond (.tmp 15) .skip (.exit 0))
  (.seq (.block 1 (.seq (.reg [⟨(some 16), (.indexAddr (.sl 1) (.tmp 12) (.tmp 14)), none⟩, ⟨(some 17), (.load none (.tmp 16)), none⟩, ⟨(some 9), (.mv (.tmp 17)), none⟩])
  (.seq (.reg [⟨(some 19), (.mv (.tmp 0)), none⟩, ⟨(some 20), (.mv (.tmp 7)), none⟩, ⟨(some 21), (.mv (.tmp 9)), none⟩, ⟨(some 22), (.call 117 [(.tmp 19), (.tmp 20), (.tmp 21)]), none⟩, ⟨(some 18), (.mv (.tmp 22)), none⟩, ⟨(some 23), (.extract (.tmp 18) 0), none⟩, ⟨(some 24), (.extract (.tmp 18) 1), none⟩, ⟨(some 10), (.mv (.tmp 23)), none⟩, ⟨(some 11), (.mv (.tmp 24)), none⟩])
  (.seq (.seq (.reg [⟨(some 25), (.mv (.tmp 11)), none⟩, ⟨(some 26), (.bin .neq .int (.tmp 25) (.const (.int .i64 0))), none⟩])
  (.cond (.tmp 26) (.seq (.reg [⟨(some 27), (.mv (.tmp 11)), none⟩, ⟨(some 4), (.mv (.const (.slice none 0 0))), none⟩, ⟨(some 5), (.mv (.tmp 27)), none⟩])
  .ret) .skip))
  (.seq (.reg [⟨(some 28), (.mv (.tmp 6)), none⟩, ⟨(some 29), (.mv (.tmp 10)), none⟩, ⟨(some 30), (.buildSlice 1 1 [(0, (.tmp 29))]), none⟩, ⟨(some 31), (.append 1 8 false (.tmp 28) (.tmp 30)), none⟩, ⟨(some 6), (.mv (.tmp 31)), none⟩])
  (.reg [⟨(some 32), (.mv (.tmp 7)), none⟩, ⟨(some 33), (.mv (.tmp 9)), none⟩, ⟨(some 34), (.bin .add .int (.tmp 32) (.tmp 33)), none⟩, ⟨(some 7), (.mv (.tmp 34)), none⟩]))))))
  (.reg [⟨(some 35), (.bin .add .int (.tmp 14) (.const (.int .i64 1))), none⟩, ⟨(some 14), (.mv (.tmp 35)), none⟩]))))
noncomputable def pf262 : PF := ⟨37, [.tmp 4, .tmp 5], (.seq (.reg [⟨(some 4), (.mv (.const (.slice none 0 0))), none⟩, ⟨(some 5), (.mv (.const (.int .i64 0))), none⟩])
  (.seq (.reg [⟨(some 6), (.mv (.const (.slice none 0 0))), none⟩])
  (.seq (.reg [⟨(some 7), (.mv (.const (.int .i64 0))), none⟩])
  (.seq (.seq (.reg [⟨(some 12), (.mv (.tmp 1)), none⟩, ⟨(some 13), (.len .sl (.tmp 12)), none⟩, ⟨(some 14), (.mv (.const (.int .i64 0))), none⟩])
  (.block 0 (.loop pc262_0)))
  (.seq (.reg [⟨(some 36), (.mv (.tmp 6)), none⟩, ⟨(some 4), (.mv (.tmp 36)), none⟩, ⟨(some 5), (.mv (.const (.int .i64 0))), none⟩])
  .ret)))))⟩
theorem pf262_ok : pfOf Tryz.prog plan 262 = some pf262 := by kernel_rfl
theorem ok262 : fnOk Tryz.prog plan 262 = true := by kernel_rfl
/- 263 slices.ContainsFunc[[]byte,byte] -/
noncomputable def pf263 : PF := ⟨9, [.tmp 4], (.seq (.reg [⟨(some 4), (.mv (.const (.bool false))), none⟩])
  (.seq (.reg [⟨(some 5), (.mv (.tmp 0)), none⟩, ⟨(some 6), (.mv (.tmp 1)), none⟩, ⟨(some 7), (.call 304 [(.tmp 5), (.tmp 6)]), none⟩, ⟨(some 8), (.bin .geq .int (.tmp 7) (.const (.int .i64 0))), none⟩, ⟨(some 4), (.mv (.tmp 8)), none⟩])
  .ret))⟩
theorem pf263_ok : pfOf Tryz.prog plan 263 = some pf263 := by kernel_rfl
theorem ok263 : fnOk Tryz.prog plan 263 = true := by kernel_rfl
/- 264 scantling/code.Zero$1 -/
noncomputable def pf264 : PF := ⟨5, [.tmp 2], (.seq (.reg [⟨(some 2), (.mv (.const (.bool false))), none⟩])
  (.seq (.reg [⟨(some 3), (.mv (.tmp 0)), none⟩, ⟨(some 4), (.bin .neq .int (.tmp 3) (.const (.int .u8 0))), none⟩, ⟨(some 2), (.mv (.tmp 4)), none⟩])
  .ret))⟩
theorem pf264_ok : pfOf Tryz.prog plan 264 = some pf264 := by kernel_rfl
theorem ok264 : fnOk Tryz.prog plan 264 = true := by kernel_rfl
/- 286 slices.Chunk[[]int,int]$1 -/
noncomputable def pc286_0 : PCode := (.seq (.seq (.reg [⟨(some 6), (.mv (.tmp 4)), none⟩, ⟨(some 7), (.load none (.tmp 1)), none⟩, ⟨(some 8), (.len .sl (.tmp 7)), none⟩, ⟨(some 9), (.bin .lss .int (.tmp 6) (.tmp 8)), none⟩])
  (.cond (.tmp 9) .skip (.exit 0)))
  (.seq (.block 1 (.seq (.draw [(⟨(some 15), (.mv (.tmp 4)), none⟩, []), (⟨(some 13), (.load none (.tmp 2)), none⟩, []), (⟨(some 14), (.load none (.tmp 1)), none⟩, []), (⟨(some 16), (.slice (.sl 1) (.tmp 14) (some (.tmp 15)) none none), none⟩, []), (⟨(some 17), (.len .sl (.tmp 16)), none⟩, []), (⟨(some 18), (.raw (.call { callee := .builtin .min, args := #[(.tmp 13), (.tmp 17)], argTypes := #[3, 3] })), none⟩, []), (⟨(some 5), (.mv (.tmp 18)), none⟩, [])])
  (.seq (.reg [⟨(some 19), (.mv (.tmp 0)), none⟩, ⟨(some 20), (.load none (.tmp 1)), none⟩, ⟨(some 21), (.mv (.tmp 4)), none⟩, ⟨(some 22), (.mv (.tmp 4)), none⟩, ⟨(some 23), (.mv (.tmp 5)), none⟩, ⟨(some 24), (.bin .add .int (.tmp 22) (.tmp 23)), none⟩, ⟨(some 25), (.mv (.tmp 4)), none⟩, ⟨(some 26), (.mv (.tmp 5)), none⟩, ⟨(some 27), (.bin .add .int (.tmp 25) (.tmp 26)), none⟩, ⟨(some 28), (.slice (.sl 1) (.tmp 20) (some (.tmp 21)) (some (.tmp 24)) (some (.tmp 27))), none⟩, ⟨(some 29), (.callv (.tmp 19) [(.tmp 28)]), none⟩, ⟨(some 30), (.un .not (.tmp 29)), none⟩])
  (.cond (.tmp 30) .ret .skip))))
  (.reg [⟨(some 10), (.mv (.tmp 4)), none⟩, ⟨(some 11), (.load none (.tmp 2)), none⟩, ⟨(some 12), (.bin .add .int (.tmp 10) (.tmp 11)), none⟩, ⟨(some 4), (.mv (.tmp 12)), none⟩])))
noncomputable def pf286 : PF := ⟨31, [], (.seq (.reg [⟨(some 4), (.mv (.const (.int .i64 0))), none⟩])
  (.block 0 (.loop pc286_0)))⟩
theorem pf286_ok : pfOf Tryz.prog plan 286 = some pf286 := by kernel_rfl
theorem ok286 : fnOk Tryz.prog plan 286 = true := by kernel_rfl
/- 112 scantling/tall.over[int] -/
noncomputable def pf112 : PF := ⟨12, [.tmp 4], (.seq (.reg [⟨(some 4), (.mv (.const (.int .i64 0))), none⟩])
  (.seq (.reg [⟨(some 5), (.mv (.tmp 0)), none⟩, ⟨(some 6), (.mv (.tmp 1)), none⟩, ⟨(some 7), (.bin .add .int (.tmp 5) (.tmp 6)), none⟩, ⟨(some 8), (.bin .sub .int (.tmp 7) (.const (.int .i64 1))), none⟩, ⟨(some 9), (.mv (.tmp 1)), none⟩, ⟨(some 10), (.bin .quo .int (.tmp 8) (.tmp 9)), none⟩, ⟨(some 11), (.raw (.call { callee := .builtin .max, args := #[(.const (.int .i64 1)), (.tmp 10)], argTypes := #[3, 3] })), none⟩, ⟨(some 4), (.mv (.tmp 11)), none⟩])
  .ret))⟩
theorem pf112_ok : pfOf Tryz.prog plan 112 = some pf112 := by kernel_rfl
theorem ok112 : fnOk Tryz.prog plan 112 = true := by kernel_rfl
/- 287 scantling/bits.Put$1 -/
noncomputable def pf287 : PF := ⟨9, [.tmp 2], (.seq (.reg [⟨(some 2), (.mv (.const (.bool false))), none⟩])
  (.seq (.reg [⟨(some 3), (.mv (.tmp 0)), none⟩, ⟨(some 4), (.bin .lss .int (.tmp 3) (.const (.int .i64 0))), none⟩, ⟨(some 5), (.mv (.tmp 4)), none⟩, ⟨(some 6), (.mv (.tmp 0)), (some ((some 5), false))⟩, ⟨(some 7), (.bin .gtr .int (.tmp 6) (.const (.int .i64 3))), (some ((some 5), false))⟩, ⟨(some 8), (.raw (.pick (.tmp 5) (.const (.bool true)) (.tmp 7))), none⟩, ⟨(some 2), (.mv (.tmp 8)), none⟩])
  .ret))⟩
theorem pf287_ok : pfOf Tryz.prog plan 287 = some pf287 := by kernel_rfl
theorem ok287 : fnOk Tryz.prog plan 287 = true := by kernel_rfl
/- 288 scantling/tall.Sizes -/
noncomputable def pc288_0 : PCode := (.seq (.reg [⟨(some 26), (.bin .lss .int (.tmp 25) (.tmp 24)), none⟩])
  (.seq (.cond (.tmp 26) .skip (.exit 0))
  (.seq (.block 1 (.seq (.reg [⟨(some 27), (.mv (.tmp 25)), none⟩, ⟨(some 6), (.mv (.tmp 27)), none⟩])
  (.reg [⟨(some 28), (.mv (.tmp 5)), none⟩, ⟨(some 29), (.mv (.tmp 6)), none⟩, ⟨(some 30), (.mv (.tmp 1)), none⟩, ⟨(some 31), (.mv (.tmp 0)), none⟩, ⟨(some 32), (.mv (.tmp 6)), none⟩, ⟨(some 33), (.mv (.tmp 1)), none⟩, ⟨(some 34), (.bin .mul .int (.tmp 32) (.tmp 33)), none⟩, ⟨(some 35), (.bin .sub .int (.tmp 31) (.tmp 34)), none⟩, ⟨(some 36), (.raw (.call { callee := .builtin .min, args := #[(.tmp 30), (.tmp 35)], argTypes := #[3, 3] })), none⟩, ⟨(some 37), (.indexAddr (.sl 1) (.tmp 28) (.tmp 29)), none⟩, ⟨none, (.store 1 (.tmp 37) (.tmp 36)), none⟩])))
  (.reg [⟨(some 38), (.bin .add .int (.tmp 25) (.const (.int .i64 1))), none⟩, ⟨(some 25), (.mv (.tmp 38)), none⟩]))))
noncomputable def pf288 : PF := ⟨40, [.tmp 4], (.seq (.reg [⟨(some 4), (.mv (.const (.slice none 0 0))), none⟩])
  (.seq (.seq (.reg [⟨(some 7), (.mv (.tmp 0)), none⟩, ⟨(some 8), (.bin .lss .int (.tmp 7) (.const (.int .i64 0))), none⟩, ⟨(some 9), (.mv (.tmp 8)), none⟩, ⟨(some 10), (.mv (.tmp 0)), (some ((some 9), false))⟩, ⟨(some 11), (.bin .gtr .int (.tmp 10) (.const (.int .i64 32768))), (some ((some 9), false))⟩, ⟨(some 12), (.raw (.pick (.tmp 9) (.const (.bool true)) (.tmp 11))), none⟩, ⟨(some 13), (.mv (.tmp 12)), none⟩, ⟨(some 14), (.mv (.tmp 1)), (some ((some 13), false))⟩, ⟨(some 15), (.bin .lss .int (.tmp 14) (.const (.int .i64 1))), (some ((some 13), false))⟩, ⟨(some 16), (.raw (.pick (.tmp 13) (.const (.bool true)) (.tmp 15))), none⟩])
  (.cond (.tmp 16) (.seq (.reg [⟨(some 4), (.mv (.const (.slice none 0 0))), none⟩])
  .ret) .skip))
  (.seq (.reg [⟨(some 17), (.mv (.tmp 1)), none⟩, ⟨(some 18), (.raw (.call { callee := .builtin .min, args := #[(.tmp 17), (.const (.int .i64 32768))], argTypes := #[3, 3] })), none⟩, ⟨(some 1), (.mv (.tmp 18)), none⟩])
  (.seq (.reg [⟨(some 19), (.mv (.tmp 0)), none⟩, ⟨(some 20), (.mv (.tmp 1)), none⟩, ⟨(some 21), (.call 112 [(.tmp 19), (.tmp 20)]), none⟩, ⟨(some 22), (.makeSlice 1 8 [(.int .i64 0)] (.tmp 21) (.tmp 21)), none⟩, ⟨(some 5), (.mv (.tmp 22)), none⟩])
  (.seq (.seq (.reg [⟨(some 23), (.mv (.tmp 5)), none⟩, ⟨(some 24), (.len .sl (.tmp 23)), none⟩, ⟨(some 25), (.mv (.const (.int .i64 0))), none⟩])
  (.block 0 (.loop pc288_0)))
  (.seq (.reg [⟨(some 39), (.mv (.tmp 5)), none⟩, ⟨(some 4), (.mv (.tmp 39)), none⟩])
  .ret))))))⟩
theorem pf288_ok : pfOf Tryz.prog plan 288 = some pf288 := by kernel_rfl
theorem ok288 : fnOk Tryz.prog plan 288 = true := by kernel_rfl
/- 289 scantling/node.Put -/
noncomputable def pc289_0 : PCode := (.seq (.reg [⟨(some 55), (.bin .lss .int (.tmp 54) (.tmp 53)), none⟩])
  (.seq (.cond (.tmp 55) .skip (.exit 0))
  (.seq (.block 1 (.seq (.reg [⟨(some 56), (.mv (.tmp 54)), none⟩, ⟨(some 57), (.indexAddr (.sl 1) (.tmp 52) (.tmp 54)), none⟩, ⟨(some 58), (.load none (.tmp 57)), none⟩, ⟨(some 9), (.mv (.tmp 56)), none⟩, ⟨(some 10), (.mv (.tmp 58)), none⟩])
  (.seq (.reg [⟨(some 60), (.mv (.tmp 10)), none⟩, ⟨(some 61), (.build [(.int .i64 0), (.int .i64 0)] [(0, 1), (1, 1)] [(0, (.const (.int .i64 8))), (1, (.tmp 60))]), none⟩, ⟨(some 62), (.buildSlice 2 1 [(0, (.tmp 61))]), none⟩, ⟨(some 63), (.call 107 [(.tmp 62)]), none⟩, ⟨(some 59), (.mv (.tmp 63)), none⟩, ⟨(some 64), (.extract (.tmp 59) 0), none⟩, ⟨(some 65), (.extract (.tmp 59) 1), none⟩, ⟨(some 11), (.mv (.tmp 64)), none⟩, ⟨(some 12), (.mv (.tmp 65)), none⟩])
  (.seq (.reg [⟨(some 66), (.mv (.tmp 8)), none⟩, ⟨(some 67), (.mv (.tmp 9)), none⟩, ⟨(some 68), (.bin .mul .int (.tmp 67) (.const (.int .i64 8))), none⟩, ⟨(some 69), (.bin .add .int (.const (.int .i64 12)) (.tmp 68)), none⟩, ⟨(some 70), (.slice (.sl 1) (.tmp 66) (some (.tmp 69)) none none), none⟩, ⟨(some 71), (.mv (.tmp 11)), none⟩, ⟨(some 72), (.copy 1 false (.tmp 70) (.tmp 71)), none⟩])
  (.draw [(⟨(some 73), (.mv (.tmp 8)), none⟩, []), (⟨(some 74), (.mv (.tmp 5)), none⟩, []), (⟨(some 75), (.bin .mul .int (.tmp 74) (.const (.int .i64 8))), none⟩, []), (⟨(some 76), (.bin .add .int (.const (.int .i64 12)) (.tmp 75)), none⟩, []), (⟨(some 77), (.mv (.tmp 9)), none⟩, []), (⟨(some 78), (.mv (.tmp 4)), none⟩, []), (⟨(some 79), (.bin .mul .int (.tmp 77) (.tmp 78)), none⟩, []), (⟨(some 80), (.bin .add .int (.tmp 76) (.tmp 79)), none⟩, []), (⟨(some 82), (.fieldAddr 3 (.tmp 1)), none⟩, []), (⟨(some 84), (.mv (.tmp 9)), none⟩, []), (⟨(some 81), (.slice (.sl 1) (.tmp 73) (some (.tmp 80)) none none), none⟩, []), (⟨(some 83), (.load none (.tmp 82)), none⟩, []), (⟨(some 85), (.indexAddr (.sl 1) (.tmp 83) (.tmp 84)), none⟩, []), (⟨(some 86), (.load none (.tmp 85)), none⟩, []), (⟨(some 87), (.copy 1 true (.tmp 81) (.tmp 86)), none⟩, [])])))))
  (.reg [⟨(some 88), (.bin .add .int (.tmp 54) (.const (.int .i64 1))), none⟩, ⟨(some 54), (.mv (.tmp 88)), none⟩]))))
noncomputable def pf289 : PF := ⟨90, [.tmp 2, .tmp 3], (.seq (.reg [⟨(some 1), (.box 0 (.tmp 0)), none⟩, ⟨(some 2), (.mv (.const (.slice none 0 0))), none⟩, ⟨(some 3), (.mv (.const (.int .i64 0))), none⟩])
  (.seq (.seq (.reg [⟨(some 13), (.load (some 4) (.tmp 1)), none⟩, ⟨(some 14), (.call 315 [(.tmp 13)]), none⟩, ⟨(some 15), (.un .not (.tmp 14)), none⟩])
  (.cond (.tmp 15) (.seq (.reg [⟨(some 2), (.mv (.const (.slice none 0 0))), none⟩, ⟨(some 3), (.mv (.const (.int .i64 1))), none⟩])
  .ret) .skip))
  (.seq (.draw [(⟨(some 16), (.fieldAddr 0 (.tmp 1)), none⟩, []), (⟨(some 18), (.fieldAddr 1 (.tmp 1)), none⟩, []), (⟨(some 21), (.fieldAddr 0 (.tmp 1)), none⟩, []), (⟨(some 23), (.fieldAddr 1 (.tmp 1)), none⟩, []), (⟨(some 17), (.load none (.tmp 16)), none⟩, []), (⟨(some 19), (.load none (.tmp 18)), none⟩, []), (⟨(some 22), (.load none (.tmp 21)), none⟩, []), (⟨(some 24), (.load none (.tmp 23)), none⟩, []), (⟨(some 20), (.call 126 [(.tmp 17), (.tmp 19)]), none⟩, [⟨(some 22), (.load none (.tmp 21)), none⟩, ⟨(some 24), (.load none (.tmp 23)), none⟩]), (⟨(some 25), (.call 75 [(.tmp 22), (.tmp 24)]), none⟩, []), (⟨(some 4), (.mv (.tmp 20)), none⟩, []), (⟨(some 5), (.mv (.tmp 25)), none⟩, [])])
  (.seq (.draw [(⟨(some 27), (.fieldAddr 1 (.tmp 1)), none⟩, []), (⟨(some 31), (.fieldAddr 0 (.tmp 1)), none⟩, []), (⟨(some 34), (.fieldAddr 2 (.tmp 1)), none⟩, []), (⟨(some 38), (.mv (.tmp 4)), none⟩, []), (⟨(some 39), (.build [(.int .i64 0), (.int .i64 0)] [(0, 1), (1, 1)] [(0, (.const (.int .i64 2))), (1, (.tmp 38))]), none⟩, []), (⟨(some 40), (.mv (.tmp 5)), none⟩, []), (⟨(some 41), (.build [(.int .i64 0), (.int .i64 0)] [(0, 1), (1, 1)] [(0, (.const (.int .i64 2))), (1, (.tmp 40))]), none⟩, []), (⟨(some 42), (.build [(.int .i64 0), (.int .i64 0)] [(0, 1), (1, 1)] [(0, (.const (.int .i64 4)))]), none⟩, []), (⟨(some 28), (.load none (.tmp 27)), none⟩, []), (⟨(some 32), (.load none (.tmp 31)), none⟩, []), (⟨(some 33), (.build [(.int .i64 0), (.int .i64 0)] [(0, 1), (1, 1)] [(0, (.const (.int .i64 1))), (1, (.tmp 32))]), none⟩, []), (⟨(some 35), (.load none (.tmp 34)), none⟩, []), (⟨(some 36), (.len .sl (.tmp 35)), none⟩, []), (⟨(some 37), (.build [(.int .i64 0), (.int .i64 0)] [(0, 1), (1, 1)] [(0, (.const (.int .i64 2))), (1, (.tmp 36))]), none⟩, []), (⟨(some 29), (.call 316 [(.tmp 28)]), none⟩, [⟨(some 32), (.load none (.tmp 31)), none⟩, ⟨(some 35), (.load none (.tmp 34)), none⟩, ⟨(some 36), (.len .sl (.tmp 35)), none⟩]), (⟨(some 30), (.build [(.int .i64 0), (.int .i64 0)] [(0, 1), (1, 1)] [(0, (.const (.int .i64 1))), (1, (.tmp 29))]), none⟩, []), (⟨(some 43), (.buildSlice 2 6 [(0, (.tmp 30)), (1, (.tmp 33)), (2, (.tmp 37)), (3, (.tmp 39)), (4, (.tmp 41)), (5, (.tmp 42))]), none⟩, []), (⟨(some 44), (.call 107 [(.tmp 43)]), none⟩, []), (⟨(some 26), (.mv (.tmp 44)), none⟩, []), (⟨(some 45), (.extract (.tmp 26) 0), none⟩, []), (⟨(some 46), (.extract (.tmp 26) 1), none⟩, []), (⟨(some 6), (.mv (.tmp 45)), none⟩, []), (⟨(some 7), (.mv (.tmp 46)), none⟩, [])])
  (.seq (.reg [⟨(some 47), (.makeSlice 1 1 [(.int .u8 0)] (.const (.int .i64 244)) (.const (.int .i64 244))), none⟩, ⟨(some 8), (.mv (.tmp 47)), none⟩])
  (.seq (.reg [⟨(some 48), (.mv (.tmp 8)), none⟩, ⟨(some 49), (.mv (.tmp 6)), none⟩, ⟨(some 50), (.copy 1 false (.tmp 48) (.tmp 49)), none⟩])
  (.seq (.seq (.reg [⟨(some 51), (.fieldAddr 2 (.tmp 1)), none⟩, ⟨(some 52), (.load none (.tmp 51)), none⟩, ⟨(some 53), (.len .sl (.tmp 52)), none⟩, ⟨(some 54), (.mv (.const (.int .i64 0))), none⟩])
  (.block 0 (.loop pc289_0)))
  (.seq (.reg [⟨(some 89), (.mv (.tmp 8)), none⟩, ⟨(some 2), (.mv (.tmp 89)), none⟩, ⟨(some 3), (.mv (.const (.int .i64 0))), none⟩])
  .ret))))))))⟩
theorem pf289_ok : pfOf Tryz.prog plan 289 = some pf289 := by kernel_rfl
theorem ok289 : fnOk Tryz.prog plan 289 = true := by kernel_rfl
/- 290 (*scantling/alloc.queue).take -/
noncomputable def pf290 : PF := ⟨32, [.tmp 2, .tmp 3], (.seq (.reg [⟨(some 2), (.mv (.const (.int .i64 0))), none⟩, ⟨(some 3), (.mv (.const (.bool false))), none⟩])
  (.seq (.seq (.draw [(⟨(some 4), (.mv (.tmp 0)), none⟩, []), (⟨(some 5), (.nil (.tmp 4)), none⟩, []), (⟨(some 6), (.fieldAddr 1 (.tmp 5)), none⟩, []), (⟨(some 8), (.mv (.tmp 0)), none⟩, []), (⟨(some 9), (.nil (.tmp 8)), none⟩, []), (⟨(some 10), (.fieldAddr 0 (.tmp 9)), none⟩, []), (⟨(some 7), (.load none (.tmp 6)), none⟩, []), (⟨(some 11), (.load none (.tmp 10)), none⟩, []), (⟨(some 12), (.len .sl (.tmp 11)), none⟩, []), (⟨(some 13), (.bin .geq .int (.tmp 7) (.tmp 12)), none⟩, [])])
  (.cond (.tmp 13) (.seq (.reg [⟨(some 2), (.mv (.const (.int .i64 0))), none⟩, ⟨(some 3), (.mv (.const (.bool false))), none⟩])
  .ret) .skip))
  (.seq (.reg [⟨(some 14), (.mv (.tmp 0)), none⟩, ⟨(some 15), (.nil (.tmp 14)), none⟩, ⟨(some 16), (.fieldAddr 1 (.tmp 15)), none⟩, ⟨(some 17), (.load none (.tmp 16)), none⟩, ⟨(some 18), (.bin .add .int (.tmp 17) (.const (.int .i64 1))), none⟩, ⟨(some 19), (.nil (.tmp 14)), none⟩, ⟨(some 20), (.fieldAddr 1 (.tmp 19)), none⟩, ⟨none, (.store 1 (.tmp 20) (.tmp 18)), none⟩])
  (.seq (.draw [(⟨(some 21), (.mv (.tmp 0)), none⟩, []), (⟨(some 22), (.nil (.tmp 21)), none⟩, []), (⟨(some 23), (.fieldAddr 0 (.tmp 22)), none⟩, []), (⟨(some 25), (.mv (.tmp 0)), none⟩, []), (⟨(some 26), (.nil (.tmp 25)), none⟩, []), (⟨(some 27), (.fieldAddr 1 (.tmp 26)), none⟩, []), (⟨(some 24), (.load none (.tmp 23)), none⟩, []), (⟨(some 28), (.load none (.tmp 27)), none⟩, []), (⟨(some 29), (.bin .sub .int (.tmp 28) (.const (.int .i64 1))), none⟩, []), (⟨(some 30), (.indexAddr (.sl 1) (.tmp 24) (.tmp 29)), none⟩, []), (⟨(some 31), (.load none (.tmp 30)), none⟩, []), (⟨(some 2), (.mv (.tmp 31)), none⟩, []), (⟨(some 3), (.mv (.const (.bool true))), none⟩, [])])
  .ret))))⟩
theorem pf290_ok : pfOf Tryz.prog plan 290 = some pf290 := by kernel_rfl
theorem ok290 : fnOk Tryz.prog plan 290 = true := by kernel_rfl
/- 294 scantling/walk.Scan -/
noncomputable def pf294 : PF := ⟨23, [.cell 8 (some 5)], (.seq (.reg [⟨(some 8), (.alloc 0 [(.slice none 0 0), (.slice none 0 0), (.int .i64 0), (.int .i64 0), (.slice none 0 0)]), none⟩])
  (.seq (.reg [⟨(some 10), (.mv (.tmp 0)), none⟩, ⟨(some 11), (.mv (.tmp 2)), none⟩, ⟨(some 12), (.mv (.tmp 3)), none⟩, ⟨(some 13), (.build [(.slice none 0 0), (.slice none 0 0), (.int .i64 0), (.int .i64 0), (.slice none 0 0), (.pointer none), (.int .i64 0), (.int .i64 0), (.slice none 0 0), (.bool false)] [(0, 5), (5, 1), (6, 1), (7, 1), (8, 1), (9, 1)] [(1, (.tmp 10)), (2, (.tmp 11)), (3, (.tmp 12))]), none⟩, ⟨(some 14), (.box 0 (.tmp 13)), none⟩, ⟨(some 9), (.mv (.tmp 14)), none⟩])
  (.seq (.reg [⟨(some 15), (.mv (.tmp 9)), none⟩, ⟨(some 16), (.mv (.tmp 1)), none⟩, ⟨(some 17), (.call 323 []), none⟩, ⟨(some 18), (.call 322 [(.tmp 15), (.tmp 16), (.tmp 17)]), none⟩])
  (.seq (.reg [⟨(some 19), (.mv (.tmp 9)), none⟩, ⟨(some 20), (.nil (.tmp 19)), none⟩, ⟨(some 21), (.fieldAddr 0 (.tmp 20)), none⟩, ⟨(some 22), (.load (some 5) (.tmp 21)), none⟩, ⟨none, (.store 5 (.tmp 8) (.tmp 22)), none⟩])
  .ret))))⟩
theorem pf294_ok : pfOf Tryz.prog plan 294 = some pf294 := by kernel_rfl
theorem ok294 : fnOk Tryz.prog plan 294 = true := by kernel_rfl
/- 295 (*scantling/audit.damaged).faults -/
noncomputable def pc295_0 : PCode := (.seq (.reg [⟨(some 11), (.bin .lss .int (.tmp 10) (.tmp 9)), none⟩])
  (.seq (.cond (.tmp 11) .skip (.exit 0))
  (.seq (.block 1 (.seq (.reg [⟨(some 12), (.indexAddr (.sl 1) (.tmp 8) (.tmp 10)), none⟩, ⟨(some 13), (.load none (.tmp 12)), none⟩, ⟨(some 7), (.mv (.tmp 13)), none⟩])
  (.draw [(⟨(some 14), (.mv (.tmp 0)), none⟩, []), (⟨(some 15), (.mv (.tmp 0)), none⟩, []), (⟨(some 16), (.nil (.tmp 15)), none⟩, []), (⟨(some 17), (.fieldAddr 0 (.tmp 16)), none⟩, []), (⟨(some 19), (.mv (.tmp 1)), none⟩, []), (⟨(some 20), (.mv (.tmp 7)), none⟩, []), (⟨(some 18), (.load none (.tmp 17)), none⟩, []), (⟨(some 21), (.call 248 [(.tmp 19), (.tmp 20)]), none⟩, [⟨(some 18), (.load none (.tmp 17)), none⟩]), (⟨(some 22), (.buildSlice 3 1 [(0, (.tmp 21))]), none⟩, [⟨(some 18), (.load none (.tmp 17)), none⟩]), (⟨(some 23), (.append 3 24 false (.tmp 18) (.tmp 22)), none⟩, []), (⟨(some 24), (.nil (.tmp 14)), none⟩, []), (⟨(some 25), (.fieldAddr 0 (.tmp 24)), none⟩, []), (⟨none, (.store 1 (.tmp 25) (.tmp 23)), none⟩, [])])))
  (.reg [⟨(some 26), (.bin .add .int (.tmp 10) (.const (.int .i64 1))), none⟩, ⟨(some 10), (.mv (.tmp 26)), none⟩]))))
noncomputable def pf295 : PF := ⟨27, [], (.seq (.reg [⟨(some 8), (.mv (.tmp 2)), none⟩, ⟨(some 9), (.len .sl (.tmp 8)), none⟩, ⟨(some 10), (.mv (.const (.int .i64 0))), none⟩])
  (.block 0 (.loop pc295_0)))⟩
theorem pf295_ok : pfOf Tryz.prog plan 295 = some pf295 := by kernel_rfl
theorem ok295 : fnOk Tryz.prog plan 295 = true := by kernel_rfl
/- 300 scantling/walk.Whole -/
noncomputable def pf300 : PF := ⟨25, [.cell 8 (some 5), .tmp 9], (.seq (.reg [⟨(some 8), (.alloc 0 [(.slice none 0 0), (.slice none 0 0), (.int .i64 0), (.int .i64 0), (.slice none 0 0)]), none⟩, ⟨(some 9), (.mv (.const .nilIface)), none⟩])
  (.seq (.reg [⟨(some 12), (.mv (.tmp 0)), none⟩, ⟨(some 13), (.mv (.tmp 1)), none⟩, ⟨(some 14), (.mv (.tmp 2)), none⟩, ⟨(some 15), (.mv (.tmp 3)), none⟩, ⟨(some 16), (.call 294 [(.tmp 12), (.tmp 13), (.tmp 14), (.tmp 15)]), none⟩, ⟨(some 10), (.alloc 0 [(.slice none 0 0), (.slice none 0 0), (.int .i64 0), (.int .i64 0), (.slice none 0 0)]), none⟩, ⟨none, (.store 5 (.tmp 10) (.tmp 16)), none⟩])
  (.seq (.seq (.reg [⟨(some 17), (.fieldAddr 4 (.tmp 10)), none⟩, ⟨(some 18), (.load none (.tmp 17)), none⟩, ⟨(some 19), (.call 203 [(.tmp 18)]), none⟩, ⟨(some 11), (.mv (.tmp 19)), none⟩])
  (.seq (.reg [⟨(some 20), (.mv (.tmp 11)), none⟩, ⟨(some 21), (.bin .neq .ifc (.tmp 20) (.const .nilIface)), none⟩])
  (.cond (.tmp 21) (.seq (.reg [⟨(some 22), (.build [(.slice none 0 0), (.slice none 0 0), (.int .i64 0), (.int .i64 0), (.slice none 0 0)] [(0, 1), (1, 1), (2, 1), (3, 1), (4, 1)] []), none⟩, ⟨(some 23), (.mv (.tmp 11)), none⟩, ⟨none, (.store 5 (.tmp 8) (.tmp 22)), none⟩, ⟨(some 9), (.mv (.tmp 23)), none⟩])
  .ret) .skip)))
  (.seq (.reg [⟨(some 24), (.load (some 5) (.tmp 10)), none⟩, ⟨none, (.store 5 (.tmp 8) (.tmp 24)), none⟩, ⟨(some 9), (.mv (.const .nilIface)), none⟩])
  .ret))))⟩
theorem pf300_ok : pfOf Tryz.prog plan 300 = some pf300 := by kernel_rfl
theorem ok300 : fnOk Tryz.prog plan 300 = true := by kernel_rfl
/- 301 scantling/chart.all -/
noncomputable def pc301_0 : PCode := (.seq (.reg [⟨(some 25), (.bin .lss .int (.tmp 24) (.tmp 23)), none⟩])
  (.seq (.cond (.tmp 25) .skip (.exit 0))
  (.seq (.block 1 (.seq (.reg [⟨(some 26), (.indexAddr (.sl 5) (.tmp 22) (.tmp 24)), none⟩, ⟨(some 27), (.load (some 5) (.tmp 26)), none⟩, ⟨(some 14), (.alloc 0 (List.replicate 5 (.int .i64 0))), none⟩, ⟨none, (.store 5 (.tmp 14) (.tmp 27)), none⟩])
  (.seq (.reg [⟨(some 28), (.mv (.tmp 3)), none⟩, ⟨(some 29), (.raw (.call { callee := .builtin .min, args := #[(.tmp 28), (.const (.int .i64 960))], argTypes := #[3, 3] })), none⟩, ⟨(some 15), (.mv (.tmp 29)), none⟩])
  (.seq (.reg [⟨(some 31), (.load (some 5) (.tmp 14)), none⟩, ⟨(some 32), (.mv (.tmp 0)), none⟩, ⟨(some 33), (.mv (.tmp 15)), none⟩, ⟨(some 34), (.call 327 [(.tmp 31), (.tmp 32), (.tmp 33)]), none⟩, ⟨(some 30), (.mv (.tmp 34)), none⟩, ⟨(some 35), (.extract (.tmp 30) 0), none⟩, ⟨(some 36), (.extract (.tmp 30) 1), none⟩, ⟨(some 16), (.mv (.tmp 35)), none⟩, ⟨(some 17), (.mv (.tmp 36)), none⟩])
  (.seq (.seq (.reg [⟨(some 37), (.mv (.tmp 17)), none⟩, ⟨(some 38), (.bin .neq .ifc (.tmp 37) (.const .nilIface)), none⟩])
  (.cond (.tmp 38) (.seq (.reg [⟨(some 39), (.mv (.tmp 17)), none⟩, ⟨(some 10), (.mv (.const (.slice none 0 0))), none⟩, ⟨(some 11), (.mv (.tmp 39)), none⟩])
  .ret) .skip))
  (.seq (.reg [⟨(some 40), (.mv (.tmp 12)), none⟩, ⟨(some 41), (.mv (.tmp 16)), none⟩, ⟨(some 42), (.buildSlice 1 1 [(0, (.tmp 41))]), none⟩, ⟨(some 43), (.append 1 24 false (.tmp 40) (.tmp 42)), none⟩, ⟨(some 12), (.mv (.tmp 43)), none⟩])
  (.reg [⟨(some 44), (.mv (.tmp 3)), none⟩, ⟨(some 45), (.mv (.tmp 15)), none⟩, ⟨(some 46), (.bin .sub .int (.tmp 44) (.tmp 45)), none⟩, ⟨(some 3), (.mv (.tmp 46)), none⟩])))))))
  (.reg [⟨(some 47), (.bin .add .int (.tmp 24) (.const (.int .i64 1))), none⟩, ⟨(some 24), (.mv (.tmp 47)), none⟩]))))
noncomputable def pf301 : PF := ⟨72, [.tmp 10, .tmp 11], (.seq (.reg [⟨(some 10), (.mv (.const (.slice none 0 0))), none⟩, ⟨(some 11), (.mv (.const .nilIface)), none⟩])
  (.seq (.reg [⟨(some 12), (.mv (.const (.slice none 0 0))), none⟩])
  (.seq (.seq (.reg [⟨(some 22), (.mv (.tmp 1)), none⟩, ⟨(some 23), (.len .sl (.tmp 22)), none⟩, ⟨(some 24), (.mv (.const (.int .i64 0))), none⟩])
  (.block 0 (.loop pc301_0)))
  (.seq (.reg [⟨(some 49), (.mv (.tmp 0)), none⟩, ⟨(some 50), (.mv (.tmp 2)), none⟩, ⟨(some 51), (.mv (.tmp 4)), none⟩, ⟨(some 52), (.call 300 [(.tmp 49), (.tmp 50), (.const (.int .i64 5)), (.tmp 51)]), none⟩, ⟨(some 48), (.mv (.tmp 52)), none⟩, ⟨(some 53), (.extract (.tmp 48) 0), none⟩, ⟨(some 54), (.extract (.tmp 48) 1), none⟩, ⟨(some 18), (.alloc 0 [(.slice none 0 0), (.slice none 0 0), (.int .i64 0), (.int .i64 0), (.slice none 0 0)]), none⟩, ⟨none, (.store 5 (.tmp 18) (.tmp 53)), none⟩, ⟨(some 19), (.mv (.tmp 54)), none⟩])
  (.seq (.seq (.reg [⟨(some 55), (.mv (.tmp 19)), none⟩, ⟨(some 56), (.bin .neq .ifc (.tmp 55) (.const .nilIface)), none⟩])
  (.cond (.tmp 56) (.seq (.reg [⟨(some 57), (.mv (.tmp 19)), none⟩, ⟨(some 10), (.mv (.const (.slice none 0 0))), none⟩, ⟨(some 11), (.mv (.tmp 57)), none⟩])
  .ret) .skip))
  (.seq (.reg [⟨(some 59), (.mv (.tmp 12)), none⟩, ⟨(some 60), (.fieldAddr 0 (.tmp 18)), none⟩, ⟨(some 61), (.load none (.tmp 60)), none⟩, ⟨(some 62), (.call 328 [(.tmp 59), (.tmp 61)]), none⟩, ⟨(some 58), (.mv (.tmp 62)), none⟩, ⟨(some 63), (.extract (.tmp 58) 0), none⟩, ⟨(some 64), (.extract (.tmp 58) 1), none⟩, ⟨(some 20), (.mv (.tmp 63)), none⟩, ⟨(some 21), (.mv (.tmp 64)), none⟩])
  (.seq (.seq (.reg [⟨(some 65), (.mv (.tmp 21)), none⟩, ⟨(some 66), (.bin .neq .int (.tmp 65) (.const (.int .i64 0))), none⟩])
  (.cond (.tmp 66) (.seq (.reg [⟨(some 67), (.mv (.tmp 2)), none⟩, ⟨(some 68), (.mv (.tmp 21)), none⟩, ⟨(some 69), (.iface 49 (.tmp 68)), none⟩, ⟨(some 70), (.call 64 [(.tmp 67), (.tmp 69)]), none⟩, ⟨(some 10), (.mv (.const (.slice none 0 0))), none⟩, ⟨(some 11), (.mv (.tmp 70)), none⟩])
  .ret) .skip))
  (.seq (.reg [⟨(some 71), (.mv (.tmp 20)), none⟩, ⟨(some 10), (.mv (.tmp 71)), none⟩, ⟨(some 11), (.mv (.const .nilIface)), none⟩])
  .ret))))))))⟩
theorem pf301_ok : pfOf Tryz.prog plan 301 = some pf301 := by kernel_rfl
theorem ok301 : fnOk Tryz.prog plan 301 = true := by kernel_rfl
/- 291 scantling/crc.run -/
noncomputable def pc291_0 : PCode := (.seq (.reg [⟨(some 12), (.bin .lss .int (.tmp 11) (.tmp 10)), none⟩])
  (.seq (.cond (.tmp 12) .skip (.exit 0))
  (.seq (.block 1 (.seq (.reg [⟨(some 13), (.indexAddr (.sl 1) (.tmp 9) (.tmp 11)), none⟩, ⟨(some 14), (.load none (.tmp 13)), none⟩, ⟨(some 7), (.mv (.tmp 14)), none⟩])
  (.seq (.reg [⟨(some 15), (.mv (.tmp 0)), none⟩, ⟨(some 16), (.mv (.tmp 7)), none⟩, ⟨(some 17), (.cint .u32 (.tmp 16)), none⟩, ⟨(some 18), (.bin .xor .int (.tmp 15) (.tmp 17)), none⟩, ⟨(some 0), (.mv (.tmp 18)), none⟩])
  (.seq (.reg [⟨(some 19), (.mv (.tmp 0)), none⟩, ⟨(some 20), (.bin .shr .int (.tmp 19) (.const (.int .u64 4))), none⟩, ⟨(some 21), (.mv (.tmp 0)), none⟩, ⟨(some 22), (.bin .and .int (.tmp 21) (.const (.int .u32 15))), none⟩, ⟨(some 23), (.indexAddr (.arr 16 1) (.tmp 5) (.tmp 22)), none⟩, ⟨(some 24), (.load none (.tmp 23)), none⟩, ⟨(some 25), (.bin .xor .int (.tmp 20) (.tmp 24)), none⟩, ⟨(some 0), (.mv (.tmp 25)), none⟩])
  (.reg [⟨(some 26), (.mv (.tmp 0)), none⟩, ⟨(some 27), (.bin .shr .int (.tmp 26) (.const (.int .u64 4))), none⟩, ⟨(some 28), (.mv (.tmp 0)), none⟩, ⟨(some 29), (.bin .and .int (.tmp 28) (.const (.int .u32 15))), none⟩, ⟨(some 30), (.indexAddr (.arr 16 1) (.tmp 5) (.tmp 29)), none⟩, ⟨(some 31), (.load none (.tmp 30)), none⟩, ⟨(some 32), (.bin .xor .int (.tmp 27) (.tmp 31)), none⟩, ⟨(some 0), (.mv (.tmp 32)), none⟩])))))
  (.reg [⟨(some 33), (.bin .add .int (.tmp 11) (.const (.int .i64 1))), none⟩, ⟨(some 11), (.mv (.tmp 33)), none⟩]))))
noncomputable def pf291 : PF := ⟨35, [.tmp 4], (.seq (.reg [⟨(some 4), (.mv (.const (.int .u32 0))), none⟩])
  (.seq (.reg [⟨(some 8), (.call 317 []), none⟩, ⟨(some 5), (.alloc 1 (List.replicate 16 (.int .u32 0))), none⟩, ⟨none, (.store 16 (.tmp 5) (.tmp 8)), none⟩])
  (.seq (.seq (.reg [⟨(some 9), (.mv (.tmp 1)), none⟩, ⟨(some 10), (.len .sl (.tmp 9)), none⟩, ⟨(some 11), (.mv (.const (.int .i64 0))), none⟩])
  (.block 0 (.loop pc291_0)))
  (.seq (.reg [⟨(some 34), (.mv (.tmp 0)), none⟩, ⟨(some 4), (.mv (.tmp 34)), none⟩])
  .ret))))⟩
theorem pf291_ok : pfOf Tryz.prog plan 291 = some pf291 := by kernel_rfl
theorem ok291 : fnOk Tryz.prog plan 291 = true := by kernel_rfl
/- 302 scantling/slots.Read$1 -/
noncomputable def pf302 : PF := ⟨8, [.tmp 1], (.seq (.reg [⟨(some 1), (.mv (.const (.string (bs [])))), none⟩])
  (.seq (.reg [⟨(some 3), (.load none (.tmp 0)), none⟩, ⟨(some 4), (.slice .str (.tmp 3) none (some (.const (.int .i64 16))) none), none⟩, ⟨(some 2), (.mv (.tmp 4)), none⟩])
  (.seq (.reg [⟨(some 5), (.load none (.tmp 0)), none⟩, ⟨(some 6), (.slice .str (.tmp 5) (some (.const (.int .i64 16))) none none), none⟩, ⟨none, (.store 1 (.tmp 0) (.tmp 6)), none⟩])
  (.seq (.reg [⟨(some 7), (.mv (.tmp 2)), none⟩, ⟨(some 1), (.mv (.tmp 7)), none⟩])
  .ret))))⟩
theorem pf302_ok : pfOf Tryz.prog plan 302 = some pf302 := by kernel_rfl
theorem ok302 : fnOk Tryz.prog plan 302 = true := by kernel_rfl
/- 303 scantling/value.read -/
noncomputable def pc303_0 : PCode := (.seq (.reg [⟨(some 15), (.bin .lss .int (.tmp 14) (.tmp 13)), none⟩])
  (.seq (.cond (.tmp 15) .skip (.exit 0))
  (.seq (.block 1 (.seq (.reg [⟨(some 16), (.indexAddr (.sl 3) (.tmp 12) (.tmp 14)), none⟩, ⟨(some 17), (.load (some 3) (.tmp 16)), none⟩, ⟨(some 9), (.alloc 0 [(.int .i64 0), (.int .i64 0), (.int .i64 0)]), none⟩, ⟨none, (.store 3 (.tmp 9) (.tmp 17)), none⟩])
  (.seq (.reg [⟨(some 18), (.mv (.tmp 6)), none⟩, ⟨(some 19), (.fieldAddr 0 (.tmp 9)), none⟩, ⟨(some 20), (.load none (.tmp 19)), none⟩, ⟨(some 21), (.buildSlice 1 1 [(0, (.tmp 20))]), none⟩, ⟨(some 22), (.append 1 8 false (.tmp 18) (.tmp 21)), none⟩, ⟨(some 6), (.mv (.tmp 22)), none⟩])
  (.reg [⟨(some 23), (.mv (.tmp 7)), none⟩, ⟨(some 24), (.fieldAddr 0 (.tmp 9)), none⟩, ⟨(some 25), (.load none (.tmp 24)), none⟩, ⟨(some 26), (.bin .add .int (.tmp 23) (.tmp 25)), none⟩, ⟨(some 7), (.mv (.tmp 26)), none⟩]))))
  (.reg [⟨(some 27), (.bin .add .int (.tmp 14) (.const (.int .i64 1))), none⟩, ⟨(some 14), (.mv (.tmp 27)), none⟩]))))
noncomputable def pf303 : PF := ⟨54, [.tmp 4, .tmp 5], (.seq (.reg [⟨(some 4), (.mv (.const (.slice none 0 0))), none⟩, ⟨(some 5), (.mv (.const (.int .i64 0))), none⟩])
  (.seq (.reg [⟨(some 6), (.mv (.const (.slice none 0 0))), none⟩])
  (.seq (.reg [⟨(some 7), (.mv (.const (.int .i64 0))), none⟩])
  (.seq (.seq (.reg [⟨(some 12), (.mv (.tmp 0)), none⟩, ⟨(some 13), (.len .sl (.tmp 12)), none⟩, ⟨(some 14), (.mv (.const (.int .i64 0))), none⟩])
  (.block 0 (.loop pc303_0)))
  (.seq (.seq (.reg [⟨(some 28), (.mv (.tmp 1)), none⟩, ⟨(some 29), (.len .str (.tmp 28)), none⟩, ⟨(some 30), (.mv (.tmp 7)), none⟩, ⟨(some 31), (.bin .neq .int (.tmp 29) (.tmp 30)), none⟩])
  (.cond (.tmp 31) (.seq (.reg [⟨(some 32), (.mv (.tmp 0)), none⟩, ⟨(some 33), (.len .sl (.tmp 32)), none⟩, ⟨(some 34), (.makeSlice 1 8 [(.int .i64 0)] (.tmp 33) (.tmp 33)), none⟩, ⟨(some 4), (.mv (.tmp 34)), none⟩, ⟨(some 5), (.mv (.const (.int .i64 7))), none⟩])
  .ret) .skip))
  (.seq (.reg [⟨(some 36), (.mv (.tmp 1)), none⟩, ⟨(some 37), (.cbytes (.tmp 36)), none⟩, ⟨(some 38), (.mv (.tmp 6)), none⟩, ⟨(some 39), (.call 262 [(.tmp 37), (.tmp 38)]), none⟩, ⟨(some 35), (.mv (.tmp 39)), none⟩, ⟨(some 40), (.extract (.tmp 35) 0), none⟩, ⟨(some 41), (.extract (.tmp 35) 1), none⟩, ⟨(some 10), (.mv (.tmp 40)), none⟩, ⟨(some 11), (.mv (.tmp 41)), none⟩])
  (.seq (.seq (.reg [⟨(some 42), (.mv (.tmp 11)), none⟩, ⟨(some 43), (.bin .neq .int (.tmp 42) (.const (.int .i64 0))), none⟩, ⟨(some 44), (.mv (.tmp 43)), none⟩, ⟨(some 45), (.mv (.tmp 0)), (some ((some 44), false))⟩, ⟨(some 46), (.mv (.tmp 10)), (some ((some 44), false))⟩, ⟨(some 47), (.call 166 [(.tmp 45), (.tmp 46)]), (some ((some 44), false))⟩, ⟨(some 48), (.bin .eql .str (.tmp 47) (.const (.string (bs [])))), (some ((some 44), false))⟩, ⟨(some 49), (.raw (.pick (.tmp 44) (.const (.bool true)) (.tmp 48))), none⟩])
  (.cond (.tmp 49) (.seq (.reg [⟨(some 50), (.mv (.tmp 0)), none⟩, ⟨(some 51), (.len .sl (.tmp 50)), none⟩, ⟨(some 52), (.makeSlice 1 8 [(.int .i64 0)] (.tmp 51) (.tmp 51)), none⟩, ⟨(some 4), (.mv (.tmp 52)), none⟩, ⟨(some 5), (.mv (.const (.int .i64 2))), none⟩])
  .ret) .skip))
  (.seq (.reg [⟨(some 53), (.mv (.tmp 10)), none⟩, ⟨(some 4), (.mv (.tmp 53)), none⟩, ⟨(some 5), (.mv (.const (.int .i64 0))), none⟩])
  .ret))))))))⟩
theorem pf303_ok : pfOf Tryz.prog plan 303 = some pf303 := by kernel_rfl
theorem ok303 : fnOk Tryz.prog plan 303 = true := by kernel_rfl
/- 304 slices.IndexFunc[[]byte,byte] -/
noncomputable def pc304_0 : PCode := (.seq (.reg [⟨(some 9), (.bin .lss .int (.tmp 8) (.tmp 7)), none⟩])
  (.seq (.cond (.tmp 9) .skip (.exit 0))
  (.seq (.block 1 (.seq (.reg [⟨(some 10), (.mv (.tmp 8)), none⟩, ⟨(some 5), (.mv (.tmp 10)), none⟩])
  (.seq (.reg [⟨(some 11), (.mv (.tmp 1)), none⟩, ⟨(some 12), (.mv (.tmp 0)), none⟩, ⟨(some 13), (.mv (.tmp 5)), none⟩, ⟨(some 14), (.indexAddr (.sl 1) (.tmp 12) (.tmp 13)), none⟩, ⟨(some 15), (.load none (.tmp 14)), none⟩, ⟨(some 16), (.callv (.tmp 11) [(.tmp 15)]), none⟩])
  (.cond (.tmp 16) (.seq (.reg [⟨(some 17), (.mv (.tmp 5)), none⟩, ⟨(some 4), (.mv (.tmp 17)), none⟩])
  .ret) .skip))))
  (.reg [⟨(some 18), (.bin .add .int (.tmp 8) (.const (.int .i64 1))), none⟩, ⟨(some 8), (.mv (.tmp 18)), none⟩]))))
noncomputable def pf304 : PF := ⟨19, [.tmp 4], (.seq (.reg [⟨(some 4), (.mv (.const (.int .i64 0))), none⟩])
  (.seq (.seq (.reg [⟨(some 6), (.mv (.tmp 0)), none⟩, ⟨(some 7), (.len .sl (.tmp 6)), none⟩, ⟨(some 8), (.mv (.const (.int .i64 0))), none⟩])
  (.block 0 (.loop pc304_0)))
  (.seq (.reg [⟨(some 4), (.mv (.const (.int .i64 (-1)))), none⟩])
  .ret)))⟩
theorem pf304_ok : pfOf Tryz.prog plan 304 = some pf304 := by kernel_rfl
theorem ok304 : fnOk Tryz.prog plan 304 = true := by kernel_rfl
/- 315 scantling/node.Right -/
noncomputable def pc315_0 : PCode := (.seq (.reg [⟨(some 48), (.bin .lss .int (.tmp 47) (.tmp 46)), none⟩])
  (.seq (.cond (.tmp 48) .skip (.exit 0))
  (.seq (.block 1 (.seq (.reg [⟨(some 49), (.mv (.tmp 47)), none⟩, ⟨(some 50), (.indexAddr (.sl 1) (.tmp 45) (.tmp 47)), none⟩, ⟨(some 51), (.load none (.tmp 50)), none⟩, ⟨(some 4), (.mv (.tmp 49)), none⟩, ⟨(some 5), (.mv (.tmp 51)), none⟩])
  (.seq (.reg [⟨(some 52), (.fieldAddr 2 (.tmp 1)), none⟩, ⟨(some 53), (.load none (.tmp 52)), none⟩, ⟨(some 54), (.mv (.tmp 4)), none⟩, ⟨(some 55), (.slice (.sl 1) (.tmp 53) none (some (.tmp 54)) none), none⟩, ⟨(some 56), (.mv (.tmp 5)), none⟩, ⟨(some 57), (.call 209 [(.tmp 55), (.tmp 56)]), none⟩, ⟨(some 58), (.bin .neq .int (.tmp 57) (.const (.int .i64 0))), none⟩, ⟨(some 59), (.mv (.tmp 58)), none⟩, ⟨(some 60), (.fieldAddr 3 (.tmp 1)), (some ((some 59), false))⟩, ⟨(some 61), (.load none (.tmp 60)), (some ((some 59), false))⟩, ⟨(some 62), (.mv (.tmp 4)), (some ((some 59), false))⟩, ⟨(some 63), (.indexAddr (.sl 1) (.tmp 61) (.tmp 62)), (some ((some 59), false))⟩, ⟨(some 64), (.load none (.tmp 63)), (some ((some 59), false))⟩, ⟨(some 65), (.len .str (.tmp 64)), (some ((some 59), false))⟩, ⟨(some 66), (.mv (.tmp 3)), (some ((some 59), false))⟩, ⟨(some 67), (.bin .neq .int (.tmp 65) (.tmp 66)), (some ((some 59), false))⟩, ⟨(some 68), (.raw (.pick (.tmp 59) (.const (.bool true)) (.tmp 67))), none⟩])
  (.cond (.tmp 68) (.seq (.reg [⟨(some 2), (.mv (.const (.bool false))), none⟩])
  .ret) .skip))))
  (.reg [⟨(some 69), (.bin .add .int (.tmp 47) (.const (.int .i64 1))), none⟩, ⟨(some 47), (.mv (.tmp 69)), none⟩]))))
noncomputable def pf315 : PF := ⟨70, [.tmp 2], (.seq (.reg [⟨(some 1), (.box 0 (.tmp 0)), none⟩, ⟨(some 2), (.mv (.const (.bool false))), none⟩])
  (.seq (.reg [⟨(some 6), (.fieldAddr 0 (.tmp 1)), none⟩, ⟨(some 7), (.load none (.tmp 6)), none⟩, ⟨(some 8), (.fieldAddr 1 (.tmp 1)), none⟩, ⟨(some 9), (.load none (.tmp 8)), none⟩, ⟨(some 10), (.call 126 [(.tmp 7), (.tmp 9)]), none⟩, ⟨(some 3), (.mv (.tmp 10)), none⟩])
  (.seq (.seq (.draw [(⟨(some 11), (.mv (.tmp 3)), none⟩, []), (⟨(some 12), (.bin .eql .int (.tmp 11) (.const (.int .i64 0))), none⟩, []), (⟨(some 13), (.mv (.tmp 12)), none⟩, []), (⟨(some 14), (.fieldAddr 2 (.tmp 1)), (some ((some 13), false))⟩, []), (⟨(some 17), (.fieldAddr 0 (.tmp 1)), (some ((some 13), false))⟩, []), (⟨(some 19), (.fieldAddr 1 (.tmp 1)), (some ((some 13), false))⟩, []), (⟨(some 15), (.load none (.tmp 14)), (some ((some 13), false))⟩, []), (⟨(some 16), (.len .sl (.tmp 15)), (some ((some 13), false))⟩, []), (⟨(some 18), (.load none (.tmp 17)), (some ((some 13), false))⟩, []), (⟨(some 20), (.load none (.tmp 19)), (some ((some 13), false))⟩, []), (⟨(some 21), (.call 75 [(.tmp 18), (.tmp 20)]), (some ((some 13), false))⟩, [⟨(some 15), (.load none (.tmp 14)), (some ((some 13), false))⟩, ⟨(some 16), (.len .sl (.tmp 15)), (some ((some 13), false))⟩]), (⟨(some 22), (.bin .gtr .int (.tmp 16) (.tmp 21)), (some ((some 13), false))⟩, []), (⟨(some 23), (.raw (.pick (.tmp 13) (.const (.bool true)) (.tmp 22))), none⟩, []), (⟨(some 24), (.mv (.tmp 23)), none⟩, []), (⟨(some 25), (.fieldAddr 3 (.tmp 1)), (some ((some 24), false))⟩, []), (⟨(some 28), (.fieldAddr 2 (.tmp 1)), (some ((some 24), false))⟩, []), (⟨(some 26), (.load none (.tmp 25)), (some ((some 24), false))⟩, []), (⟨(some 27), (.len .sl (.tmp 26)), (some ((some 24), false))⟩, []), (⟨(some 29), (.load none (.tmp 28)), (some ((some 24), false))⟩, []), (⟨(some 30), (.len .sl (.tmp 29)), (some ((some 24), false))⟩, []), (⟨(some 31), (.bin .neq .int (.tmp 27) (.tmp 30)), (some ((some 24), false))⟩, []), (⟨(some 32), (.raw (.pick (.tmp 24) (.const (.bool true)) (.tmp 31))), none⟩, []), (⟨(some 33), (.mv (.tmp 32)), none⟩, []), (⟨(some 34), (.fieldAddr 1 (.tmp 1)), (some ((some 33), false))⟩, []), (⟨(some 35), (.load none (.tmp 34)), (some ((some 33), false))⟩, []), (⟨(some 36), (.un .not (.tmp 35)), (some ((some 33), false))⟩, []), (⟨(some 37), (.mv (.tmp 36)), (some ((some 33), false))⟩, []), (⟨(some 38), (.fieldAddr 2 (.tmp 1)), (some ((some 37), true))⟩, []), (⟨(some 39), (.load none (.tmp 38)), (some ((some 37), true))⟩, []), (⟨(some 40), (.len .sl (.tmp 39)), (some ((some 37), true))⟩, []), (⟨(some 41), (.bin .eql .int (.tmp 40) (.const (.int .i64 0))), (some ((some 37), true))⟩, []), (⟨(some 42), (.raw (.pick (.tmp 37) (.tmp 41) (.const (.bool false)))), (some ((some 33), false))⟩, []), (⟨(some 43), (.raw (.pick (.tmp 33) (.const (.bool true)) (.tmp 42))), none⟩, [])])
  (.cond (.tmp 43) (.seq (.reg [⟨(some 2), (.mv (.const (.bool false))), none⟩])
  .ret) .skip))
  (.seq (.seq (.reg [⟨(some 44), (.fieldAddr 2 (.tmp 1)), none⟩, ⟨(some 45), (.load none (.tmp 44)), none⟩, ⟨(some 46), (.len .sl (.tmp 45)), none⟩, ⟨(some 47), (.mv (.const (.int .i64 0))), none⟩])
  (.block 0 (.loop pc315_0)))
  (.seq (.reg [⟨(some 2), (.mv (.const (.bool true))), none⟩])
  .ret)))))⟩
theorem pf315_ok : pfOf Tryz.prog plan 315 = some pf315 := by kernel_rfl
theorem ok315 : fnOk Tryz.prog plan 315 = true := by kernel_rfl
/- 316 scantling/node.flag -/
noncomputable def pf316 : PF := ⟨4, [.tmp 2], (.seq (.reg [⟨(some 2), (.mv (.const (.int .i64 0))), none⟩])
  (.seq (.seq (.reg [⟨(some 3), (.mv (.tmp 0)), none⟩])
  (.cond (.tmp 3) (.seq (.reg [⟨(some 2), (.mv (.const (.int .i64 1))), none⟩])
  .ret) .skip))
  (.seq (.reg [⟨(some 2), (.mv (.const (.int .i64 0))), none⟩])
  .ret)))⟩
theorem pf316_ok : pfOf Tryz.prog plan 316 = some pf316 := by kernel_rfl
theorem ok316 : fnOk Tryz.prog plan 316 = true := by kernel_rfl
/- 322 (*scantling/walk.walker).visit -/
noncomputable def pc322_0 : PCode := (.seq (.reg [⟨(some 74), (.bin .lss .int (.tmp 73) (.tmp 72)), none⟩])
  (.seq (.cond (.tmp 74) .skip (.exit 0))
  (.seq (.block 1 (.seq (.reg [⟨(some 75), (.mv (.tmp 73)), none⟩, ⟨(some 76), (.indexAddr (.sl 2) (.tmp 71) (.tmp 73)), none⟩, ⟨(some 77), (.load (some 2) (.tmp 76)), none⟩, ⟨(some 9), (.alloc 0 [(.int .i64 0), (.int .i64 0)]), none⟩, ⟨(some 8), (.mv (.tmp 75)), none⟩, ⟨none, (.store 2 (.tmp 9) (.tmp 77)), none⟩])
  (.seq (.draw [(⟨(some 78), (.mv (.tmp 0)), none⟩, []), (⟨(some 79), (.mv (.tmp 1)), none⟩, []), (⟨(some 80), (.fieldAddr 3 (.tmp 6)), none⟩, []), (⟨(some 82), (.mv (.tmp 8)), none⟩, []), (⟨(some 81), (.load none (.tmp 80)), none⟩, []), (⟨(some 83), (.indexAddr (.sl 1) (.tmp 81) (.tmp 82)), none⟩, []), (⟨(some 84), (.load none (.tmp 83)), none⟩, []), (⟨(some 85), (.load (some 2) (.tmp 9)), none⟩, []), (⟨(some 86), (.call 341 [(.tmp 78), (.tmp 79), (.tmp 84), (.tmp 85)]), none⟩, [])])
  (.seq (.reg [⟨(some 87), (.mv (.tmp 0)), none⟩, ⟨(some 88), (.nil (.tmp 87)), none⟩, ⟨(some 89), (.fieldAddr 9 (.tmp 88)), none⟩, ⟨(some 90), (.load none (.tmp 89)), none⟩])
  (.cond (.tmp 90) (.exit 0) .skip)))))
  (.reg [⟨(some 91), (.bin .add .int (.tmp 73) (.const (.int .i64 1))), none⟩, ⟨(some 73), (.mv (.tmp 91)), none⟩]))))
noncomputable def pf322 : PF := ⟨106, [], (.seq (.reg [⟨(some 5), (.box 0 (.tmp 2)), none⟩])
  (.seq (.seq (.draw [(⟨(some 10), (.mv (.tmp 0)), none⟩, []), (⟨(some 11), (.nil (.tmp 10)), none⟩, []), (⟨(some 12), (.fieldAddr 0 (.tmp 11)), none⟩, []), (⟨(some 13), (.fieldAddr 3 (.tmp 12)), none⟩, []), (⟨(some 15), (.mv (.tmp 0)), none⟩, []), (⟨(some 16), (.nil (.tmp 15)), none⟩, []), (⟨(some 17), (.fieldAddr 7 (.tmp 16)), none⟩, []), (⟨(some 14), (.load none (.tmp 13)), none⟩, []), (⟨(some 18), (.load none (.tmp 17)), none⟩, []), (⟨(some 19), (.bin .geq .int (.tmp 14) (.tmp 18)), none⟩, [])])
  (.cond (.tmp 19) (.seq (.reg [⟨(some 20), (.mv (.tmp 0)), none⟩, ⟨(some 21), (.mv (.tmp 1)), none⟩, ⟨(some 22), (.iface 49 (.const (.int .i64 12))), none⟩, ⟨(some 23), (.call 64 [(.tmp 21), (.tmp 22)]), none⟩, ⟨(some 24), (.call 337 [(.tmp 20), (.tmp 23)]), none⟩])
  (.seq (.reg [⟨(some 25), (.mv (.tmp 0)), none⟩, ⟨(some 26), (.nil (.tmp 25)), none⟩, ⟨(some 27), (.fieldAddr 9 (.tmp 26)), none⟩, ⟨none, (.store 1 (.tmp 27) (.const (.bool true))), none⟩])
  .ret)) .skip))
  (.seq (.reg [⟨(some 29), (.mv (.tmp 0)), none⟩, ⟨(some 30), (.mv (.tmp 1)), none⟩, ⟨(some 31), (.load (some 2) (.tmp 5)), none⟩, ⟨(some 32), (.call 338 [(.tmp 29), (.tmp 30), (.tmp 31)]), none⟩, ⟨(some 28), (.mv (.tmp 32)), none⟩, ⟨(some 33), (.extract (.tmp 28) 0), none⟩, ⟨(some 34), (.extract (.tmp 28) 1), none⟩, ⟨(some 6), (.alloc 0 [(.int .i64 0), (.bool false), (.slice none 0 0), (.slice none 0 0)]), none⟩, ⟨none, (.store 4 (.tmp 6) (.tmp 33)), none⟩, ⟨(some 7), (.mv (.tmp 34)), none⟩])
  (.seq (.seq (.reg [⟨(some 35), (.mv (.tmp 7)), none⟩, ⟨(some 36), (.bin .neq .ifc (.tmp 35) (.const .nilIface)), none⟩])
  (.cond (.tmp 36) (.seq (.reg [⟨(some 37), (.mv (.tmp 0)), none⟩, ⟨(some 38), (.mv (.tmp 7)), none⟩, ⟨(some 39), (.call 337 [(.tmp 37), (.tmp 38)]), none⟩])
  .ret) .skip))
  (.seq (.reg [⟨(some 40), (.mv (.tmp 0)), none⟩, ⟨(some 41), (.mv (.tmp 0)), none⟩, ⟨(some 42), (.nil (.tmp 41)), none⟩, ⟨(some 43), (.fieldAddr 0 (.tmp 42)), none⟩, ⟨(some 44), (.fieldAddr 1 (.tmp 43)), none⟩, ⟨(some 45), (.load none (.tmp 44)), none⟩, ⟨(some 46), (.mv (.tmp 1)), none⟩, ⟨(some 47), (.buildSlice 1 1 [(0, (.tmp 46))]), none⟩, ⟨(some 48), (.append 1 8 false (.tmp 45) (.tmp 47)), none⟩, ⟨(some 49), (.nil (.tmp 40)), none⟩, ⟨(some 50), (.fieldAddr 0 (.tmp 49)), none⟩, ⟨(some 51), (.fieldAddr 1 (.tmp 50)), none⟩, ⟨none, (.store 1 (.tmp 51) (.tmp 48)), none⟩])
  (.seq (.seq (.reg [⟨(some 52), (.fieldAddr 1 (.tmp 6)), none⟩, ⟨(some 53), (.load none (.tmp 52)), none⟩])
  (.cond (.tmp 53) (.seq (.reg [⟨(some 54), (.mv (.tmp 0)), none⟩, ⟨(some 55), (.mv (.tmp 1)), none⟩, ⟨(some 56), (.load (some 4) (.tmp 6)), none⟩, ⟨(some 57), (.call 339 [(.tmp 54), (.tmp 55), (.tmp 56)]), none⟩])
  .ret) .skip))
  (.seq (.reg [⟨(some 58), (.mv (.tmp 0)), none⟩, ⟨(some 59), (.mv (.tmp 0)), none⟩, ⟨(some 60), (.nil (.tmp 59)), none⟩, ⟨(some 61), (.fieldAddr 8 (.tmp 60)), none⟩, ⟨(some 62), (.load none (.tmp 61)), none⟩, ⟨(some 63), (.mv (.tmp 1)), none⟩, ⟨(some 64), (.buildSlice 1 1 [(0, (.tmp 63))]), none⟩, ⟨(some 65), (.append 1 8 false (.tmp 62) (.tmp 64)), none⟩, ⟨(some 66), (.nil (.tmp 58)), none⟩, ⟨(some 67), (.fieldAddr 8 (.tmp 66)), none⟩, ⟨none, (.store 1 (.tmp 67) (.tmp 65)), none⟩])
  (.seq (.seq (.reg [⟨(some 68), (.load (some 2) (.tmp 5)), none⟩, ⟨(some 69), (.fieldAddr 2 (.tmp 6)), none⟩, ⟨(some 70), (.load none (.tmp 69)), none⟩, ⟨(some 71), (.call 340 [(.tmp 68), (.tmp 70)]), none⟩, ⟨(some 72), (.len .sl (.tmp 71)), none⟩, ⟨(some 73), (.mv (.const (.int .i64 0))), none⟩])
  (.block 0 (.loop pc322_0)))
  (.draw [(⟨(some 92), (.mv (.tmp 0)), none⟩, []), (⟨(some 93), (.mv (.tmp 0)), none⟩, []), (⟨(some 94), (.nil (.tmp 93)), none⟩, []), (⟨(some 95), (.fieldAddr 8 (.tmp 94)), none⟩, []), (⟨(some 97), (.mv (.tmp 0)), none⟩, []), (⟨(some 98), (.nil (.tmp 97)), none⟩, []), (⟨(some 99), (.fieldAddr 8 (.tmp 98)), none⟩, []), (⟨(some 96), (.load none (.tmp 95)), none⟩, []), (⟨(some 100), (.load none (.tmp 99)), none⟩, []), (⟨(some 101), (.len .sl (.tmp 100)), none⟩, []), (⟨(some 102), (.bin .sub .int (.tmp 101) (.const (.int .i64 1))), none⟩, []), (⟨(some 103), (.slice (.sl 1) (.tmp 96) none (some (.tmp 102)) none), none⟩, []), (⟨(some 104), (.nil (.tmp 92)), none⟩, []), (⟨(some 105), (.fieldAddr 8 (.tmp 104)), none⟩, []), (⟨none, (.store 1 (.tmp 105) (.tmp 103)), none⟩, [])])))))))))⟩
theorem pf322_ok : pfOf Tryz.prog plan 322 = some pf322 := by kernel_rfl
theorem ok322 : fnOk Tryz.prog plan 322 = true := by kernel_rfl
/- 323 scantling/span.All -/
noncomputable def pf323 : PF := ⟨2, [.cell 0 (some 2)], (.seq (.reg [⟨(some 0), (.alloc 0 [(.int .i64 0), (.int .i64 0)]), none⟩])
  (.seq (.reg [⟨(some 1), (.build [(.int .i64 0), (.int .i64 0)] [(0, 1), (1, 1)] [(0, (.const (.int .i64 0))), (1, (.const (.int .i64 281474976710656)))]), none⟩, ⟨none, (.store 2 (.tmp 0) (.tmp 1)), none⟩])
  .ret))⟩
theorem pf323_ok : pfOf Tryz.prog plan 323 = some pf323 := by kernel_rfl
theorem ok323 : fnOk Tryz.prog plan 323 = true := by kernel_rfl
/- 327 (scantling/chart.placed).counts -/
noncomputable def pf327 : PF := ⟨65, [.tmp 6, .tmp 7], (.seq (.reg [⟨(some 3), (.box 0 (.tmp 0)), none⟩, ⟨(some 6), (.mv (.const (.slice none 0 0))), none⟩, ⟨(some 7), (.mv (.const .nilIface)), none⟩])
  (.seq (.seq (.reg [⟨(some 12), (.fieldAddr 4 (.tmp 3)), none⟩, ⟨(some 13), (.load none (.tmp 12)), none⟩, ⟨(some 14), (.bin .neq .int (.tmp 13) (.const (.int .i64 0))), none⟩])
  (.cond (.tmp 14) (.seq (.reg [⟨(some 15), (.fieldAddr 3 (.tmp 3)), none⟩, ⟨(some 16), (.load none (.tmp 15)), none⟩, ⟨(some 17), (.fieldAddr 4 (.tmp 3)), none⟩, ⟨(some 18), (.load none (.tmp 17)), none⟩, ⟨(some 19), (.iface 49 (.tmp 18)), none⟩, ⟨(some 20), (.call 64 [(.tmp 16), (.tmp 19)]), none⟩, ⟨(some 6), (.mv (.const (.slice none 0 0))), none⟩, ⟨(some 7), (.mv (.tmp 20)), none⟩])
  .ret) .skip))
  (.seq (.reg [⟨(some 22), (.mv (.tmp 1)), none⟩, ⟨(some 23), (.fieldAddr 0 (.tmp 3)), none⟩, ⟨(some 24), (.fieldAddr 0 (.tmp 23)), none⟩, ⟨(some 25), (.load none (.tmp 24)), none⟩, ⟨(some 26), (.call 205 [(.tmp 22), (.tmp 25)]), none⟩, ⟨(some 21), (.mv (.tmp 26)), none⟩, ⟨(some 27), (.extract (.tmp 21) 0), none⟩, ⟨(some 28), (.extract (.tmp 21) 1), none⟩, ⟨(some 8), (.mv (.tmp 27)), none⟩, ⟨(some 9), (.mv (.tmp 28)), none⟩])
  (.seq (.seq (.reg [⟨(some 29), (.mv (.tmp 9)), none⟩, ⟨(some 30), (.bin .neq .ifc (.tmp 29) (.const .nilIface)), none⟩])
  (.cond (.tmp 30) (.seq (.reg [⟨(some 31), (.fieldAddr 3 (.tmp 3)), none⟩, ⟨(some 32), (.load none (.tmp 31)), none⟩, ⟨(some 33), (.mv (.tmp 9)), none⟩, ⟨(some 34), (.call 64 [(.tmp 32), (.tmp 33)]), none⟩, ⟨(some 6), (.mv (.const (.slice none 0 0))), none⟩, ⟨(some 7), (.mv (.tmp 34)), none⟩])
  .ret) .skip))
  (.seq (.seq (.reg [⟨(some 35), (.mv (.tmp 8)), none⟩, ⟨(some 36), (.len .sl (.tmp 35)), none⟩, ⟨(some 37), (.mv (.tmp 2)), none⟩, ⟨(some 38), (.bin .neq .int (.tmp 36) (.tmp 37)), none⟩])
  (.cond (.tmp 38) (.seq (.reg [⟨(some 39), (.fieldAddr 3 (.tmp 3)), none⟩, ⟨(some 40), (.load none (.tmp 39)), none⟩, ⟨(some 41), (.iface 49 (.const (.int .i64 7))), none⟩, ⟨(some 42), (.call 64 [(.tmp 40), (.tmp 41)]), none⟩, ⟨(some 6), (.mv (.const (.slice none 0 0))), none⟩, ⟨(some 7), (.mv (.tmp 42)), none⟩])
  .ret) .skip))
  (.seq (.seq (.reg [⟨(some 44), (.mv (.tmp 8)), none⟩, ⟨(some 45), (.call 236 [(.tmp 44)]), none⟩, ⟨(some 43), (.mv (.tmp 45)), none⟩, ⟨(some 46), (.extract (.tmp 43) 0), none⟩, ⟨(some 47), (.extract (.tmp 43) 1), none⟩, ⟨(some 10), (.mv (.tmp 46)), none⟩, ⟨(some 11), (.mv (.tmp 47)), none⟩])
  (.seq (.reg [⟨(some 48), (.mv (.tmp 10)), none⟩, ⟨(some 49), (.fieldAddr 0 (.tmp 3)), none⟩, ⟨(some 50), (.fieldAddr 1 (.tmp 49)), none⟩, ⟨(some 51), (.load none (.tmp 50)), none⟩, ⟨(some 52), (.bin .neq .int (.tmp 48) (.tmp 51)), none⟩, ⟨(some 53), (.mv (.tmp 52)), none⟩, ⟨(some 54), (.mv (.tmp 11)), (some ((some 53), false))⟩, ⟨(some 55), (.fieldAddr 0 (.tmp 3)), (some ((some 53), false))⟩, ⟨(some 56), (.fieldAddr 2 (.tmp 55)), (some ((some 53), false))⟩, ⟨(some 57), (.load none (.tmp 56)), (some ((some 53), false))⟩, ⟨(some 58), (.bin .neq .int (.tmp 54) (.tmp 57)), (some ((some 53), false))⟩, ⟨(some 59), (.raw (.pick (.tmp 53) (.const (.bool true)) (.tmp 58))), none⟩])
  (.cond (.tmp 59) (.seq (.reg [⟨(some 60), (.fieldAddr 3 (.tmp 3)), none⟩, ⟨(some 61), (.load none (.tmp 60)), none⟩, ⟨(some 62), (.iface 49 (.const (.int .i64 13))), none⟩, ⟨(some 63), (.call 64 [(.tmp 61), (.tmp 62)]), none⟩, ⟨(some 6), (.mv (.const (.slice none 0 0))), none⟩, ⟨(some 7), (.mv (.tmp 63)), none⟩])
  .ret) .skip)))
  (.seq (.reg [⟨(some 64), (.mv (.tmp 8)), none⟩, ⟨(some 6), (.mv (.tmp 64)), none⟩, ⟨(some 7), (.mv (.const .nilIface)), none⟩])
  .ret)))))))⟩
theorem pf327_ok : pfOf Tryz.prog plan 327 = some pf327 := by kernel_rfl
theorem ok327 : fnOk Tryz.prog plan 327 = true := by kernel_rfl
/- 328 scantling/tally.Join -/
noncomputable def pc328_0 : PCode := (.seq (.reg [⟨(some 25), (.bin .lss .int (.tmp 24) (.tmp 23)), none⟩])
  (.seq (.cond (.tmp 25) .skip (.exit 0))
  (.seq (.block 1 (.seq (.reg [⟨(some 26), (.indexAddr (.sl 3) (.tmp 22) (.tmp 24)), none⟩, ⟨(some 27), (.load (some 3) (.tmp 26)), none⟩, ⟨(some 11), (.alloc 0 [(.int .i64 0), (.string (bs [])), (.int .i64 0)]), none⟩, ⟨none, (.store 3 (.tmp 11) (.tmp 27)), none⟩])
  (.seq (.seq (.reg [⟨(some 28), (.fieldAddr 0 (.tmp 11)), none⟩, ⟨(some 29), (.load none (.tmp 28)), none⟩, ⟨(some 30), (.mv (.tmp 9)), none⟩, ⟨(some 31), (.bin .leq .int (.tmp 29) (.tmp 30)), none⟩])
  (.cond (.tmp 31) (.seq (.reg [⟨(some 4), (.mv (.const (.slice none 0 0))), none⟩, ⟨(some 5), (.mv (.const (.int .i64 8))), none⟩])
  .ret) .skip))
  (.seq (.seq (.reg [⟨(some 32), (.mv (.tmp 7)), none⟩, ⟨(some 33), (.fieldAddr 0 (.tmp 11)), none⟩, ⟨(some 34), (.load none (.tmp 33)), none⟩, ⟨(some 35), (.raw (.lookup 480 (.tmp 32) (.tmp 34) false)), none⟩, ⟨(some 36), (.un .not (.tmp 35)), none⟩])
  (.cond (.tmp 36) (.seq (.reg [⟨(some 4), (.mv (.const (.slice none 0 0))), none⟩, ⟨(some 5), (.mv (.const (.int .i64 13))), none⟩])
  .ret) .skip))
  (.seq (.reg [⟨(some 38), (.fieldAddr 1 (.tmp 11)), none⟩, ⟨(some 39), (.load none (.tmp 38)), none⟩, ⟨(some 40), (.call 345 [(.tmp 39)]), none⟩, ⟨(some 37), (.mv (.tmp 40)), none⟩, ⟨(some 41), (.extract (.tmp 37) 0), none⟩, ⟨(some 42), (.extract (.tmp 37) 1), none⟩, ⟨(some 12), (.mv (.tmp 41)), none⟩, ⟨(some 13), (.mv (.tmp 42)), none⟩])
  (.seq (.seq (.reg [⟨(some 43), (.mv (.tmp 13)), none⟩, ⟨(some 44), (.bin .neq .int (.tmp 43) (.const (.int .i64 0))), none⟩])
  (.cond (.tmp 44) (.seq (.reg [⟨(some 45), (.mv (.tmp 13)), none⟩, ⟨(some 4), (.mv (.const (.slice none 0 0))), none⟩, ⟨(some 5), (.mv (.tmp 45)), none⟩])
  .ret) .skip))
  (.seq (.reg [⟨(some 46), (.mv (.tmp 6)), none⟩, ⟨(some 47), (.fieldAddr 0 (.tmp 11)), none⟩, ⟨(some 48), (.load none (.tmp 47)), none⟩, ⟨(some 49), (.mv (.tmp 12)), none⟩, ⟨(some 50), (.indexAddr (.sl 1) (.tmp 46) (.tmp 48)), none⟩, ⟨none, (.store 1 (.tmp 50) (.tmp 49)), none⟩])
  (.seq (.reg [⟨(some 51), (.mv (.tmp 7)), none⟩, ⟨(some 52), (.fieldAddr 0 (.tmp 11)), none⟩, ⟨(some 53), (.load none (.tmp 52)), none⟩, ⟨none, (.raw (.call { callee := .builtin .delete, args := #[(.tmp 51), (.tmp 53)], argTypes := #[480, 3] })), none⟩])
  (.reg [⟨(some 54), (.fieldAddr 0 (.tmp 11)), none⟩, ⟨(some 55), (.load none (.tmp 54)), none⟩, ⟨(some 9), (.mv (.tmp 55)), none⟩])))))))))
  (.reg [⟨(some 56), (.bin .add .int (.tmp 24) (.const (.int .i64 1))), none⟩, ⟨(some 24), (.mv (.tmp 56)), none⟩]))))
noncomputable def pf328 : PF := ⟨61, [.tmp 4, .tmp 5], (.seq (.reg [⟨(some 4), (.mv (.const (.slice none 0 0))), none⟩, ⟨(some 5), (.mv (.const (.int .i64 0))), none⟩])
  (.seq (.reg [⟨(some 15), (.mv (.tmp 0)), none⟩, ⟨(some 16), (.call 344 [(.tmp 15)]), none⟩, ⟨(some 14), (.mv (.tmp 16)), none⟩, ⟨(some 17), (.extract (.tmp 14) 0), none⟩, ⟨(some 18), (.extract (.tmp 14) 1), none⟩, ⟨(some 19), (.extract (.tmp 14) 2), none⟩, ⟨(some 6), (.mv (.tmp 17)), none⟩, ⟨(some 7), (.mv (.tmp 18)), none⟩, ⟨(some 8), (.mv (.tmp 19)), none⟩])
  (.seq (.seq (.reg [⟨(some 20), (.mv (.tmp 8)), none⟩, ⟨(some 21), (.un .not (.tmp 20)), none⟩])
  (.cond (.tmp 21) (.seq (.reg [⟨(some 4), (.mv (.const (.slice none 0 0))), none⟩, ⟨(some 5), (.mv (.const (.int .i64 7))), none⟩])
  .ret) .skip))
  (.seq (.reg [⟨(some 9), (.mv (.const (.int .i64 (-1)))), none⟩])
  (.seq (.seq (.reg [⟨(some 22), (.mv (.tmp 1)), none⟩, ⟨(some 23), (.len .sl (.tmp 22)), none⟩, ⟨(some 24), (.mv (.const (.int .i64 0))), none⟩])
  (.block 0 (.loop pc328_0)))
  (.seq (.seq (.reg [⟨(some 57), (.mv (.tmp 7)), none⟩, ⟨(some 58), (.len .mp (.tmp 57)), none⟩, ⟨(some 59), (.bin .gtr .int (.tmp 58) (.const (.int .i64 0))), none⟩])
  (.cond (.tmp 59) (.seq (.reg [⟨(some 4), (.mv (.const (.slice none 0 0))), none⟩, ⟨(some 5), (.mv (.const (.int .i64 13))), none⟩])
  .ret) .skip))
  (.seq (.reg [⟨(some 60), (.mv (.tmp 6)), none⟩, ⟨(some 4), (.mv (.tmp 60)), none⟩, ⟨(some 5), (.mv (.const (.int .i64 0))), none⟩])
  .ret)))))))⟩
theorem pf328_ok : pfOf Tryz.prog plan 328 = some pf328 := by kernel_rfl
theorem ok328 : fnOk Tryz.prog plan 328 = true := by kernel_rfl
/- 317 scantling/crc.halves -/
noncomputable def pc317_0 : PCode := (.seq (.reg [⟨(some 11), (.bin .lss .int (.tmp 10) (.const (.int .i64 4))), none⟩])
  (.seq (.cond (.tmp 11) .skip (.exit 2))
  (.seq (.block 3 (.seq (.reg [⟨(some 12), (.mv (.tmp 3)), none⟩, ⟨(some 13), (.bin .and .int (.tmp 12) (.const (.int .u32 1))), none⟩, ⟨(some 4), (.mv (.tmp 13)), none⟩])
  (.seq (.reg [⟨(some 14), (.mv (.tmp 3)), none⟩, ⟨(some 15), (.bin .shr .int (.tmp 14) (.const (.int .u64 1))), none⟩, ⟨(some 3), (.mv (.tmp 15)), none⟩])
  (.seq (.reg [⟨(some 16), (.mv (.tmp 4)), none⟩, ⟨(some 17), (.bin .eql .int (.tmp 16) (.const (.int .u32 1))), none⟩])
  (.cond (.tmp 17) (.reg [⟨(some 18), (.mv (.tmp 3)), none⟩, ⟨(some 19), (.bin .xor .int (.tmp 18) (.const (.int .u32 2197175160))), none⟩, ⟨(some 3), (.mv (.tmp 19)), none⟩]) .skip)))))
  (.reg [⟨(some 20), (.bin .add .int (.tmp 10) (.const (.int .i64 1))), none⟩, ⟨(some 10), (.mv (.tmp 20)), none⟩]))))
noncomputable def pc317_1 : PCode := (.seq (.reg [⟨(some 6), (.bin .lss .int (.tmp 5) (.const (.int .i64 16))), none⟩])
  (.seq (.cond (.tmp 6) .skip (.exit 0))
  (.seq (.block 1 (.seq (.reg [⟨(some 7), (.mv (.tmp 5)), none⟩, ⟨(some 2), (.mv (.tmp 7)), none⟩])
  (.seq (.reg [⟨(some 8), (.mv (.tmp 2)), none⟩, ⟨(some 9), (.cint .u32 (.tmp 8)), none⟩, ⟨(some 3), (.mv (.tmp 9)), none⟩])
  (.seq (.seq (.reg [⟨(some 10), (.mv (.const (.int .i64 0))), none⟩])
  (.block 2 (.loop pc317_0)))
  (.reg [⟨(some 21), (.mv (.tmp 2)), none⟩, ⟨(some 22), (.mv (.tmp 3)), none⟩, ⟨(some 23), (.indexAddr (.arr 16 1) (.tmp 1) (.tmp 21)), none⟩, ⟨none, (.store 1 (.tmp 23) (.tmp 22)), none⟩])))))
  (.reg [⟨(some 24), (.bin .add .int (.tmp 5) (.const (.int .i64 1))), none⟩, ⟨(some 5), (.mv (.tmp 24)), none⟩]))))
noncomputable def pf317 : PF := ⟨26, [.cell 0 (some 16)], (.seq (.reg [⟨(some 0), (.alloc 1 (List.replicate 16 (.int .u32 0))), none⟩])
  (.seq (.reg [⟨(some 1), (.alloc 1 (List.replicate 16 (.int .u32 0))), none⟩])
  (.seq (.seq (.reg [⟨(some 5), (.mv (.const (.int .i64 0))), none⟩])
  (.block 0 (.loop pc317_1)))
  (.seq (.reg [⟨(some 25), (.load (some 16) (.tmp 1)), none⟩, ⟨none, (.store 16 (.tmp 0) (.tmp 25)), none⟩])
  .ret))))⟩
theorem pf317_ok : pfOf Tryz.prog plan 317 = some pf317 := by kernel_rfl
theorem ok317 : fnOk Tryz.prog plan 317 = true := by kernel_rfl
/- 338 (*scantling/walk.walker).look -/
noncomputable def pf338 : PF := ⟨97, [.cell 6 (some 4), .tmp 7], (.seq (.reg [⟨(some 5), (.box 0 (.tmp 2)), none⟩, ⟨(some 6), (.alloc 0 [(.int .i64 0), (.bool false), (.slice none 0 0), (.slice none 0 0)]), none⟩, ⟨(some 7), (.mv (.const .nilIface)), none⟩])
  (.seq (.reg [⟨(some 10), (.mv (.tmp 0)), none⟩, ⟨(some 11), (.nil (.tmp 10)), none⟩, ⟨(some 12), (.fieldAddr 0 (.tmp 11)), none⟩, ⟨(some 13), (.fieldAddr 3 (.tmp 12)), none⟩, ⟨(some 14), (.load none (.tmp 13)), none⟩, ⟨(some 15), (.bin .add .int (.tmp 14) (.const (.int .i64 1))), none⟩, ⟨(some 16), (.nil (.tmp 10)), none⟩, ⟨(some 17), (.fieldAddr 0 (.tmp 16)), none⟩, ⟨(some 18), (.fieldAddr 3 (.tmp 17)), none⟩, ⟨none, (.store 1 (.tmp 18) (.tmp 15)), none⟩])
  (.seq (.seq (.reg [⟨(some 19), (.mv (.tmp 0)), none⟩, ⟨(some 20), (.nil (.tmp 19)), none⟩, ⟨(some 21), (.fieldAddr 8 (.tmp 20)), none⟩, ⟨(some 22), (.load none (.tmp 21)), none⟩, ⟨(some 23), (.mv (.tmp 1)), none⟩, ⟨(some 24), (.call 349 [(.tmp 22), (.tmp 23)]), none⟩])
  (.cond (.tmp 24) (.seq (.reg [⟨(some 25), (.build [(.int .i64 0), (.bool false), (.slice none 0 0), (.slice none 0 0)] [(0, 1), (1, 1), (2, 1), (3, 1)] []), none⟩, ⟨(some 26), (.mv (.tmp 1)), none⟩, ⟨(some 27), (.iface 49 (.const (.int .i64 11))), none⟩, ⟨(some 28), (.call 64 [(.tmp 26), (.tmp 27)]), none⟩, ⟨none, (.store 4 (.tmp 6) (.tmp 25)), none⟩, ⟨(some 7), (.mv (.tmp 28)), none⟩])
  .ret) .skip))
  (.seq (.seq (.reg [⟨(some 29), (.mv (.tmp 0)), none⟩, ⟨(some 30), (.nil (.tmp 29)), none⟩, ⟨(some 31), (.fieldAddr 8 (.tmp 30)), none⟩, ⟨(some 32), (.load none (.tmp 31)), none⟩, ⟨(some 33), (.len .sl (.tmp 32)), none⟩, ⟨(some 34), (.bin .geq .int (.tmp 33) (.const (.int .i64 16))), none⟩])
  (.cond (.tmp 34) (.seq (.reg [⟨(some 35), (.build [(.int .i64 0), (.bool false), (.slice none 0 0), (.slice none 0 0)] [(0, 1), (1, 1), (2, 1), (3, 1)] []), none⟩, ⟨(some 36), (.mv (.tmp 1)), none⟩, ⟨(some 37), (.iface 49 (.const (.int .i64 10))), none⟩, ⟨(some 38), (.call 64 [(.tmp 36), (.tmp 37)]), none⟩, ⟨none, (.store 4 (.tmp 6) (.tmp 35)), none⟩, ⟨(some 7), (.mv (.tmp 38)), none⟩])
  .ret) .skip))
  (.seq (.draw [(⟨(some 40), (.mv (.tmp 0)), none⟩, []), (⟨(some 41), (.nil (.tmp 40)), none⟩, []), (⟨(some 42), (.fieldAddr 5 (.tmp 41)), none⟩, []), (⟨(some 44), (.mv (.tmp 1)), none⟩, []), (⟨(some 45), (.mv (.tmp 0)), none⟩, []), (⟨(some 46), (.nil (.tmp 45)), none⟩, []), (⟨(some 47), (.fieldAddr 6 (.tmp 46)), none⟩, []), (⟨(some 43), (.load none (.tmp 42)), none⟩, []), (⟨(some 48), (.load none (.tmp 47)), none⟩, []), (⟨(some 8), (.alloc 0 [(.int .i64 0), (.bool false), (.slice none 0 0), (.slice none 0 0)]), none⟩, [⟨(some 43), (.load none (.tmp 42)), none⟩, ⟨(some 48), (.load none (.tmp 47)), none⟩]), (⟨(some 49), (.call 74 [(.tmp 43), (.tmp 44), (.tmp 48)]), none⟩, [⟨(some 8), (.alloc 0 [(.int .i64 0), (.bool false), (.slice none 0 0), (.slice none 0 0)]), none⟩]), (⟨(some 39), (.mv (.tmp 49)), none⟩, [⟨(some 8), (.alloc 0 [(.int .i64 0), (.bool false), (.slice none 0 0), (.slice none 0 0)]), none⟩]), (⟨(some 50), (.extract (.tmp 39) 0), none⟩, [⟨(some 8), (.alloc 0 [(.int .i64 0), (.bool false), (.slice none 0 0), (.slice none 0 0)]), none⟩]), (⟨(some 51), (.extract (.tmp 39) 1), none⟩, [⟨(some 8), (.alloc 0 [(.int .i64 0), (.bool false), (.slice none 0 0), (.slice none 0 0)]), none⟩]), (⟨none, (.store 4 (.tmp 8) (.tmp 50)), none⟩, []), (⟨(some 9), (.mv (.tmp 51)), none⟩, [])])
  (.seq (.block 0 (.seq (.reg [⟨(some 53), (.mv (.tmp 9)), none⟩, ⟨(some 54), (.bin .neq .ifc (.tmp 53) (.const .nilIface)), none⟩, ⟨(some 52), (.mv (.tmp 54)), none⟩])
  (.cond (.tmp 52) (.seq (.reg [⟨(some 55), (.load (some 4) (.tmp 8)), none⟩, ⟨(some 56), (.mv (.tmp 9)), none⟩, ⟨none, (.store 4 (.tmp 6) (.tmp 55)), none⟩, ⟨(some 7), (.mv (.tmp 56)), none⟩])
  .ret) (.seq (.reg [⟨(some 58), (.load (some 2) (.tmp 5)), none⟩, ⟨(some 59), (.fieldAddr 2 (.tmp 8)), none⟩, ⟨(some 60), (.load none (.tmp 59)), none⟩, ⟨(some 61), (.call 350 [(.tmp 58), (.tmp 60)]), none⟩, ⟨(some 62), (.bin .neq .int (.tmp 61) (.const (.int .i64 0))), none⟩, ⟨(some 57), (.mv (.tmp 62)), none⟩])
  (.cond (.tmp 57) (.seq (.draw [(⟨(some 64), (.mv (.tmp 1)), none⟩, []), (⟨(some 65), (.iface 49 (.const (.int .i64 9))), none⟩, []), (⟨(some 63), (.load (some 4) (.tmp 8)), none⟩, []), (⟨(some 66), (.call 64 [(.tmp 64), (.tmp 65)]), none⟩, [⟨(some 63), (.load (some 4) (.tmp 8)), none⟩]), (⟨none, (.store 4 (.tmp 6) (.tmp 63)), none⟩, []), (⟨(some 7), (.mv (.tmp 66)), none⟩, [])])
  .ret) (.seq (.draw [(⟨(some 68), (.fieldAddr 1 (.tmp 8)), none⟩, []), (⟨(some 69), (.load none (.tmp 68)), none⟩, []), (⟨(some 70), (.mv (.tmp 69)), none⟩, []), (⟨(some 71), (.mv (.tmp 0)), (some ((some 70), true))⟩, []), (⟨(some 72), (.nil (.tmp 71)), (some ((some 70), true))⟩, []), (⟨(some 73), (.fieldAddr 0 (.tmp 72)), (some ((some 70), true))⟩, []), (⟨(some 74), (.fieldAddr 2 (.tmp 73)), (some ((some 70), true))⟩, []), (⟨(some 75), (.load none (.tmp 74)), (some ((some 70), true))⟩, []), (⟨(some 76), (.bin .neq .int (.tmp 75) (.const (.int .i64 0))), (some ((some 70), true))⟩, []), (⟨(some 77), (.raw (.pick (.tmp 70) (.tmp 76) (.const (.bool false)))), none⟩, []), (⟨(some 78), (.mv (.tmp 77)), none⟩, []), (⟨(some 79), (.mv (.tmp 0)), (some ((some 78), true))⟩, []), (⟨(some 80), (.nil (.tmp 79)), (some ((some 78), true))⟩, []), (⟨(some 81), (.fieldAddr 0 (.tmp 80)), (some ((some 78), true))⟩, []), (⟨(some 82), (.fieldAddr 2 (.tmp 81)), (some ((some 78), true))⟩, []), (⟨(some 84), (.mv (.tmp 0)), (some ((some 78), true))⟩, []), (⟨(some 85), (.nil (.tmp 84)), (some ((some 78), true))⟩, []), (⟨(some 86), (.fieldAddr 8 (.tmp 85)), (some ((some 78), true))⟩, []), (⟨(some 83), (.load none (.tmp 82)), (some ((some 78), true))⟩, []), (⟨(some 87), (.load none (.tmp 86)), (some ((some 78), true))⟩, []), (⟨(some 88), (.len .sl (.tmp 87)), (some ((some 78), true))⟩, []), (⟨(some 89), (.bin .add .int (.tmp 88) (.const (.int .i64 1))), (some ((some 78), true))⟩, []), (⟨(some 90), (.bin .neq .int (.tmp 83) (.tmp 89)), (some ((some 78), true))⟩, []), (⟨(some 91), (.raw (.pick (.tmp 78) (.tmp 90) (.const (.bool false)))), none⟩, []), (⟨(some 67), (.mv (.tmp 91)), none⟩, [])])
  (.cond (.tmp 67) (.seq (.draw [(⟨(some 93), (.mv (.tmp 1)), none⟩, []), (⟨(some 94), (.iface 49 (.const (.int .i64 10))), none⟩, []), (⟨(some 92), (.load (some 4) (.tmp 8)), none⟩, []), (⟨(some 95), (.call 64 [(.tmp 93), (.tmp 94)]), none⟩, [⟨(some 92), (.load (some 4) (.tmp 8)), none⟩]), (⟨none, (.store 4 (.tmp 6) (.tmp 92)), none⟩, []), (⟨(some 7), (.mv (.tmp 95)), none⟩, [])])
  .ret) .skip)))))))
  (.seq (.reg [⟨(some 96), (.load (some 4) (.tmp 8)), none⟩, ⟨none, (.store 4 (.tmp 6) (.tmp 96)), none⟩, ⟨(some 7), (.mv (.const .nilIface)), none⟩])
  .ret)))))))⟩
theorem pf338_ok : pfOf Tryz.prog plan 338 = some pf338 := by kernel_rfl
theorem ok338 : fnOk Tryz.prog plan 338 = true := by kernel_rfl
/- 339 (*scantling/walk.walker).leaf -/
noncomputable def pc339_0 : PCode := (.seq (.reg [⟨(some 22), (.bin .lss .int (.tmp 21) (.tmp 20)), none⟩])
  (.seq (.cond (.tmp 22) .skip (.exit 0))
  (.seq (.block 1 (.seq (.reg [⟨(some 23), (.mv (.tmp 21)), none⟩, ⟨(some 24), (.indexAddr (.sl 1) (.tmp 19) (.tmp 21)), none⟩, ⟨(some 25), (.load none (.tmp 24)), none⟩, ⟨(some 6), (.mv (.tmp 23)), none⟩, ⟨(some 7), (.mv (.tmp 25)), none⟩])
  (.draw [(⟨(some 26), (.mv (.tmp 0)), none⟩, []), (⟨(some 27), (.mv (.tmp 0)), none⟩, []), (⟨(some 28), (.nil (.tmp 27)), none⟩, []), (⟨(some 29), (.fieldAddr 0 (.tmp 28)), none⟩, []), (⟨(some 30), (.fieldAddr 0 (.tmp 29)), none⟩, []), (⟨(some 32), (.mv (.tmp 7)), none⟩, []), (⟨(some 33), (.fieldAddr 3 (.tmp 5)), none⟩, []), (⟨(some 35), (.mv (.tmp 6)), none⟩, []), (⟨(some 38), (.mv (.tmp 1)), none⟩, []), (⟨(some 31), (.load none (.tmp 30)), none⟩, []), (⟨(some 34), (.load none (.tmp 33)), none⟩, []), (⟨(some 36), (.indexAddr (.sl 1) (.tmp 34) (.tmp 35)), none⟩, []), (⟨(some 37), (.load none (.tmp 36)), none⟩, []), (⟨(some 39), (.build [(.int .i64 0), (.string (bs [])), (.int .i64 0)] [(0, 1), (1, 1), (2, 1)] [(0, (.tmp 32)), (1, (.tmp 37)), (2, (.tmp 38))]), none⟩, []), (⟨(some 40), (.buildSlice 3 1 [(0, (.tmp 39))]), none⟩, [⟨(some 31), (.load none (.tmp 30)), none⟩]), (⟨(some 41), (.append 3 32 false (.tmp 31) (.tmp 40)), none⟩, []), (⟨(some 42), (.nil (.tmp 26)), none⟩, []), (⟨(some 43), (.fieldAddr 0 (.tmp 42)), none⟩, []), (⟨(some 44), (.fieldAddr 0 (.tmp 43)), none⟩, []), (⟨none, (.store 1 (.tmp 44) (.tmp 41)), none⟩, [])])))
  (.reg [⟨(some 45), (.bin .add .int (.tmp 21) (.const (.int .i64 1))), none⟩, ⟨(some 21), (.mv (.tmp 45)), none⟩]))))
noncomputable def pf339 : PF := ⟨46, [], (.seq (.reg [⟨(some 5), (.box 0 (.tmp 2)), none⟩])
  (.seq (.reg [⟨(some 8), (.mv (.tmp 0)), none⟩, ⟨(some 9), (.mv (.tmp 0)), none⟩, ⟨(some 10), (.nil (.tmp 9)), none⟩, ⟨(some 11), (.fieldAddr 8 (.tmp 10)), none⟩, ⟨(some 12), (.load none (.tmp 11)), none⟩, ⟨(some 13), (.len .sl (.tmp 12)), none⟩, ⟨(some 14), (.bin .add .int (.tmp 13) (.const (.int .i64 1))), none⟩, ⟨(some 15), (.nil (.tmp 8)), none⟩, ⟨(some 16), (.fieldAddr 0 (.tmp 15)), none⟩, ⟨(some 17), (.fieldAddr 2 (.tmp 16)), none⟩, ⟨none, (.store 1 (.tmp 17) (.tmp 14)), none⟩])
  (.seq (.reg [⟨(some 18), (.fieldAddr 2 (.tmp 5)), none⟩, ⟨(some 19), (.load none (.tmp 18)), none⟩, ⟨(some 20), (.len .sl (.tmp 19)), none⟩, ⟨(some 21), (.mv (.const (.int .i64 0))), none⟩])
  (.block 0 (.loop pc339_0)))))⟩
theorem pf339_ok : pfOf Tryz.prog plan 339 = some pf339 := by kernel_rfl
theorem ok339 : fnOk Tryz.prog plan 339 = true := by kernel_rfl
/- 344 scantling/tally.flat -/
noncomputable def pc344_0 : PCode := (.seq (.reg [⟨(some 45), (.bin .lss .int (.tmp 44) (.tmp 43)), none⟩])
  (.seq (.cond (.tmp 45) .skip (.exit 2))
  (.seq (.block 3 (.seq (.reg [⟨(some 46), (.indexAddr (.sl 1) (.tmp 42) (.tmp 44)), none⟩, ⟨(some 47), (.load none (.tmp 46)), none⟩, ⟨(some 11), (.mv (.tmp 47)), none⟩])
  (.seq (.seq (.reg [⟨(some 48), (.mv (.tmp 11)), none⟩, ⟨(some 49), (.bin .lss .int (.tmp 48) (.const (.int .i64 0))), none⟩, ⟨(some 50), (.mv (.tmp 49)), none⟩, ⟨(some 51), (.mv (.tmp 11)), (some ((some 50), false))⟩, ⟨(some 52), (.bin .gtr .int (.tmp 51) (.const (.int .i64 3))), (some ((some 50), false))⟩, ⟨(some 53), (.raw (.pick (.tmp 50) (.const (.bool true)) (.tmp 52))), none⟩])
  (.cond (.tmp 53) (.seq (.reg [⟨(some 2), (.mv (.const (.slice none 0 0))), none⟩, ⟨(some 3), (.mv (.const (.map none))), none⟩, ⟨(some 4), (.mv (.const (.bool false))), none⟩])
  .ret) .skip))
  (.seq (.seq (.reg [⟨(some 54), (.mv (.tmp 11)), none⟩, ⟨(some 55), (.bin .eql .int (.tmp 54) (.const (.int .i64 3))), none⟩])
  (.cond (.tmp 55) (.reg [⟨(some 56), (.mv (.tmp 6)), none⟩, ⟨(some 57), (.mv (.tmp 5)), none⟩, ⟨(some 58), (.len .sl (.tmp 57)), none⟩, ⟨none, (.raw (.mapUpdate 480 (.tmp 56) (.tmp 58) (.const (.bool true)))), none⟩]) .skip))
  (.reg [⟨(some 59), (.mv (.tmp 5)), none⟩, ⟨(some 60), (.mv (.tmp 11)), none⟩, ⟨(some 61), (.buildSlice 1 1 [(0, (.tmp 60))]), none⟩, ⟨(some 62), (.append 1 8 false (.tmp 59) (.tmp 61)), none⟩, ⟨(some 5), (.mv (.tmp 62)), none⟩])))))
  (.reg [⟨(some 63), (.bin .add .int (.tmp 44) (.const (.int .i64 1))), none⟩, ⟨(some 44), (.mv (.tmp 63)), none⟩]))))
noncomputable def pc344_1 : PCode := (.seq (.reg [⟨(some 16), (.bin .lss .int (.tmp 15) (.tmp 14)), none⟩])
  (.seq (.cond (.tmp 16) .skip (.exit 0))
  (.seq (.block 1 (.seq (.reg [⟨(some 17), (.mv (.tmp 15)), none⟩, ⟨(some 18), (.indexAddr (.sl 1) (.tmp 13) (.tmp 15)), none⟩, ⟨(some 19), (.load none (.tmp 18)), none⟩, ⟨(some 7), (.mv (.tmp 17)), none⟩, ⟨(some 8), (.mv (.tmp 19)), none⟩])
  (.seq (.reg [⟨(some 20), (.mv (.tmp 7)), none⟩, ⟨(some 21), (.mv (.tmp 0)), none⟩, ⟨(some 22), (.len .sl (.tmp 21)), none⟩, ⟨(some 23), (.bin .sub .int (.tmp 22) (.const (.int .i64 1))), none⟩, ⟨(some 24), (.bin .eql .int (.tmp 20) (.tmp 23)), none⟩, ⟨(some 9), (.mv (.tmp 24)), none⟩])
  (.seq (.seq (.reg [⟨(some 25), (.mv (.tmp 8)), none⟩, ⟨(some 26), (.len .sl (.tmp 25)), none⟩, ⟨(some 27), (.bin .gtr .int (.tmp 26) (.const (.int .i64 960))), none⟩, ⟨(some 28), (.mv (.tmp 27)), none⟩, ⟨(some 29), (.mv (.tmp 8)), (some ((some 28), false))⟩, ⟨(some 30), (.len .sl (.tmp 29)), (some ((some 28), false))⟩, ⟨(some 31), (.bin .eql .int (.tmp 30) (.const (.int .i64 0))), (some ((some 28), false))⟩, ⟨(some 32), (.raw (.pick (.tmp 28) (.const (.bool true)) (.tmp 31))), none⟩, ⟨(some 33), (.mv (.tmp 32)), none⟩, ⟨(some 34), (.mv (.tmp 9)), (some ((some 33), false))⟩, ⟨(some 35), (.un .not (.tmp 34)), (some ((some 33), false))⟩, ⟨(some 36), (.mv (.tmp 35)), (some ((some 33), false))⟩, ⟨(some 37), (.mv (.tmp 8)), (some ((some 36), true))⟩, ⟨(some 38), (.len .sl (.tmp 37)), (some ((some 36), true))⟩, ⟨(some 39), (.bin .lss .int (.tmp 38) (.const (.int .i64 960))), (some ((some 36), true))⟩, ⟨(some 40), (.raw (.pick (.tmp 36) (.tmp 39) (.const (.bool false)))), (some ((some 33), false))⟩, ⟨(some 41), (.raw (.pick (.tmp 33) (.const (.bool true)) (.tmp 40))), none⟩])
  (.cond (.tmp 41) (.seq (.reg [⟨(some 2), (.mv (.const (.slice none 0 0))), none⟩, ⟨(some 3), (.mv (.const (.map none))), none⟩, ⟨(some 4), (.mv (.const (.bool false))), none⟩])
  .ret) .skip))
  (.seq (.reg [⟨(some 42), (.mv (.tmp 8)), none⟩, ⟨(some 43), (.len .sl (.tmp 42)), none⟩, ⟨(some 44), (.mv (.const (.int .i64 0))), none⟩])
  (.block 2 (.loop pc344_0)))))))
  (.reg [⟨(some 64), (.bin .add .int (.tmp 15) (.const (.int .i64 1))), none⟩, ⟨(some 15), (.mv (.tmp 64)), none⟩]))))
noncomputable def pf344 : PF := ⟨67, [.tmp 2, .tmp 3, .tmp 4], (.seq (.reg [⟨(some 2), (.mv (.const (.slice none 0 0))), none⟩, ⟨(some 3), (.mv (.const (.map none))), none⟩, ⟨(some 4), (.mv (.const (.bool false))), none⟩])
  (.seq (.reg [⟨(some 5), (.mv (.const (.slice none 0 0))), none⟩])
  (.seq (.reg [⟨(some 12), (.raw (.makeMap 480 none)), none⟩, ⟨(some 6), (.mv (.tmp 12)), none⟩])
  (.seq (.seq (.reg [⟨(some 13), (.mv (.tmp 0)), none⟩, ⟨(some 14), (.len .sl (.tmp 13)), none⟩, ⟨(some 15), (.mv (.const (.int .i64 0))), none⟩])
  (.block 0 (.loop pc344_1)))
  (.seq (.reg [⟨(some 65), (.mv (.tmp 5)), none⟩, ⟨(some 66), (.mv (.tmp 6)), none⟩, ⟨(some 2), (.mv (.tmp 65)), none⟩, ⟨(some 3), (.mv (.tmp 66)), none⟩, ⟨(some 4), (.mv (.const (.bool true))), none⟩])
  .ret)))))⟩
theorem pf344_ok : pfOf Tryz.prog plan 344 = some pf344 := by kernel_rfl
theorem ok344 : fnOk Tryz.prog plan 344 = true := by kernel_rfl
/- 349 slices.Contains[[]int,int] -/
noncomputable def pf349 : PF := ⟨9, [.tmp 4], (.seq (.reg [⟨(some 4), (.mv (.const (.bool false))), none⟩])
  (.seq (.reg [⟨(some 5), (.mv (.tmp 0)), none⟩, ⟨(some 6), (.mv (.tmp 1)), none⟩, ⟨(some 7), (.call 363 [(.tmp 5), (.tmp 6)]), none⟩, ⟨(some 8), (.bin .geq .int (.tmp 7) (.const (.int .i64 0))), none⟩, ⟨(some 4), (.mv (.tmp 8)), none⟩])
  .ret))⟩
theorem pf349_ok : pfOf Tryz.prog plan 349 = some pf349 := by kernel_rfl
theorem ok349 : fnOk Tryz.prog plan 349 = true := by kernel_rfl
/- 350 scantling/span.Fits -/
noncomputable def pc350_0 : PCode := (.seq (.seq (.reg [⟨(some 9), (.mv (.tmp 5)), none⟩, ⟨(some 10), (.mv (.tmp 1)), none⟩, ⟨(some 11), (.len .sl (.tmp 10)), none⟩, ⟨(some 12), (.bin .lss .int (.tmp 9) (.tmp 11)), none⟩])
  (.cond (.tmp 12) .skip (.exit 0)))
  (.seq (.block 1 (.seq (.draw [(⟨(some 15), (.mv (.tmp 1)), none⟩, []), (⟨(some 16), (.mv (.tmp 5)), none⟩, []), (⟨(some 17), (.bin .sub .int (.tmp 16) (.const (.int .i64 1))), none⟩, []), (⟨(some 18), (.indexAddr (.sl 1) (.tmp 15) (.tmp 17)), none⟩, []), (⟨(some 20), (.mv (.tmp 1)), none⟩, []), (⟨(some 21), (.mv (.tmp 5)), none⟩, []), (⟨(some 22), (.indexAddr (.sl 1) (.tmp 20) (.tmp 21)), none⟩, []), (⟨(some 19), (.load none (.tmp 18)), none⟩, []), (⟨(some 23), (.load none (.tmp 22)), none⟩, []), (⟨(some 24), (.bin .geq .int (.tmp 19) (.tmp 23)), none⟩, [])])
  (.cond (.tmp 24) (.seq (.reg [⟨(some 4), (.mv (.const (.int .i64 8))), none⟩])
  .ret) .skip)))
  (.reg [⟨(some 13), (.mv (.tmp 5)), none⟩, ⟨(some 14), (.bin .add .int (.tmp 13) (.const (.int .i64 1))), none⟩, ⟨(some 5), (.mv (.tmp 14)), none⟩])))
noncomputable def pf350 : PF := ⟨47, [.tmp 4], (.seq (.reg [⟨(some 2), (.box 0 (.tmp 0)), none⟩, ⟨(some 4), (.mv (.const (.int .i64 0))), none⟩])
  (.seq (.seq (.reg [⟨(some 6), (.load (some 2) (.tmp 2)), none⟩, ⟨(some 7), (.call 364 [(.tmp 6)]), none⟩, ⟨(some 8), (.un .not (.tmp 7)), none⟩])
  (.cond (.tmp 8) (.seq (.reg [⟨(some 4), (.mv (.const (.int .i64 1))), none⟩])
  .ret) .skip))
  (.seq (.seq (.reg [⟨(some 5), (.mv (.const (.int .i64 1))), none⟩])
  (.block 0 (.loop pc350_0)))
  (.seq (.seq (.draw [(⟨(some 25), (.mv (.tmp 1)), none⟩, []), (⟨(some 26), (.len .sl (.tmp 25)), none⟩, []), (⟨(some 27), (.bin .gtr .int (.tmp 26) (.const (.int .i64 0))), none⟩, []), (⟨(some 28), (.mv (.tmp 27)), none⟩, []), (⟨(some 30), (.mv (.tmp 1)), (some ((some 28), true))⟩, []), (⟨(some 31), (.indexAddr (.sl 1) (.tmp 30) (.const (.int .i64 0))), (some ((some 28), true))⟩, []), (⟨(some 29), (.load (some 2) (.tmp 2)), (some ((some 28), true))⟩, []), (⟨(some 32), (.load none (.tmp 31)), (some ((some 28), true))⟩, []), (⟨(some 33), (.call 365 [(.tmp 29), (.tmp 32)]), (some ((some 28), true))⟩, []), (⟨(some 34), (.un .not (.tmp 33)), (some ((some 28), true))⟩, []), (⟨(some 35), (.mv (.tmp 34)), (some ((some 28), true))⟩, []), (⟨(some 37), (.mv (.tmp 1)), (some ((some 35), false))⟩, []), (⟨(some 38), (.mv (.tmp 1)), (some ((some 35), false))⟩, []), (⟨(some 36), (.load (some 2) (.tmp 2)), (some ((some 35), false))⟩, []), (⟨(some 39), (.len .sl (.tmp 38)), (some ((some 35), false))⟩, []), (⟨(some 40), (.bin .sub .int (.tmp 39) (.const (.int .i64 1))), (some ((some 35), false))⟩, []), (⟨(some 41), (.indexAddr (.sl 1) (.tmp 37) (.tmp 40)), (some ((some 35), false))⟩, []), (⟨(some 42), (.load none (.tmp 41)), (some ((some 35), false))⟩, []), (⟨(some 43), (.call 365 [(.tmp 36), (.tmp 42)]), (some ((some 35), false))⟩, []), (⟨(some 44), (.un .not (.tmp 43)), (some ((some 35), false))⟩, []), (⟨(some 45), (.raw (.pick (.tmp 35) (.const (.bool true)) (.tmp 44))), (some ((some 28), true))⟩, []), (⟨(some 46), (.raw (.pick (.tmp 28) (.tmp 45) (.const (.bool false)))), none⟩, [])])
  (.cond (.tmp 46) (.seq (.reg [⟨(some 4), (.mv (.const (.int .i64 9))), none⟩])
  .ret) .skip))
  (.seq (.reg [⟨(some 4), (.mv (.const (.int .i64 0))), none⟩])
  .ret)))))⟩
theorem pf350_ok : pfOf Tryz.prog plan 350 = some pf350 := by kernel_rfl
theorem ok350 : fnOk Tryz.prog plan 350 = true := by kernel_rfl
/- 363 slices.Index[[]int,int] -/
noncomputable def pc363_0 : PCode := (.seq (.reg [⟨(some 9), (.bin .lss .int (.tmp 8) (.tmp 7)), none⟩])
  (.seq (.cond (.tmp 9) .skip (.exit 0))
  (.seq (.block 1 (.seq (.reg [⟨(some 10), (.mv (.tmp 8)), none⟩, ⟨(some 5), (.mv (.tmp 10)), none⟩])
  (.seq (.reg [⟨(some 11), (.mv (.tmp 1)), none⟩, ⟨(some 12), (.mv (.tmp 0)), none⟩, ⟨(some 13), (.mv (.tmp 5)), none⟩, ⟨(some 14), (.indexAddr (.sl 1) (.tmp 12) (.tmp 13)), none⟩, ⟨(some 15), (.load none (.tmp 14)), none⟩, ⟨(some 16), (.bin .eql .int (.tmp 11) (.tmp 15)), none⟩])
  (.cond (.tmp 16) (.seq (.reg [⟨(some 17), (.mv (.tmp 5)), none⟩, ⟨(some 4), (.mv (.tmp 17)), none⟩])
  .ret) .skip))))
  (.reg [⟨(some 18), (.bin .add .int (.tmp 8) (.const (.int .i64 1))), none⟩, ⟨(some 8), (.mv (.tmp 18)), none⟩]))))
noncomputable def pf363 : PF := ⟨19, [.tmp 4], (.seq (.reg [⟨(some 4), (.mv (.const (.int .i64 0))), none⟩])
  (.seq (.seq (.reg [⟨(some 6), (.mv (.tmp 0)), none⟩, ⟨(some 7), (.len .sl (.tmp 6)), none⟩, ⟨(some 8), (.mv (.const (.int .i64 0))), none⟩])
  (.block 0 (.loop pc363_0)))
  (.seq (.reg [⟨(some 4), (.mv (.const (.int .i64 (-1)))), none⟩])
  .ret)))⟩
theorem pf363_ok : pfOf Tryz.prog plan 363 = some pf363 := by kernel_rfl
theorem ok363 : fnOk Tryz.prog plan 363 = true := by kernel_rfl
/- 364 scantling/span.Right -/
noncomputable def pf364 : PF := ⟨24, [.tmp 2], (.seq (.reg [⟨(some 1), (.box 0 (.tmp 0)), none⟩, ⟨(some 2), (.mv (.const (.bool false))), none⟩])
  (.seq (.reg [⟨(some 4), (.call 323 []), none⟩, ⟨(some 3), (.alloc 0 [(.int .i64 0), (.int .i64 0)]), none⟩, ⟨none, (.store 2 (.tmp 3) (.tmp 4)), none⟩])
  (.seq (.reg [⟨(some 5), (.fieldAddr 0 (.tmp 1)), none⟩, ⟨(some 6), (.load none (.tmp 5)), none⟩, ⟨(some 7), (.fieldAddr 0 (.tmp 3)), none⟩, ⟨(some 8), (.load none (.tmp 7)), none⟩, ⟨(some 9), (.bin .geq .int (.tmp 6) (.tmp 8)), none⟩, ⟨(some 10), (.mv (.tmp 9)), none⟩, ⟨(some 11), (.fieldAddr 0 (.tmp 1)), (some ((some 10), true))⟩, ⟨(some 12), (.load none (.tmp 11)), (some ((some 10), true))⟩, ⟨(some 13), (.fieldAddr 1 (.tmp 1)), (some ((some 10), true))⟩, ⟨(some 14), (.load none (.tmp 13)), (some ((some 10), true))⟩, ⟨(some 15), (.bin .leq .int (.tmp 12) (.tmp 14)), (some ((some 10), true))⟩, ⟨(some 16), (.raw (.pick (.tmp 10) (.tmp 15) (.const (.bool false)))), none⟩, ⟨(some 17), (.mv (.tmp 16)), none⟩, ⟨(some 18), (.fieldAddr 1 (.tmp 1)), (some ((some 17), true))⟩, ⟨(some 19), (.load none (.tmp 18)), (some ((some 17), true))⟩, ⟨(some 20), (.fieldAddr 1 (.tmp 3)), (some ((some 17), true))⟩, ⟨(some 21), (.load none (.tmp 20)), (some ((some 17), true))⟩, ⟨(some 22), (.bin .leq .int (.tmp 19) (.tmp 21)), (some ((some 17), true))⟩, ⟨(some 23), (.raw (.pick (.tmp 17) (.tmp 22) (.const (.bool false)))), none⟩, ⟨(some 2), (.mv (.tmp 23)), none⟩])
  .ret)))⟩
theorem pf364_ok : pfOf Tryz.prog plan 364 = some pf364 := by kernel_rfl
theorem ok364 : fnOk Tryz.prog plan 364 = true := by kernel_rfl

end Am
end Go.Proofs.YtbpabpnpoidpcaaGreatDoor
