/- Functions of the loaded program with their types' facts laid in (printed by a program, each checked by the kernel). No conditions. -/
import Derived.Test.YtbpabpnpoidpcaaGreatDoorPc6
import Derived.Test.YtbpabpnpoidpcaaGreatDoorPlan
import Derived.KernelRfl
set_option maxRecDepth 100000
set_option linter.unusedVariables false
namespace Go.Proofs.YtbpabpnpoidpcaaGreatDoor
namespace Am
open Go Go.RowKit

/- 6 scantling/scantlinglaw48.lives -/
noncomputable def pf6 : PF := ⟨39, [.tmp 0], (.seq (.reg [⟨(some 0), (.mv (.const (.bool false))), none⟩])
  (.seq (.reg [⟨(some 6), (.build [(.int .i64 0), (.int .i64 0), (.int .i64 0), (.int .i64 0), (.slice none 0 0)] [(0, 1), (1, 1), (2, 1), (3, 1), (4, 1)] [(2, (.const (.int .i64 1)))]), none⟩, ⟨(some 7), (.call 18 [(.tmp 6), (.const (.int .i64 8))]), none⟩, ⟨(some 5), (.mv (.tmp 7)), none⟩, ⟨(some 8), (.extract (.tmp 5) 0), none⟩, ⟨(some 9), (.extract (.tmp 5) 1), none⟩, ⟨(some 1), (.mv (.tmp 8)), none⟩, ⟨(some 2), (.mv (.tmp 9)), none⟩])
  (.seq (.seq (.reg [⟨(some 10), (.mv (.tmp 2)), none⟩, ⟨(some 11), (.bin .neq .ifc (.tmp 10) (.const .nilIface)), none⟩])
  (.cond (.tmp 11) (.seq (.reg [⟨(some 0), (.mv (.const (.bool false))), none⟩])
  .ret) .skip))
  (.seq (.reg [⟨(some 13), (.mv (.tmp 1)), none⟩, ⟨(some 14), (.call 7 [(.tmp 13), (.const (.int .i64 9))]), none⟩, ⟨(some 12), (.mv (.tmp 14)), none⟩, ⟨(some 15), (.extract (.tmp 12) 0), none⟩, ⟨(some 16), (.extract (.tmp 12) 1), none⟩, ⟨(some 3), (.alloc 0 (List.replicate 13 (.int .i64 0))), none⟩, ⟨none, (.store 13 (.tmp 3) (.tmp 15)), none⟩, ⟨(some 4), (.mv (.tmp 16)), none⟩])
  (.seq (.reg [⟨(some 17), (.mv (.tmp 4)), none⟩, ⟨(some 18), (.bin .eql .ifc (.tmp 17) (.const .nilIface)), none⟩, ⟨(some 19), (.mv (.tmp 18)), none⟩, ⟨(some 20), (.fieldAddr 1 (.tmp 3)), (some ((some 19), true))⟩, ⟨(some 21), (.load none (.tmp 20)), (some ((some 19), true))⟩, ⟨(some 22), (.bin .eql .int (.tmp 21) (.const (.int .i64 8))), (some ((some 19), true))⟩, ⟨(some 23), (.raw (.pick (.tmp 19) (.tmp 22) (.const (.bool false)))), none⟩, ⟨(some 24), (.mv (.tmp 23)), none⟩, ⟨(some 25), (.fieldAddr 3 (.tmp 3)), (some ((some 24), true))⟩, ⟨(some 26), (.load none (.tmp 25)), (some ((some 24), true))⟩, ⟨(some 27), (.bin .eql .int (.tmp 26) (.const (.int .i64 5))), (some ((some 24), true))⟩, ⟨(some 28), (.raw (.pick (.tmp 24) (.tmp 27) (.const (.bool false)))), none⟩, ⟨(some 29), (.mv (.tmp 28)), none⟩, ⟨(some 30), (.fieldAddr 5 (.tmp 3)), (some ((some 29), true))⟩, ⟨(some 31), (.load none (.tmp 30)), (some ((some 29), true))⟩, ⟨(some 32), (.bin .eql .int (.tmp 31) (.const (.int .i64 0))), (some ((some 29), true))⟩, ⟨(some 33), (.raw (.pick (.tmp 29) (.tmp 32) (.const (.bool false)))), none⟩, ⟨(some 34), (.mv (.tmp 33)), none⟩, ⟨(some 35), (.fieldAddr 6 (.tmp 3)), (some ((some 34), true))⟩, ⟨(some 36), (.load none (.tmp 35)), (some ((some 34), true))⟩, ⟨(some 37), (.bin .eql .int (.tmp 36) (.const (.int .i64 69))), (some ((some 34), true))⟩, ⟨(some 38), (.raw (.pick (.tmp 34) (.tmp 37) (.const (.bool false)))), none⟩, ⟨(some 0), (.mv (.tmp 38)), none⟩])
  .ret)))))⟩
theorem pf6_ok : pfOf Tryz.prog plan 6 = some pf6 := by kernel_rfl
theorem ok6 : fnOk Tryz.prog plan 6 = true := by kernel_rfl
/- 7 scantling/stat.Stat -/
noncomputable def pc7_0 : PCode := (.seq (.reg [⟨(some 59), (.bin .lss .int (.tmp 58) (.tmp 57)), none⟩])
  (.seq (.cond (.tmp 59) .skip (.exit 0))
  (.seq (.block 1 (.seq (.reg [⟨(some 60), (.indexAddr (.sl 5) (.tmp 56) (.tmp 58)), none⟩, ⟨(some 61), (.load (some 5) (.tmp 60)), none⟩, ⟨(some 12), (.alloc 0 [(.int .i64 0), (.int .i64 0), (.int .i64 0), (.int .i64 0), (.slice none 0 0)]), none⟩, ⟨none, (.store 5 (.tmp 12) (.tmp 61)), none⟩])
  (.draw [(⟨(some 62), (.fieldAddr 9 (.tmp 10)), none⟩, []), (⟨(some 64), (.fieldAddr 4 (.tmp 12)), none⟩, []), (⟨(some 63), (.load none (.tmp 62)), none⟩, []), (⟨(some 65), (.load none (.tmp 64)), none⟩, []), (⟨(some 66), (.call 29 [(.tmp 65)]), none⟩, [⟨(some 63), (.load none (.tmp 62)), none⟩]), (⟨(some 67), (.len .sl (.tmp 66)), none⟩, []), (⟨(some 68), (.bin .add .int (.tmp 63) (.tmp 67)), none⟩, []), (⟨(some 69), (.fieldAddr 9 (.tmp 10)), none⟩, []), (⟨none, (.store 1 (.tmp 69) (.tmp 68)), none⟩, [])])))
  (.reg [⟨(some 70), (.bin .add .int (.tmp 58) (.const (.int .i64 1))), none⟩, ⟨(some 58), (.mv (.tmp 70)), none⟩]))))
noncomputable def pf7 : PF := ⟨80, [.cell 4 (some 13), .tmp 5], (.seq (.reg [⟨(some 2), (.box 0 (.tmp 0)), none⟩, ⟨(some 4), (.alloc 0 (List.replicate 13 (.int .i64 0))), none⟩, ⟨(some 5), (.mv (.const .nilIface)), none⟩])
  (.seq (.reg [⟨(some 14), (.load none (.tmp 2)), none⟩, ⟨(some 15), (.mv (.tmp 1)), none⟩, ⟨(some 16), (.call 23 [(.tmp 14), (.tmp 15)]), none⟩, ⟨(some 13), (.mv (.tmp 16)), none⟩, ⟨(some 17), (.extract (.tmp 13) 0), none⟩, ⟨(some 18), (.extract (.tmp 13) 1), none⟩, ⟨(some 6), (.alloc 0 [(.int .i64 0), (.int .i64 0), (.int .i64 0), (.int .i64 0), (.slice none 0 0)]), none⟩, ⟨none, (.store 5 (.tmp 6) (.tmp 17)), none⟩, ⟨(some 7), (.mv (.tmp 18)), none⟩])
  (.seq (.seq (.reg [⟨(some 19), (.mv (.tmp 7)), none⟩, ⟨(some 20), (.bin .neq .ifc (.tmp 19) (.const .nilIface)), none⟩])
  (.cond (.tmp 20) (.seq (.reg [⟨(some 21), (.build (List.replicate 13 (.int .i64 0)) [(0, 1), (1, 1), (2, 1), (3, 1), (4, 1), (5, 1), (6, 1), (7, 1), (8, 1), (9, 1), (10, 1), (11, 1), (12, 1)] []), none⟩, ⟨(some 22), (.mv (.tmp 7)), none⟩, ⟨none, (.store 13 (.tmp 4) (.tmp 21)), none⟩, ⟨(some 5), (.mv (.tmp 22)), none⟩])
  .ret) .skip))
  (.seq (.reg [⟨(some 24), (.load none (.tmp 2)), none⟩, ⟨(some 25), (.call 24 [(.tmp 24)]), none⟩, ⟨(some 23), (.mv (.tmp 25)), none⟩, ⟨(some 26), (.extract (.tmp 23) 0), none⟩, ⟨(some 27), (.extract (.tmp 23) 1), none⟩, ⟨(some 8), (.alloc 0 (List.replicate 11 (.int .i64 0))), none⟩, ⟨none, (.store 11 (.tmp 8) (.tmp 26)), none⟩, ⟨(some 7), (.mv (.tmp 27)), none⟩])
  (.seq (.seq (.reg [⟨(some 28), (.mv (.tmp 7)), none⟩, ⟨(some 29), (.bin .neq .ifc (.tmp 28) (.const .nilIface)), none⟩])
  (.cond (.tmp 29) (.seq (.reg [⟨(some 30), (.build (List.replicate 13 (.int .i64 0)) [(0, 1), (1, 1), (2, 1), (3, 1), (4, 1), (5, 1), (6, 1), (7, 1), (8, 1), (9, 1), (10, 1), (11, 1), (12, 1)] []), none⟩, ⟨(some 31), (.mv (.tmp 7)), none⟩, ⟨none, (.store 13 (.tmp 4) (.tmp 30)), none⟩, ⟨(some 5), (.mv (.tmp 31)), none⟩])
  .ret) .skip))
  (.seq (.reg [⟨(some 33), (.load none (.tmp 2)), none⟩, ⟨(some 34), (.load (some 11) (.tmp 8)), none⟩, ⟨(some 35), (.call 25 [(.tmp 33), (.tmp 34)]), none⟩, ⟨(some 32), (.mv (.tmp 35)), none⟩, ⟨(some 36), (.extract (.tmp 32) 0), none⟩, ⟨(some 37), (.extract (.tmp 32) 1), none⟩, ⟨(some 9), (.mv (.tmp 36)), none⟩, ⟨(some 7), (.mv (.tmp 37)), none⟩])
  (.seq (.seq (.reg [⟨(some 38), (.mv (.tmp 7)), none⟩, ⟨(some 39), (.bin .neq .ifc (.tmp 38) (.const .nilIface)), none⟩])
  (.cond (.tmp 39) (.seq (.reg [⟨(some 40), (.build (List.replicate 13 (.int .i64 0)) [(0, 1), (1, 1), (2, 1), (3, 1), (4, 1), (5, 1), (6, 1), (7, 1), (8, 1), (9, 1), (10, 1), (11, 1), (12, 1)] []), none⟩, ⟨(some 41), (.mv (.tmp 7)), none⟩, ⟨none, (.store 13 (.tmp 4) (.tmp 40)), none⟩, ⟨(some 5), (.mv (.tmp 41)), none⟩])
  .ret) .skip))
  (.seq (.draw [(⟨(some 42), (.fieldAddr 4 (.tmp 8)), none⟩, []), (⟨(some 44), (.fieldAddr 4 (.tmp 6)), none⟩, []), (⟨(some 49), (.fieldAddr 3 (.tmp 6)), none⟩, []), (⟨(some 43), (.load none (.tmp 42)), none⟩, []), (⟨(some 45), (.load none (.tmp 44)), none⟩, []), (⟨(some 46), (.len .sl (.tmp 45)), none⟩, []), (⟨(some 47), (.load (some 5) (.tmp 6)), none⟩, []), (⟨(some 50), (.load none (.tmp 49)), none⟩, []), (⟨(some 10), (.alloc 0 (List.replicate 13 (.int .i64 0))), none⟩, [⟨(some 43), (.load none (.tmp 42)), none⟩, ⟨(some 45), (.load none (.tmp 44)), none⟩, ⟨(some 46), (.len .sl (.tmp 45)), none⟩, ⟨(some 47), (.load (some 5) (.tmp 6)), none⟩, ⟨(some 50), (.load none (.tmp 49)), none⟩]), (⟨(some 48), (.call 21 [(.tmp 47)]), none⟩, [⟨(some 43), (.load none (.tmp 42)), none⟩, ⟨(some 45), (.load none (.tmp 44)), none⟩, ⟨(some 46), (.len .sl (.tmp 45)), none⟩, ⟨(some 50), (.load none (.tmp 49)), none⟩, ⟨(some 10), (.alloc 0 (List.replicate 13 (.int .i64 0))), none⟩]), (⟨(some 51), (.build (List.replicate 13 (.int .i64 0)) [(0, 1), (1, 1), (2, 1), (3, 1), (4, 1), (5, 1), (6, 1), (7, 1), (8, 1), (9, 1), (10, 1), (11, 1), (12, 1)] [(0, (.tmp 43)), (7, (.tmp 46)), (8, (.tmp 48)), (10, (.tmp 50))]), none⟩, [⟨(some 10), (.alloc 0 (List.replicate 13 (.int .i64 0))), none⟩]), (⟨none, (.store 13 (.tmp 10) (.tmp 51)), none⟩, [])])
  (.seq (.reg [⟨(some 52), (.mv (.tmp 9)), none⟩, ⟨(some 53), (.fn 27 [] [(.tmp 10), (.tmp 2)]), none⟩, ⟨(some 54), (.call 26 [(.tmp 52), (.tmp 53)]), none⟩])
  (.seq (.seq (.reg [⟨(some 55), (.fieldAddr 4 (.tmp 6)), none⟩, ⟨(some 56), (.load none (.tmp 55)), none⟩, ⟨(some 57), (.len .sl (.tmp 56)), none⟩, ⟨(some 58), (.mv (.const (.int .i64 0))), none⟩])
  (.block 0 (.loop pc7_0)))
  (.seq (.reg [⟨(some 72), (.load (some 5) (.tmp 6)), none⟩, ⟨(some 73), (.call 30 [(.tmp 72)]), none⟩, ⟨(some 71), (.mv (.tmp 73)), none⟩, ⟨(some 74), (.extract (.tmp 71) 0), none⟩, ⟨(some 75), (.extract (.tmp 71) 1), none⟩, ⟨(some 76), (.extract (.tmp 71) 2), none⟩, ⟨(some 77), (.fieldAddr 11 (.tmp 10)), none⟩, ⟨none, (.store 1 (.tmp 77) (.tmp 74)), none⟩, ⟨(some 78), (.fieldAddr 12 (.tmp 10)), none⟩, ⟨none, (.store 1 (.tmp 78) (.tmp 75)), none⟩])
  (.seq (.reg [⟨(some 79), (.load (some 13) (.tmp 10)), none⟩, ⟨none, (.store 13 (.tmp 4) (.tmp 79)), none⟩, ⟨(some 5), (.mv (.const .nilIface)), none⟩])
  .ret))))))))))))⟩
theorem pf7_ok : pfOf Tryz.prog plan 7 = some pf7 := by kernel_rfl
theorem ok7 : fnOk Tryz.prog plan 7 = true := by kernel_rfl
/- 18 scantling/lay.Lay -/
noncomputable def pf18 : PF := ⟨42, [.cell 4 none, .cell 5 none], (.seq (.reg [⟨(some 2), (.box 0 (.tmp 0)), none⟩, ⟨(some 4), (.alloc 0 [(.pointer none)]), none⟩, ⟨(some 5), (.alloc 0 [.nilIface]), none⟩])
  (.seq (.reg [⟨(some 9), (.fn 49 [] [(.tmp 4), (.tmp 5)]), none⟩, ⟨none, (.defer (.tmp 9)), none⟩])
  (.seq (.seq (.reg [⟨(some 10), (.load (some 5) (.tmp 2)), none⟩, ⟨(some 11), (.call 16 [(.tmp 10)]), none⟩, ⟨(some 6), (.mv (.tmp 11)), none⟩])
  (.seq (.reg [⟨(some 12), (.mv (.tmp 6)), none⟩, ⟨(some 13), (.bin .neq .int (.tmp 12) (.const (.int .i64 0))), none⟩])
  (.cond (.tmp 13) (.seq (.reg [⟨(some 14), (.mv (.tmp 6)), none⟩, ⟨(some 15), (.iface 49 (.tmp 14)), none⟩, ⟨none, (.store 1 (.tmp 4) (.const (.pointer none))), none⟩, ⟨none, (.store 1 (.tmp 5) (.tmp 15)), none⟩])
  .ret) .skip)))
  (.seq (.reg [⟨(some 17), (.mv (.tmp 1)), none⟩, ⟨(some 18), (.call 50 [(.tmp 17)]), none⟩, ⟨(some 16), (.mv (.tmp 18)), none⟩, ⟨(some 19), (.extract (.tmp 16) 0), none⟩, ⟨(some 20), (.extract (.tmp 16) 1), none⟩, ⟨none, (.store 1 (.tmp 4) (.tmp 19)), none⟩, ⟨(some 7), (.mv (.tmp 20)), none⟩])
  (.seq (.seq (.reg [⟨(some 21), (.mv (.tmp 7)), none⟩, ⟨(some 22), (.bin .neq .int (.tmp 21) (.const (.int .i64 0))), none⟩])
  (.cond (.tmp 22) (.seq (.reg [⟨(some 23), (.mv (.tmp 7)), none⟩, ⟨(some 24), (.iface 49 (.tmp 23)), none⟩, ⟨none, (.store 1 (.tmp 4) (.const (.pointer none))), none⟩, ⟨none, (.store 1 (.tmp 5) (.tmp 24)), none⟩])
  .ret) .skip))
  (.seq (.seq (.reg [⟨(some 25), (.load (some 5) (.tmp 2)), none⟩, ⟨(some 26), (.mv (.tmp 1)), none⟩, ⟨(some 27), (.call 51 [(.tmp 25), (.tmp 26)]), none⟩, ⟨(some 28), (.un .not (.tmp 27)), none⟩])
  (.cond (.tmp 28) (.seq (.reg [⟨(some 29), (.iface 49 (.const (.int .i64 14))), none⟩, ⟨none, (.store 1 (.tmp 4) (.const (.pointer none))), none⟩, ⟨none, (.store 1 (.tmp 5) (.tmp 29)), none⟩])
  .ret) .skip))
  (.seq (.reg [⟨(some 31), (.load none (.tmp 4)), none⟩, ⟨(some 32), (.call 52 [(.tmp 31), (.const (.int .i64 1))]), none⟩, ⟨(some 30), (.mv (.tmp 32)), none⟩, ⟨(some 33), (.extract (.tmp 30) 0), none⟩, ⟨(some 34), (.extract (.tmp 30) 1), none⟩, ⟨(some 8), (.mv (.tmp 33)), none⟩, ⟨none, (.store 1 (.tmp 5) (.tmp 34)), none⟩])
  (.seq (.reg [⟨(some 35), (.load none (.tmp 5)), none⟩, ⟨(some 36), (.call 53 [(.tmp 35)]), none⟩])
  (.seq (.reg [⟨(some 37), (.mv (.tmp 8)), none⟩, ⟨(some 38), (.build [(.pointer none)] [(0, 1)] [(0, (.tmp 37))]), none⟩, ⟨(some 39), (.load (some 5) (.tmp 2)), none⟩, ⟨(some 40), (.call 54 [(.tmp 38), (.tmp 39)]), none⟩])
  (.seq (.reg [⟨(some 41), (.load none (.tmp 4)), none⟩, ⟨none, (.store 1 (.tmp 4) (.tmp 41)), none⟩, ⟨none, (.store 1 (.tmp 5) (.const .nilIface)), none⟩])
  .ret))))))))))⟩
theorem pf18_ok : pfOf Tryz.prog plan 18 = some pf18 := by kernel_rfl
theorem ok18 : fnOk Tryz.prog plan 18 = true := by kernel_rfl
/- 23 scantling/check.Pool -/
noncomputable def pf23 : PF := ⟨28, [.cell 4 (some 5), .tmp 5], (.seq (.reg [⟨(some 4), (.alloc 0 [(.int .i64 0), (.int .i64 0), (.int .i64 0), (.int .i64 0), (.slice none 0 0)]), none⟩, ⟨(some 5), (.mv (.const .nilIface)), none⟩])
  (.seq (.reg [⟨(some 8), (.mv (.tmp 0)), none⟩, ⟨(some 9), (.mv (.tmp 1)), none⟩, ⟨(some 10), (.call 63 [(.tmp 8), (.tmp 9)]), none⟩, ⟨(some 6), (.alloc 0 [(.int .i64 0), (.int .i64 0), (.int .i64 0), (.int .i64 0), (.int .i64 0), (.int .i64 0), (.int .i64 0), (.int .i64 0), (.int .i64 0), (.int .i64 0), (.int .i64 0), (.int .i64 0), (.int .i64 0), (.int .i64 0), (.int .i64 0), (.slice none 0 0), (.slice none 0 0), (.slice none 0 0), (.slice none 0 0)]), none⟩, ⟨none, (.store 19 (.tmp 6) (.tmp 10)), none⟩])
  (.seq (.seq (.reg [⟨(some 11), (.fieldAddr 18 (.tmp 6)), none⟩, ⟨(some 12), (.load none (.tmp 11)), none⟩, ⟨(some 13), (.len .sl (.tmp 12)), none⟩, ⟨(some 14), (.bin .gtr .int (.tmp 13) (.const (.int .i64 0))), none⟩])
  (.cond (.tmp 14) (.seq (.reg [⟨(some 15), (.fieldAddr 18 (.tmp 6)), none⟩, ⟨(some 16), (.load none (.tmp 15)), none⟩, ⟨(some 17), (.indexAddr (.sl 3) (.tmp 16) (.const (.int .i64 0))), none⟩, ⟨(some 18), (.load (some 3) (.tmp 17)), none⟩, ⟨(some 7), (.alloc 0 [(.int .i64 0), (.int .i64 0), (.int .i64 0)]), none⟩, ⟨none, (.store 3 (.tmp 7) (.tmp 18)), none⟩])
  (.seq (.reg [⟨(some 19), (.build [(.int .i64 0), (.int .i64 0), (.int .i64 0), (.int .i64 0), (.slice none 0 0)] [(0, 1), (1, 1), (2, 1), (3, 1), (4, 1)] []), none⟩, ⟨(some 20), (.fieldAddr 1 (.tmp 7)), none⟩, ⟨(some 21), (.load none (.tmp 20)), none⟩, ⟨(some 22), (.fieldAddr 2 (.tmp 7)), none⟩, ⟨(some 23), (.load none (.tmp 22)), none⟩, ⟨(some 24), (.iface 49 (.tmp 23)), none⟩, ⟨(some 25), (.call 64 [(.tmp 21), (.tmp 24)]), none⟩, ⟨none, (.store 5 (.tmp 4) (.tmp 19)), none⟩, ⟨(some 5), (.mv (.tmp 25)), none⟩])
  .ret)) .skip))
  (.seq (.reg [⟨(some 26), (.fieldAddr 11 (.tmp 6)), none⟩, ⟨(some 27), (.load (some 5) (.tmp 26)), none⟩, ⟨none, (.store 5 (.tmp 4) (.tmp 27)), none⟩, ⟨(some 5), (.mv (.const .nilIface)), none⟩])
  .ret))))⟩
theorem pf23_ok : pfOf Tryz.prog plan 23 = some pf23 := by kernel_rfl
theorem ok23 : fnOk Tryz.prog plan 23 = true := by kernel_rfl
/- 24 scantling/block.Super -/
noncomputable def pf24 : PF := ⟨9, [.cell 2 (some 11), .tmp 3], (.seq (.reg [⟨(some 1), (.box 0 (.tmp 0)), none⟩, ⟨(some 2), (.alloc 0 (List.replicate 11 (.int .i64 0))), none⟩, ⟨(some 3), (.mv (.const .nilIface)), none⟩])
  (.seq (.reg [⟨(some 4), (.load none (.tmp 1)), none⟩, ⟨(some 5), (.fn 66 [] [(.tmp 1)]), none⟩, ⟨(some 6), (.call 65 [(.tmp 4), (.const (.int .i64 0)), (.const (.int .i64 1)), (.tmp 5)]), none⟩, ⟨(some 7), (.extract (.tmp 6) 0), none⟩, ⟨(some 8), (.extract (.tmp 6) 1), none⟩, ⟨none, (.store 11 (.tmp 2) (.tmp 7)), none⟩, ⟨(some 3), (.mv (.tmp 8)), none⟩])
  .ret))⟩
theorem pf24_ok : pfOf Tryz.prog plan 24 = some pf24 := by kernel_rfl
theorem ok24 : fnOk Tryz.prog plan 24 = true := by kernel_rfl
/- 25 scantling/reach.Count -/
noncomputable def pc25_0 : PCode := (.seq (.reg [⟨(some 49), (.bin .lss .int (.tmp 48) (.tmp 47)), none⟩])
  (.seq (.cond (.tmp 49) .skip (.exit 0))
  (.seq (.block 1 (.seq (.reg [⟨(some 50), (.indexAddr (.sl 2) (.tmp 46) (.tmp 48)), none⟩, ⟨(some 51), (.load (some 2) (.tmp 50)), none⟩, ⟨(some 10), (.alloc 0 [(.int .i64 0), (.int .i64 0)]), none⟩, ⟨none, (.store 2 (.tmp 10) (.tmp 51)), none⟩])
  (.seq (.reg [⟨(some 52), (.mv (.tmp 8)), none⟩, ⟨(some 53), (.fieldAddr 0 (.tmp 10)), none⟩, ⟨(some 54), (.load none (.tmp 53)), none⟩, ⟨(some 55), (.fieldAddr 1 (.tmp 10)), none⟩, ⟨(some 56), (.load none (.tmp 55)), none⟩, ⟨(some 57), (.call 72 [(.tmp 52), (.tmp 54), (.tmp 56)]), none⟩, ⟨(some 11), (.mv (.tmp 57)), none⟩])
  (.seq (.reg [⟨(some 58), (.mv (.tmp 11)), none⟩, ⟨(some 59), (.bin .neq .ifc (.tmp 58) (.const .nilIface)), none⟩])
  (.cond (.tmp 59) (.seq (.reg [⟨(some 60), (.mv (.tmp 11)), none⟩, ⟨(some 4), (.mv (.const (.slice none 0 0))), none⟩, ⟨(some 5), (.mv (.tmp 60)), none⟩])
  .ret) .skip)))))
  (.reg [⟨(some 61), (.bin .add .int (.tmp 48) (.const (.int .i64 1))), none⟩, ⟨(some 48), (.mv (.tmp 61)), none⟩]))))
noncomputable def pf25 : PF := ⟨67, [.tmp 4, .tmp 5], (.seq (.reg [⟨(some 3), (.box 0 (.tmp 1)), none⟩, ⟨(some 4), (.mv (.const (.slice none 0 0))), none⟩, ⟨(some 5), (.mv (.const .nilIface)), none⟩])
  (.seq (.seq (.reg [⟨(some 12), (.load (some 11) (.tmp 3)), none⟩, ⟨(some 13), (.call 69 [(.tmp 12)]), none⟩, ⟨(some 14), (.un .not (.tmp 13)), none⟩])
  (.cond (.tmp 14) (.seq (.reg [⟨(some 15), (.iface 49 (.const (.int .i64 1))), none⟩, ⟨(some 4), (.mv (.const (.slice none 0 0))), none⟩, ⟨(some 5), (.mv (.tmp 15)), none⟩])
  .ret) .skip))
  (.seq (.reg [⟨(some 17), (.fieldAddr 4 (.tmp 3)), none⟩, ⟨(some 18), (.load none (.tmp 17)), none⟩, ⟨(some 19), (.call 70 [(.tmp 18)]), none⟩, ⟨(some 16), (.mv (.tmp 19)), none⟩, ⟨(some 20), (.extract (.tmp 16) 0), none⟩, ⟨(some 21), (.extract (.tmp 16) 1), none⟩, ⟨(some 6), (.mv (.tmp 20)), none⟩, ⟨(some 7), (.mv (.tmp 21)), none⟩])
  (.seq (.reg [⟨(some 22), (.mv (.tmp 6)), none⟩, ⟨(some 23), (.call 71 [(.tmp 22), (.const (.int .i64 0))]), none⟩])
  (.seq (.reg [⟨(some 24), (.mv (.tmp 0)), none⟩, ⟨(some 25), (.mv (.tmp 6)), none⟩, ⟨(some 26), (.build [(.pointer none), (.pointer none)] [(0, 1), (1, 1)] [(0, (.tmp 24)), (1, (.tmp 25))]), none⟩, ⟨(some 27), (.box 0 (.tmp 26)), none⟩, ⟨(some 8), (.mv (.tmp 27)), none⟩])
  (.seq (.seq (.reg [⟨(some 28), (.fieldAddr 5 (.tmp 3)), none⟩, ⟨(some 29), (.load none (.tmp 28)), none⟩, ⟨(some 30), (.build [(.int .i64 0), (.int .i64 0)] [(0, 1), (1, 1)] [(0, (.tmp 29)), (1, (.const (.int .i64 1)))]), none⟩, ⟨(some 31), (.fieldAddr 6 (.tmp 3)), none⟩, ⟨(some 32), (.load none (.tmp 31)), none⟩, ⟨(some 33), (.build [(.int .i64 0), (.int .i64 0)] [(0, 1), (1, 1)] [(0, (.tmp 32)), (1, (.const (.int .i64 3)))]), none⟩, ⟨(some 34), (.fieldAddr 7 (.tmp 3)), none⟩, ⟨(some 35), (.load none (.tmp 34)), none⟩, ⟨(some 36), (.build [(.int .i64 0), (.int .i64 0)] [(0, 1), (1, 1)] [(0, (.tmp 35)), (1, (.const (.int .i64 4)))]), none⟩, ⟨(some 37), (.fieldAddr 8 (.tmp 3)), none⟩, ⟨(some 38), (.load none (.tmp 37)), none⟩, ⟨(some 39), (.build [(.int .i64 0), (.int .i64 0)] [(0, 1), (1, 1)] [(0, (.tmp 38)), (1, (.const (.int .i64 5)))]), none⟩, ⟨(some 40), (.fieldAddr 9 (.tmp 3)), none⟩, ⟨(some 41), (.load none (.tmp 40)), none⟩, ⟨(some 42), (.build [(.int .i64 0), (.int .i64 0)] [(0, 1), (1, 1)] [(0, (.tmp 41)), (1, (.const (.int .i64 (-1))))]), none⟩, ⟨(some 43), (.fieldAddr 10 (.tmp 3)), none⟩, ⟨(some 44), (.load none (.tmp 43)), none⟩, ⟨(some 45), (.build [(.int .i64 0), (.int .i64 0)] [(0, 1), (1, 1)] [(0, (.tmp 44)), (1, (.const (.int .i64 5)))]), none⟩, ⟨(some 46), (.buildSlice 2 6 [(0, (.tmp 30)), (1, (.tmp 33)), (2, (.tmp 36)), (3, (.tmp 39)), (4, (.tmp 42)), (5, (.tmp 45))]), none⟩, ⟨(some 47), (.len .sl (.tmp 46)), none⟩, ⟨(some 48), (.mv (.const (.int .i64 0))), none⟩])
  (.block 0 (.loop pc25_0)))
  (.seq (.reg [⟨(some 62), (.mv (.tmp 8)), none⟩, ⟨(some 63), (.nil (.tmp 62)), none⟩, ⟨(some 64), (.fieldAddr 1 (.tmp 63)), none⟩, ⟨(some 65), (.load none (.tmp 64)), none⟩, ⟨(some 66), (.call 73 [(.tmp 65)]), none⟩, ⟨(some 4), (.mv (.tmp 66)), none⟩, ⟨(some 5), (.mv (.const .nilIface)), none⟩])
  .ret)))))))⟩
theorem pf25_ok : pfOf Tryz.prog plan 25 = some pf25 := by kernel_rfl
theorem ok25 : fnOk Tryz.prog plan 25 = true := by kernel_rfl
/- 21 scantling/pool.Count -/
noncomputable def pc21_0 : PCode := (.seq (.reg [⟨(some 10), (.bin .lss .int (.tmp 9) (.tmp 8)), none⟩])
  (.seq (.cond (.tmp 10) .skip (.exit 0))
  (.seq (.block 1 (.seq (.reg [⟨(some 11), (.indexAddr (.sl 5) (.tmp 7) (.tmp 9)), none⟩, ⟨(some 12), (.load (some 5) (.tmp 11)), none⟩, ⟨(some 5), (.alloc 0 [(.int .i64 0), (.int .i64 0), (.int .i64 0), (.int .i64 0), (.slice none 0 0)]), none⟩, ⟨none, (.store 5 (.tmp 5) (.tmp 12)), none⟩])
  (.reg [⟨(some 13), (.mv (.tmp 3)), none⟩, ⟨(some 14), (.fieldAddr 4 (.tmp 5)), none⟩, ⟨(some 15), (.load none (.tmp 14)), none⟩, ⟨(some 16), (.len .sl (.tmp 15)), none⟩, ⟨(some 17), (.bin .add .int (.tmp 13) (.tmp 16)), none⟩, ⟨(some 3), (.mv (.tmp 17)), none⟩])))
  (.reg [⟨(some 18), (.bin .add .int (.tmp 9) (.const (.int .i64 1))), none⟩, ⟨(some 9), (.mv (.tmp 18)), none⟩]))))
noncomputable def pf21 : PF := ⟨20, [.tmp 2], (.seq (.reg [⟨(some 1), (.box 0 (.tmp 0)), none⟩, ⟨(some 2), (.mv (.const (.int .i64 0))), none⟩])
  (.seq (.reg [⟨(some 3), (.mv (.const (.int .i64 0))), none⟩])
  (.seq (.seq (.reg [⟨(some 6), (.fieldAddr 4 (.tmp 1)), none⟩, ⟨(some 7), (.load none (.tmp 6)), none⟩, ⟨(some 8), (.len .sl (.tmp 7)), none⟩, ⟨(some 9), (.mv (.const (.int .i64 0))), none⟩])
  (.block 0 (.loop pc21_0)))
  (.seq (.reg [⟨(some 19), (.mv (.tmp 3)), none⟩, ⟨(some 2), (.mv (.tmp 19)), none⟩])
  .ret))))⟩
theorem pf21_ok : pfOf Tryz.prog plan 21 = some pf21 := by kernel_rfl
theorem ok21 : fnOk Tryz.prog plan 21 = true := by kernel_rfl
/- 26 scantling/stat.used -/
noncomputable def pc26_0 : PCode := (.seq (.reg [⟨(some 9), (.bin .lss .int (.tmp 8) (.tmp 7)), none⟩])
  (.seq (.cond (.tmp 9) .skip (.exit 0))
  (.seq (.block 1 (.seq (.reg [⟨(some 10), (.mv (.tmp 8)), none⟩, ⟨(some 11), (.indexAddr (.sl 1) (.tmp 6) (.tmp 8)), none⟩, ⟨(some 12), (.load none (.tmp 11)), none⟩, ⟨(some 4), (.mv (.tmp 10)), none⟩, ⟨(some 5), (.mv (.tmp 12)), none⟩])
  (.seq (.reg [⟨(some 13), (.mv (.tmp 5)), none⟩, ⟨(some 14), (.bin .gtr .int (.tmp 13) (.const (.int .i64 0))), none⟩])
  (.cond (.tmp 14) (.reg [⟨(some 15), (.mv (.tmp 1)), none⟩, ⟨(some 16), (.mv (.tmp 4)), none⟩, ⟨(some 17), (.mv (.tmp 5)), none⟩, ⟨(some 18), (.callv (.tmp 15) [(.tmp 16), (.tmp 17)]), none⟩]) .skip))))
  (.reg [⟨(some 19), (.bin .add .int (.tmp 8) (.const (.int .i64 1))), none⟩, ⟨(some 8), (.mv (.tmp 19)), none⟩]))))
noncomputable def pf26 : PF := ⟨20, [], (.seq (.reg [⟨(some 6), (.mv (.tmp 0)), none⟩, ⟨(some 7), (.len .sl (.tmp 6)), none⟩, ⟨(some 8), (.mv (.const (.int .i64 0))), none⟩])
  (.block 0 (.loop pc26_0)))⟩
theorem pf26_ok : pfOf Tryz.prog plan 26 = some pf26 := by kernel_rfl
theorem ok26 : fnOk Tryz.prog plan 26 = true := by kernel_rfl
/- 27 scantling/stat.Stat$1 -/
noncomputable def pf27 : PF := ⟨19, [], (.seq (.reg [⟨(some 6), (.fieldAddr 1 (.tmp 2)), none⟩, ⟨(some 7), (.load none (.tmp 6)), none⟩, ⟨(some 8), (.bin .add .int (.tmp 7) (.const (.int .i64 1))), none⟩, ⟨(some 9), (.fieldAddr 1 (.tmp 2)), none⟩, ⟨none, (.store 1 (.tmp 9) (.tmp 8)), none⟩])
  (.seq (.seq (.reg [⟨(some 10), (.mv (.tmp 1)), none⟩, ⟨(some 11), (.bin .gtr .int (.tmp 10) (.const (.int .i64 1))), none⟩])
  (.cond (.tmp 11) (.reg [⟨(some 12), (.fieldAddr 2 (.tmp 2)), none⟩, ⟨(some 13), (.load none (.tmp 12)), none⟩, ⟨(some 14), (.bin .add .int (.tmp 13) (.const (.int .i64 1))), none⟩, ⟨(some 15), (.fieldAddr 2 (.tmp 2)), none⟩, ⟨none, (.store 1 (.tmp 15) (.tmp 14)), none⟩]) .skip))
  (.reg [⟨(some 16), (.load none (.tmp 3)), none⟩, ⟨(some 17), (.mv (.tmp 0)), none⟩, ⟨(some 18), (.call 28 [(.tmp 2), (.tmp 16), (.tmp 17)]), none⟩])))⟩
theorem pf27_ok : pfOf Tryz.prog plan 27 = some pf27 := by kernel_rfl
theorem ok27 : fnOk Tryz.prog plan 27 = true := by kernel_rfl
/- 28 (*scantling/stat.Stats).node -/
noncomputable def pf28 : PF := ⟨55, [], (.seq (.reg [⟨(some 9), (.mv (.tmp 1)), none⟩, ⟨(some 10), (.mv (.tmp 2)), none⟩, ⟨(some 11), (.call 74 [(.tmp 9), (.tmp 10), (.const (.int .i64 0))]), none⟩, ⟨(some 8), (.mv (.tmp 11)), none⟩, ⟨(some 12), (.extract (.tmp 8) 0), none⟩, ⟨(some 13), (.extract (.tmp 8) 1), none⟩, ⟨(some 6), (.alloc 0 [(.int .i64 0), (.bool false), (.slice none 0 0), (.slice none 0 0)]), none⟩, ⟨none, (.store 4 (.tmp 6) (.tmp 12)), none⟩, ⟨(some 7), (.mv (.tmp 13)), none⟩])
  (.seq (.block 0 (.seq (.reg [⟨(some 15), (.mv (.tmp 7)), none⟩, ⟨(some 16), (.bin .neq .ifc (.tmp 15) (.const .nilIface)), none⟩, ⟨(some 14), (.mv (.tmp 16)), none⟩])
  (.cond (.tmp 14) .ret (.seq (.reg [⟨(some 18), (.fieldAddr 1 (.tmp 6)), none⟩, ⟨(some 19), (.load none (.tmp 18)), none⟩, ⟨(some 20), (.un .not (.tmp 19)), none⟩, ⟨(some 17), (.mv (.tmp 20)), none⟩])
  (.cond (.tmp 17) (.seq (.reg [⟨(some 21), (.mv (.tmp 0)), none⟩, ⟨(some 22), (.nil (.tmp 21)), none⟩, ⟨(some 23), (.fieldAddr 4 (.tmp 22)), none⟩, ⟨(some 24), (.load none (.tmp 23)), none⟩, ⟨(some 25), (.bin .add .int (.tmp 24) (.const (.int .i64 1))), none⟩, ⟨(some 26), (.nil (.tmp 21)), none⟩, ⟨(some 27), (.fieldAddr 4 (.tmp 26)), none⟩, ⟨none, (.store 1 (.tmp 27) (.tmp 25)), none⟩])
  .ret) .skip)))))
  (.seq (.reg [⟨(some 28), (.mv (.tmp 0)), none⟩, ⟨(some 29), (.nil (.tmp 28)), none⟩, ⟨(some 30), (.fieldAddr 3 (.tmp 29)), none⟩, ⟨(some 31), (.load none (.tmp 30)), none⟩, ⟨(some 32), (.bin .add .int (.tmp 31) (.const (.int .i64 1))), none⟩, ⟨(some 33), (.nil (.tmp 28)), none⟩, ⟨(some 34), (.fieldAddr 3 (.tmp 33)), none⟩, ⟨none, (.store 1 (.tmp 34) (.tmp 32)), none⟩])
  (.seq (.draw [(⟨(some 35), (.mv (.tmp 0)), none⟩, []), (⟨(some 36), (.nil (.tmp 35)), none⟩, []), (⟨(some 37), (.fieldAddr 5 (.tmp 36)), none⟩, []), (⟨(some 39), (.fieldAddr 2 (.tmp 6)), none⟩, []), (⟨(some 38), (.load none (.tmp 37)), none⟩, []), (⟨(some 40), (.load none (.tmp 39)), none⟩, []), (⟨(some 41), (.len .sl (.tmp 40)), none⟩, []), (⟨(some 42), (.bin .add .int (.tmp 38) (.tmp 41)), none⟩, []), (⟨(some 43), (.nil (.tmp 35)), none⟩, []), (⟨(some 44), (.fieldAddr 5 (.tmp 43)), none⟩, []), (⟨none, (.store 1 (.tmp 44) (.tmp 42)), none⟩, [])])
  (.draw [(⟨(some 45), (.mv (.tmp 0)), none⟩, []), (⟨(some 46), (.nil (.tmp 45)), none⟩, []), (⟨(some 47), (.fieldAddr 6 (.tmp 46)), none⟩, []), (⟨(some 49), (.fieldAddr 0 (.tmp 6)), none⟩, []), (⟨(some 48), (.load none (.tmp 47)), none⟩, []), (⟨(some 50), (.load none (.tmp 49)), none⟩, []), (⟨(some 51), (.call 75 [(.tmp 50), (.const (.bool true))]), none⟩, [⟨(some 48), (.load none (.tmp 47)), none⟩]), (⟨(some 52), (.bin .add .int (.tmp 48) (.tmp 51)), none⟩, []), (⟨(some 53), (.nil (.tmp 45)), none⟩, []), (⟨(some 54), (.fieldAddr 6 (.tmp 53)), none⟩, []), (⟨none, (.store 1 (.tmp 54) (.tmp 52)), none⟩, [])])))))⟩
theorem pf28_ok : pfOf Tryz.prog plan 28 = some pf28 := by kernel_rfl
theorem ok28 : fnOk Tryz.prog plan 28 = true := by kernel_rfl
/- 30 scantling/view.Usage -/
noncomputable def pc30_0 : PCode := (.seq (.reg [⟨(some 14), (.bin .lss .int (.tmp 13) (.tmp 12)), none⟩])
  (.seq (.cond (.tmp 14) .skip (.exit 0))
  (.seq (.block 1 (.seq (.reg [⟨(some 15), (.indexAddr (.sl 1) (.tmp 11) (.tmp 13)), none⟩, ⟨(some 16), (.load none (.tmp 15)), none⟩, ⟨(some 9), (.mv (.tmp 16)), none⟩])
  (.block 2 (.seq (.block 5 (.seq (.block 4 (.seq (.block 3 (.seq (.seq (.seq (.reg [⟨(some 18), (.mv (.tmp 9)), none⟩, ⟨(some 19), (.bin .gtr .int (.tmp 18) (.const (.int .i64 1))), none⟩, ⟨(some 17), (.mv (.tmp 19)), none⟩])
  (.cond (.tmp 17) (.exit 3) .skip))
  (.seq (.reg [⟨(some 21), (.mv (.tmp 9)), none⟩, ⟨(some 22), (.bin .eql .int (.tmp 21) (.const (.int .i64 1))), none⟩, ⟨(some 20), (.mv (.tmp 22)), none⟩])
  (.cond (.tmp 20) (.exit 4) .skip)))
  (.exit 5)))
  (.reg [⟨(some 23), (.mv (.tmp 6)), none⟩, ⟨(some 24), (.bin .add .int (.tmp 23) (.const (.int .i64 1))), none⟩, ⟨(some 6), (.mv (.tmp 24)), none⟩])))
  (.seq (.reg [⟨(some 25), (.mv (.tmp 5)), none⟩, ⟨(some 26), (.bin .add .int (.tmp 25) (.const (.int .i64 1))), none⟩, ⟨(some 5), (.mv (.tmp 26)), none⟩])
  (.exit 2))))
  (.seq (.reg [⟨(some 27), (.mv (.tmp 7)), none⟩, ⟨(some 28), (.bin .add .int (.tmp 27) (.const (.int .i64 1))), none⟩, ⟨(some 7), (.mv (.tmp 28)), none⟩])
  (.exit 2))))))
  (.reg [⟨(some 29), (.bin .add .int (.tmp 13) (.const (.int .i64 1))), none⟩, ⟨(some 13), (.mv (.tmp 29)), none⟩]))))
noncomputable def pf30 : PF := ⟨33, [.tmp 2, .tmp 3, .tmp 4], (.seq (.reg [⟨(some 1), (.box 0 (.tmp 0)), none⟩, ⟨(some 2), (.mv (.const (.int .i64 0))), none⟩, ⟨(some 3), (.mv (.const (.int .i64 0))), none⟩, ⟨(some 4), (.mv (.const (.int .i64 0))), none⟩])
  (.seq (.reg [⟨(some 5), (.mv (.const (.int .i64 0))), none⟩, ⟨(some 6), (.mv (.const (.int .i64 0))), none⟩, ⟨(some 7), (.mv (.const (.int .i64 0))), none⟩])
  (.seq (.seq (.reg [⟨(some 10), (.load (some 5) (.tmp 1)), none⟩, ⟨(some 11), (.call 77 [(.tmp 10)]), none⟩, ⟨(some 12), (.len .sl (.tmp 11)), none⟩, ⟨(some 13), (.mv (.const (.int .i64 0))), none⟩])
  (.block 0 (.loop pc30_0)))
  (.seq (.reg [⟨(some 30), (.mv (.tmp 5)), none⟩, ⟨(some 31), (.mv (.tmp 6)), none⟩, ⟨(some 32), (.mv (.tmp 7)), none⟩, ⟨(some 2), (.mv (.tmp 30)), none⟩, ⟨(some 3), (.mv (.tmp 31)), none⟩, ⟨(some 4), (.mv (.tmp 32)), none⟩])
  .ret))))⟩
theorem pf30_ok : pfOf Tryz.prog plan 30 = some pf30 := by kernel_rfl
theorem ok30 : fnOk Tryz.prog plan 30 = true := by kernel_rfl
/- 31 slices.Clone[[]byte,byte] -/
noncomputable def pf31 : PF := ⟨8, [.tmp 2], (.seq (.reg [⟨(some 2), (.mv (.const (.slice none 0 0))), none⟩])
  (.seq (.seq (.reg [⟨(some 3), (.mv (.tmp 0)), none⟩, ⟨(some 4), (.bin .eql .sl (.tmp 3) (.const (.slice none 0 0))), none⟩])
  (.cond (.tmp 4) (.seq (.reg [⟨(some 2), (.mv (.const (.slice none 0 0))), none⟩])
  .ret) .skip))
  (.seq (.reg [⟨(some 5), (.buildSlice 1 0 []), none⟩, ⟨(some 6), (.mv (.tmp 0)), none⟩, ⟨(some 7), (.append 1 1 false (.tmp 5) (.tmp 6)), none⟩, ⟨(some 2), (.mv (.tmp 7)), none⟩])
  .ret)))⟩
theorem pf31_ok : pfOf Tryz.prog plan 31 = some pf31 := by kernel_rfl
theorem ok31 : fnOk Tryz.prog plan 31 = true := by kernel_rfl
/- 16 scantling/pool.Check -/
noncomputable def pc16_0 : PCode := (.seq (.reg [⟨(some 40), (.bin .lss .int (.tmp 39) (.tmp 38)), none⟩])
  (.seq (.cond (.tmp 40) .skip (.exit 0))
  (.seq (.block 1 (.seq (.reg [⟨(some 41), (.indexAddr (.sl 5) (.tmp 37) (.tmp 39)), none⟩, ⟨(some 42), (.load (some 5) (.tmp 41)), none⟩, ⟨(some 5), (.alloc 0 [(.int .i64 0), (.int .i64 0), (.int .i64 0), (.int .i64 0), (.slice none 0 0)]), none⟩, ⟨none, (.store 5 (.tmp 5) (.tmp 42)), none⟩])
  (.seq (.seq (.reg [⟨(some 43), (.load (some 5) (.tmp 5)), none⟩, ⟨(some 44), (.mv (.tmp 3)), none⟩, ⟨(some 45), (.call 46 [(.tmp 43), (.tmp 44)]), none⟩, ⟨(some 6), (.mv (.tmp 45)), none⟩])
  (.seq (.reg [⟨(some 46), (.mv (.tmp 6)), none⟩, ⟨(some 47), (.bin .neq .int (.tmp 46) (.const (.int .i64 0))), none⟩])
  (.cond (.tmp 47) (.seq (.reg [⟨(some 48), (.mv (.tmp 6)), none⟩, ⟨(some 2), (.mv (.tmp 48)), none⟩])
  .ret) .skip)))
  (.seq (.seq (.reg [⟨(some 49), (.fieldAddr 4 (.tmp 5)), none⟩, ⟨(some 50), (.load none (.tmp 49)), none⟩, ⟨(some 51), (.fieldAddr 3 (.tmp 1)), none⟩, ⟨(some 52), (.load none (.tmp 51)), none⟩, ⟨(some 53), (.call 47 [(.tmp 50), (.tmp 52)]), none⟩, ⟨(some 7), (.mv (.tmp 53)), none⟩])
  (.seq (.reg [⟨(some 54), (.mv (.tmp 7)), none⟩, ⟨(some 55), (.bin .neq .int (.tmp 54) (.const (.int .i64 0))), none⟩])
  (.cond (.tmp 55) (.seq (.reg [⟨(some 56), (.mv (.tmp 7)), none⟩, ⟨(some 2), (.mv (.tmp 56)), none⟩])
  .ret) .skip)))
  (.reg [⟨(some 57), (.fieldAddr 0 (.tmp 5)), none⟩, ⟨(some 58), (.load none (.tmp 57)), none⟩, ⟨(some 3), (.mv (.tmp 58)), none⟩])))))
  (.reg [⟨(some 59), (.bin .add .int (.tmp 39) (.const (.int .i64 1))), none⟩, ⟨(some 39), (.mv (.tmp 59)), none⟩]))))
noncomputable def pf16 : PF := ⟨60, [.tmp 2], (.seq (.reg [⟨(some 1), (.box 0 (.tmp 0)), none⟩, ⟨(some 2), (.mv (.const (.int .i64 0))), none⟩])
  (.seq (.seq (.reg [⟨(some 8), (.fieldAddr 0 (.tmp 1)), none⟩, ⟨(some 9), (.load none (.tmp 8)), none⟩, ⟨(some 10), (.fieldAddr 1 (.tmp 1)), none⟩, ⟨(some 11), (.load none (.tmp 10)), none⟩, ⟨(some 12), (.buildSlice 1 1 [(0, (.tmp 11))]), none⟩, ⟨(some 13), (.call 44 [(.tmp 9), (.tmp 12)]), none⟩, ⟨(some 14), (.un .not (.tmp 13)), none⟩, ⟨(some 15), (.mv (.tmp 14)), none⟩, ⟨(some 16), (.fieldAddr 2 (.tmp 1)), (some ((some 15), false))⟩, ⟨(some 17), (.load none (.tmp 16)), (some ((some 15), false))⟩, ⟨(some 18), (.call 45 [(.tmp 17), (.const (.int .i64 1)), (.const (.int .i64 65536))]), (some ((some 15), false))⟩, ⟨(some 19), (.un .not (.tmp 18)), (some ((some 15), false))⟩, ⟨(some 20), (.raw (.pick (.tmp 15) (.const (.bool true)) (.tmp 19))), none⟩, ⟨(some 21), (.mv (.tmp 20)), none⟩, ⟨(some 22), (.fieldAddr 3 (.tmp 1)), (some ((some 21), false))⟩, ⟨(some 23), (.load none (.tmp 22)), (some ((some 21), false))⟩, ⟨(some 24), (.call 45 [(.tmp 23), (.const (.int .i64 0)), (.const (.int .i64 65536))]), (some ((some 21), false))⟩, ⟨(some 25), (.un .not (.tmp 24)), (some ((some 21), false))⟩, ⟨(some 26), (.raw (.pick (.tmp 21) (.const (.bool true)) (.tmp 25))), none⟩])
  (.cond (.tmp 26) (.seq (.reg [⟨(some 2), (.mv (.const (.int .i64 2))), none⟩])
  .ret) .skip))
  (.seq (.seq (.reg [⟨(some 27), (.fieldAddr 4 (.tmp 1)), none⟩, ⟨(some 28), (.load none (.tmp 27)), none⟩, ⟨(some 29), (.len .sl (.tmp 28)), none⟩, ⟨(some 30), (.bin .gtr .int (.tmp 29) (.const (.int .i64 4096))), none⟩, ⟨(some 31), (.mv (.tmp 30)), none⟩, ⟨(some 32), (.load (some 5) (.tmp 1)), (some ((some 31), false))⟩, ⟨(some 33), (.call 21 [(.tmp 32)]), (some ((some 31), false))⟩, ⟨(some 34), (.bin .gtr .int (.tmp 33) (.const (.int .i64 16384))), (some ((some 31), false))⟩, ⟨(some 35), (.raw (.pick (.tmp 31) (.const (.bool true)) (.tmp 34))), none⟩])
  (.cond (.tmp 35) (.seq (.reg [⟨(some 2), (.mv (.const (.int .i64 2))), none⟩])
  .ret) .skip))
  (.seq (.reg [⟨(some 3), (.mv (.const (.int .i64 (-1)))), none⟩])
  (.seq (.seq (.reg [⟨(some 36), (.fieldAddr 4 (.tmp 1)), none⟩, ⟨(some 37), (.load none (.tmp 36)), none⟩, ⟨(some 38), (.len .sl (.tmp 37)), none⟩, ⟨(some 39), (.mv (.const (.int .i64 0))), none⟩])
  (.block 0 (.loop pc16_0)))
  (.seq (.reg [⟨(some 2), (.mv (.const (.int .i64 0))), none⟩])
  .ret))))))⟩
theorem pf16_ok : pfOf Tryz.prog plan 16 = some pf16 := by kernel_rfl
theorem ok16 : fnOk Tryz.prog plan 16 = true := by kernel_rfl
/- 50 scantling/image.New -/
noncomputable def pf50 : PF := ⟨15, [.tmp 2, .tmp 3], (.seq (.reg [⟨(some 2), (.mv (.const (.pointer none))), none⟩, ⟨(some 3), (.mv (.const (.int .i64 0))), none⟩])
  (.seq (.seq (.reg [⟨(some 4), (.mv (.tmp 0)), none⟩, ⟨(some 5), (.bin .lss .int (.tmp 4) (.const (.int .i64 0))), none⟩, ⟨(some 6), (.mv (.tmp 5)), none⟩, ⟨(some 7), (.mv (.tmp 0)), (some ((some 6), false))⟩, ⟨(some 8), (.bin .gtr .int (.tmp 7) (.const (.int .i64 14400))), (some ((some 6), false))⟩, ⟨(some 9), (.raw (.pick (.tmp 6) (.const (.bool true)) (.tmp 8))), none⟩])
  (.cond (.tmp 9) (.seq (.reg [⟨(some 2), (.mv (.const (.pointer none))), none⟩, ⟨(some 3), (.mv (.const (.int .i64 2))), none⟩])
  .ret) .skip))
  (.seq (.reg [⟨(some 10), (.mv (.tmp 0)), none⟩, ⟨(some 11), (.bin .mul .int (.tmp 10) (.const (.int .i64 256))), none⟩, ⟨(some 12), (.makeSlice 1 1 [(.int .u8 0)] (.tmp 11) (.tmp 11)), none⟩, ⟨(some 13), (.build [(.slice none 0 0)] [(0, 1)] [(0, (.tmp 12))]), none⟩, ⟨(some 14), (.box 0 (.tmp 13)), none⟩, ⟨(some 2), (.mv (.tmp 14)), none⟩, ⟨(some 3), (.mv (.const (.int .i64 0))), none⟩])
  .ret)))⟩
theorem pf50_ok : pfOf Tryz.prog plan 50 = some pf50 := by kernel_rfl
theorem ok50 : fnOk Tryz.prog plan 50 = true := by kernel_rfl
/- 51 scantling/size.Fits -/
noncomputable def pf51 : PF := ⟨19, [.tmp 4], (.seq (.reg [⟨(some 2), (.box 0 (.tmp 0)), none⟩, ⟨(some 4), (.mv (.const (.bool false))), none⟩])
  (.seq (.reg [⟨(some 6), (.load (some 5) (.tmp 2)), none⟩, ⟨(some 7), (.call 17 [(.tmp 6)]), none⟩, ⟨(some 5), (.mv (.tmp 7)), none⟩])
  (.seq (.reg [⟨(some 8), (.mv (.tmp 5)), none⟩, ⟨(some 9), (.bin .gtr .int (.tmp 8) (.const (.int .i64 0))), none⟩, ⟨(some 10), (.mv (.tmp 9)), none⟩, ⟨(some 11), (.mv (.tmp 1)), (some ((some 10), true))⟩, ⟨(some 12), (.mv (.tmp 5)), (some ((some 10), true))⟩, ⟨(some 13), (.bin .geq .int (.tmp 11) (.tmp 12)), (some ((some 10), true))⟩, ⟨(some 14), (.raw (.pick (.tmp 10) (.tmp 13) (.const (.bool false)))), none⟩, ⟨(some 15), (.mv (.tmp 14)), none⟩, ⟨(some 16), (.mv (.tmp 1)), (some ((some 15), true))⟩, ⟨(some 17), (.bin .leq .int (.tmp 16) (.const (.int .i64 14400))), (some ((some 15), true))⟩, ⟨(some 18), (.raw (.pick (.tmp 15) (.tmp 17) (.const (.bool false)))), none⟩, ⟨(some 4), (.mv (.tmp 18)), none⟩])
  .ret)))⟩
theorem pf51_ok : pfOf Tryz.prog plan 51 = some pf51 := by kernel_rfl
theorem ok51 : fnOk Tryz.prog plan 51 = true := by kernel_rfl
/- 52 scantling/alloc.New -/
noncomputable def pc52_0 : PCode := (.seq (.seq (.reg [⟨(some 22), (.mv (.tmp 7)), none⟩, ⟨(some 23), (.mv (.tmp 0)), none⟩, ⟨(some 24), (.call 68 [(.tmp 23)]), none⟩, ⟨(some 25), (.bin .lss .int (.tmp 22) (.tmp 24)), none⟩])
  (.cond (.tmp 25) .skip (.exit 0)))
  (.seq (.block 1 (.reg [⟨(some 28), (.mv (.tmp 6)), none⟩, ⟨(some 29), (.mv (.tmp 7)), none⟩, ⟨(some 30), (.buildSlice 1 1 [(0, (.tmp 29))]), none⟩, ⟨(some 31), (.append 1 8 false (.tmp 28) (.tmp 30)), none⟩, ⟨(some 6), (.mv (.tmp 31)), none⟩]))
  (.reg [⟨(some 26), (.mv (.tmp 7)), none⟩, ⟨(some 27), (.bin .add .int (.tmp 26) (.const (.int .i64 1))), none⟩, ⟨(some 7), (.mv (.tmp 27)), none⟩])))
noncomputable def pf52 : PF := ⟨37, [.tmp 4, .tmp 5], (.seq (.reg [⟨(some 4), (.mv (.const (.pointer none))), none⟩, ⟨(some 5), (.mv (.const .nilIface)), none⟩])
  (.seq (.seq (.reg [⟨(some 8), (.mv (.tmp 0)), none⟩, ⟨(some 9), (.bin .eql .ptr (.tmp 8) (.const (.pointer none))), none⟩, ⟨(some 10), (.mv (.tmp 9)), none⟩, ⟨(some 11), (.mv (.tmp 1)), (some ((some 10), false))⟩, ⟨(some 12), (.bin .lss .int (.tmp 11) (.const (.int .i64 1))), (some ((some 10), false))⟩, ⟨(some 13), (.raw (.pick (.tmp 10) (.const (.bool true)) (.tmp 12))), none⟩, ⟨(some 14), (.mv (.tmp 13)), none⟩, ⟨(some 15), (.mv (.tmp 1)), (some ((some 14), false))⟩, ⟨(some 16), (.mv (.tmp 0)), (some ((some 14), false))⟩, ⟨(some 17), (.call 68 [(.tmp 16)]), (some ((some 14), false))⟩, ⟨(some 18), (.bin .gtr .int (.tmp 15) (.tmp 17)), (some ((some 14), false))⟩, ⟨(some 19), (.raw (.pick (.tmp 14) (.const (.bool true)) (.tmp 18))), none⟩])
  (.cond (.tmp 19) (.seq (.reg [⟨(some 20), (.iface 49 (.const (.int .i64 1))), none⟩, ⟨(some 4), (.mv (.const (.pointer none))), none⟩, ⟨(some 5), (.mv (.tmp 20)), none⟩])
  .ret) .skip))
  (.seq (.reg [⟨(some 6), (.mv (.const (.slice none 0 0))), none⟩])
  (.seq (.seq (.reg [⟨(some 21), (.mv (.tmp 1)), none⟩, ⟨(some 7), (.mv (.tmp 21)), none⟩])
  (.block 0 (.loop pc52_0)))
  (.seq (.reg [⟨(some 32), (.mv (.tmp 6)), none⟩, ⟨(some 33), (.build [(.slice none 0 0), (.int .i64 0)] [(0, 1), (1, 1)] [(0, (.tmp 32))]), none⟩, ⟨(some 34), (.mv (.tmp 0)), none⟩, ⟨(some 35), (.build [(.slice none 0 0), (.int .i64 0), (.pointer none)] [(0, 2), (2, 1)] [(0, (.tmp 33)), (1, (.tmp 34))]), none⟩, ⟨(some 36), (.box 0 (.tmp 35)), none⟩, ⟨(some 4), (.mv (.tmp 36)), none⟩, ⟨(some 5), (.mv (.const .nilIface)), none⟩])
  .ret)))))⟩
theorem pf52_ok : pfOf Tryz.prog plan 52 = some pf52 := by kernel_rfl
theorem ok52 : fnOk Tryz.prog plan 52 = true := by kernel_rfl
/- 53 scantling/lay.must -/
noncomputable def pf53 : PF := ⟨7, [], (.seq (.reg [⟨(some 2), (.mv (.tmp 0)), none⟩, ⟨(some 3), (.bin .neq .ifc (.tmp 2) (.const .nilIface)), none⟩])
  (.cond (.tmp 3) (.reg [⟨(some 4), (.mv (.tmp 0)), none⟩, ⟨(some 5), (.build [.nilIface] [(0, 1)] [(0, (.tmp 4))]), none⟩, ⟨(some 6), (.iface 100 (.tmp 5)), none⟩, ⟨none, (.raw (.panic (.tmp 6))), none⟩]) .skip))⟩
theorem pf53_ok : pfOf Tryz.prog plan 53 = some pf53 := by kernel_rfl
theorem ok53 : fnOk Tryz.prog plan 53 = true := by kernel_rfl
/- 54 (scantling/lay.layer).all -/
noncomputable def pf54 : PF := ⟨72, [], (.seq (.reg [⟨(some 2), (.box 0 (.tmp 0)), none⟩, ⟨(some 3), (.box 0 (.tmp 1)), none⟩])
  (.seq (.draw [(⟨(some 8), (.fieldAddr 0 (.tmp 3)), none⟩, []), (⟨(some 10), (.fieldAddr 1 (.tmp 3)), none⟩, []), (⟨(some 12), (.fieldAddr 2 (.tmp 3)), none⟩, []), (⟨(some 14), (.fieldAddr 3 (.tmp 3)), none⟩, []), (⟨(some 16), (.fieldAddr 0 (.tmp 2)), none⟩, []), (⟨(some 9), (.load none (.tmp 8)), none⟩, []), (⟨(some 11), (.load none (.tmp 10)), none⟩, []), (⟨(some 13), (.load none (.tmp 12)), none⟩, []), (⟨(some 15), (.load none (.tmp 14)), none⟩, []), (⟨(some 17), (.load none (.tmp 16)), none⟩, []), (⟨(some 4), (.alloc 0 (List.replicate 11 (.int .i64 0))), none⟩, [⟨(some 9), (.load none (.tmp 8)), none⟩, ⟨(some 11), (.load none (.tmp 10)), none⟩, ⟨(some 13), (.load none (.tmp 12)), none⟩, ⟨(some 15), (.load none (.tmp 14)), none⟩, ⟨(some 17), (.load none (.tmp 16)), none⟩]), (⟨(some 18), (.call 95 [(.tmp 17)]), none⟩, [⟨(some 9), (.load none (.tmp 8)), none⟩, ⟨(some 11), (.load none (.tmp 10)), none⟩, ⟨(some 13), (.load none (.tmp 12)), none⟩, ⟨(some 15), (.load none (.tmp 14)), none⟩, ⟨(some 4), (.alloc 0 (List.replicate 11 (.int .i64 0))), none⟩]), (⟨(some 19), (.call 68 [(.tmp 18)]), none⟩, [⟨(some 9), (.load none (.tmp 8)), none⟩, ⟨(some 11), (.load none (.tmp 10)), none⟩, ⟨(some 13), (.load none (.tmp 12)), none⟩, ⟨(some 15), (.load none (.tmp 14)), none⟩, ⟨(some 4), (.alloc 0 (List.replicate 11 (.int .i64 0))), none⟩]), (⟨(some 20), (.build (List.replicate 11 (.int .i64 0)) [(0, 1), (1, 1), (2, 1), (3, 1), (4, 1), (5, 1), (6, 1), (7, 1), (8, 1), (9, 1), (10, 1)] [(0, (.tmp 9)), (1, (.tmp 11)), (2, (.tmp 13)), (3, (.tmp 15)), (4, (.tmp 19))]), none⟩, [⟨(some 4), (.alloc 0 (List.replicate 11 (.int .i64 0))), none⟩]), (⟨none, (.store 11 (.tmp 4) (.tmp 20)), none⟩, [])])
  (.seq (.reg [⟨(some 5), (.mv (.const .nilIface)), none⟩])
  (.seq (.reg [⟨(some 22), (.load (some 1) (.tmp 2)), none⟩, ⟨(some 23), (.fieldAddr 4 (.tmp 3)), none⟩, ⟨(some 24), (.load none (.tmp 23)), none⟩, ⟨(some 25), (.call 96 [(.tmp 22), (.tmp 24)]), none⟩, ⟨(some 21), (.mv (.tmp 25)), none⟩, ⟨(some 26), (.extract (.tmp 21) 0), none⟩, ⟨(some 27), (.extract (.tmp 21) 1), none⟩, ⟨(some 28), (.fieldAddr 5 (.tmp 4)), none⟩, ⟨none, (.store 1 (.tmp 28) (.tmp 26)), none⟩, ⟨(some 29), (.fieldAddr 6 (.tmp 4)), none⟩, ⟨none, (.store 1 (.tmp 29) (.tmp 27)), none⟩])
  (.seq (.draw [(⟨(some 31), (.fieldAddr 0 (.tmp 2)), none⟩, []), (⟨(some 32), (.load none (.tmp 31)), none⟩, []), (⟨(some 33), (.load (some 5) (.tmp 3)), none⟩, []), (⟨(some 34), (.call 77 [(.tmp 33)]), none⟩, [⟨(some 32), (.load none (.tmp 31)), none⟩]), (⟨(some 35), (.call 97 [(.tmp 32), (.tmp 34)]), none⟩, []), (⟨(some 30), (.mv (.tmp 35)), none⟩, []), (⟨(some 36), (.extract (.tmp 30) 0), none⟩, []), (⟨(some 37), (.extract (.tmp 30) 1), none⟩, []), (⟨(some 38), (.extract (.tmp 30) 2), none⟩, []), (⟨(some 39), (.fieldAddr 7 (.tmp 4)), none⟩, []), (⟨none, (.store 1 (.tmp 39) (.tmp 36)), none⟩, []), (⟨(some 40), (.fieldAddr 8 (.tmp 4)), none⟩, []), (⟨none, (.store 1 (.tmp 40) (.tmp 37)), none⟩, []), (⟨(some 5), (.mv (.tmp 38)), none⟩, [])])
  (.seq (.reg [⟨(some 41), (.mv (.tmp 5)), none⟩, ⟨(some 42), (.call 53 [(.tmp 41)]), none⟩])
  (.seq (.draw [(⟨(some 44), (.fieldAddr 0 (.tmp 2)), none⟩, []), (⟨(some 45), (.load none (.tmp 44)), none⟩, []), (⟨(some 46), (.load (some 1) (.tmp 2)), none⟩, []), (⟨(some 47), (.call 99 [(.tmp 46)]), none⟩, [⟨(some 45), (.load none (.tmp 44)), none⟩]), (⟨(some 48), (.call 98 [(.tmp 45), (.tmp 47)]), none⟩, []), (⟨(some 43), (.mv (.tmp 48)), none⟩, []), (⟨(some 49), (.extract (.tmp 43) 0), none⟩, []), (⟨(some 50), (.extract (.tmp 43) 1), none⟩, []), (⟨(some 51), (.extract (.tmp 43) 2), none⟩, []), (⟨(some 52), (.fieldAddr 9 (.tmp 4)), none⟩, []), (⟨none, (.store 1 (.tmp 52) (.tmp 49)), none⟩, []), (⟨(some 53), (.fieldAddr 10 (.tmp 4)), none⟩, []), (⟨none, (.store 1 (.tmp 53) (.tmp 50)), none⟩, []), (⟨(some 5), (.mv (.tmp 51)), none⟩, [])])
  (.seq (.reg [⟨(some 54), (.mv (.tmp 5)), none⟩, ⟨(some 55), (.call 53 [(.tmp 54)]), none⟩])
  (.seq (.reg [⟨(some 57), (.load (some 11) (.tmp 4)), none⟩, ⟨(some 58), (.call 58 [(.tmp 57)]), none⟩, ⟨(some 56), (.mv (.tmp 58)), none⟩, ⟨(some 59), (.extract (.tmp 56) 0), none⟩, ⟨(some 60), (.extract (.tmp 56) 1), none⟩, ⟨(some 6), (.mv (.tmp 59)), none⟩, ⟨(some 7), (.mv (.tmp 60)), none⟩])
  (.seq (.seq (.reg [⟨(some 61), (.mv (.tmp 7)), none⟩, ⟨(some 62), (.bin .neq .int (.tmp 61) (.const (.int .i64 0))), none⟩])
  (.cond (.tmp 62) (.reg [⟨(some 63), (.mv (.tmp 7)), none⟩, ⟨(some 64), (.iface 49 (.tmp 63)), none⟩, ⟨(some 65), (.call 53 [(.tmp 64)]), none⟩]) .skip))
  (.reg [⟨(some 66), (.fieldAddr 0 (.tmp 2)), none⟩, ⟨(some 67), (.load none (.tmp 66)), none⟩, ⟨(some 68), (.call 95 [(.tmp 67)]), none⟩, ⟨(some 69), (.mv (.tmp 6)), none⟩, ⟨(some 70), (.call 59 [(.tmp 68), (.const (.int .i64 0)), (.const (.int .i64 1)), (.tmp 69)]), none⟩, ⟨(some 71), (.call 53 [(.tmp 70)]), none⟩])))))))))))⟩
theorem pf54_ok : pfOf Tryz.prog plan 54 = some pf54 := by kernel_rfl
theorem ok54 : fnOk Tryz.prog plan 54 = true := by kernel_rfl
/- 63 scantling/check.look -/
noncomputable def pc63_0 : PCode := (.seq (.reg [⟨(some 25), (.bin .lss .int (.tmp 24) (.tmp 23)), none⟩])
  (.seq (.cond (.tmp 25) .skip (.exit 2))
  (.seq (.block 3 (.seq (.reg [⟨(some 26), (.indexAddr (.sl 2) (.tmp 22) (.tmp 24)), none⟩, ⟨(some 27), (.load (some 2) (.tmp 26)), none⟩, ⟨(some 9), (.alloc 0 [(.bool false), .nilFunc]), none⟩, ⟨none, (.store 2 (.tmp 9) (.tmp 27)), none⟩])
  (.draw [(⟨(some 28), (.fieldAddr 18 (.tmp 5)), none⟩, []), (⟨(some 30), (.fieldAddr 1 (.tmp 9)), none⟩, []), (⟨(some 29), (.load none (.tmp 28)), none⟩, []), (⟨(some 31), (.load none (.tmp 30)), none⟩, []), (⟨(some 32), (.callv (.tmp 31) [(.tmp 5)]), none⟩, [⟨(some 29), (.load none (.tmp 28)), none⟩]), (⟨(some 33), (.append 3 24 false (.tmp 29) (.tmp 32)), none⟩, []), (⟨(some 34), (.fieldAddr 18 (.tmp 5)), none⟩, []), (⟨none, (.store 1 (.tmp 34) (.tmp 33)), none⟩, [])])))
  (.reg [⟨(some 35), (.bin .add .int (.tmp 24) (.const (.int .i64 1))), none⟩, ⟨(some 24), (.mv (.tmp 35)), none⟩]))))
noncomputable def pc63_1 : PCode := (.seq (.reg [⟨(some 15), (.bin .lss .int (.tmp 14) (.tmp 13)), none⟩])
  (.seq (.cond (.tmp 15) .skip (.exit 0))
  (.seq (.block 1 (.seq (.reg [⟨(some 16), (.indexAddr (.sl 1) (.tmp 12) (.tmp 14)), none⟩, ⟨(some 17), (.load none (.tmp 16)), none⟩, ⟨(some 7), (.mv (.tmp 17)), none⟩])
  (.seq (.seq (.reg [⟨(some 18), (.fieldAddr 18 (.tmp 5)), none⟩, ⟨(some 19), (.load none (.tmp 18)), none⟩, ⟨(some 20), (.len .sl (.tmp 19)), none⟩, ⟨(some 21), (.bin .gtr .int (.tmp 20) (.const (.int .i64 0))), none⟩])
  (.cond (.tmp 21) (.exit 0) .skip))
  (.seq (.reg [⟨(some 22), (.mv (.tmp 7)), none⟩, ⟨(some 23), (.len .sl (.tmp 22)), none⟩, ⟨(some 24), (.mv (.const (.int .i64 0))), none⟩])
  (.block 2 (.loop pc63_0))))))
  (.reg [⟨(some 36), (.bin .add .int (.tmp 14) (.const (.int .i64 1))), none⟩, ⟨(some 14), (.mv (.tmp 36)), none⟩]))))
noncomputable def pf63 : PF := ⟨38, [.cell 4 (some 19)], (.seq (.reg [⟨(some 4), (.alloc 0 [(.int .i64 0), (.int .i64 0), (.int .i64 0), (.int .i64 0), (.int .i64 0), (.int .i64 0), (.int .i64 0), (.int .i64 0), (.int .i64 0), (.int .i64 0), (.int .i64 0), (.int .i64 0), (.int .i64 0), (.int .i64 0), (.int .i64 0), (.slice none 0 0), (.slice none 0 0), (.slice none 0 0), (.slice none 0 0)]), none⟩])
  (.seq (.reg [⟨(some 5), (.alloc 0 [(.int .i64 0), (.int .i64 0), (.int .i64 0), (.int .i64 0), (.int .i64 0), (.int .i64 0), (.int .i64 0), (.int .i64 0), (.int .i64 0), (.int .i64 0), (.int .i64 0), (.int .i64 0), (.int .i64 0), (.int .i64 0), (.int .i64 0), (.slice none 0 0), (.slice none 0 0), (.slice none 0 0), (.slice none 0 0)]), none⟩])
  (.seq (.seq (.reg [⟨(some 10), (.mv (.tmp 0)), none⟩, ⟨(some 11), (.mv (.tmp 1)), none⟩, ⟨(some 12), (.call 113 [(.tmp 10), (.tmp 11)]), none⟩, ⟨(some 13), (.len .sl (.tmp 12)), none⟩, ⟨(some 14), (.mv (.const (.int .i64 0))), none⟩])
  (.block 0 (.loop pc63_1)))
  (.seq (.reg [⟨(some 37), (.load (some 19) (.tmp 5)), none⟩, ⟨none, (.store 19 (.tmp 4) (.tmp 37)), none⟩])
  .ret))))⟩
theorem pf63_ok : pfOf Tryz.prog plan 63 = some pf63 := by kernel_rfl
theorem ok63 : fnOk Tryz.prog plan 63 = true := by kernel_rfl
/- 64 scantling/fault.At -/
noncomputable def pf64 : PF := ⟨12, [.tmp 4], (.seq (.reg [⟨(some 4), (.mv (.const .nilIface)), none⟩])
  (.seq (.seq (.reg [⟨(some 5), (.mv (.tmp 1)), none⟩, ⟨(some 6), (.bin .eql .ifc (.tmp 5) (.const .nilIface)), none⟩])
  (.cond (.tmp 6) (.seq (.reg [⟨(some 4), (.mv (.const .nilIface)), none⟩])
  .ret) .skip))
  (.seq (.reg [⟨(some 7), (.mv (.tmp 0)), none⟩, ⟨(some 8), (.mv (.tmp 1)), none⟩, ⟨(some 9), (.build [(.int .i64 0), .nilIface] [(0, 1), (1, 1)] [(0, (.tmp 7)), (1, (.tmp 8))]), none⟩, ⟨(some 10), (.box 0 (.tmp 9)), none⟩, ⟨(some 11), (.iface 175 (.tmp 10)), none⟩, ⟨(some 4), (.mv (.tmp 11)), none⟩])
  .ret)))⟩
theorem pf64_ok : pfOf Tryz.prog plan 64 = some pf64 := by kernel_rfl
theorem ok64 : fnOk Tryz.prog plan 64 = true := by kernel_rfl
/- 65 scantling/block.read[scantling/api.Super] -/
noncomputable def pf65 : PF := ⟨56, [.cell 8 (some 11), .tmp 9], (.seq (.reg [⟨(some 8), (.alloc 0 (List.replicate 11 (.int .i64 0))), none⟩, ⟨(some 9), (.mv (.const .nilIface)), none⟩])
  (.seq (.reg [⟨(some 10), (.alloc 0 (List.replicate 11 (.int .i64 0))), none⟩])
  (.seq (.reg [⟨(some 16), (.mv (.tmp 0)), none⟩, ⟨(some 17), (.mv (.tmp 1)), none⟩, ⟨(some 18), (.call 114 [(.tmp 16), (.tmp 17)]), none⟩, ⟨(some 15), (.mv (.tmp 18)), none⟩, ⟨(some 19), (.extract (.tmp 15) 0), none⟩, ⟨(some 20), (.extract (.tmp 15) 1), none⟩, ⟨(some 11), (.mv (.tmp 19)), none⟩, ⟨(some 12), (.mv (.tmp 20)), none⟩])
  (.seq (.seq (.reg [⟨(some 21), (.mv (.tmp 12)), none⟩, ⟨(some 22), (.bin .neq .int (.tmp 21) (.const (.int .i64 0))), none⟩])
  (.cond (.tmp 22) (.seq (.draw [(⟨(some 24), (.mv (.tmp 1)), none⟩, []), (⟨(some 25), (.mv (.tmp 12)), none⟩, []), (⟨(some 26), (.iface 49 (.tmp 25)), none⟩, []), (⟨(some 23), (.load (some 11) (.tmp 10)), none⟩, []), (⟨(some 27), (.call 110 [(.tmp 24), (.tmp 26)]), none⟩, [⟨(some 23), (.load (some 11) (.tmp 10)), none⟩]), (⟨none, (.store 11 (.tmp 8) (.tmp 23)), none⟩, []), (⟨(some 9), (.mv (.tmp 27)), none⟩, [])])
  .ret) .skip))
  (.seq (.reg [⟨(some 29), (.mv (.tmp 11)), none⟩, ⟨(some 30), (.mv (.tmp 2)), none⟩, ⟨(some 31), (.mv (.tmp 1)), none⟩, ⟨(some 32), (.call 115 [(.tmp 29), (.tmp 30), (.tmp 31)]), none⟩, ⟨(some 28), (.mv (.tmp 32)), none⟩, ⟨(some 33), (.extract (.tmp 28) 0), none⟩, ⟨(some 34), (.extract (.tmp 28) 1), none⟩, ⟨(some 13), (.mv (.tmp 33)), none⟩, ⟨(some 12), (.mv (.tmp 34)), none⟩])
  (.seq (.seq (.reg [⟨(some 35), (.mv (.tmp 12)), none⟩, ⟨(some 36), (.bin .neq .int (.tmp 35) (.const (.int .i64 0))), none⟩])
  (.cond (.tmp 36) (.seq (.draw [(⟨(some 38), (.mv (.tmp 1)), none⟩, []), (⟨(some 39), (.mv (.tmp 12)), none⟩, []), (⟨(some 40), (.iface 49 (.tmp 39)), none⟩, []), (⟨(some 37), (.load (some 11) (.tmp 10)), none⟩, []), (⟨(some 41), (.call 110 [(.tmp 38), (.tmp 40)]), none⟩, [⟨(some 37), (.load (some 11) (.tmp 10)), none⟩]), (⟨none, (.store 11 (.tmp 8) (.tmp 37)), none⟩, []), (⟨(some 9), (.mv (.tmp 41)), none⟩, [])])
  .ret) .skip))
  (.seq (.reg [⟨(some 43), (.mv (.tmp 3)), none⟩, ⟨(some 44), (.mv (.tmp 13)), none⟩, ⟨(some 45), (.callv (.tmp 43) [(.tmp 44)]), none⟩, ⟨(some 42), (.mv (.tmp 45)), none⟩, ⟨(some 46), (.extract (.tmp 42) 0), none⟩, ⟨(some 47), (.extract (.tmp 42) 1), none⟩, ⟨(some 14), (.alloc 0 (List.replicate 11 (.int .i64 0))), none⟩, ⟨none, (.store 11 (.tmp 14) (.tmp 46)), none⟩, ⟨(some 12), (.mv (.tmp 47)), none⟩])
  (.seq (.seq (.reg [⟨(some 48), (.mv (.tmp 12)), none⟩, ⟨(some 49), (.bin .neq .int (.tmp 48) (.const (.int .i64 0))), none⟩])
  (.cond (.tmp 49) (.seq (.draw [(⟨(some 51), (.mv (.tmp 1)), none⟩, []), (⟨(some 52), (.mv (.tmp 12)), none⟩, []), (⟨(some 53), (.iface 49 (.tmp 52)), none⟩, []), (⟨(some 50), (.load (some 11) (.tmp 10)), none⟩, []), (⟨(some 54), (.call 110 [(.tmp 51), (.tmp 53)]), none⟩, [⟨(some 50), (.load (some 11) (.tmp 10)), none⟩]), (⟨none, (.store 11 (.tmp 8) (.tmp 50)), none⟩, []), (⟨(some 9), (.mv (.tmp 54)), none⟩, [])])
  .ret) .skip))
  (.seq (.reg [⟨(some 55), (.load (some 11) (.tmp 14)), none⟩, ⟨none, (.store 11 (.tmp 8) (.tmp 55)), none⟩, ⟨(some 9), (.mv (.const .nilIface)), none⟩])
  .ret)))))))))⟩
theorem pf65_ok : pfOf Tryz.prog plan 65 = some pf65 := by kernel_rfl
theorem ok65 : fnOk Tryz.prog plan 65 = true := by kernel_rfl
/- 66 scantling/block.Super$1 -/
noncomputable def pf66 : PF := ⟨24, [.cell 3 (some 11), .tmp 4], (.seq (.reg [⟨(some 3), (.alloc 0 (List.replicate 11 (.int .i64 0))), none⟩, ⟨(some 4), (.mv (.const (.int .i64 0))), none⟩])
  (.seq (.reg [⟨(some 8), (.mv (.tmp 0)), none⟩, ⟨(some 9), (.call 67 [(.tmp 8)]), none⟩, ⟨(some 7), (.mv (.tmp 9)), none⟩, ⟨(some 10), (.extract (.tmp 7) 0), none⟩, ⟨(some 11), (.extract (.tmp 7) 1), none⟩, ⟨(some 5), (.alloc 0 (List.replicate 11 (.int .i64 0))), none⟩, ⟨none, (.store 11 (.tmp 5) (.tmp 10)), none⟩, ⟨(some 6), (.mv (.tmp 11)), none⟩])
  (.seq (.seq (.draw [(⟨(some 12), (.mv (.tmp 6)), none⟩, []), (⟨(some 13), (.bin .eql .int (.tmp 12) (.const (.int .i64 0))), none⟩, []), (⟨(some 14), (.mv (.tmp 13)), none⟩, []), (⟨(some 15), (.fieldAddr 4 (.tmp 5)), (some ((some 14), true))⟩, []), (⟨(some 16), (.load none (.tmp 15)), (some ((some 14), true))⟩, []), (⟨(some 17), (.load none (.tmp 1)), (some ((some 14), true))⟩, []), (⟨(some 18), (.call 68 [(.tmp 17)]), (some ((some 14), true))⟩, [⟨(some 16), (.load none (.tmp 15)), (some ((some 14), true))⟩]), (⟨(some 19), (.bin .gtr .int (.tmp 16) (.tmp 18)), (some ((some 14), true))⟩, []), (⟨(some 20), (.raw (.pick (.tmp 14) (.tmp 19) (.const (.bool false)))), none⟩, [])])
  (.cond (.tmp 20) (.seq (.reg [⟨(some 21), (.load (some 11) (.tmp 5)), none⟩, ⟨none, (.store 11 (.tmp 3) (.tmp 21)), none⟩, ⟨(some 4), (.mv (.const (.int .i64 2))), none⟩])
  .ret) .skip))
  (.seq (.reg [⟨(some 22), (.load (some 11) (.tmp 5)), none⟩, ⟨(some 23), (.mv (.tmp 6)), none⟩, ⟨none, (.store 11 (.tmp 3) (.tmp 22)), none⟩, ⟨(some 4), (.mv (.tmp 23)), none⟩])
  .ret))))⟩
theorem pf66_ok : pfOf Tryz.prog plan 66 = some pf66 := by kernel_rfl
theorem ok66 : fnOk Tryz.prog plan 66 = true := by kernel_rfl
/- 67 scantling/super.Read -/
noncomputable def pf67 : PF := ⟨29, [.cell 2 (some 11), .tmp 3], (.seq (.reg [⟨(some 1), (.box 0 (.tmp 0)), none⟩, ⟨(some 2), (.alloc 0 (List.replicate 11 (.int .i64 0))), none⟩, ⟨(some 3), (.mv (.const (.int .i64 0))), none⟩])
  (.seq (.reg [⟨(some 4), (.alloc 0 (List.replicate 11 (.int .i64 0))), none⟩])
  (.seq (.seq (.reg [⟨(some 8), (.load none (.tmp 1)), none⟩, ⟨(some 9), (.len .sl (.tmp 8)), none⟩, ⟨(some 10), (.bin .neq .int (.tmp 9) (.const (.int .i64 244))), none⟩])
  (.cond (.tmp 10) (.seq (.reg [⟨(some 11), (.load (some 11) (.tmp 4)), none⟩, ⟨none, (.store 11 (.tmp 2) (.tmp 11)), none⟩, ⟨(some 3), (.mv (.const (.int .i64 7))), none⟩])
  .ret) .skip))
  (.seq (.reg [⟨(some 5), (.alloc 0 [(.int .i64 0)]), none⟩, ⟨none, (.store 1 (.tmp 5) (.const (.int .i64 12))), none⟩])
  (.seq (.reg [⟨(some 12), (.fn 116 [] [(.tmp 1), (.tmp 5)]), none⟩, ⟨(some 13), (.call 105 [(.tmp 4), (.tmp 12)]), none⟩])
  (.seq (.seq (.reg [⟨(some 15), (.load (some 11) (.tmp 4)), none⟩, ⟨(some 16), (.call 58 [(.tmp 15)]), none⟩, ⟨(some 14), (.mv (.tmp 16)), none⟩, ⟨(some 17), (.extract (.tmp 14) 0), none⟩, ⟨(some 18), (.extract (.tmp 14) 1), none⟩, ⟨(some 6), (.mv (.tmp 17)), none⟩, ⟨(some 7), (.mv (.tmp 18)), none⟩])
  (.seq (.reg [⟨(some 19), (.mv (.tmp 7)), none⟩, ⟨(some 20), (.bin .neq .int (.tmp 19) (.const (.int .i64 0))), none⟩, ⟨(some 21), (.mv (.tmp 20)), none⟩, ⟨(some 22), (.mv (.tmp 6)), (some ((some 21), false))⟩, ⟨(some 23), (.load none (.tmp 1)), (some ((some 21), false))⟩, ⟨(some 24), (.call 118 [(.tmp 22), (.tmp 23)]), (some ((some 21), false))⟩, ⟨(some 25), (.un .not (.tmp 24)), (some ((some 21), false))⟩, ⟨(some 26), (.raw (.pick (.tmp 21) (.const (.bool true)) (.tmp 25))), none⟩])
  (.cond (.tmp 26) (.seq (.reg [⟨(some 27), (.build (List.replicate 11 (.int .i64 0)) [(0, 1), (1, 1), (2, 1), (3, 1), (4, 1), (5, 1), (6, 1), (7, 1), (8, 1), (9, 1), (10, 1)] []), none⟩, ⟨none, (.store 11 (.tmp 2) (.tmp 27)), none⟩, ⟨(some 3), (.mv (.const (.int .i64 7))), none⟩])
  .ret) .skip)))
  (.seq (.reg [⟨(some 28), (.load (some 11) (.tmp 4)), none⟩, ⟨none, (.store 11 (.tmp 2) (.tmp 28)), none⟩, ⟨(some 3), (.mv (.const (.int .i64 0))), none⟩])
  .ret)))))))⟩
theorem pf67_ok : pfOf Tryz.prog plan 67 = some pf67 := by kernel_rfl
theorem ok67 : fnOk Tryz.prog plan 67 = true := by kernel_rfl
/- 68 (*scantling/image.Image).Blocks -/
noncomputable def pf68 : PF := ⟨11, [.tmp 2], (.seq (.reg [⟨(some 2), (.mv (.const (.int .i64 0))), none⟩])
  (.seq (.seq (.reg [⟨(some 3), (.mv (.tmp 0)), none⟩, ⟨(some 4), (.bin .eql .ptr (.tmp 3) (.const (.pointer none))), none⟩])
  (.cond (.tmp 4) (.seq (.reg [⟨(some 2), (.mv (.const (.int .i64 0))), none⟩])
  .ret) .skip))
  (.seq (.reg [⟨(some 5), (.mv (.tmp 0)), none⟩, ⟨(some 6), (.nil (.tmp 5)), none⟩, ⟨(some 7), (.fieldAddr 0 (.tmp 6)), none⟩, ⟨(some 8), (.load none (.tmp 7)), none⟩, ⟨(some 9), (.len .sl (.tmp 8)), none⟩, ⟨(some 10), (.bin .quo .int (.tmp 9) (.const (.int .i64 256))), none⟩, ⟨(some 2), (.mv (.tmp 10)), none⟩])
  .ret)))⟩
theorem pf68_ok : pfOf Tryz.prog plan 68 = some pf68 := by kernel_rfl
theorem ok68 : fnOk Tryz.prog plan 68 = true := by kernel_rfl
/- 69 scantling/super.Right -/
noncomputable def pf69 : PF := ⟨7, [.tmp 2], (.seq (.reg [⟨(some 1), (.box 0 (.tmp 0)), none⟩, ⟨(some 2), (.mv (.const (.bool false))), none⟩])
  (.seq (.reg [⟨(some 3), (.alloc 0 [(.bool false)]), none⟩, ⟨none, (.store 1 (.tmp 3) (.const (.bool true))), none⟩])
  (.seq (.reg [⟨(some 4), (.fn 119 [] [(.tmp 3)]), none⟩, ⟨(some 5), (.call 105 [(.tmp 1), (.tmp 4)]), none⟩])
  (.seq (.reg [⟨(some 6), (.load none (.tmp 3)), none⟩, ⟨(some 2), (.mv (.tmp 6)), none⟩])
  .ret))))⟩
theorem pf69_ok : pfOf Tryz.prog plan 69 = some pf69 := by kernel_rfl
theorem ok69 : fnOk Tryz.prog plan 69 = true := by kernel_rfl
/- 70 scantling/refs.New -/
noncomputable def pf70 : PF := ⟨14, [.tmp 2, .tmp 3], (.seq (.reg [⟨(some 2), (.mv (.const (.pointer none))), none⟩, ⟨(some 3), (.mv (.const (.int .i64 0))), none⟩])
  (.seq (.seq (.reg [⟨(some 4), (.mv (.tmp 0)), none⟩, ⟨(some 5), (.bin .lss .int (.tmp 4) (.const (.int .i64 0))), none⟩, ⟨(some 6), (.mv (.tmp 5)), none⟩, ⟨(some 7), (.mv (.tmp 0)), (some ((some 6), false))⟩, ⟨(some 8), (.bin .gtr .int (.tmp 7) (.const (.int .i64 65536))), (some ((some 6), false))⟩, ⟨(some 9), (.raw (.pick (.tmp 6) (.const (.bool true)) (.tmp 8))), none⟩])
  (.cond (.tmp 9) (.seq (.reg [⟨(some 2), (.mv (.const (.pointer none))), none⟩, ⟨(some 3), (.mv (.const (.int .i64 2))), none⟩])
  .ret) .skip))
  (.seq (.reg [⟨(some 10), (.mv (.tmp 0)), none⟩, ⟨(some 11), (.makeSlice 1 8 [(.int .i64 0)] (.tmp 10) (.tmp 10)), none⟩, ⟨(some 12), (.build [(.slice none 0 0)] [(0, 1)] [(0, (.tmp 11))]), none⟩, ⟨(some 13), (.box 0 (.tmp 12)), none⟩, ⟨(some 2), (.mv (.tmp 13)), none⟩, ⟨(some 3), (.mv (.const (.int .i64 0))), none⟩])
  .ret)))⟩
theorem pf70_ok : pfOf Tryz.prog plan 70 = some pf70 := by kernel_rfl
theorem ok70 : fnOk Tryz.prog plan 70 = true := by kernel_rfl
/- 71 (*scantling/refs.Refs).Add -/
noncomputable def pf71 : PF := ⟨37, [.tmp 4, .tmp 5], (.seq (.reg [⟨(some 4), (.mv (.const (.int .i64 0))), none⟩, ⟨(some 5), (.mv (.const (.int .i64 0))), none⟩])
  (.seq (.block 0 (.seq (.reg [⟨(some 7), (.mv (.tmp 0)), none⟩, ⟨(some 8), (.bin .eql .ptr (.tmp 7) (.const (.pointer none))), none⟩, ⟨(some 6), (.mv (.tmp 8)), none⟩])
  (.cond (.tmp 6) (.seq (.reg [⟨(some 4), (.mv (.const (.int .i64 0))), none⟩, ⟨(some 5), (.mv (.const (.int .i64 18))), none⟩])
  .ret) (.seq (.reg [⟨(some 10), (.mv (.tmp 1)), none⟩, ⟨(some 11), (.bin .lss .int (.tmp 10) (.const (.int .i64 0))), none⟩, ⟨(some 12), (.mv (.tmp 11)), none⟩, ⟨(some 13), (.mv (.tmp 1)), (some ((some 12), false))⟩, ⟨(some 14), (.mv (.tmp 0)), (some ((some 12), false))⟩, ⟨(some 15), (.nil (.tmp 14)), (some ((some 12), false))⟩, ⟨(some 16), (.fieldAddr 0 (.tmp 15)), (some ((some 12), false))⟩, ⟨(some 17), (.load none (.tmp 16)), (some ((some 12), false))⟩, ⟨(some 18), (.len .sl (.tmp 17)), (some ((some 12), false))⟩, ⟨(some 19), (.bin .geq .int (.tmp 13) (.tmp 18)), (some ((some 12), false))⟩, ⟨(some 20), (.raw (.pick (.tmp 12) (.const (.bool true)) (.tmp 19))), none⟩, ⟨(some 9), (.mv (.tmp 20)), none⟩])
  (.cond (.tmp 9) (.seq (.reg [⟨(some 4), (.mv (.const (.int .i64 0))), none⟩, ⟨(some 5), (.mv (.const (.int .i64 3))), none⟩])
  .ret) .skip)))))
  (.seq (.reg [⟨(some 21), (.mv (.tmp 0)), none⟩, ⟨(some 22), (.nil (.tmp 21)), none⟩, ⟨(some 23), (.fieldAddr 0 (.tmp 22)), none⟩, ⟨(some 24), (.load none (.tmp 23)), none⟩, ⟨(some 25), (.mv (.tmp 1)), none⟩, ⟨(some 26), (.indexAddr (.sl 1) (.tmp 24) (.tmp 25)), none⟩, ⟨(some 27), (.load none (.tmp 26)), none⟩, ⟨(some 28), (.bin .add .int (.tmp 27) (.const (.int .i64 1))), none⟩, ⟨(some 29), (.indexAddr (.sl 1) (.tmp 24) (.tmp 25)), none⟩, ⟨none, (.store 1 (.tmp 29) (.tmp 28)), none⟩])
  (.seq (.reg [⟨(some 30), (.mv (.tmp 0)), none⟩, ⟨(some 31), (.nil (.tmp 30)), none⟩, ⟨(some 32), (.fieldAddr 0 (.tmp 31)), none⟩, ⟨(some 33), (.load none (.tmp 32)), none⟩, ⟨(some 34), (.mv (.tmp 1)), none⟩, ⟨(some 35), (.indexAddr (.sl 1) (.tmp 33) (.tmp 34)), none⟩, ⟨(some 36), (.load none (.tmp 35)), none⟩, ⟨(some 4), (.mv (.tmp 36)), none⟩, ⟨(some 5), (.mv (.const (.int .i64 0))), none⟩])
  .ret))))⟩
theorem pf71_ok : pfOf Tryz.prog plan 71 = some pf71 := by kernel_rfl
theorem ok71 : fnOk Tryz.prog plan 71 = true := by kernel_rfl
/- 72 (*scantling/reach.reacher).refer -/
noncomputable def pf72 : PF := ⟨30, [.tmp 6], (.seq (.reg [⟨(some 6), (.mv (.const .nilIface)), none⟩])
  (.seq (.reg [⟨(some 10), (.mv (.tmp 0)), none⟩, ⟨(some 11), (.nil (.tmp 10)), none⟩, ⟨(some 12), (.fieldAddr 1 (.tmp 11)), none⟩, ⟨(some 13), (.load none (.tmp 12)), none⟩, ⟨(some 14), (.mv (.tmp 1)), none⟩, ⟨(some 15), (.call 71 [(.tmp 13), (.tmp 14)]), none⟩, ⟨(some 9), (.mv (.tmp 15)), none⟩, ⟨(some 16), (.extract (.tmp 9) 0), none⟩, ⟨(some 17), (.extract (.tmp 9) 1), none⟩, ⟨(some 7), (.mv (.tmp 16)), none⟩, ⟨(some 8), (.mv (.tmp 17)), none⟩])
  (.seq (.seq (.reg [⟨(some 18), (.mv (.tmp 8)), none⟩, ⟨(some 19), (.bin .neq .int (.tmp 18) (.const (.int .i64 0))), none⟩])
  (.cond (.tmp 19) (.seq (.reg [⟨(some 20), (.mv (.tmp 1)), none⟩, ⟨(some 21), (.mv (.tmp 8)), none⟩, ⟨(some 22), (.iface 49 (.tmp 21)), none⟩, ⟨(some 23), (.call 64 [(.tmp 20), (.tmp 22)]), none⟩, ⟨(some 6), (.mv (.tmp 23)), none⟩])
  .ret) .skip))
  (.seq (.seq (.reg [⟨(some 24), (.mv (.tmp 7)), none⟩, ⟨(some 25), (.bin .gtr .int (.tmp 24) (.const (.int .i64 1))), none⟩])
  (.cond (.tmp 25) (.seq (.reg [⟨(some 6), (.mv (.const .nilIface)), none⟩])
  .ret) .skip))
  (.seq (.reg [⟨(some 26), (.mv (.tmp 0)), none⟩, ⟨(some 27), (.mv (.tmp 1)), none⟩, ⟨(some 28), (.mv (.tmp 2)), none⟩, ⟨(some 29), (.call 120 [(.tmp 26), (.tmp 27), (.tmp 28)]), none⟩, ⟨(some 6), (.mv (.tmp 29)), none⟩])
  .ret)))))⟩
theorem pf72_ok : pfOf Tryz.prog plan 72 = some pf72 := by kernel_rfl
theorem ok72 : fnOk Tryz.prog plan 72 = true := by kernel_rfl
/- 73 (*scantling/refs.Refs).List -/
noncomputable def pf73 : PF := ⟨6, [.tmp 2], (.seq (.reg [⟨(some 2), (.mv (.const (.slice none 0 0))), none⟩])
  (.seq (.reg [⟨(some 3), (.mv (.tmp 0)), none⟩, ⟨(some 4), (.call 122 [(.tmp 3)]), none⟩, ⟨(some 5), (.call 121 [(.tmp 4)]), none⟩, ⟨(some 2), (.mv (.tmp 5)), none⟩])
  .ret))⟩
theorem pf73_ok : pfOf Tryz.prog plan 73 = some pf73 := by kernel_rfl
theorem ok73 : fnOk Tryz.prog plan 73 = true := by kernel_rfl
/- 74 scantling/block.Node -/
noncomputable def pf74 : PF := ⟨14, [.cell 6 (some 4), .tmp 7], (.seq (.reg [⟨(some 5), (.box 0 (.tmp 2)), none⟩, ⟨(some 6), (.alloc 0 [(.int .i64 0), (.bool false), (.slice none 0 0), (.slice none 0 0)]), none⟩, ⟨(some 7), (.mv (.const .nilIface)), none⟩])
  (.seq (.reg [⟨(some 8), (.mv (.tmp 0)), none⟩, ⟨(some 9), (.mv (.tmp 1)), none⟩, ⟨(some 10), (.fn 124 [] [(.tmp 5)]), none⟩, ⟨(some 11), (.call 123 [(.tmp 8), (.tmp 9), (.const (.int .i64 2)), (.tmp 10)]), none⟩, ⟨(some 12), (.extract (.tmp 11) 0), none⟩, ⟨(some 13), (.extract (.tmp 11) 1), none⟩, ⟨none, (.store 4 (.tmp 6) (.tmp 12)), none⟩, ⟨(some 7), (.mv (.tmp 13)), none⟩])
  .ret))⟩
theorem pf74_ok : pfOf Tryz.prog plan 74 = some pf74 := by kernel_rfl
theorem ok74 : fnOk Tryz.prog plan 74 = true := by kernel_rfl
/- 75 scantling/node.Max -/
noncomputable def pf75 : PF := ⟨16, [.tmp 4], (.seq (.reg [⟨(some 4), (.mv (.const (.int .i64 0))), none⟩])
  (.seq (.reg [⟨(some 6), (.mv (.tmp 0)), none⟩, ⟨(some 7), (.mv (.tmp 1)), none⟩, ⟨(some 8), (.call 126 [(.tmp 6), (.tmp 7)]), none⟩, ⟨(some 5), (.mv (.tmp 8)), none⟩])
  (.seq (.seq (.reg [⟨(some 9), (.mv (.tmp 5)), none⟩, ⟨(some 10), (.bin .eql .int (.tmp 9) (.const (.int .i64 0))), none⟩])
  (.cond (.tmp 10) (.seq (.reg [⟨(some 4), (.mv (.const (.int .i64 0))), none⟩])
  .ret) .skip))
  (.seq (.reg [⟨(some 11), (.mv (.tmp 5)), none⟩, ⟨(some 12), (.bin .add .int (.const (.int .i64 8)) (.tmp 11)), none⟩, ⟨(some 13), (.bin .quo .int (.const (.int .i64 232)) (.tmp 12)), none⟩, ⟨(some 14), (.bin .quo .int (.tmp 13) (.const (.int .i64 3))), none⟩, ⟨(some 15), (.bin .mul .int (.tmp 14) (.const (.int .i64 3))), none⟩, ⟨(some 4), (.mv (.tmp 15)), none⟩])
  .ret))))⟩
theorem pf75_ok : pfOf Tryz.prog plan 75 = some pf75 := by kernel_rfl
theorem ok75 : fnOk Tryz.prog plan 75 = true := by kernel_rfl
/- 77 scantling/pool.Refs -/
noncomputable def rl77_0 : Array Tmp × Code × Code := subLoop (bodyOf Tryz.prog 77) [1, 1, 1, 0, 1, 0]
noncomputable def pc77_0a : PCode := (.reg [⟨(some 6), (.alloc 0 [(.int .i64 0), (.int .i64 0), (.int .i64 0)]), none⟩, ⟨none, (.store 3 (.tmp 6) (.tmp 19)), none⟩])
noncomputable def pc77_0b : PCode := (.block 1 (.reg [⟨(some 20), (.load none (.tmp 3)), none⟩, ⟨(some 21), (.fieldAddr 1 (.tmp 6)), none⟩, ⟨(some 22), (.load none (.tmp 21)), none⟩, ⟨(some 23), (.call 71 [(.tmp 20), (.tmp 22)]), none⟩]))
noncomputable def pf77 : PF := ⟨26, [.tmp 2], (.seq (.reg [⟨(some 1), (.box 0 (.tmp 0)), none⟩, ⟨(some 2), (.mv (.const (.slice none 0 0))), none⟩])
  (.seq (.seq (.reg [⟨(some 7), (.load (some 5) (.tmp 1)), none⟩, ⟨(some 8), (.call 16 [(.tmp 7)]), none⟩, ⟨(some 9), (.bin .neq .int (.tmp 8) (.const (.int .i64 0))), none⟩])
  (.cond (.tmp 9) (.seq (.reg [⟨(some 2), (.mv (.const (.slice none 0 0))), none⟩])
  .ret) .skip))
  (.seq (.reg [⟨(some 11), (.fieldAddr 3 (.tmp 1)), none⟩, ⟨(some 12), (.load none (.tmp 11)), none⟩, ⟨(some 13), (.call 70 [(.tmp 12)]), none⟩, ⟨(some 10), (.mv (.tmp 13)), none⟩, ⟨(some 14), (.extract (.tmp 10) 0), none⟩, ⟨(some 15), (.extract (.tmp 10) 1), none⟩, ⟨(some 3), (.alloc 0 [(.pointer none)]), none⟩, ⟨none, (.store 1 (.tmp 3) (.tmp 14)), none⟩, ⟨(some 4), (.mv (.tmp 15)), none⟩])
  (.seq (.seq (.reg [⟨(some 16), (.load (some 5) (.tmp 1)), none⟩, ⟨(some 17), (.call 130 [(.tmp 16)]), none⟩])
  (.block 0 (.rangeF (.tmp 17) rl77_0.1 rl77_0.2.1 rl77_0.2.2 pc77_0a pc77_0b)))
  (.seq (.reg [⟨(some 24), (.load none (.tmp 3)), none⟩, ⟨(some 25), (.call 73 [(.tmp 24)]), none⟩, ⟨(some 2), (.mv (.tmp 25)), none⟩])
  .ret)))))⟩
theorem pf77_ok : pfOf Tryz.prog plan 77 = some pf77 := by kernel_rfl
theorem ok77 : fnOk Tryz.prog plan 77 = true := by kernel_rfl
/- 44 scantling/pool.times -/
noncomputable def pf44 : PF := ⟨12, [.tmp 4], (.seq (.reg [⟨(some 4), (.mv (.const (.bool false))), none⟩])
  (.seq (.reg [⟨(some 5), (.mv (.tmp 0)), none⟩, ⟨(some 6), (.call 45 [(.tmp 5), (.const (.int .i64 0)), (.const (.int .i64 2147483647))]), none⟩, ⟨(some 7), (.mv (.tmp 6)), none⟩, ⟨(some 8), (.mv (.tmp 1)), (some ((some 7), true))⟩, ⟨(some 9), (.call 90 [(.tmp 8), (.func 91)]), (some ((some 7), true))⟩, ⟨(some 10), (.un .not (.tmp 9)), (some ((some 7), true))⟩, ⟨(some 11), (.raw (.pick (.tmp 7) (.tmp 10) (.const (.bool false)))), none⟩, ⟨(some 4), (.mv (.tmp 11)), none⟩])
  .ret))⟩
theorem pf44_ok : pfOf Tryz.prog plan 44 = some pf44 := by kernel_rfl
theorem ok44 : fnOk Tryz.prog plan 44 = true := by kernel_rfl
/- 45 scantling/pool.in -/
noncomputable def pf45 : PF := ⟨15, [.tmp 6], (.seq (.reg [⟨(some 6), (.mv (.const (.bool false))), none⟩])
  (.seq (.reg [⟨(some 7), (.mv (.tmp 1)), none⟩, ⟨(some 8), (.mv (.tmp 0)), none⟩, ⟨(some 9), (.bin .leq .int (.tmp 7) (.tmp 8)), none⟩, ⟨(some 10), (.mv (.tmp 9)), none⟩, ⟨(some 11), (.mv (.tmp 0)), (some ((some 10), true))⟩, ⟨(some 12), (.mv (.tmp 2)), (some ((some 10), true))⟩, ⟨(some 13), (.bin .leq .int (.tmp 11) (.tmp 12)), (some ((some 10), true))⟩, ⟨(some 14), (.raw (.pick (.tmp 10) (.tmp 13) (.const (.bool false)))), none⟩, ⟨(some 6), (.mv (.tmp 14)), none⟩])
  .ret))⟩
theorem pf45_ok : pfOf Tryz.prog plan 45 = some pf45 := by kernel_rfl
theorem ok45 : fnOk Tryz.prog plan 45 = true := by kernel_rfl
/- 17 scantling/size.Need -/
noncomputable def pf17 : PF := ⟨17, [.tmp 2], (.seq (.reg [⟨(some 1), (.box 0 (.tmp 0)), none⟩, ⟨(some 2), (.mv (.const (.int .i64 0))), none⟩])
  (.seq (.reg [⟨(some 5), (.load (some 5) (.tmp 1)), none⟩, ⟨(some 6), (.call 48 [(.tmp 5)]), none⟩, ⟨(some 3), (.mv (.tmp 6)), none⟩])
  (.seq (.seq (.reg [⟨(some 7), (.mv (.tmp 3)), none⟩, ⟨(some 8), (.bin .eql .int (.tmp 7) (.const (.int .i64 0))), none⟩])
  (.cond (.tmp 8) (.seq (.reg [⟨(some 2), (.mv (.const (.int .i64 0))), none⟩])
  .ret) .skip))
  (.seq (.reg [⟨(some 9), (.mv (.tmp 3)), none⟩, ⟨(some 10), (.bin .add .int (.tmp 9) (.const (.int .i64 2))), none⟩, ⟨(some 4), (.mv (.tmp 10)), none⟩])
  (.seq (.reg [⟨(some 11), (.mv (.tmp 4)), none⟩, ⟨(some 12), (.mv (.tmp 4)), none⟩, ⟨(some 13), (.bin .sub .int (.tmp 12) (.const (.int .i64 1))), none⟩, ⟨(some 14), (.bin .quo .int (.tmp 13) (.const (.int .i64 959))), none⟩, ⟨(some 15), (.bin .add .int (.tmp 11) (.tmp 14)), none⟩, ⟨(some 16), (.bin .add .int (.tmp 15) (.const (.int .i64 1))), none⟩, ⟨(some 2), (.mv (.tmp 16)), none⟩])
  .ret)))))⟩
theorem pf17_ok : pfOf Tryz.prog plan 17 = some pf17 := by kernel_rfl
theorem ok17 : fnOk Tryz.prog plan 17 = true := by kernel_rfl
/- 95 (*scantling/alloc.Alloc).Image -/
noncomputable def pf95 : PF := ⟨9, [.tmp 2], (.seq (.reg [⟨(some 2), (.mv (.const (.pointer none))), none⟩])
  (.seq (.seq (.reg [⟨(some 3), (.mv (.tmp 0)), none⟩, ⟨(some 4), (.call 153 [(.tmp 3)]), none⟩])
  (.cond (.tmp 4) (.seq (.reg [⟨(some 2), (.mv (.const (.pointer none))), none⟩])
  .ret) .skip))
  (.seq (.reg [⟨(some 5), (.mv (.tmp 0)), none⟩, ⟨(some 6), (.nil (.tmp 5)), none⟩, ⟨(some 7), (.fieldAddr 2 (.tmp 6)), none⟩, ⟨(some 8), (.load none (.tmp 7)), none⟩, ⟨(some 2), (.mv (.tmp 8)), none⟩])
  .ret)))⟩
theorem pf95_ok : pfOf Tryz.prog plan 95 = some pf95 := by kernel_rfl
theorem ok95 : fnOk Tryz.prog plan 95 = true := by kernel_rfl
/- 96 (scantling/lay.layer).devices -/
noncomputable def pc96_0 : PCode := (.seq (.reg [⟨(some 16), (.bin .lss .int (.tmp 15) (.tmp 14)), none⟩])
  (.seq (.cond (.tmp 16) .skip (.exit 0))
  (.seq (.block 1 (.seq (.reg [⟨(some 17), (.indexAddr (.sl 5) (.tmp 13) (.tmp 15)), none⟩, ⟨(some 18), (.load (some 5) (.tmp 17)), none⟩, ⟨(some 9), (.alloc 0 [(.int .i64 0), (.int .i64 0), (.int .i64 0), (.int .i64 0), (.slice none 0 0)]), none⟩, ⟨none, (.store 5 (.tmp 9) (.tmp 18)), none⟩])
  (.seq (.draw [(⟨(some 20), (.fieldAddr 4 (.tmp 9)), none⟩, []), (⟨(some 19), (.load (some 1) (.tmp 2)), none⟩, []), (⟨(some 21), (.load none (.tmp 20)), none⟩, []), (⟨(some 22), (.call 155 [(.tmp 21)]), none⟩, [⟨(some 19), (.load (some 1) (.tmp 2)), none⟩]), (⟨(some 23), (.call 154 [(.tmp 19), (.const (.int .i64 2)), (.tmp 22)]), none⟩, []), (⟨(some 10), (.mv (.tmp 23)), none⟩, [])])
  (.seq (.draw [(⟨(some 24), (.mv (.tmp 6)), none⟩, []), (⟨(some 25), (.fieldAddr 0 (.tmp 9)), none⟩, []), (⟨(some 27), (.mv (.tmp 10)), none⟩, []), (⟨(some 26), (.load none (.tmp 25)), none⟩, []), (⟨(some 28), (.call 102 [(.tmp 27)]), none⟩, [⟨(some 26), (.load none (.tmp 25)), none⟩]), (⟨(some 29), (.build [(.int .i64 0), (.string (bs [])), (.int .i64 0)] [(0, 1), (1, 1), (2, 1)] [(0, (.tmp 26)), (1, (.tmp 28))]), none⟩, []), (⟨(some 30), (.buildSlice 3 1 [(0, (.tmp 29))]), none⟩, []), (⟨(some 31), (.append 3 32 false (.tmp 24) (.tmp 30)), none⟩, []), (⟨(some 6), (.mv (.tmp 31)), none⟩, [])])
  (.seq (.reg [⟨(some 32), (.fieldAddr 4 (.tmp 9)), none⟩, ⟨(some 33), (.load none (.tmp 32)), none⟩, ⟨(some 34), (.len .sl (.tmp 33)), none⟩, ⟨(some 35), (.fieldAddr 1 (.tmp 9)), none⟩, ⟨(some 36), (.load none (.tmp 35)), none⟩, ⟨(some 37), (.fieldAddr 2 (.tmp 9)), none⟩, ⟨(some 38), (.load none (.tmp 37)), none⟩, ⟨(some 39), (.fieldAddr 3 (.tmp 9)), none⟩, ⟨(some 40), (.load none (.tmp 39)), none⟩, ⟨(some 41), (.build [(.int .i64 0), (.int .i64 0), (.int .i64 0), (.int .i64 0)] [(0, 1), (1, 1), (2, 1), (3, 1)] [(0, (.tmp 34)), (1, (.tmp 36)), (2, (.tmp 38)), (3, (.tmp 40))]), none⟩, ⟨(some 11), (.alloc 0 [(.int .i64 0), (.int .i64 0), (.int .i64 0), (.int .i64 0)]), none⟩, ⟨none, (.store 4 (.tmp 11) (.tmp 41)), none⟩])
  (.draw [(⟨(some 42), (.mv (.tmp 7)), none⟩, []), (⟨(some 43), (.fieldAddr 0 (.tmp 9)), none⟩, []), (⟨(some 44), (.load none (.tmp 43)), none⟩, []), (⟨(some 45), (.load (some 4) (.tmp 11)), none⟩, []), (⟨(some 46), (.call 103 [(.tmp 45)]), none⟩, [⟨(some 44), (.load none (.tmp 43)), none⟩]), (⟨(some 47), (.build [(.int .i64 0), (.string (bs [])), (.int .i64 0)] [(0, 1), (1, 1), (2, 1)] [(0, (.tmp 44)), (1, (.tmp 46))]), none⟩, []), (⟨(some 48), (.buildSlice 3 1 [(0, (.tmp 47))]), none⟩, []), (⟨(some 49), (.append 3 32 false (.tmp 42) (.tmp 48)), none⟩, []), (⟨(some 7), (.mv (.tmp 49)), none⟩, [])]))))))
  (.reg [⟨(some 50), (.bin .add .int (.tmp 15) (.const (.int .i64 1))), none⟩, ⟨(some 15), (.mv (.tmp 50)), none⟩]))))
noncomputable def pf96 : PF := ⟨58, [.tmp 4, .tmp 5], (.seq (.reg [⟨(some 2), (.box 0 (.tmp 0)), none⟩, ⟨(some 4), (.mv (.const (.int .i64 0))), none⟩, ⟨(some 5), (.mv (.const (.int .i64 0))), none⟩])
  (.seq (.reg [⟨(some 6), (.mv (.const (.slice none 0 0))), none⟩, ⟨(some 7), (.mv (.const (.slice none 0 0))), none⟩])
  (.seq (.seq (.reg [⟨(some 13), (.mv (.tmp 1)), none⟩, ⟨(some 14), (.len .sl (.tmp 13)), none⟩, ⟨(some 15), (.mv (.const (.int .i64 0))), none⟩])
  (.block 0 (.loop pc96_0)))
  (.seq (.reg [⟨(some 51), (.load (some 1) (.tmp 2)), none⟩, ⟨(some 52), (.mv (.tmp 6)), none⟩, ⟨(some 53), (.call 154 [(.tmp 51), (.const (.int .i64 1)), (.tmp 52)]), none⟩, ⟨(some 12), (.mv (.tmp 53)), none⟩])
  (.seq (.reg [⟨(some 54), (.mv (.tmp 12)), none⟩, ⟨(some 55), (.load (some 1) (.tmp 2)), none⟩, ⟨(some 56), (.mv (.tmp 7)), none⟩, ⟨(some 57), (.call 154 [(.tmp 55), (.const (.int .i64 3)), (.tmp 56)]), none⟩, ⟨(some 4), (.mv (.tmp 54)), none⟩, ⟨(some 5), (.mv (.tmp 57)), none⟩])
  .ret)))))⟩
theorem pf96_ok : pfOf Tryz.prog plan 96 = some pf96 := by kernel_rfl
theorem ok96 : fnOk Tryz.prog plan 96 = true := by kernel_rfl
/- 97 scantling/plot.Data -/
noncomputable def pf97 : PF := ⟨70, [.tmp 4, .tmp 5, .tmp 6], (.seq (.reg [⟨(some 4), (.mv (.const (.int .i64 0))), none⟩, ⟨(some 5), (.mv (.const (.int .i64 0))), none⟩, ⟨(some 6), (.mv (.const .nilIface)), none⟩])
  (.seq (.seq (.reg [⟨(some 15), (.mv (.tmp 0)), none⟩, ⟨(some 16), (.call 95 [(.tmp 15)]), none⟩, ⟨(some 17), (.bin .eql .ptr (.tmp 16) (.const (.pointer none))), none⟩])
  (.cond (.tmp 17) (.seq (.reg [⟨(some 18), (.iface 49 (.const (.int .i64 18))), none⟩, ⟨(some 4), (.mv (.const (.int .i64 0))), none⟩, ⟨(some 5), (.mv (.const (.int .i64 0))), none⟩, ⟨(some 6), (.mv (.tmp 18)), none⟩])
  .ret) .skip))
  (.seq (.reg [⟨(some 20), (.mv (.tmp 1)), none⟩, ⟨(some 21), (.call 156 [(.tmp 20)]), none⟩, ⟨(some 19), (.mv (.tmp 21)), none⟩, ⟨(some 22), (.extract (.tmp 19) 0), none⟩, ⟨(some 23), (.extract (.tmp 19) 1), none⟩, ⟨(some 24), (.extract (.tmp 19) 2), none⟩, ⟨(some 7), (.mv (.tmp 22)), none⟩, ⟨(some 8), (.mv (.tmp 23)), none⟩, ⟨(some 9), (.mv (.tmp 24)), none⟩])
  (.seq (.seq (.reg [⟨(some 25), (.mv (.tmp 9)), none⟩, ⟨(some 26), (.bin .neq .int (.tmp 25) (.const (.int .i64 0))), none⟩])
  (.cond (.tmp 26) (.seq (.reg [⟨(some 27), (.mv (.tmp 9)), none⟩, ⟨(some 28), (.iface 49 (.tmp 27)), none⟩, ⟨(some 4), (.mv (.const (.int .i64 0))), none⟩, ⟨(some 5), (.mv (.const (.int .i64 0))), none⟩, ⟨(some 6), (.mv (.tmp 28)), none⟩])
  .ret) .skip))
  (.seq (.seq (.reg [⟨(some 29), (.mv (.tmp 0)), none⟩, ⟨(some 30), (.call 157 [(.tmp 29)]), none⟩, ⟨(some 31), (.mv (.tmp 7)), none⟩, ⟨(some 32), (.len .sl (.tmp 31)), none⟩, ⟨(some 33), (.mv (.tmp 7)), none⟩, ⟨(some 34), (.len .sl (.tmp 33)), none⟩, ⟨(some 35), (.call 22 [(.const (.int .i64 4)), (.tmp 34)]), none⟩, ⟨(some 36), (.bin .add .int (.tmp 32) (.tmp 35)), none⟩, ⟨(some 37), (.mv (.tmp 8)), none⟩, ⟨(some 38), (.len .sl (.tmp 37)), none⟩, ⟨(some 39), (.call 22 [(.const (.int .i64 5)), (.tmp 38)]), none⟩, ⟨(some 40), (.bin .add .int (.tmp 36) (.tmp 39)), none⟩, ⟨(some 41), (.bin .lss .int (.tmp 30) (.tmp 40)), none⟩])
  (.cond (.tmp 41) (.seq (.reg [⟨(some 42), (.iface 49 (.const (.int .i64 14))), none⟩, ⟨(some 4), (.mv (.const (.int .i64 0))), none⟩, ⟨(some 5), (.mv (.const (.int .i64 0))), none⟩, ⟨(some 6), (.mv (.tmp 42)), none⟩])
  .ret) .skip))
  (.seq (.reg [⟨(some 10), (.alloc 0 [(.slice none 0 0)]), none⟩])
  (.seq (.seq (.reg [⟨(some 43), (.mv (.tmp 0)), none⟩, ⟨(some 44), (.mv (.tmp 7)), none⟩, ⟨(some 45), (.fn 159 [] [(.tmp 10)]), none⟩, ⟨(some 46), (.call 158 [(.tmp 43), (.tmp 44), (.tmp 45)]), none⟩, ⟨(some 11), (.mv (.tmp 46)), none⟩])
  (.seq (.reg [⟨(some 47), (.mv (.tmp 11)), none⟩, ⟨(some 48), (.bin .neq .ifc (.tmp 47) (.const .nilIface)), none⟩])
  (.cond (.tmp 48) (.seq (.reg [⟨(some 49), (.mv (.tmp 11)), none⟩, ⟨(some 4), (.mv (.const (.int .i64 0))), none⟩, ⟨(some 5), (.mv (.const (.int .i64 0))), none⟩, ⟨(some 6), (.mv (.tmp 49)), none⟩])
  .ret) .skip)))
  (.seq (.reg [⟨(some 51), (.mv (.tmp 0)), none⟩, ⟨(some 52), (.load none (.tmp 10)), none⟩, ⟨(some 53), (.call 161 [(.tmp 51), (.const (.int .i64 4)), (.tmp 52)]), none⟩, ⟨(some 50), (.mv (.tmp 53)), none⟩, ⟨(some 54), (.extract (.tmp 50) 0), none⟩, ⟨(some 55), (.extract (.tmp 50) 1), none⟩, ⟨(some 12), (.mv (.tmp 54)), none⟩, ⟨(some 13), (.mv (.tmp 55)), none⟩])
  (.seq (.seq (.reg [⟨(some 56), (.mv (.tmp 13)), none⟩, ⟨(some 57), (.bin .neq .ifc (.tmp 56) (.const .nilIface)), none⟩])
  (.cond (.tmp 57) (.seq (.reg [⟨(some 58), (.mv (.tmp 13)), none⟩, ⟨(some 4), (.mv (.const (.int .i64 0))), none⟩, ⟨(some 5), (.mv (.const (.int .i64 0))), none⟩, ⟨(some 6), (.mv (.tmp 58)), none⟩])
  .ret) .skip))
  (.seq (.reg [⟨(some 60), (.mv (.tmp 0)), none⟩, ⟨(some 61), (.mv (.tmp 8)), none⟩, ⟨(some 62), (.call 161 [(.tmp 60), (.const (.int .i64 5)), (.tmp 61)]), none⟩, ⟨(some 59), (.mv (.tmp 62)), none⟩, ⟨(some 63), (.extract (.tmp 59) 0), none⟩, ⟨(some 64), (.extract (.tmp 59) 1), none⟩, ⟨(some 14), (.mv (.tmp 63)), none⟩, ⟨(some 13), (.mv (.tmp 64)), none⟩])
  (.seq (.seq (.reg [⟨(some 65), (.mv (.tmp 13)), none⟩, ⟨(some 66), (.bin .neq .ifc (.tmp 65) (.const .nilIface)), none⟩])
  (.cond (.tmp 66) (.seq (.reg [⟨(some 67), (.mv (.tmp 13)), none⟩, ⟨(some 4), (.mv (.const (.int .i64 0))), none⟩, ⟨(some 5), (.mv (.const (.int .i64 0))), none⟩, ⟨(some 6), (.mv (.tmp 67)), none⟩])
  .ret) .skip))
  (.seq (.reg [⟨(some 68), (.mv (.tmp 12)), none⟩, ⟨(some 69), (.mv (.tmp 14)), none⟩, ⟨(some 4), (.mv (.tmp 68)), none⟩, ⟨(some 5), (.mv (.tmp 69)), none⟩, ⟨(some 6), (.mv (.const .nilIface)), none⟩])
  .ret))))))))))))⟩
theorem pf97_ok : pfOf Tryz.prog plan 97 = some pf97 := by kernel_rfl
theorem ok97 : fnOk Tryz.prog plan 97 = true := by kernel_rfl
/- 98 scantling/plot.Meta -/
noncomputable def pc98_0 : PCode := (.seq (.reg [⟨(some 64), (.bin .lss .int (.tmp 63) (.tmp 62)), none⟩])
  (.seq (.cond (.tmp 64) .skip (.exit 0))
  (.seq (.block 1 (.seq (.reg [⟨(some 65), (.indexAddr (.sl 1) (.tmp 61) (.tmp 63)), none⟩, ⟨(some 66), (.load none (.tmp 65)), none⟩, ⟨(some 14), (.mv (.tmp 66)), none⟩])
  (.reg [⟨(some 67), (.mv (.tmp 12)), none⟩, ⟨(some 68), (.mv (.tmp 14)), none⟩, ⟨(some 69), (.indexAddr (.sl 1) (.tmp 67) (.tmp 68)), none⟩, ⟨(some 70), (.load none (.tmp 69)), none⟩, ⟨(some 71), (.bin .add .int (.tmp 70) (.const (.int .i64 1))), none⟩, ⟨(some 72), (.indexAddr (.sl 1) (.tmp 67) (.tmp 68)), none⟩, ⟨none, (.store 1 (.tmp 72) (.tmp 71)), none⟩])))
  (.reg [⟨(some 73), (.bin .add .int (.tmp 63) (.const (.int .i64 1))), none⟩, ⟨(some 63), (.mv (.tmp 73)), none⟩]))))
noncomputable def pf98 : PF := ⟨120, [.tmp 4, .tmp 5, .tmp 6], (.seq (.reg [⟨(some 4), (.mv (.const (.int .i64 0))), none⟩, ⟨(some 5), (.mv (.const (.int .i64 0))), none⟩, ⟨(some 6), (.mv (.const .nilIface)), none⟩])
  (.seq (.reg [⟨(some 23), (.mv (.tmp 0)), none⟩, ⟨(some 24), (.call 95 [(.tmp 23)]), none⟩, ⟨(some 7), (.mv (.tmp 24)), none⟩])
  (.seq (.seq (.reg [⟨(some 25), (.mv (.tmp 7)), none⟩, ⟨(some 26), (.bin .eql .ptr (.tmp 25) (.const (.pointer none))), none⟩])
  (.cond (.tmp 26) (.seq (.reg [⟨(some 27), (.iface 49 (.const (.int .i64 18))), none⟩, ⟨(some 4), (.mv (.const (.int .i64 0))), none⟩, ⟨(some 5), (.mv (.const (.int .i64 0))), none⟩, ⟨(some 6), (.mv (.tmp 27)), none⟩])
  .ret) .skip))
  (.seq (.seq (.reg [⟨(some 28), (.mv (.tmp 1)), none⟩, ⟨(some 29), (.len .sl (.tmp 28)), none⟩, ⟨(some 30), (.mv (.tmp 7)), none⟩, ⟨(some 31), (.call 68 [(.tmp 30)]), none⟩, ⟨(some 32), (.bin .neq .int (.tmp 29) (.tmp 31)), none⟩])
  (.cond (.tmp 32) (.seq (.reg [⟨(some 33), (.iface 49 (.const (.int .i64 1))), none⟩, ⟨(some 4), (.mv (.const (.int .i64 0))), none⟩, ⟨(some 5), (.mv (.const (.int .i64 0))), none⟩, ⟨(some 6), (.mv (.tmp 33)), none⟩])
  .ret) .skip))
  (.seq (.reg [⟨(some 35), (.mv (.tmp 1)), none⟩, ⟨(some 36), (.call 156 [(.tmp 35)]), none⟩, ⟨(some 34), (.mv (.tmp 36)), none⟩, ⟨(some 37), (.extract (.tmp 34) 0), none⟩, ⟨(some 38), (.extract (.tmp 34) 1), none⟩, ⟨(some 39), (.extract (.tmp 34) 2), none⟩, ⟨(some 8), (.mv (.tmp 37)), none⟩, ⟨(some 9), (.mv (.tmp 38)), none⟩, ⟨(some 10), (.mv (.tmp 39)), none⟩])
  (.seq (.seq (.reg [⟨(some 40), (.mv (.tmp 10)), none⟩, ⟨(some 41), (.bin .neq .int (.tmp 40) (.const (.int .i64 0))), none⟩])
  (.cond (.tmp 41) (.seq (.reg [⟨(some 42), (.mv (.tmp 10)), none⟩, ⟨(some 43), (.iface 49 (.tmp 42)), none⟩, ⟨(some 4), (.mv (.const (.int .i64 0))), none⟩, ⟨(some 5), (.mv (.const (.int .i64 0))), none⟩, ⟨(some 6), (.mv (.tmp 43)), none⟩])
  .ret) .skip))
  (.seq (.reg [⟨(some 44), (.mv (.tmp 9)), none⟩, ⟨(some 45), (.len .sl (.tmp 44)), none⟩, ⟨(some 46), (.call 22 [(.const (.int .i64 5)), (.tmp 45)]), none⟩, ⟨(some 47), (.mv (.tmp 1)), none⟩, ⟨(some 48), (.len .sl (.tmp 47)), none⟩, ⟨(some 49), (.call 92 [(.tmp 48)]), none⟩, ⟨(some 50), (.bin .add .int (.tmp 46) (.tmp 49)), none⟩, ⟨(some 51), (.bin .add .int (.tmp 50) (.const (.int .i64 1))), none⟩, ⟨(some 11), (.mv (.tmp 51)), none⟩])
  (.seq (.seq (.reg [⟨(some 52), (.mv (.tmp 0)), none⟩, ⟨(some 53), (.call 157 [(.tmp 52)]), none⟩, ⟨(some 54), (.mv (.tmp 11)), none⟩, ⟨(some 55), (.bin .lss .int (.tmp 53) (.tmp 54)), none⟩])
  (.cond (.tmp 55) (.seq (.reg [⟨(some 56), (.iface 49 (.const (.int .i64 14))), none⟩, ⟨(some 4), (.mv (.const (.int .i64 0))), none⟩, ⟨(some 5), (.mv (.const (.int .i64 0))), none⟩, ⟨(some 6), (.mv (.tmp 56)), none⟩])
  .ret) .skip))
  (.seq (.reg [⟨(some 57), (.mv (.tmp 1)), none⟩, ⟨(some 58), (.call 121 [(.tmp 57)]), none⟩, ⟨(some 12), (.mv (.tmp 58)), none⟩])
  (.seq (.seq (.reg [⟨(some 59), (.mv (.tmp 0)), none⟩, ⟨(some 60), (.mv (.tmp 11)), none⟩, ⟨(some 61), (.call 162 [(.tmp 59), (.tmp 60)]), none⟩, ⟨(some 62), (.len .sl (.tmp 61)), none⟩, ⟨(some 63), (.mv (.const (.int .i64 0))), none⟩])
  (.block 0 (.loop pc98_0)))
  (.seq (.reg [⟨(some 75), (.mv (.tmp 0)), none⟩, ⟨(some 76), (.mv (.tmp 9)), none⟩, ⟨(some 77), (.call 161 [(.tmp 75), (.const (.int .i64 5)), (.tmp 76)]), none⟩, ⟨(some 74), (.mv (.tmp 77)), none⟩, ⟨(some 78), (.extract (.tmp 74) 0), none⟩, ⟨(some 79), (.extract (.tmp 74) 1), none⟩, ⟨(some 15), (.mv (.tmp 78)), none⟩, ⟨(some 16), (.mv (.tmp 79)), none⟩])
  (.seq (.seq (.reg [⟨(some 80), (.mv (.tmp 16)), none⟩, ⟨(some 81), (.bin .neq .ifc (.tmp 80) (.const .nilIface)), none⟩])
  (.cond (.tmp 81) (.seq (.reg [⟨(some 82), (.mv (.tmp 16)), none⟩, ⟨(some 4), (.mv (.const (.int .i64 0))), none⟩, ⟨(some 5), (.mv (.const (.int .i64 0))), none⟩, ⟨(some 6), (.mv (.tmp 82)), none⟩])
  .ret) .skip))
  (.seq (.reg [⟨(some 84), (.mv (.tmp 12)), none⟩, ⟨(some 85), (.call 156 [(.tmp 84)]), none⟩, ⟨(some 83), (.mv (.tmp 85)), none⟩, ⟨(some 86), (.extract (.tmp 83) 0), none⟩, ⟨(some 87), (.extract (.tmp 83) 1), none⟩, ⟨(some 88), (.extract (.tmp 83) 2), none⟩, ⟨(some 17), (.mv (.tmp 86)), none⟩, ⟨(some 18), (.mv (.tmp 87)), none⟩, ⟨(some 10), (.mv (.tmp 88)), none⟩])
  (.seq (.seq (.reg [⟨(some 89), (.mv (.tmp 10)), none⟩, ⟨(some 90), (.bin .neq .int (.tmp 89) (.const (.int .i64 0))), none⟩])
  (.cond (.tmp 90) (.seq (.reg [⟨(some 91), (.mv (.tmp 10)), none⟩, ⟨(some 92), (.iface 49 (.tmp 91)), none⟩, ⟨(some 4), (.mv (.const (.int .i64 0))), none⟩, ⟨(some 5), (.mv (.const (.int .i64 0))), none⟩, ⟨(some 6), (.mv (.tmp 92)), none⟩])
  .ret) .skip))
  (.seq (.reg [⟨(some 19), (.alloc 0 [(.slice none 0 0)]), none⟩])
  (.seq (.seq (.reg [⟨(some 93), (.mv (.tmp 0)), none⟩, ⟨(some 94), (.mv (.tmp 17)), none⟩, ⟨(some 95), (.fn 163 [] [(.tmp 19)]), none⟩, ⟨(some 96), (.call 158 [(.tmp 93), (.tmp 94), (.tmp 95)]), none⟩, ⟨(some 20), (.mv (.tmp 96)), none⟩])
  (.seq (.reg [⟨(some 97), (.mv (.tmp 20)), none⟩, ⟨(some 98), (.bin .neq .ifc (.tmp 97) (.const .nilIface)), none⟩])
  (.cond (.tmp 98) (.seq (.reg [⟨(some 99), (.mv (.tmp 20)), none⟩, ⟨(some 4), (.mv (.const (.int .i64 0))), none⟩, ⟨(some 5), (.mv (.const (.int .i64 0))), none⟩, ⟨(some 6), (.mv (.tmp 99)), none⟩])
  .ret) .skip)))
  (.seq (.reg [⟨(some 101), (.load none (.tmp 19)), none⟩, ⟨(some 102), (.call 164 [(.tmp 101)]), none⟩, ⟨(some 100), (.mv (.tmp 102)), none⟩, ⟨(some 103), (.extract (.tmp 100) 0), none⟩, ⟨(some 104), (.extract (.tmp 100) 1), none⟩, ⟨(some 21), (.mv (.tmp 103)), none⟩, ⟨(some 10), (.mv (.tmp 104)), none⟩])
  (.seq (.seq (.reg [⟨(some 105), (.mv (.tmp 10)), none⟩, ⟨(some 106), (.bin .neq .int (.tmp 105) (.const (.int .i64 0))), none⟩])
  (.cond (.tmp 106) (.seq (.reg [⟨(some 107), (.mv (.tmp 10)), none⟩, ⟨(some 108), (.iface 49 (.tmp 107)), none⟩, ⟨(some 4), (.mv (.const (.int .i64 0))), none⟩, ⟨(some 5), (.mv (.const (.int .i64 0))), none⟩, ⟨(some 6), (.mv (.tmp 108)), none⟩])
  .ret) .skip))
  (.seq (.reg [⟨(some 110), (.mv (.tmp 0)), none⟩, ⟨(some 111), (.mv (.tmp 21)), none⟩, ⟨(some 112), (.call 165 [(.tmp 110), (.const (.int .i64 4)), (.tmp 111)]), none⟩, ⟨(some 109), (.mv (.tmp 112)), none⟩, ⟨(some 113), (.extract (.tmp 109) 0), none⟩, ⟨(some 114), (.extract (.tmp 109) 1), none⟩, ⟨(some 22), (.mv (.tmp 113)), none⟩, ⟨(some 16), (.mv (.tmp 114)), none⟩])
  (.seq (.seq (.reg [⟨(some 115), (.mv (.tmp 16)), none⟩, ⟨(some 116), (.bin .neq .ifc (.tmp 115) (.const .nilIface)), none⟩])
  (.cond (.tmp 116) (.seq (.reg [⟨(some 117), (.mv (.tmp 16)), none⟩, ⟨(some 4), (.mv (.const (.int .i64 0))), none⟩, ⟨(some 5), (.mv (.const (.int .i64 0))), none⟩, ⟨(some 6), (.mv (.tmp 117)), none⟩])
  .ret) .skip))
  (.seq (.reg [⟨(some 118), (.mv (.tmp 22)), none⟩, ⟨(some 119), (.mv (.tmp 15)), none⟩, ⟨(some 4), (.mv (.tmp 118)), none⟩, ⟨(some 5), (.mv (.tmp 119)), none⟩, ⟨(some 6), (.mv (.const .nilIface)), none⟩])
  .ret)))))))))))))))))))))⟩
theorem pf98_ok : pfOf Tryz.prog plan 98 = some pf98 := by kernel_rfl
theorem ok98 : fnOk Tryz.prog plan 98 = true := by kernel_rfl
/- 99 (scantling/lay.layer).counts -/
noncomputable def pc99_0 : PCode := (.seq (.reg [⟨(some 15), (.bin .lss .int (.tmp 14) (.tmp 13)), none⟩])
  (.seq (.cond (.tmp 15) .skip (.exit 0))
  (.seq (.block 1 (.seq (.reg [⟨(some 16), (.mv (.tmp 14)), none⟩, ⟨(some 4), (.mv (.tmp 16)), none⟩])
  (.reg [⟨(some 17), (.mv (.tmp 3)), none⟩, ⟨(some 18), (.mv (.tmp 4)), none⟩, ⟨(some 19), (.indexAddr (.sl 1) (.tmp 17) (.tmp 18)), none⟩, ⟨none, (.store 1 (.tmp 19) (.const (.int .i64 1))), none⟩])))
  (.reg [⟨(some 20), (.bin .add .int (.tmp 14) (.const (.int .i64 1))), none⟩, ⟨(some 14), (.mv (.tmp 20)), none⟩]))))
noncomputable def pf99 : PF := ⟨22, [.tmp 2], (.seq (.reg [⟨(some 1), (.box 0 (.tmp 0)), none⟩, ⟨(some 2), (.mv (.const (.slice none 0 0))), none⟩])
  (.seq (.reg [⟨(some 5), (.fieldAddr 0 (.tmp 1)), none⟩, ⟨(some 6), (.load none (.tmp 5)), none⟩, ⟨(some 7), (.call 95 [(.tmp 6)]), none⟩, ⟨(some 8), (.call 68 [(.tmp 7)]), none⟩, ⟨(some 9), (.makeSlice 1 8 [(.int .i64 0)] (.tmp 8) (.tmp 8)), none⟩, ⟨(some 3), (.mv (.tmp 9)), none⟩])
  (.seq (.seq (.reg [⟨(some 10), (.fieldAddr 0 (.tmp 1)), none⟩, ⟨(some 11), (.load none (.tmp 10)), none⟩, ⟨(some 12), (.call 104 [(.tmp 11)]), none⟩, ⟨(some 13), (.bin .add .int (.tmp 12) (.const (.int .i64 1))), none⟩, ⟨(some 14), (.mv (.const (.int .i64 0))), none⟩])
  (.block 0 (.loop pc99_0)))
  (.seq (.reg [⟨(some 21), (.mv (.tmp 3)), none⟩, ⟨(some 2), (.mv (.tmp 21)), none⟩])
  .ret))))⟩
theorem pf99_ok : pfOf Tryz.prog plan 99 = some pf99 := by kernel_rfl
theorem ok99 : fnOk Tryz.prog plan 99 = true := by kernel_rfl
/- 58 scantling/super.Put -/
noncomputable def pf58 : PF := ⟨28, [.tmp 2, .tmp 3], (.seq (.reg [⟨(some 1), (.box 0 (.tmp 0)), none⟩, ⟨(some 2), (.mv (.const (.slice none 0 0))), none⟩, ⟨(some 3), (.mv (.const (.int .i64 0))), none⟩])
  (.seq (.seq (.reg [⟨(some 8), (.load (some 11) (.tmp 1)), none⟩, ⟨(some 9), (.call 69 [(.tmp 8)]), none⟩, ⟨(some 10), (.un .not (.tmp 9)), none⟩])
  (.cond (.tmp 10) (.seq (.reg [⟨(some 2), (.mv (.const (.slice none 0 0))), none⟩, ⟨(some 3), (.mv (.const (.int .i64 1))), none⟩])
  .ret) .skip))
  (.seq (.reg [⟨(some 11), (.build [(.int .i64 0), (.int .i64 0)] [(0, 1), (1, 1)] [(0, (.const (.int .i64 4))), (1, (.const (.int .i64 1)))]), none⟩, ⟨(some 12), (.buildSlice 2 1 [(0, (.tmp 11))]), none⟩, ⟨(some 4), (.alloc 0 [(.slice none 0 0)]), none⟩, ⟨none, (.store 1 (.tmp 4) (.tmp 12)), none⟩])
  (.seq (.reg [⟨(some 13), (.fn 106 [] [(.tmp 4)]), none⟩, ⟨(some 14), (.call 105 [(.tmp 1), (.tmp 13)]), none⟩])
  (.seq (.reg [⟨(some 16), (.load none (.tmp 4)), none⟩, ⟨(some 17), (.call 107 [(.tmp 16)]), none⟩, ⟨(some 15), (.mv (.tmp 17)), none⟩, ⟨(some 18), (.extract (.tmp 15) 0), none⟩, ⟨(some 19), (.extract (.tmp 15) 1), none⟩, ⟨(some 5), (.mv (.tmp 18)), none⟩, ⟨(some 6), (.mv (.tmp 19)), none⟩])
  (.seq (.reg [⟨(some 20), (.makeSlice 1 1 [(.int .u8 0)] (.const (.int .i64 244)) (.const (.int .i64 244))), none⟩, ⟨(some 7), (.mv (.tmp 20)), none⟩])
  (.seq (.reg [⟨(some 21), (.mv (.tmp 7)), none⟩, ⟨(some 22), (.mv (.tmp 7)), none⟩, ⟨(some 23), (.copy 1 true (.tmp 22) (.const (.string (bs [83, 67, 65, 78, 84, 76, 73, 78])))), none⟩, ⟨(some 24), (.slice (.sl 1) (.tmp 21) (some (.tmp 23)) none none), none⟩, ⟨(some 25), (.mv (.tmp 5)), none⟩, ⟨(some 26), (.copy 1 false (.tmp 24) (.tmp 25)), none⟩])
  (.seq (.reg [⟨(some 27), (.mv (.tmp 7)), none⟩, ⟨(some 2), (.mv (.tmp 27)), none⟩, ⟨(some 3), (.mv (.const (.int .i64 0))), none⟩])
  .ret))))))))⟩
theorem pf58_ok : pfOf Tryz.prog plan 58 = some pf58 := by kernel_rfl
theorem ok58 : fnOk Tryz.prog plan 58 = true := by kernel_rfl
/- 59 scantling/block.Write -/
noncomputable def pf59 : PF := ⟨28, [.tmp 8], (.seq (.reg [⟨(some 8), (.mv (.const .nilIface)), none⟩])
  (.seq (.reg [⟨(some 12), (.mv (.tmp 2)), none⟩, ⟨(some 13), (.mv (.tmp 1)), none⟩, ⟨(some 14), (.mv (.tmp 3)), none⟩, ⟨(some 15), (.call 108 [(.tmp 12), (.tmp 13), (.tmp 14)]), none⟩, ⟨(some 11), (.mv (.tmp 15)), none⟩, ⟨(some 16), (.extract (.tmp 11) 0), none⟩, ⟨(some 17), (.extract (.tmp 11) 1), none⟩, ⟨(some 9), (.mv (.tmp 16)), none⟩, ⟨(some 10), (.mv (.tmp 17)), none⟩])
  (.seq (.seq (.reg [⟨(some 18), (.mv (.tmp 10)), none⟩, ⟨(some 19), (.bin .eql .int (.tmp 18) (.const (.int .i64 0))), none⟩])
  (.cond (.tmp 19) (.reg [⟨(some 20), (.mv (.tmp 0)), none⟩, ⟨(some 21), (.mv (.tmp 1)), none⟩, ⟨(some 22), (.mv (.tmp 9)), none⟩, ⟨(some 23), (.call 109 [(.tmp 20), (.tmp 21), (.tmp 22)]), none⟩, ⟨(some 10), (.mv (.tmp 23)), none⟩]) .skip))
  (.seq (.reg [⟨(some 24), (.mv (.tmp 1)), none⟩, ⟨(some 25), (.mv (.tmp 10)), none⟩, ⟨(some 26), (.iface 49 (.tmp 25)), none⟩, ⟨(some 27), (.call 110 [(.tmp 24), (.tmp 26)]), none⟩, ⟨(some 8), (.mv (.tmp 27)), none⟩])
  .ret))))⟩
theorem pf59_ok : pfOf Tryz.prog plan 59 = some pf59 := by kernel_rfl
theorem ok59 : fnOk Tryz.prog plan 59 = true := by kernel_rfl
/- 113 scantling/check.stages -/
noncomputable def pf113 : PF := ⟨20, [.tmp 4], (.seq (.reg [⟨(some 2), (.box 0 (.tmp 0)), none⟩, ⟨(some 3), (.box 0 (.tmp 1)), none⟩, ⟨(some 4), (.mv (.const (.slice none 0 0))), none⟩])
  (.seq (.reg [⟨(some 5), (.fn 182 [] [(.tmp 2)]), none⟩, ⟨(some 6), (.build [(.bool false), .nilFunc] [(0, 1), (1, 1)] [(0, (.const (.bool false))), (1, (.tmp 5))]), none⟩, ⟨(some 7), (.buildSlice 2 1 [(0, (.tmp 6))]), none⟩, ⟨(some 8), (.fn 184 [] [(.tmp 2), (.tmp 3)]), none⟩, ⟨(some 9), (.build [(.bool false), .nilFunc] [(0, 1), (1, 1)] [(0, (.const (.bool false))), (1, (.tmp 8))]), none⟩, ⟨(some 10), (.fn 186 [] [(.tmp 2), (.tmp 3)]), none⟩, ⟨(some 11), (.build [(.bool false), .nilFunc] [(0, 1), (1, 1)] [(0, (.const (.bool false))), (1, (.tmp 10))]), none⟩, ⟨(some 12), (.fn 188 [] [(.tmp 2), (.tmp 3)]), none⟩, ⟨(some 13), (.build [(.bool false), .nilFunc] [(0, 1), (1, 1)] [(0, (.const (.bool false))), (1, (.tmp 12))]), none⟩, ⟨(some 14), (.buildSlice 2 3 [(0, (.tmp 9)), (1, (.tmp 11)), (2, (.tmp 13))]), none⟩, ⟨(some 15), (.build [(.bool false), .nilFunc] [(0, 1), (1, 1)] [(0, (.const (.bool true))), (1, (.func 190))]), none⟩, ⟨(some 16), (.fn 192 [] [(.tmp 2)]), none⟩, ⟨(some 17), (.build [(.bool false), .nilFunc] [(0, 1), (1, 1)] [(0, (.const (.bool true))), (1, (.tmp 16))]), none⟩, ⟨(some 18), (.buildSlice 2 2 [(0, (.tmp 15)), (1, (.tmp 17))]), none⟩, ⟨(some 19), (.buildSlice 1 3 [(0, (.tmp 7)), (1, (.tmp 14)), (2, (.tmp 18))]), none⟩, ⟨(some 4), (.mv (.tmp 19)), none⟩])
  .ret))⟩
theorem pf113_ok : pfOf Tryz.prog plan 113 = some pf113 := by kernel_rfl
theorem ok113 : fnOk Tryz.prog plan 113 = true := by kernel_rfl
/- 114 (*scantling/image.Image).Read -/
noncomputable def pf114 : PF := ⟨17, [.tmp 4, .tmp 5], (.seq (.reg [⟨(some 4), (.mv (.const (.slice none 0 0))), none⟩, ⟨(some 5), (.mv (.const (.int .i64 0))), none⟩])
  (.seq (.reg [⟨(some 9), (.mv (.tmp 0)), none⟩, ⟨(some 10), (.mv (.tmp 1)), none⟩, ⟨(some 11), (.call 176 [(.tmp 9), (.tmp 10)]), none⟩, ⟨(some 8), (.mv (.tmp 11)), none⟩, ⟨(some 12), (.extract (.tmp 8) 0), none⟩, ⟨(some 13), (.extract (.tmp 8) 1), none⟩, ⟨(some 6), (.mv (.tmp 12)), none⟩, ⟨(some 7), (.mv (.tmp 13)), none⟩])
  (.seq (.reg [⟨(some 14), (.mv (.tmp 6)), none⟩, ⟨(some 15), (.call 31 [(.tmp 14)]), none⟩, ⟨(some 16), (.mv (.tmp 7)), none⟩, ⟨(some 4), (.mv (.tmp 15)), none⟩, ⟨(some 5), (.mv (.tmp 16)), none⟩])
  .ret)))⟩
theorem pf114_ok : pfOf Tryz.prog plan 114 = some pf114 := by kernel_rfl
theorem ok114 : fnOk Tryz.prog plan 114 = true := by kernel_rfl
/- 110 scantling/block.told -/
noncomputable def pf110 : PF := ⟨11, [.tmp 4], (.seq (.reg [⟨(some 4), (.mv (.const .nilIface)), none⟩])
  (.seq (.seq (.reg [⟨(some 5), (.mv (.tmp 1)), none⟩, ⟨(some 6), (.iface 49 (.const (.int .i64 0))), none⟩, ⟨(some 7), (.call 177 [(.tmp 5), (.tmp 6)]), none⟩])
  (.cond (.tmp 7) (.seq (.reg [⟨(some 4), (.mv (.const .nilIface)), none⟩])
  .ret) .skip))
  (.seq (.reg [⟨(some 8), (.mv (.tmp 0)), none⟩, ⟨(some 9), (.mv (.tmp 1)), none⟩, ⟨(some 10), (.call 64 [(.tmp 8), (.tmp 9)]), none⟩, ⟨(some 4), (.mv (.tmp 10)), none⟩])
  .ret)))⟩
theorem pf110_ok : pfOf Tryz.prog plan 110 = some pf110 := by kernel_rfl
theorem ok110 : fnOk Tryz.prog plan 110 = true := by kernel_rfl
/- 115 scantling/seal.Open -/
noncomputable def pc115_0 : PCode := (.seq (.reg [⟨(some 27), (.bin .lss .int (.tmp 26) (.tmp 25)), none⟩])
  (.seq (.cond (.tmp 27) .skip (.exit 0))
  (.seq (.block 1 (.seq (.reg [⟨(some 28), (.indexAddr (.sl 2) (.tmp 24) (.tmp 26)), none⟩, ⟨(some 29), (.load (some 2) (.tmp 28)), none⟩, ⟨(some 10), (.alloc 0 [.nilFunc, (.int .i64 0)]), none⟩, ⟨none, (.store 2 (.tmp 10) (.tmp 29)), none⟩])
  (.seq (.reg [⟨(some 30), (.fieldAddr 0 (.tmp 10)), none⟩, ⟨(some 31), (.load none (.tmp 30)), none⟩, ⟨(some 32), (.callv (.tmp 31) []), none⟩])
  (.cond (.tmp 32) (.seq (.draw [(⟨(some 33), (.fieldAddr 1 (.tmp 10)), none⟩, []), (⟨(some 6), (.mv (.const (.slice none 0 0))), none⟩, []), (⟨(some 34), (.load none (.tmp 33)), none⟩, []), (⟨(some 7), (.mv (.tmp 34)), none⟩, [])])
  .ret) .skip))))
  (.reg [⟨(some 35), (.bin .add .int (.tmp 26) (.const (.int .i64 1))), none⟩, ⟨(some 26), (.mv (.tmp 35)), none⟩]))))
noncomputable def pf115 : PF := ⟨39, [.tmp 6, .tmp 7], (.seq (.reg [⟨(some 3), (.box 0 (.tmp 0)), none⟩, ⟨(some 4), (.box 0 (.tmp 1)), none⟩, ⟨(some 5), (.box 0 (.tmp 2)), none⟩, ⟨(some 6), (.mv (.const (.slice none 0 0))), none⟩, ⟨(some 7), (.mv (.const (.int .i64 0))), none⟩])
  (.seq (.reg [⟨(some 11), (.fn 194 [] [(.tmp 4), (.tmp 5)]), none⟩, ⟨(some 12), (.build [.nilFunc, (.int .i64 0)] [(0, 1), (1, 1)] [(0, (.tmp 11)), (1, (.const (.int .i64 1)))]), none⟩, ⟨(some 13), (.fn 195 [] [(.tmp 3)]), none⟩, ⟨(some 14), (.build [.nilFunc, (.int .i64 0)] [(0, 1), (1, 1)] [(0, (.tmp 13)), (1, (.const (.int .i64 7)))]), none⟩, ⟨(some 15), (.fn 196 [] [(.tmp 3), (.tmp 4)]), none⟩, ⟨(some 16), (.build [.nilFunc, (.int .i64 0)] [(0, 1), (1, 1)] [(0, (.tmp 15)), (1, (.const (.int .i64 4)))]), none⟩, ⟨(some 17), (.fn 198 [] [(.tmp 3), (.tmp 5)]), none⟩, ⟨(some 18), (.build [.nilFunc, (.int .i64 0)] [(0, 1), (1, 1)] [(0, (.tmp 17)), (1, (.const (.int .i64 5)))]), none⟩, ⟨(some 19), (.fn 199 [] [(.tmp 3), (.tmp 4)]), none⟩, ⟨(some 20), (.build [.nilFunc, (.int .i64 0)] [(0, 1), (1, 1)] [(0, (.tmp 19)), (1, (.const (.int .i64 6)))]), none⟩, ⟨(some 21), (.fn 200 [] [(.tmp 3)]), none⟩, ⟨(some 22), (.build [.nilFunc, (.int .i64 0)] [(0, 1), (1, 1)] [(0, (.tmp 21)), (1, (.const (.int .i64 7)))]), none⟩, ⟨(some 23), (.buildSlice 2 6 [(0, (.tmp 12)), (1, (.tmp 14)), (2, (.tmp 16)), (3, (.tmp 18)), (4, (.tmp 20)), (5, (.tmp 22))]), none⟩, ⟨(some 8), (.mv (.tmp 23)), none⟩])
  (.seq (.seq (.reg [⟨(some 24), (.mv (.tmp 8)), none⟩, ⟨(some 25), (.len .sl (.tmp 24)), none⟩, ⟨(some 26), (.mv (.const (.int .i64 0))), none⟩])
  (.block 0 (.loop pc115_0)))
  (.seq (.reg [⟨(some 36), (.load none (.tmp 3)), none⟩, ⟨(some 37), (.slice (.sl 1) (.tmp 36) (some (.const (.int .i64 8))) (some (.const (.int .i64 252))) none), none⟩, ⟨(some 38), (.call 31 [(.tmp 37)]), none⟩, ⟨(some 6), (.mv (.tmp 38)), none⟩, ⟨(some 7), (.mv (.const (.int .i64 0))), none⟩])
  .ret))))⟩
theorem pf115_ok : pfOf Tryz.prog plan 115 = some pf115 := by kernel_rfl
theorem ok115 : fnOk Tryz.prog plan 115 = true := by kernel_rfl
/- 105 scantling/super.each -/
noncomputable def pc105_0 : PCode := (.seq (.reg [⟨(some 52), (.bin .lss .int (.tmp 51) (.tmp 50)), none⟩])
  (.seq (.cond (.tmp 52) .skip (.exit 0))
  (.seq (.block 1 (.seq (.reg [⟨(some 53), (.indexAddr (.sl 1) (.tmp 49) (.tmp 51)), none⟩, ⟨(some 54), (.load none (.tmp 53)), none⟩, ⟨(some 5), (.mv (.tmp 54)), none⟩])
  (.reg [⟨(some 55), (.mv (.tmp 1)), none⟩, ⟨(some 56), (.mv (.tmp 5)), none⟩, ⟨(some 57), (.mv (.tmp 0)), none⟩, ⟨(some 58), (.nil (.tmp 57)), none⟩, ⟨(some 59), (.fieldAddr 4 (.tmp 58)), none⟩, ⟨(some 60), (.load none (.tmp 59)), none⟩, ⟨(some 61), (.bin .sub .int (.tmp 60) (.const (.int .i64 1))), none⟩, ⟨(some 62), (.callv (.tmp 55) [(.tmp 56), (.const (.int .i64 1)), (.tmp 61)]), none⟩])))
  (.reg [⟨(some 63), (.bin .add .int (.tmp 51) (.const (.int .i64 1))), none⟩, ⟨(some 51), (.mv (.tmp 63)), none⟩]))))
noncomputable def pf105 : PF := ⟨64, [], (.seq (.reg [⟨(some 6), (.mv (.tmp 1)), none⟩, ⟨(some 7), (.mv (.tmp 0)), none⟩, ⟨(some 8), (.nil (.tmp 7)), none⟩, ⟨(some 9), (.fieldAddr 0 (.tmp 8)), none⟩, ⟨(some 10), (.callv (.tmp 6) [(.tmp 9), (.const (.int .i64 0)), (.const (.int .i64 2147483647))]), none⟩])
  (.seq (.reg [⟨(some 11), (.mv (.tmp 1)), none⟩, ⟨(some 12), (.mv (.tmp 0)), none⟩, ⟨(some 13), (.nil (.tmp 12)), none⟩, ⟨(some 14), (.fieldAddr 1 (.tmp 13)), none⟩, ⟨(some 15), (.callv (.tmp 11) [(.tmp 14), (.const (.int .i64 0)), (.const (.int .i64 16777215))]), none⟩])
  (.seq (.reg [⟨(some 16), (.mv (.tmp 1)), none⟩, ⟨(some 17), (.mv (.tmp 0)), none⟩, ⟨(some 18), (.nil (.tmp 17)), none⟩, ⟨(some 19), (.fieldAddr 2 (.tmp 18)), none⟩, ⟨(some 20), (.callv (.tmp 16) [(.tmp 19), (.const (.int .i64 1)), (.const (.int .i64 65536))]), none⟩])
  (.seq (.reg [⟨(some 21), (.mv (.tmp 1)), none⟩, ⟨(some 22), (.mv (.tmp 0)), none⟩, ⟨(some 23), (.nil (.tmp 22)), none⟩, ⟨(some 24), (.fieldAddr 3 (.tmp 23)), none⟩, ⟨(some 25), (.callv (.tmp 21) [(.tmp 24), (.const (.int .i64 0)), (.const (.int .i64 65536))]), none⟩])
  (.seq (.reg [⟨(some 26), (.mv (.tmp 1)), none⟩, ⟨(some 27), (.mv (.tmp 0)), none⟩, ⟨(some 28), (.nil (.tmp 27)), none⟩, ⟨(some 29), (.fieldAddr 4 (.tmp 28)), none⟩, ⟨(some 30), (.callv (.tmp 26) [(.tmp 29), (.const (.int .i64 2)), (.const (.int .i64 14400))]), none⟩])
  (.seq (.draw [(⟨(some 31), (.mv (.tmp 0)), none⟩, []), (⟨(some 32), (.nil (.tmp 31)), none⟩, []), (⟨(some 33), (.fieldAddr 5 (.tmp 32)), none⟩, []), (⟨(some 34), (.mv (.tmp 0)), none⟩, []), (⟨(some 35), (.nil (.tmp 34)), none⟩, []), (⟨(some 36), (.fieldAddr 6 (.tmp 35)), none⟩, []), (⟨(some 37), (.mv (.tmp 0)), none⟩, []), (⟨(some 38), (.nil (.tmp 37)), none⟩, []), (⟨(some 39), (.fieldAddr 7 (.tmp 38)), none⟩, []), (⟨(some 40), (.mv (.tmp 0)), none⟩, []), (⟨(some 41), (.nil (.tmp 40)), none⟩, []), (⟨(some 42), (.fieldAddr 8 (.tmp 41)), none⟩, []), (⟨(some 43), (.mv (.tmp 0)), none⟩, []), (⟨(some 44), (.nil (.tmp 43)), none⟩, []), (⟨(some 45), (.fieldAddr 9 (.tmp 44)), none⟩, []), (⟨(some 46), (.mv (.tmp 0)), none⟩, []), (⟨(some 47), (.nil (.tmp 46)), none⟩, []), (⟨(some 48), (.fieldAddr 10 (.tmp 47)), none⟩, []), (⟨(some 51), (.mv (.const (.int .i64 0))), none⟩, []), (⟨(some 49), (.buildSlice 1 6 [(0, (.tmp 33)), (1, (.tmp 36)), (2, (.tmp 39)), (3, (.tmp 42)), (4, (.tmp 45)), (5, (.tmp 48))]), none⟩, []), (⟨(some 50), (.len .sl (.tmp 49)), none⟩, [])])
  (.block 0 (.loop pc105_0))))))))⟩
theorem pf105_ok : pfOf Tryz.prog plan 105 = some pf105 := by kernel_rfl
theorem ok105 : fnOk Tryz.prog plan 105 = true := by kernel_rfl
/- 116 scantling/super.Read$1 -/
noncomputable def pf116 : PF := ⟨18, [], (.seq (.reg [⟨(some 9), (.mv (.tmp 0)), none⟩, ⟨(some 10), (.load none (.tmp 3)), none⟩, ⟨(some 11), (.load none (.tmp 4)), none⟩, ⟨(some 12), (.call 117 [(.tmp 10), (.tmp 11), (.const (.int .i64 4))]), none⟩, ⟨(some 8), (.mv (.tmp 12)), none⟩, ⟨(some 13), (.extract (.tmp 8) 0), none⟩, ⟨(some 14), (.extract (.tmp 8) 1), none⟩, ⟨(some 15), (.nil (.tmp 9)), none⟩, ⟨none, (.store 1 (.tmp 15) (.tmp 13)), none⟩])
  (.reg [⟨(some 16), (.load none (.tmp 4)), none⟩, ⟨(some 17), (.bin .add .int (.tmp 16) (.const (.int .i64 4))), none⟩, ⟨none, (.store 1 (.tmp 4) (.tmp 17)), none⟩]))⟩
theorem pf116_ok : pfOf Tryz.prog plan 116 = some pf116 := by kernel_rfl
theorem ok116 : fnOk Tryz.prog plan 116 = true := by kernel_rfl
/- 117 scantling/code.Get -/
noncomputable def pc117_0 : PCode := (.seq (.seq (.reg [⟨(some 20), (.mv (.tmp 10)), none⟩, ⟨(some 21), (.bin .geq .int (.tmp 20) (.const (.int .i64 0))), none⟩])
  (.cond (.tmp 21) .skip (.exit 0)))
  (.seq (.block 1 (.reg [⟨(some 24), (.mv (.tmp 9)), none⟩, ⟨(some 25), (.bin .shl .int (.tmp 24) (.const (.int .u64 8))), none⟩, ⟨(some 26), (.mv (.tmp 0)), none⟩, ⟨(some 27), (.mv (.tmp 1)), none⟩, ⟨(some 28), (.mv (.tmp 10)), none⟩, ⟨(some 29), (.bin .add .int (.tmp 27) (.tmp 28)), none⟩, ⟨(some 30), (.indexAddr (.sl 1) (.tmp 26) (.tmp 29)), none⟩, ⟨(some 31), (.load none (.tmp 30)), none⟩, ⟨(some 32), (.cint .u64 (.tmp 31)), none⟩, ⟨(some 33), (.bin .or .int (.tmp 25) (.tmp 32)), none⟩, ⟨(some 9), (.mv (.tmp 33)), none⟩]))
  (.reg [⟨(some 22), (.mv (.tmp 10)), none⟩, ⟨(some 23), (.bin .sub .int (.tmp 22) (.const (.int .i64 1))), none⟩, ⟨(some 10), (.mv (.tmp 23)), none⟩])))
noncomputable def pf117 : PF := ⟨38, [.tmp 6, .tmp 7], (.seq (.reg [⟨(some 6), (.mv (.const (.int .i64 0))), none⟩, ⟨(some 7), (.mv (.const (.int .i64 0))), none⟩])
  (.seq (.seq (.reg [⟨(some 11), (.mv (.tmp 0)), none⟩, ⟨(some 12), (.mv (.tmp 1)), none⟩, ⟨(some 13), (.mv (.tmp 2)), none⟩, ⟨(some 14), (.call 201 [(.tmp 11), (.tmp 12), (.tmp 13)]), none⟩, ⟨(some 8), (.mv (.tmp 14)), none⟩])
  (.seq (.reg [⟨(some 15), (.mv (.tmp 8)), none⟩, ⟨(some 16), (.bin .neq .int (.tmp 15) (.const (.int .i64 0))), none⟩])
  (.cond (.tmp 16) (.seq (.reg [⟨(some 17), (.mv (.tmp 8)), none⟩, ⟨(some 6), (.mv (.const (.int .i64 0))), none⟩, ⟨(some 7), (.mv (.tmp 17)), none⟩])
  .ret) .skip)))
  (.seq (.reg [⟨(some 9), (.mv (.const (.int .u64 0))), none⟩])
  (.seq (.seq (.reg [⟨(some 18), (.mv (.tmp 2)), none⟩, ⟨(some 19), (.bin .sub .int (.tmp 18) (.const (.int .i64 1))), none⟩, ⟨(some 10), (.mv (.tmp 19)), none⟩])
  (.block 0 (.loop pc117_0)))
  (.seq (.seq (.reg [⟨(some 34), (.mv (.tmp 9)), none⟩, ⟨(some 35), (.bin .geq .int (.tmp 34) (.const (.int .u64 9223372036854775808))), none⟩])
  (.cond (.tmp 35) (.seq (.reg [⟨(some 6), (.mv (.const (.int .i64 0))), none⟩, ⟨(some 7), (.mv (.const (.int .i64 2))), none⟩])
  .ret) .skip))
  (.seq (.reg [⟨(some 36), (.mv (.tmp 9)), none⟩, ⟨(some 37), (.cint .i64 (.tmp 36)), none⟩, ⟨(some 6), (.mv (.tmp 37)), none⟩, ⟨(some 7), (.mv (.const (.int .i64 0))), none⟩])
  .ret))))))⟩
theorem pf117_ok : pfOf Tryz.prog plan 117 = some pf117 := by kernel_rfl
theorem ok117 : fnOk Tryz.prog plan 117 = true := by kernel_rfl
/- 118 slices.Equal[[]byte,byte] -/
noncomputable def pc118_0 : PCode := (.seq (.reg [⟨(some 14), (.bin .lss .int (.tmp 13) (.tmp 12)), none⟩])
  (.seq (.cond (.tmp 14) .skip (.exit 0))
  (.seq (.block 1 (.seq (.reg [⟨(some 15), (.mv (.tmp 13)), none⟩, ⟨(some 5), (.mv (.tmp 15)), none⟩])
  (.seq (.draw [(⟨(some 16), (.mv (.tmp 0)), none⟩, []), (⟨(some 17), (.mv (.tmp 5)), none⟩, []), (⟨(some 18), (.indexAddr (.sl 1) (.tmp 16) (.tmp 17)), none⟩, []), (⟨(some 20), (.mv (.tmp 1)), none⟩, []), (⟨(some 21), (.mv (.tmp 5)), none⟩, []), (⟨(some 22), (.indexAddr (.sl 1) (.tmp 20) (.tmp 21)), none⟩, []), (⟨(some 19), (.load none (.tmp 18)), none⟩, []), (⟨(some 23), (.load none (.tmp 22)), none⟩, []), (⟨(some 24), (.bin .neq .int (.tmp 19) (.tmp 23)), none⟩, [])])
  (.cond (.tmp 24) (.seq (.reg [⟨(some 4), (.mv (.const (.bool false))), none⟩])
  .ret) .skip))))
  (.reg [⟨(some 25), (.bin .add .int (.tmp 13) (.const (.int .i64 1))), none⟩, ⟨(some 13), (.mv (.tmp 25)), none⟩]))))
noncomputable def pf118 : PF := ⟨26, [.tmp 4], (.seq (.reg [⟨(some 4), (.mv (.const (.bool false))), none⟩])
  (.seq (.seq (.reg [⟨(some 6), (.mv (.tmp 0)), none⟩, ⟨(some 7), (.len .sl (.tmp 6)), none⟩, ⟨(some 8), (.mv (.tmp 1)), none⟩, ⟨(some 9), (.len .sl (.tmp 8)), none⟩, ⟨(some 10), (.bin .neq .int (.tmp 7) (.tmp 9)), none⟩])
  (.cond (.tmp 10) (.seq (.reg [⟨(some 4), (.mv (.const (.bool false))), none⟩])
  .ret) .skip))
  (.seq (.seq (.reg [⟨(some 11), (.mv (.tmp 0)), none⟩, ⟨(some 12), (.len .sl (.tmp 11)), none⟩, ⟨(some 13), (.mv (.const (.int .i64 0))), none⟩])
  (.block 0 (.loop pc118_0)))
  (.seq (.reg [⟨(some 4), (.mv (.const (.bool true))), none⟩])
  .ret))))⟩
theorem pf118_ok : pfOf Tryz.prog plan 118 = some pf118 := by kernel_rfl
theorem ok118 : fnOk Tryz.prog plan 118 = true := by kernel_rfl
/- 119 scantling/super.Right$1 -/
noncomputable def pf119 : PF := ⟨22, [], (.reg [⟨(some 7), (.load none (.tmp 3)), none⟩, ⟨(some 8), (.mv (.tmp 7)), none⟩, ⟨(some 9), (.mv (.tmp 0)), (some ((some 8), true))⟩, ⟨(some 10), (.nil (.tmp 9)), (some ((some 8), true))⟩, ⟨(some 11), (.load none (.tmp 10)), (some ((some 8), true))⟩, ⟨(some 12), (.mv (.tmp 1)), (some ((some 8), true))⟩, ⟨(some 13), (.bin .geq .int (.tmp 11) (.tmp 12)), (some ((some 8), true))⟩, ⟨(some 14), (.raw (.pick (.tmp 8) (.tmp 13) (.const (.bool false)))), none⟩, ⟨(some 15), (.mv (.tmp 14)), none⟩, ⟨(some 16), (.mv (.tmp 0)), (some ((some 15), true))⟩, ⟨(some 17), (.nil (.tmp 16)), (some ((some 15), true))⟩, ⟨(some 18), (.load none (.tmp 17)), (some ((some 15), true))⟩, ⟨(some 19), (.mv (.tmp 2)), (some ((some 15), true))⟩, ⟨(some 20), (.bin .leq .int (.tmp 18) (.tmp 19)), (some ((some 15), true))⟩, ⟨(some 21), (.raw (.pick (.tmp 15) (.tmp 20) (.const (.bool false)))), none⟩, ⟨none, (.store 1 (.tmp 3) (.tmp 21)), none⟩])⟩
theorem pf119_ok : pfOf Tryz.prog plan 119 = some pf119 := by kernel_rfl
theorem ok119 : fnOk Tryz.prog plan 119 = true := by kernel_rfl
/- 120 (*scantling/reach.reacher).has -/
noncomputable def pc120_0 : PCode := (.seq (.reg [⟨(some 63), (.bin .lss .int (.tmp 62) (.tmp 61)), none⟩])
  (.seq (.cond (.tmp 63) .skip (.exit 1))
  (.seq (.block 2 (.seq (.reg [⟨(some 64), (.indexAddr (.sl 1) (.tmp 60) (.tmp 62)), none⟩, ⟨(some 65), (.load none (.tmp 64)), none⟩, ⟨(some 14), (.mv (.tmp 65)), none⟩])
  (.seq (.reg [⟨(some 66), (.mv (.tmp 0)), none⟩, ⟨(some 67), (.mv (.tmp 1)), none⟩, ⟨(some 68), (.load (some 4) (.tmp 11)), none⟩, ⟨(some 69), (.mv (.tmp 14)), none⟩, ⟨(some 70), (.call 206 [(.tmp 66), (.tmp 67), (.tmp 68), (.tmp 69)]), none⟩, ⟨(some 15), (.mv (.tmp 70)), none⟩])
  (.seq (.reg [⟨(some 71), (.mv (.tmp 15)), none⟩, ⟨(some 72), (.bin .neq .ifc (.tmp 71) (.const .nilIface)), none⟩])
  (.cond (.tmp 72) (.seq (.reg [⟨(some 73), (.mv (.tmp 15)), none⟩, ⟨(some 6), (.mv (.tmp 73)), none⟩])
  .ret) .skip)))))
  (.reg [⟨(some 74), (.bin .add .int (.tmp 62) (.const (.int .i64 1))), none⟩, ⟨(some 62), (.mv (.tmp 74)), none⟩]))))
noncomputable def pf120 : PF := ⟨75, [.tmp 6], (.seq (.reg [⟨(some 6), (.mv (.const .nilIface)), none⟩])
  (.seq (.seq (.reg [⟨(some 16), (.mv (.tmp 2)), none⟩])
  (.block 0 (.seq (.reg [⟨(some 18), (.bin .eql .int (.tmp 16) (.const (.int .i64 (-1)))), none⟩, ⟨(some 17), (.mv (.tmp 18)), none⟩])
  (.cond (.tmp 17) (.seq (.reg [⟨(some 20), (.mv (.tmp 0)), none⟩, ⟨(some 21), (.nil (.tmp 20)), none⟩, ⟨(some 22), (.fieldAddr 0 (.tmp 21)), none⟩, ⟨(some 23), (.load none (.tmp 22)), none⟩, ⟨(some 24), (.mv (.tmp 1)), none⟩, ⟨(some 25), (.call 202 [(.tmp 23), (.tmp 24)]), none⟩, ⟨(some 19), (.mv (.tmp 25)), none⟩, ⟨(some 26), (.extract (.tmp 19) 0), none⟩, ⟨(some 27), (.extract (.tmp 19) 1), none⟩, ⟨(some 7), (.mv (.tmp 26)), none⟩, ⟨(some 8), (.mv (.tmp 27)), none⟩])
  (.seq (.reg [⟨(some 28), (.mv (.tmp 8)), none⟩, ⟨(some 29), (.mv (.tmp 0)), none⟩, ⟨(some 30), (.mv (.tmp 7)), none⟩, ⟨(some 31), (.call 204 [(.tmp 29), (.tmp 30)]), none⟩, ⟨(some 32), (.buildSlice 1 2 [(0, (.tmp 28)), (1, (.tmp 31))]), none⟩, ⟨(some 33), (.call 203 [(.tmp 32)]), none⟩, ⟨(some 6), (.mv (.tmp 33)), none⟩])
  .ret)) (.seq (.reg [⟨(some 35), (.bin .eql .int (.tmp 16) (.const (.int .i64 (-2)))), none⟩, ⟨(some 34), (.mv (.tmp 35)), none⟩])
  (.cond (.tmp 34) (.seq (.reg [⟨(some 37), (.mv (.tmp 0)), none⟩, ⟨(some 38), (.nil (.tmp 37)), none⟩, ⟨(some 39), (.fieldAddr 0 (.tmp 38)), none⟩, ⟨(some 40), (.load none (.tmp 39)), none⟩, ⟨(some 41), (.mv (.tmp 1)), none⟩, ⟨(some 42), (.call 205 [(.tmp 40), (.tmp 41)]), none⟩, ⟨(some 36), (.mv (.tmp 42)), none⟩, ⟨(some 43), (.extract (.tmp 36) 0), none⟩, ⟨(some 44), (.extract (.tmp 36) 1), none⟩, ⟨(some 9), (.mv (.tmp 43)), none⟩, ⟨(some 10), (.mv (.tmp 44)), none⟩])
  (.seq (.reg [⟨(some 45), (.mv (.tmp 10)), none⟩, ⟨(some 6), (.mv (.tmp 45)), none⟩])
  .ret)) .skip))))))
  (.seq (.reg [⟨(some 47), (.mv (.tmp 0)), none⟩, ⟨(some 48), (.nil (.tmp 47)), none⟩, ⟨(some 49), (.fieldAddr 0 (.tmp 48)), none⟩, ⟨(some 50), (.load none (.tmp 49)), none⟩, ⟨(some 51), (.mv (.tmp 1)), none⟩, ⟨(some 52), (.mv (.tmp 2)), none⟩, ⟨(some 53), (.call 74 [(.tmp 50), (.tmp 51), (.tmp 52)]), none⟩, ⟨(some 46), (.mv (.tmp 53)), none⟩, ⟨(some 54), (.extract (.tmp 46) 0), none⟩, ⟨(some 55), (.extract (.tmp 46) 1), none⟩, ⟨(some 11), (.alloc 0 [(.int .i64 0), (.bool false), (.slice none 0 0), (.slice none 0 0)]), none⟩, ⟨none, (.store 4 (.tmp 11) (.tmp 54)), none⟩, ⟨(some 12), (.mv (.tmp 55)), none⟩])
  (.seq (.seq (.reg [⟨(some 56), (.mv (.tmp 12)), none⟩, ⟨(some 57), (.bin .neq .ifc (.tmp 56) (.const .nilIface)), none⟩])
  (.cond (.tmp 57) (.seq (.reg [⟨(some 58), (.mv (.tmp 12)), none⟩, ⟨(some 6), (.mv (.tmp 58)), none⟩])
  .ret) .skip))
  (.seq (.seq (.reg [⟨(some 59), (.fieldAddr 3 (.tmp 11)), none⟩, ⟨(some 60), (.load none (.tmp 59)), none⟩, ⟨(some 61), (.len .sl (.tmp 60)), none⟩, ⟨(some 62), (.mv (.const (.int .i64 0))), none⟩])
  (.block 1 (.loop pc120_0)))
  (.seq (.reg [⟨(some 6), (.mv (.const .nilIface)), none⟩])
  .ret))))))⟩
theorem pf120_ok : pfOf Tryz.prog plan 120 = some pf120 := by kernel_rfl
theorem ok120 : fnOk Tryz.prog plan 120 = true := by kernel_rfl
/- 121 slices.Clone[[]int,int] -/
noncomputable def pf121 : PF := ⟨8, [.tmp 2], (.seq (.reg [⟨(some 2), (.mv (.const (.slice none 0 0))), none⟩])
  (.seq (.seq (.reg [⟨(some 3), (.mv (.tmp 0)), none⟩, ⟨(some 4), (.bin .eql .sl (.tmp 3) (.const (.slice none 0 0))), none⟩])
  (.cond (.tmp 4) (.seq (.reg [⟨(some 2), (.mv (.const (.slice none 0 0))), none⟩])
  .ret) .skip))
  (.seq (.reg [⟨(some 5), (.buildSlice 1 0 []), none⟩, ⟨(some 6), (.mv (.tmp 0)), none⟩, ⟨(some 7), (.append 1 8 false (.tmp 5) (.tmp 6)), none⟩, ⟨(some 2), (.mv (.tmp 7)), none⟩])
  .ret)))⟩
theorem pf121_ok : pfOf Tryz.prog plan 121 = some pf121 := by kernel_rfl
theorem ok121 : fnOk Tryz.prog plan 121 = true := by kernel_rfl
/- 122 (*scantling/refs.Refs).own -/
noncomputable def pf122 : PF := ⟨9, [.tmp 2], (.seq (.reg [⟨(some 2), (.mv (.const (.slice none 0 0))), none⟩])
  (.seq (.seq (.reg [⟨(some 3), (.mv (.tmp 0)), none⟩, ⟨(some 4), (.bin .eql .ptr (.tmp 3) (.const (.pointer none))), none⟩])
  (.cond (.tmp 4) (.seq (.reg [⟨(some 2), (.mv (.const (.slice none 0 0))), none⟩])
  .ret) .skip))
  (.seq (.reg [⟨(some 5), (.mv (.tmp 0)), none⟩, ⟨(some 6), (.nil (.tmp 5)), none⟩, ⟨(some 7), (.fieldAddr 0 (.tmp 6)), none⟩, ⟨(some 8), (.load none (.tmp 7)), none⟩, ⟨(some 2), (.mv (.tmp 8)), none⟩])
  .ret)))⟩
theorem pf122_ok : pfOf Tryz.prog plan 122 = some pf122 := by kernel_rfl
theorem ok122 : fnOk Tryz.prog plan 122 = true := by kernel_rfl
/- 123 scantling/block.read[scantling/api.Node] -/
noncomputable def pf123 : PF := ⟨56, [.cell 8 (some 4), .tmp 9], (.seq (.reg [⟨(some 8), (.alloc 0 [(.int .i64 0), (.bool false), (.slice none 0 0), (.slice none 0 0)]), none⟩, ⟨(some 9), (.mv (.const .nilIface)), none⟩])
  (.seq (.reg [⟨(some 10), (.alloc 0 [(.int .i64 0), (.bool false), (.slice none 0 0), (.slice none 0 0)]), none⟩])
  (.seq (.reg [⟨(some 16), (.mv (.tmp 0)), none⟩, ⟨(some 17), (.mv (.tmp 1)), none⟩, ⟨(some 18), (.call 114 [(.tmp 16), (.tmp 17)]), none⟩, ⟨(some 15), (.mv (.tmp 18)), none⟩, ⟨(some 19), (.extract (.tmp 15) 0), none⟩, ⟨(some 20), (.extract (.tmp 15) 1), none⟩, ⟨(some 11), (.mv (.tmp 19)), none⟩, ⟨(some 12), (.mv (.tmp 20)), none⟩])
  (.seq (.seq (.reg [⟨(some 21), (.mv (.tmp 12)), none⟩, ⟨(some 22), (.bin .neq .int (.tmp 21) (.const (.int .i64 0))), none⟩])
  (.cond (.tmp 22) (.seq (.draw [(⟨(some 24), (.mv (.tmp 1)), none⟩, []), (⟨(some 25), (.mv (.tmp 12)), none⟩, []), (⟨(some 26), (.iface 49 (.tmp 25)), none⟩, []), (⟨(some 23), (.load (some 4) (.tmp 10)), none⟩, []), (⟨(some 27), (.call 110 [(.tmp 24), (.tmp 26)]), none⟩, [⟨(some 23), (.load (some 4) (.tmp 10)), none⟩]), (⟨none, (.store 4 (.tmp 8) (.tmp 23)), none⟩, []), (⟨(some 9), (.mv (.tmp 27)), none⟩, [])])
  .ret) .skip))
  (.seq (.reg [⟨(some 29), (.mv (.tmp 11)), none⟩, ⟨(some 30), (.mv (.tmp 2)), none⟩, ⟨(some 31), (.mv (.tmp 1)), none⟩, ⟨(some 32), (.call 115 [(.tmp 29), (.tmp 30), (.tmp 31)]), none⟩, ⟨(some 28), (.mv (.tmp 32)), none⟩, ⟨(some 33), (.extract (.tmp 28) 0), none⟩, ⟨(some 34), (.extract (.tmp 28) 1), none⟩, ⟨(some 13), (.mv (.tmp 33)), none⟩, ⟨(some 12), (.mv (.tmp 34)), none⟩])
  (.seq (.seq (.reg [⟨(some 35), (.mv (.tmp 12)), none⟩, ⟨(some 36), (.bin .neq .int (.tmp 35) (.const (.int .i64 0))), none⟩])
  (.cond (.tmp 36) (.seq (.draw [(⟨(some 38), (.mv (.tmp 1)), none⟩, []), (⟨(some 39), (.mv (.tmp 12)), none⟩, []), (⟨(some 40), (.iface 49 (.tmp 39)), none⟩, []), (⟨(some 37), (.load (some 4) (.tmp 10)), none⟩, []), (⟨(some 41), (.call 110 [(.tmp 38), (.tmp 40)]), none⟩, [⟨(some 37), (.load (some 4) (.tmp 10)), none⟩]), (⟨none, (.store 4 (.tmp 8) (.tmp 37)), none⟩, []), (⟨(some 9), (.mv (.tmp 41)), none⟩, [])])
  .ret) .skip))
  (.seq (.reg [⟨(some 43), (.mv (.tmp 3)), none⟩, ⟨(some 44), (.mv (.tmp 13)), none⟩, ⟨(some 45), (.callv (.tmp 43) [(.tmp 44)]), none⟩, ⟨(some 42), (.mv (.tmp 45)), none⟩, ⟨(some 46), (.extract (.tmp 42) 0), none⟩, ⟨(some 47), (.extract (.tmp 42) 1), none⟩, ⟨(some 14), (.alloc 0 [(.int .i64 0), (.bool false), (.slice none 0 0), (.slice none 0 0)]), none⟩, ⟨none, (.store 4 (.tmp 14) (.tmp 46)), none⟩, ⟨(some 12), (.mv (.tmp 47)), none⟩])
  (.seq (.seq (.reg [⟨(some 48), (.mv (.tmp 12)), none⟩, ⟨(some 49), (.bin .neq .int (.tmp 48) (.const (.int .i64 0))), none⟩])
  (.cond (.tmp 49) (.seq (.draw [(⟨(some 51), (.mv (.tmp 1)), none⟩, []), (⟨(some 52), (.mv (.tmp 12)), none⟩, []), (⟨(some 53), (.iface 49 (.tmp 52)), none⟩, []), (⟨(some 50), (.load (some 4) (.tmp 10)), none⟩, []), (⟨(some 54), (.call 110 [(.tmp 51), (.tmp 53)]), none⟩, [⟨(some 50), (.load (some 4) (.tmp 10)), none⟩]), (⟨none, (.store 4 (.tmp 8) (.tmp 50)), none⟩, []), (⟨(some 9), (.mv (.tmp 54)), none⟩, [])])
  .ret) .skip))
  (.seq (.reg [⟨(some 55), (.load (some 4) (.tmp 14)), none⟩, ⟨none, (.store 4 (.tmp 8) (.tmp 55)), none⟩, ⟨(some 9), (.mv (.const .nilIface)), none⟩])
  .ret)))))))))⟩
theorem pf123_ok : pfOf Tryz.prog plan 123 = some pf123 := by kernel_rfl
theorem ok123 : fnOk Tryz.prog plan 123 = true := by kernel_rfl
/- 124 scantling/block.Node$1 -/
noncomputable def pf124 : PF := ⟨27, [.cell 3 (some 4), .tmp 4], (.seq (.reg [⟨(some 3), (.alloc 0 [(.int .i64 0), (.bool false), (.slice none 0 0), (.slice none 0 0)]), none⟩, ⟨(some 4), (.mv (.const (.int .i64 0))), none⟩])
  (.seq (.reg [⟨(some 8), (.mv (.tmp 0)), none⟩, ⟨(some 9), (.call 125 [(.tmp 8)]), none⟩, ⟨(some 7), (.mv (.tmp 9)), none⟩, ⟨(some 10), (.extract (.tmp 7) 0), none⟩, ⟨(some 11), (.extract (.tmp 7) 1), none⟩, ⟨(some 5), (.alloc 0 [(.int .i64 0), (.bool false), (.slice none 0 0), (.slice none 0 0)]), none⟩, ⟨none, (.store 4 (.tmp 5) (.tmp 10)), none⟩, ⟨(some 6), (.mv (.tmp 11)), none⟩])
  (.seq (.seq (.reg [⟨(some 12), (.mv (.tmp 6)), none⟩, ⟨(some 13), (.bin .eql .int (.tmp 12) (.const (.int .i64 0))), none⟩, ⟨(some 14), (.mv (.tmp 13)), none⟩, ⟨(some 15), (.load none (.tmp 1)), (some ((some 14), true))⟩, ⟨(some 16), (.bin .neq .int (.tmp 15) (.const (.int .i64 0))), (some ((some 14), true))⟩, ⟨(some 17), (.raw (.pick (.tmp 14) (.tmp 16) (.const (.bool false)))), none⟩, ⟨(some 18), (.mv (.tmp 17)), none⟩, ⟨(some 19), (.fieldAddr 0 (.tmp 5)), (some ((some 18), true))⟩, ⟨(some 20), (.load none (.tmp 19)), (some ((some 18), true))⟩, ⟨(some 21), (.load none (.tmp 1)), (some ((some 18), true))⟩, ⟨(some 22), (.bin .neq .int (.tmp 20) (.tmp 21)), (some ((some 18), true))⟩, ⟨(some 23), (.raw (.pick (.tmp 18) (.tmp 22) (.const (.bool false)))), none⟩])
  (.cond (.tmp 23) (.seq (.reg [⟨(some 24), (.load (some 4) (.tmp 5)), none⟩, ⟨none, (.store 4 (.tmp 3) (.tmp 24)), none⟩, ⟨(some 4), (.mv (.const (.int .i64 6))), none⟩])
  .ret) .skip))
  (.seq (.reg [⟨(some 25), (.load (some 4) (.tmp 5)), none⟩, ⟨(some 26), (.mv (.tmp 6)), none⟩, ⟨none, (.store 4 (.tmp 3) (.tmp 25)), none⟩, ⟨(some 4), (.mv (.tmp 26)), none⟩])
  .ret))))⟩
theorem pf124_ok : pfOf Tryz.prog plan 124 = some pf124 := by kernel_rfl
theorem ok124 : fnOk Tryz.prog plan 124 = true := by kernel_rfl
/- 125 scantling/node.Read -/
noncomputable def pc125_0 : PCode := (.seq (.reg [⟨(some 57), (.bin .lss .int (.tmp 56) (.tmp 55)), none⟩])
  (.seq (.cond (.tmp 57) .skip (.exit 0))
  (.seq (.block 1 (.seq (.reg [⟨(some 58), (.mv (.tmp 56)), none⟩, ⟨(some 10), (.mv (.tmp 58)), none⟩])
  (.seq (.reg [⟨(some 60), (.mv (.tmp 0)), none⟩, ⟨(some 61), (.mv (.tmp 10)), none⟩, ⟨(some 62), (.bin .mul .int (.tmp 61) (.const (.int .i64 8))), none⟩, ⟨(some 63), (.bin .add .int (.const (.int .i64 12)) (.tmp 62)), none⟩, ⟨(some 64), (.call 117 [(.tmp 60), (.tmp 63), (.const (.int .i64 8))]), none⟩, ⟨(some 59), (.mv (.tmp 64)), none⟩, ⟨(some 65), (.extract (.tmp 59) 0), none⟩, ⟨(some 66), (.extract (.tmp 59) 1), none⟩, ⟨(some 11), (.mv (.tmp 65)), none⟩, ⟨(some 12), (.mv (.tmp 66)), none⟩])
  (.seq (.seq (.reg [⟨(some 67), (.mv (.tmp 12)), none⟩, ⟨(some 68), (.bin .eql .int (.tmp 67) (.const (.int .i64 0))), none⟩])
  (.cond (.tmp 68) (.reg [⟨(some 69), (.fieldAddr 2 (.tmp 4)), none⟩, ⟨(some 70), (.load none (.tmp 69)), none⟩, ⟨(some 71), (.mv (.tmp 11)), none⟩, ⟨(some 72), (.call 209 [(.tmp 70), (.tmp 71)]), none⟩, ⟨(some 12), (.mv (.tmp 72)), none⟩]) .skip))
  (.seq (.seq (.reg [⟨(some 73), (.mv (.tmp 12)), none⟩, ⟨(some 74), (.bin .neq .int (.tmp 73) (.const (.int .i64 0))), none⟩])
  (.cond (.tmp 74) (.seq (.reg [⟨(some 75), (.build [(.int .i64 0), (.bool false), (.slice none 0 0), (.slice none 0 0)] [(0, 1), (1, 1), (2, 1), (3, 1)] []), none⟩, ⟨(some 76), (.mv (.tmp 12)), none⟩, ⟨none, (.store 4 (.tmp 2) (.tmp 75)), none⟩, ⟨(some 3), (.mv (.tmp 76)), none⟩])
  .ret) .skip))
  (.seq (.reg [⟨(some 77), (.fieldAddr 2 (.tmp 4)), none⟩, ⟨(some 78), (.load none (.tmp 77)), none⟩, ⟨(some 79), (.mv (.tmp 11)), none⟩, ⟨(some 80), (.buildSlice 1 1 [(0, (.tmp 79))]), none⟩, ⟨(some 81), (.append 1 8 false (.tmp 78) (.tmp 80)), none⟩, ⟨(some 82), (.fieldAddr 2 (.tmp 4)), none⟩, ⟨none, (.store 1 (.tmp 82) (.tmp 81)), none⟩])
  (.draw [(⟨(some 83), (.fieldAddr 3 (.tmp 4)), none⟩, []), (⟨(some 85), (.mv (.tmp 0)), none⟩, []), (⟨(some 86), (.mv (.tmp 9)), none⟩, []), (⟨(some 87), (.mv (.tmp 10)), none⟩, []), (⟨(some 88), (.mv (.tmp 7)), none⟩, []), (⟨(some 89), (.bin .mul .int (.tmp 87) (.tmp 88)), none⟩, []), (⟨(some 90), (.bin .add .int (.tmp 86) (.tmp 89)), none⟩, []), (⟨(some 91), (.mv (.tmp 9)), none⟩, []), (⟨(some 92), (.mv (.tmp 10)), none⟩, []), (⟨(some 93), (.bin .add .int (.tmp 92) (.const (.int .i64 1))), none⟩, []), (⟨(some 94), (.mv (.tmp 7)), none⟩, []), (⟨(some 95), (.bin .mul .int (.tmp 93) (.tmp 94)), none⟩, []), (⟨(some 96), (.bin .add .int (.tmp 91) (.tmp 95)), none⟩, []), (⟨(some 84), (.load none (.tmp 83)), none⟩, []), (⟨(some 97), (.slice (.sl 1) (.tmp 85) (some (.tmp 90)) (some (.tmp 96)) none), none⟩, []), (⟨(some 98), (.cstr true (.tmp 97)), none⟩, []), (⟨(some 99), (.buildSlice 1 1 [(0, (.tmp 98))]), none⟩, [⟨(some 84), (.load none (.tmp 83)), none⟩]), (⟨(some 100), (.append 1 16 false (.tmp 84) (.tmp 99)), none⟩, []), (⟨(some 101), (.fieldAddr 3 (.tmp 4)), none⟩, []), (⟨none, (.store 1 (.tmp 101) (.tmp 100)), none⟩, [])])))))))
  (.reg [⟨(some 102), (.bin .add .int (.tmp 56) (.const (.int .i64 1))), none⟩, ⟨(some 56), (.mv (.tmp 102)), none⟩]))))
noncomputable def pf125 : PF := ⟨104, [.cell 2 (some 4), .tmp 3], (.seq (.reg [⟨(some 2), (.alloc 0 [(.int .i64 0), (.bool false), (.slice none 0 0), (.slice none 0 0)]), none⟩, ⟨(some 3), (.mv (.const (.int .i64 0))), none⟩])
  (.seq (.reg [⟨(some 14), (.mv (.tmp 0)), none⟩, ⟨(some 15), (.call 207 [(.tmp 14)]), none⟩, ⟨(some 13), (.mv (.tmp 15)), none⟩, ⟨(some 16), (.extract (.tmp 13) 0), none⟩, ⟨(some 17), (.extract (.tmp 13) 1), none⟩, ⟨(some 18), (.extract (.tmp 13) 2), none⟩, ⟨(some 4), (.alloc 0 [(.int .i64 0), (.bool false), (.slice none 0 0), (.slice none 0 0)]), none⟩, ⟨none, (.store 4 (.tmp 4) (.tmp 16)), none⟩, ⟨(some 5), (.mv (.tmp 17)), none⟩, ⟨(some 6), (.mv (.tmp 18)), none⟩])
  (.seq (.seq (.reg [⟨(some 19), (.mv (.tmp 6)), none⟩, ⟨(some 20), (.un .not (.tmp 19)), none⟩])
  (.cond (.tmp 20) (.seq (.reg [⟨(some 21), (.build [(.int .i64 0), (.bool false), (.slice none 0 0), (.slice none 0 0)] [(0, 1), (1, 1), (2, 1), (3, 1)] []), none⟩, ⟨none, (.store 4 (.tmp 2) (.tmp 21)), none⟩, ⟨(some 3), (.mv (.const (.int .i64 7))), none⟩])
  .ret) .skip))
  (.seq (.draw [(⟨(some 22), (.fieldAddr 0 (.tmp 4)), none⟩, []), (⟨(some 24), (.fieldAddr 1 (.tmp 4)), none⟩, []), (⟨(some 27), (.fieldAddr 0 (.tmp 4)), none⟩, []), (⟨(some 29), (.fieldAddr 1 (.tmp 4)), none⟩, []), (⟨(some 23), (.load none (.tmp 22)), none⟩, []), (⟨(some 25), (.load none (.tmp 24)), none⟩, []), (⟨(some 28), (.load none (.tmp 27)), none⟩, []), (⟨(some 30), (.load none (.tmp 29)), none⟩, []), (⟨(some 26), (.call 126 [(.tmp 23), (.tmp 25)]), none⟩, [⟨(some 28), (.load none (.tmp 27)), none⟩, ⟨(some 30), (.load none (.tmp 29)), none⟩]), (⟨(some 31), (.call 75 [(.tmp 28), (.tmp 30)]), none⟩, []), (⟨(some 7), (.mv (.tmp 26)), none⟩, []), (⟨(some 8), (.mv (.tmp 31)), none⟩, [])])
  (.seq (.reg [⟨(some 32), (.mv (.tmp 8)), none⟩, ⟨(some 33), (.bin .mul .int (.tmp 32) (.const (.int .i64 8))), none⟩, ⟨(some 34), (.bin .add .int (.const (.int .i64 12)) (.tmp 33)), none⟩, ⟨(some 9), (.mv (.tmp 34)), none⟩])
  (.seq (.seq (.reg [⟨(some 35), (.mv (.tmp 0)), none⟩, ⟨(some 36), (.mv (.tmp 5)), none⟩, ⟨(some 37), (.bin .mul .int (.tmp 36) (.const (.int .i64 8))), none⟩, ⟨(some 38), (.bin .add .int (.const (.int .i64 12)) (.tmp 37)), none⟩, ⟨(some 39), (.mv (.tmp 9)), none⟩, ⟨(some 40), (.slice (.sl 1) (.tmp 35) (some (.tmp 38)) (some (.tmp 39)) none), none⟩, ⟨(some 41), (.call 208 [(.tmp 40)]), none⟩, ⟨(some 42), (.un .not (.tmp 41)), none⟩, ⟨(some 43), (.mv (.tmp 42)), none⟩, ⟨(some 44), (.mv (.tmp 0)), (some ((some 43), false))⟩, ⟨(some 45), (.mv (.tmp 9)), (some ((some 43), false))⟩, ⟨(some 46), (.mv (.tmp 5)), (some ((some 43), false))⟩, ⟨(some 47), (.mv (.tmp 7)), (some ((some 43), false))⟩, ⟨(some 48), (.bin .mul .int (.tmp 46) (.tmp 47)), (some ((some 43), false))⟩, ⟨(some 49), (.bin .add .int (.tmp 45) (.tmp 48)), (some ((some 43), false))⟩, ⟨(some 50), (.slice (.sl 1) (.tmp 44) (some (.tmp 49)) none none), (some ((some 43), false))⟩, ⟨(some 51), (.call 208 [(.tmp 50)]), (some ((some 43), false))⟩, ⟨(some 52), (.un .not (.tmp 51)), (some ((some 43), false))⟩, ⟨(some 53), (.raw (.pick (.tmp 43) (.const (.bool true)) (.tmp 52))), none⟩])
  (.cond (.tmp 53) (.seq (.reg [⟨(some 54), (.build [(.int .i64 0), (.bool false), (.slice none 0 0), (.slice none 0 0)] [(0, 1), (1, 1), (2, 1), (3, 1)] []), none⟩, ⟨none, (.store 4 (.tmp 2) (.tmp 54)), none⟩, ⟨(some 3), (.mv (.const (.int .i64 7))), none⟩])
  .ret) .skip))
  (.seq (.seq (.reg [⟨(some 55), (.mv (.tmp 5)), none⟩, ⟨(some 56), (.mv (.const (.int .i64 0))), none⟩])
  (.block 0 (.loop pc125_0)))
  (.seq (.reg [⟨(some 103), (.load (some 4) (.tmp 4)), none⟩, ⟨none, (.store 4 (.tmp 2) (.tmp 103)), none⟩, ⟨(some 3), (.mv (.const (.int .i64 0))), none⟩])
  .ret))))))))⟩
theorem pf125_ok : pfOf Tryz.prog plan 125 = some pf125 := by kernel_rfl
theorem ok125 : fnOk Tryz.prog plan 125 = true := by kernel_rfl
/- 126 scantling/node.Width -/
noncomputable def pf126 : PF := ⟨31, [.tmp 4], (.seq (.reg [⟨(some 4), (.mv (.const (.int .i64 0))), none⟩])
  (.seq (.reg [⟨(some 5), (.mv (.const (.int .i64 4))), none⟩])
  (.seq (.block 0 (.seq (.reg [⟨(some 7), (.mv (.tmp 0)), none⟩, ⟨(some 8), (.bin .lss .int (.tmp 7) (.const (.int .i64 1))), none⟩, ⟨(some 9), (.mv (.tmp 8)), none⟩, ⟨(some 10), (.mv (.tmp 0)), (some ((some 9), false))⟩, ⟨(some 11), (.bin .gtr .int (.tmp 10) (.const (.int .i64 5))), (some ((some 9), false))⟩, ⟨(some 12), (.raw (.pick (.tmp 9) (.const (.bool true)) (.tmp 11))), none⟩, ⟨(some 6), (.mv (.tmp 12)), none⟩])
  (.cond (.tmp 6) (.seq (.reg [⟨(some 4), (.mv (.const (.int .i64 0))), none⟩])
  .ret) (.seq (.reg [⟨(some 14), (.mv (.tmp 1)), none⟩, ⟨(some 15), (.un .not (.tmp 14)), none⟩, ⟨(some 13), (.mv (.tmp 15)), none⟩])
  (.cond (.tmp 13) (.seq (.reg [⟨(some 16), (.mv (.tmp 5)), none⟩, ⟨(some 4), (.mv (.tmp 16)), none⟩])
  .ret) .skip)))))
  (.seq (.seq (.reg [⟨(some 17), (.mv (.tmp 0)), none⟩])
  (.block 1 (.seq (.block 4 (.seq (.block 3 (.seq (.block 2 (.seq (.seq (.seq (.reg [⟨(some 19), (.bin .eql .int (.tmp 17) (.const (.int .i64 3))), none⟩, ⟨(some 18), (.mv (.tmp 19)), none⟩])
  (.cond (.tmp 18) (.exit 2) .skip))
  (.seq (.seq (.reg [⟨(some 21), (.bin .eql .int (.tmp 17) (.const (.int .i64 4))), none⟩, ⟨(some 20), (.mv (.tmp 21)), none⟩])
  (.cond (.tmp 20) (.exit 3) .skip))
  (.seq (.reg [⟨(some 23), (.bin .eql .int (.tmp 17) (.const (.int .i64 2))), none⟩, ⟨(some 22), (.mv (.tmp 23)), none⟩])
  (.cond (.tmp 22) (.exit 4) .skip))))
  (.exit 1)))
  (.reg [⟨(some 24), (.mv (.tmp 5)), none⟩, ⟨(some 25), (.bin .add .int (.tmp 24) (.const (.int .i64 8))), none⟩, ⟨(some 5), (.mv (.tmp 25)), none⟩])))
  (.reg [⟨(some 26), (.mv (.tmp 5)), none⟩, ⟨(some 27), (.bin .add .int (.tmp 26) (.const (.int .i64 8))), none⟩, ⟨(some 5), (.mv (.tmp 27)), none⟩])))
  (.seq (.reg [⟨(some 28), (.mv (.tmp 5)), none⟩, ⟨(some 29), (.bin .add .int (.tmp 28) (.const (.int .i64 4))), none⟩, ⟨(some 5), (.mv (.tmp 29)), none⟩])
  (.exit 1)))))
  (.seq (.reg [⟨(some 30), (.mv (.tmp 5)), none⟩, ⟨(some 4), (.mv (.tmp 30)), none⟩])
  .ret)))))⟩
theorem pf126_ok : pfOf Tryz.prog plan 126 = some pf126 := by kernel_rfl
theorem ok126 : fnOk Tryz.prog plan 126 = true := by kernel_rfl
/- 130 scantling/pool.maps -/
noncomputable def pf130 : PF := ⟨4, [.tmp 2], (.seq (.reg [⟨(some 1), (.box 0 (.tmp 0)), none⟩, ⟨(some 2), (.mv (.const .nilFunc)), none⟩])
  (.seq (.reg [⟨(some 3), (.fn 210 [] [(.tmp 1)]), none⟩, ⟨(some 2), (.mv (.tmp 3)), none⟩])
  .ret))⟩
theorem pf130_ok : pfOf Tryz.prog plan 130 = some pf130 := by kernel_rfl
theorem ok130 : fnOk Tryz.prog plan 130 = true := by kernel_rfl
/- 90 slices.ContainsFunc[[]int,int] -/
noncomputable def pf90 : PF := ⟨9, [.tmp 4], (.seq (.reg [⟨(some 4), (.mv (.const (.bool false))), none⟩])
  (.seq (.reg [⟨(some 5), (.mv (.tmp 0)), none⟩, ⟨(some 6), (.mv (.tmp 1)), none⟩, ⟨(some 7), (.call 152 [(.tmp 5), (.tmp 6)]), none⟩, ⟨(some 8), (.bin .geq .int (.tmp 7) (.const (.int .i64 0))), none⟩, ⟨(some 4), (.mv (.tmp 8)), none⟩])
  .ret))⟩
theorem pf90_ok : pfOf Tryz.prog plan 90 = some pf90 := by kernel_rfl
theorem ok90 : fnOk Tryz.prog plan 90 = true := by kernel_rfl
/- 91 scantling/pool.times$1 -/
noncomputable def pf91 : PF := ⟨6, [.tmp 2], (.seq (.reg [⟨(some 2), (.mv (.const (.bool false))), none⟩])
  (.seq (.reg [⟨(some 3), (.mv (.tmp 0)), none⟩, ⟨(some 4), (.call 45 [(.tmp 3), (.const (.int .i64 0)), (.const (.int .i64 16777215))]), none⟩, ⟨(some 5), (.un .not (.tmp 4)), none⟩, ⟨(some 2), (.mv (.tmp 5)), none⟩])
  .ret))⟩
theorem pf91_ok : pfOf Tryz.prog plan 91 = some pf91 := by kernel_rfl
theorem ok91 : fnOk Tryz.prog plan 91 = true := by kernel_rfl
/- 48 scantling/size.Base -/
noncomputable def pc48_0 : PCode := (.seq (.reg [⟨(some 14), (.bin .lss .int (.tmp 13) (.tmp 12)), none⟩])
  (.seq (.cond (.tmp 14) .skip (.exit 0))
  (.seq (.block 1 (.seq (.reg [⟨(some 15), (.indexAddr (.sl 5) (.tmp 11) (.tmp 13)), none⟩, ⟨(some 16), (.load (some 5) (.tmp 15)), none⟩, ⟨(some 5), (.alloc 0 [(.int .i64 0), (.int .i64 0), (.int .i64 0), (.int .i64 0), (.slice none 0 0)]), none⟩, ⟨none, (.store 5 (.tmp 5) (.tmp 16)), none⟩])
  (.reg [⟨(some 17), (.mv (.tmp 3)), none⟩, ⟨(some 18), (.fieldAddr 4 (.tmp 5)), none⟩, ⟨(some 19), (.load none (.tmp 18)), none⟩, ⟨(some 20), (.len .sl (.tmp 19)), none⟩, ⟨(some 21), (.call 22 [(.const (.int .i64 2)), (.tmp 20)]), none⟩, ⟨(some 22), (.buildSlice 1 1 [(0, (.tmp 21))]), none⟩, ⟨(some 23), (.append 1 8 false (.tmp 17) (.tmp 22)), none⟩, ⟨(some 3), (.mv (.tmp 23)), none⟩])))
  (.reg [⟨(some 24), (.bin .add .int (.tmp 13) (.const (.int .i64 1))), none⟩, ⟨(some 13), (.mv (.tmp 24)), none⟩]))))
noncomputable def pf48 : PF := ⟨46, [.tmp 2], (.seq (.reg [⟨(some 1), (.box 0 (.tmp 0)), none⟩, ⟨(some 2), (.mv (.const (.int .i64 0))), none⟩])
  (.seq (.seq (.reg [⟨(some 7), (.load (some 5) (.tmp 1)), none⟩, ⟨(some 8), (.call 16 [(.tmp 7)]), none⟩, ⟨(some 9), (.bin .neq .int (.tmp 8) (.const (.int .i64 0))), none⟩])
  (.cond (.tmp 9) (.seq (.reg [⟨(some 2), (.mv (.const (.int .i64 0))), none⟩])
  .ret) .skip))
  (.seq (.reg [⟨(some 3), (.mv (.const (.slice none 0 0))), none⟩])
  (.seq (.seq (.reg [⟨(some 10), (.fieldAddr 4 (.tmp 1)), none⟩, ⟨(some 11), (.load none (.tmp 10)), none⟩, ⟨(some 12), (.len .sl (.tmp 11)), none⟩, ⟨(some 13), (.mv (.const (.int .i64 0))), none⟩])
  (.block 0 (.loop pc48_0)))
  (.seq (.reg [⟨(some 25), (.fieldAddr 3 (.tmp 1)), none⟩, ⟨(some 26), (.load none (.tmp 25)), none⟩, ⟨(some 27), (.call 92 [(.tmp 26)]), none⟩, ⟨(some 6), (.mv (.tmp 27)), none⟩])
  (.seq (.draw [(⟨(some 28), (.fieldAddr 4 (.tmp 1)), none⟩, []), (⟨(some 32), (.fieldAddr 4 (.tmp 1)), none⟩, []), (⟨(some 36), (.mv (.tmp 3)), none⟩, []), (⟨(some 38), (.mv (.tmp 6)), none⟩, []), (⟨(some 39), (.mv (.tmp 6)), none⟩, []), (⟨(some 29), (.load none (.tmp 28)), none⟩, []), (⟨(some 30), (.len .sl (.tmp 29)), none⟩, []), (⟨(some 33), (.load none (.tmp 32)), none⟩, []), (⟨(some 34), (.len .sl (.tmp 33)), none⟩, []), (⟨(some 41), (.load (some 5) (.tmp 1)), none⟩, []), (⟨(some 31), (.call 22 [(.const (.int .i64 3)), (.tmp 30)]), none⟩, [⟨(some 33), (.load none (.tmp 32)), none⟩, ⟨(some 34), (.len .sl (.tmp 33)), none⟩, ⟨(some 41), (.load (some 5) (.tmp 1)), none⟩]), (⟨(some 35), (.call 22 [(.const (.int .i64 1)), (.tmp 34)]), none⟩, [⟨(some 41), (.load (some 5) (.tmp 1)), none⟩]), (⟨(some 37), (.call 93 [(.tmp 36)]), none⟩, [⟨(some 41), (.load (some 5) (.tmp 1)), none⟩]), (⟨(some 40), (.call 22 [(.const (.int .i64 4)), (.tmp 39)]), none⟩, [⟨(some 41), (.load (some 5) (.tmp 1)), none⟩]), (⟨(some 42), (.call 94 [(.tmp 41)]), none⟩, []), (⟨(some 43), (.call 22 [(.const (.int .i64 5)), (.tmp 42)]), none⟩, []), (⟨(some 44), (.buildSlice 1 7 [(0, (.const (.int .i64 1))), (1, (.tmp 31)), (2, (.tmp 35)), (3, (.tmp 37)), (4, (.tmp 38)), (5, (.tmp 40)), (6, (.tmp 43))]), none⟩, []), (⟨(some 45), (.call 93 [(.tmp 44)]), none⟩, []), (⟨(some 2), (.mv (.tmp 45)), none⟩, [])])
  .ret))))))⟩
theorem pf48_ok : pfOf Tryz.prog plan 48 = some pf48 := by kernel_rfl
theorem ok48 : fnOk Tryz.prog plan 48 = true := by kernel_rfl
/- 153 (*scantling/alloc.Alloc).nobody -/
noncomputable def pf153 : PF := ⟨12, [.tmp 2], (.seq (.reg [⟨(some 2), (.mv (.const (.bool false))), none⟩])
  (.seq (.reg [⟨(some 3), (.mv (.tmp 0)), none⟩, ⟨(some 4), (.bin .eql .ptr (.tmp 3) (.const (.pointer none))), none⟩, ⟨(some 5), (.mv (.tmp 4)), none⟩, ⟨(some 6), (.mv (.tmp 0)), (some ((some 5), false))⟩, ⟨(some 7), (.nil (.tmp 6)), (some ((some 5), false))⟩, ⟨(some 8), (.fieldAddr 2 (.tmp 7)), (some ((some 5), false))⟩, ⟨(some 9), (.load none (.tmp 8)), (some ((some 5), false))⟩, ⟨(some 10), (.bin .eql .ptr (.tmp 9) (.const (.pointer none))), (some ((some 5), false))⟩, ⟨(some 11), (.raw (.pick (.tmp 5) (.const (.bool true)) (.tmp 10))), none⟩, ⟨(some 2), (.mv (.tmp 11)), none⟩])
  .ret))⟩
theorem pf153_ok : pfOf Tryz.prog plan 153 = some pf153 := by kernel_rfl
theorem ok153 : fnOk Tryz.prog plan 153 = true := by kernel_rfl
/- 154 (scantling/lay.layer).tree -/
noncomputable def pf154 : PF := ⟨20, [.tmp 6], (.seq (.reg [⟨(some 3), (.box 0 (.tmp 0)), none⟩, ⟨(some 6), (.mv (.const (.int .i64 0))), none⟩])
  (.seq (.reg [⟨(some 10), (.fieldAddr 0 (.tmp 3)), none⟩, ⟨(some 11), (.load none (.tmp 10)), none⟩, ⟨(some 12), (.mv (.tmp 1)), none⟩, ⟨(some 13), (.mv (.tmp 2)), none⟩, ⟨(some 14), (.call 161 [(.tmp 11), (.tmp 12), (.tmp 13)]), none⟩, ⟨(some 9), (.mv (.tmp 14)), none⟩, ⟨(some 15), (.extract (.tmp 9) 0), none⟩, ⟨(some 16), (.extract (.tmp 9) 1), none⟩, ⟨(some 7), (.mv (.tmp 15)), none⟩, ⟨(some 8), (.mv (.tmp 16)), none⟩])
  (.seq (.reg [⟨(some 17), (.mv (.tmp 8)), none⟩, ⟨(some 18), (.call 53 [(.tmp 17)]), none⟩])
  (.seq (.reg [⟨(some 19), (.mv (.tmp 7)), none⟩, ⟨(some 6), (.mv (.tmp 19)), none⟩])
  .ret))))⟩
theorem pf154_ok : pfOf Tryz.prog plan 154 = some pf154 := by kernel_rfl
theorem ok154 : fnOk Tryz.prog plan 154 = true := by kernel_rfl
/- 102 scantling/value.Root -/
noncomputable def pf102 : PF := ⟨7, [.tmp 2], (.seq (.reg [⟨(some 2), (.mv (.const (.string (bs [])))), none⟩])
  (.seq (.reg [⟨(some 3), (.call 168 []), none⟩, ⟨(some 4), (.mv (.tmp 0)), none⟩, ⟨(some 5), (.buildSlice 1 1 [(0, (.tmp 4))]), none⟩, ⟨(some 6), (.call 166 [(.tmp 3), (.tmp 5)]), none⟩, ⟨(some 2), (.mv (.tmp 6)), none⟩])
  .ret))⟩
theorem pf102_ok : pfOf Tryz.prog plan 102 = some pf102 := by kernel_rfl
theorem ok102 : fnOk Tryz.prog plan 102 = true := by kernel_rfl
/- 156 scantling/tally.Split -/
noncomputable def pc156_0 : PCode := (.seq (.reg [⟨(some 17), (.bin .lss .int (.tmp 16) (.tmp 15)), none⟩])
  (.seq (.cond (.tmp 17) .skip (.exit 0))
  (.seq (.block 1 (.seq (.reg [⟨(some 18), (.mv (.tmp 16)), none⟩, ⟨(some 19), (.indexAddr (.sl 1) (.tmp 14) (.tmp 16)), none⟩, ⟨(some 20), (.load none (.tmp 19)), none⟩, ⟨(some 7), (.mv (.tmp 18)), none⟩, ⟨(some 8), (.mv (.tmp 20)), none⟩])
  (.seq (.seq (.reg [⟨(some 21), (.mv (.tmp 8)), none⟩, ⟨(some 22), (.bin .lss .int (.tmp 21) (.const (.int .i64 0))), none⟩, ⟨(some 23), (.mv (.tmp 22)), none⟩, ⟨(some 24), (.mv (.tmp 8)), (some ((some 23), false))⟩, ⟨(some 25), (.bin .gtr .int (.tmp 24) (.const (.int .i64 2147483647))), (some ((some 23), false))⟩, ⟨(some 26), (.raw (.pick (.tmp 23) (.const (.bool true)) (.tmp 25))), none⟩])
  (.cond (.tmp 26) (.seq (.reg [⟨(some 2), (.mv (.const (.slice none 0 0))), none⟩, ⟨(some 3), (.mv (.const (.slice none 0 0))), none⟩, ⟨(some 4), (.mv (.const (.int .i64 2))), none⟩])
  .ret) .skip))
  (.seq (.reg [⟨(some 27), (.mv (.tmp 5)), none⟩, ⟨(some 28), (.mv (.tmp 8)), none⟩, ⟨(some 29), (.raw (.call { callee := .builtin .min, args := #[(.tmp 28), (.const (.int .i64 3))], argTypes := #[3, 3] })), none⟩, ⟨(some 30), (.buildSlice 1 1 [(0, (.tmp 29))]), none⟩, ⟨(some 31), (.append 1 8 false (.tmp 27) (.tmp 30)), none⟩, ⟨(some 5), (.mv (.tmp 31)), none⟩])
  (.seq (.reg [⟨(some 32), (.mv (.tmp 8)), none⟩, ⟨(some 33), (.bin .geq .int (.tmp 32) (.const (.int .i64 3))), none⟩])
  (.cond (.tmp 33) (.reg [⟨(some 34), (.mv (.tmp 6)), none⟩, ⟨(some 35), (.mv (.tmp 7)), none⟩, ⟨(some 36), (.mv (.tmp 8)), none⟩, ⟨(some 37), (.call 232 [(.tmp 36)]), none⟩, ⟨(some 38), (.build [(.int .i64 0), (.string (bs [])), (.int .i64 0)] [(0, 1), (1, 1), (2, 1)] [(0, (.tmp 35)), (1, (.tmp 37))]), none⟩, ⟨(some 39), (.buildSlice 3 1 [(0, (.tmp 38))]), none⟩, ⟨(some 40), (.append 3 32 false (.tmp 34) (.tmp 39)), none⟩, ⟨(some 6), (.mv (.tmp 40)), none⟩]) .skip))))))
  (.reg [⟨(some 41), (.bin .add .int (.tmp 16) (.const (.int .i64 1))), none⟩, ⟨(some 16), (.mv (.tmp 41)), none⟩]))))
noncomputable def rl156_1 : Array Tmp × Code × Code := subLoop (bodyOf Tryz.prog 156) [1, 1, 1, 1, 1, 1, 0, 1, 0]
noncomputable def pc156_1a : PCode := (.reg [⟨(some 10), (.mv (.tmp 44)), none⟩])
noncomputable def pc156_1b : PCode := (.block 3 (.draw [(⟨(some 46), (.mv (.tmp 10)), none⟩, []), (⟨(some 45), (.load none (.tmp 9)), none⟩, []), (⟨(some 47), (.call 121 [(.tmp 46)]), none⟩, [⟨(some 45), (.load none (.tmp 9)), none⟩]), (⟨(some 48), (.buildSlice 1 1 [(0, (.tmp 47))]), none⟩, [⟨(some 45), (.load none (.tmp 9)), none⟩]), (⟨(some 49), (.append 1 24 false (.tmp 45) (.tmp 48)), none⟩, []), (⟨none, (.store 1 (.tmp 9) (.tmp 49)), none⟩, [])]))
noncomputable def pf156 : PF := ⟨52, [.tmp 2, .tmp 3, .tmp 4], (.seq (.reg [⟨(some 2), (.mv (.const (.slice none 0 0))), none⟩, ⟨(some 3), (.mv (.const (.slice none 0 0))), none⟩, ⟨(some 4), (.mv (.const (.int .i64 0))), none⟩])
  (.seq (.seq (.reg [⟨(some 11), (.mv (.tmp 0)), none⟩, ⟨(some 12), (.len .sl (.tmp 11)), none⟩, ⟨(some 13), (.bin .gtr .int (.tmp 12) (.const (.int .i64 65536))), none⟩])
  (.cond (.tmp 13) (.seq (.reg [⟨(some 2), (.mv (.const (.slice none 0 0))), none⟩, ⟨(some 3), (.mv (.const (.slice none 0 0))), none⟩, ⟨(some 4), (.mv (.const (.int .i64 1))), none⟩])
  .ret) .skip))
  (.seq (.reg [⟨(some 5), (.mv (.const (.slice none 0 0))), none⟩])
  (.seq (.reg [⟨(some 6), (.mv (.const (.slice none 0 0))), none⟩])
  (.seq (.seq (.reg [⟨(some 14), (.mv (.tmp 0)), none⟩, ⟨(some 15), (.len .sl (.tmp 14)), none⟩, ⟨(some 16), (.mv (.const (.int .i64 0))), none⟩])
  (.block 0 (.loop pc156_0)))
  (.seq (.reg [⟨(some 9), (.alloc 0 [(.slice none 0 0)]), none⟩])
  (.seq (.seq (.reg [⟨(some 42), (.mv (.tmp 5)), none⟩, ⟨(some 43), (.call 233 [(.tmp 42), (.const (.int .i64 960))]), none⟩])
  (.block 2 (.rangeF (.tmp 43) rl156_1.1 rl156_1.2.1 rl156_1.2.2 pc156_1a pc156_1b)))
  (.seq (.reg [⟨(some 50), (.load none (.tmp 9)), none⟩, ⟨(some 51), (.mv (.tmp 6)), none⟩, ⟨(some 2), (.mv (.tmp 50)), none⟩, ⟨(some 3), (.mv (.tmp 51)), none⟩, ⟨(some 4), (.mv (.const (.int .i64 0))), none⟩])
  .ret))))))))⟩
theorem pf156_ok : pfOf Tryz.prog plan 156 = some pf156 := by kernel_rfl
theorem ok156 : fnOk Tryz.prog plan 156 = true := by kernel_rfl
/- 157 (*scantling/alloc.Alloc).Left -/
noncomputable def pf157 : PF := ⟨10, [.tmp 2], (.seq (.reg [⟨(some 2), (.mv (.const (.int .i64 0))), none⟩])
  (.seq (.seq (.reg [⟨(some 3), (.mv (.tmp 0)), none⟩, ⟨(some 4), (.call 153 [(.tmp 3)]), none⟩])
  (.cond (.tmp 4) (.seq (.reg [⟨(some 2), (.mv (.const (.int .i64 0))), none⟩])
  .ret) .skip))
  (.seq (.reg [⟨(some 5), (.mv (.tmp 0)), none⟩, ⟨(some 6), (.nil (.tmp 5)), none⟩, ⟨(some 7), (.fieldAddr 0 (.tmp 6)), none⟩, ⟨(some 8), (.call 234 [(.tmp 7)]), none⟩, ⟨(some 9), (.len .sl (.tmp 8)), none⟩, ⟨(some 2), (.mv (.tmp 9)), none⟩])
  .ret)))⟩
theorem pf157_ok : pfOf Tryz.prog plan 157 = some pf157 := by kernel_rfl
theorem ok157 : fnOk Tryz.prog plan 157 = true := by kernel_rfl
/- 22 scantling/tall.Nodes -/
noncomputable def pc22_0 : PCode := (.seq (.reg [⟨(some 13), (.bin .lss .int (.tmp 12) (.tmp 11)), none⟩])
  (.seq (.cond (.tmp 13) .skip (.exit 0))
  (.seq (.block 1 (.seq (.reg [⟨(some 14), (.indexAddr (.sl 1) (.tmp 10) (.tmp 12)), none⟩, ⟨(some 15), (.load none (.tmp 14)), none⟩, ⟨(some 7), (.mv (.tmp 15)), none⟩])
  (.reg [⟨(some 16), (.mv (.tmp 5)), none⟩, ⟨(some 17), (.mv (.tmp 7)), none⟩, ⟨(some 18), (.bin .add .int (.tmp 16) (.tmp 17)), none⟩, ⟨(some 5), (.mv (.tmp 18)), none⟩])))
  (.reg [⟨(some 19), (.bin .add .int (.tmp 12) (.const (.int .i64 1))), none⟩, ⟨(some 12), (.mv (.tmp 19)), none⟩]))))
noncomputable def pf22 : PF := ⟨21, [.tmp 4], (.seq (.reg [⟨(some 4), (.mv (.const (.int .i64 0))), none⟩])
  (.seq (.reg [⟨(some 5), (.mv (.const (.int .i64 0))), none⟩])
  (.seq (.seq (.reg [⟨(some 8), (.mv (.tmp 0)), none⟩, ⟨(some 9), (.mv (.tmp 1)), none⟩, ⟨(some 10), (.call 62 [(.tmp 8), (.tmp 9)]), none⟩, ⟨(some 11), (.len .sl (.tmp 10)), none⟩, ⟨(some 12), (.mv (.const (.int .i64 0))), none⟩])
  (.block 0 (.loop pc22_0)))
  (.seq (.reg [⟨(some 20), (.mv (.tmp 5)), none⟩, ⟨(some 4), (.mv (.tmp 20)), none⟩])
  .ret))))⟩
theorem pf22_ok : pfOf Tryz.prog plan 22 = some pf22 := by kernel_rfl
theorem ok22 : fnOk Tryz.prog plan 22 = true := by kernel_rfl
/- 158 scantling/plot.lay -/
noncomputable def pc158_0 : PCode := (.seq (.reg [⟨(some 18), (.bin .lss .int (.tmp 17) (.tmp 16)), none⟩])
  (.seq (.cond (.tmp 18) .skip (.exit 0))
  (.seq (.block 1 (.seq (.reg [⟨(some 19), (.indexAddr (.sl 1) (.tmp 15) (.tmp 17)), none⟩, ⟨(some 20), (.load none (.tmp 19)), none⟩, ⟨(some 8), (.mv (.tmp 20)), none⟩])
  (.seq (.reg [⟨(some 22), (.mv (.tmp 8)), none⟩, ⟨(some 23), (.call 235 [(.tmp 22)]), none⟩, ⟨(some 21), (.mv (.tmp 23)), none⟩, ⟨(some 24), (.extract (.tmp 21) 0), none⟩, ⟨(some 25), (.extract (.tmp 21) 1), none⟩, ⟨(some 9), (.mv (.tmp 24)), none⟩, ⟨(some 10), (.mv (.tmp 25)), none⟩])
  (.seq (.seq (.reg [⟨(some 26), (.mv (.tmp 10)), none⟩, ⟨(some 27), (.bin .neq .int (.tmp 26) (.const (.int .i64 0))), none⟩])
  (.cond (.tmp 27) (.seq (.reg [⟨(some 28), (.mv (.tmp 10)), none⟩, ⟨(some 29), (.iface 49 (.tmp 28)), none⟩, ⟨(some 6), (.mv (.tmp 29)), none⟩])
  .ret) .skip))
  (.seq (.reg [⟨(some 31), (.mv (.tmp 0)), none⟩, ⟨(some 32), (.mv (.tmp 9)), none⟩, ⟨(some 33), (.call 165 [(.tmp 31), (.const (.int .i64 3)), (.tmp 32)]), none⟩, ⟨(some 30), (.mv (.tmp 33)), none⟩, ⟨(some 34), (.extract (.tmp 30) 0), none⟩, ⟨(some 35), (.extract (.tmp 30) 1), none⟩, ⟨(some 11), (.mv (.tmp 34)), none⟩, ⟨(some 12), (.mv (.tmp 35)), none⟩])
  (.seq (.seq (.reg [⟨(some 36), (.mv (.tmp 12)), none⟩, ⟨(some 37), (.bin .neq .ifc (.tmp 36) (.const .nilIface)), none⟩])
  (.cond (.tmp 37) (.seq (.reg [⟨(some 38), (.mv (.tmp 12)), none⟩, ⟨(some 6), (.mv (.tmp 38)), none⟩])
  .ret) .skip))
  (.seq (.reg [⟨(some 40), (.mv (.tmp 8)), none⟩, ⟨(some 41), (.call 236 [(.tmp 40)]), none⟩, ⟨(some 39), (.mv (.tmp 41)), none⟩, ⟨(some 42), (.extract (.tmp 39) 0), none⟩, ⟨(some 43), (.extract (.tmp 39) 1), none⟩, ⟨(some 13), (.mv (.tmp 42)), none⟩, ⟨(some 14), (.mv (.tmp 43)), none⟩])
  (.reg [⟨(some 44), (.mv (.tmp 2)), none⟩, ⟨(some 45), (.mv (.tmp 11)), none⟩, ⟨(some 46), (.mv (.tmp 13)), none⟩, ⟨(some 47), (.mv (.tmp 14)), none⟩, ⟨(some 48), (.build [(.int .i64 0), (.int .i64 0), (.int .i64 0)] [(0, 1), (1, 1), (2, 1)] [(0, (.tmp 45)), (1, (.tmp 46)), (2, (.tmp 47))]), none⟩, ⟨(some 49), (.callv (.tmp 44) [(.tmp 48)]), none⟩]))))))))
  (.reg [⟨(some 50), (.bin .add .int (.tmp 17) (.const (.int .i64 1))), none⟩, ⟨(some 17), (.mv (.tmp 50)), none⟩]))))
noncomputable def pf158 : PF := ⟨51, [.tmp 6], (.seq (.reg [⟨(some 6), (.mv (.const .nilIface)), none⟩])
  (.seq (.seq (.reg [⟨(some 15), (.mv (.tmp 1)), none⟩, ⟨(some 16), (.len .sl (.tmp 15)), none⟩, ⟨(some 17), (.mv (.const (.int .i64 0))), none⟩])
  (.block 0 (.loop pc158_0)))
  (.seq (.reg [⟨(some 6), (.mv (.const .nilIface)), none⟩])
  .ret)))⟩
theorem pf158_ok : pfOf Tryz.prog plan 158 = some pf158 := by kernel_rfl
theorem ok158 : fnOk Tryz.prog plan 158 = true := by kernel_rfl
/- 160 scantling/value.Slot -/
noncomputable def pf160 : PF := ⟨12, [.tmp 2], (.seq (.reg [⟨(some 1), (.box 0 (.tmp 0)), none⟩, ⟨(some 2), (.mv (.const (.string (bs [])))), none⟩])
  (.seq (.draw [(⟨(some 4), (.fieldAddr 0 (.tmp 1)), none⟩, []), (⟨(some 6), (.fieldAddr 1 (.tmp 1)), none⟩, []), (⟨(some 8), (.fieldAddr 2 (.tmp 1)), none⟩, []), (⟨(some 5), (.load none (.tmp 4)), none⟩, []), (⟨(some 7), (.load none (.tmp 6)), none⟩, []), (⟨(some 9), (.load none (.tmp 8)), none⟩, []), (⟨(some 10), (.buildSlice 1 3 [(0, (.tmp 5)), (1, (.tmp 7)), (2, (.tmp 9))]), none⟩, []), (⟨(some 3), (.call 237 []), none⟩, [⟨(some 5), (.load none (.tmp 4)), none⟩, ⟨(some 7), (.load none (.tmp 6)), none⟩, ⟨(some 9), (.load none (.tmp 8)), none⟩, ⟨(some 10), (.buildSlice 1 3 [(0, (.tmp 5)), (1, (.tmp 7)), (2, (.tmp 9))]), none⟩]), (⟨(some 11), (.call 166 [(.tmp 3), (.tmp 10)]), none⟩, []), (⟨(some 2), (.mv (.tmp 11)), none⟩, [])])
  .ret))⟩
theorem pf160_ok : pfOf Tryz.prog plan 160 = some pf160 := by kernel_rfl
theorem ok160 : fnOk Tryz.prog plan 160 = true := by kernel_rfl
/- 161 scantling/build.Tree -/
noncomputable def pc161_0 : PCode := (.seq (.seq (.reg [⟨(some 35), (.load none (.tmp 8)), none⟩, ⟨(some 36), (.bin .eql .ifc (.tmp 35) (.const .nilIface)), none⟩, ⟨(some 37), (.mv (.tmp 36)), none⟩, ⟨(some 38), (.mv (.tmp 10)), (some ((some 37), true))⟩, ⟨(some 39), (.len .sl (.tmp 38)), (some ((some 37), true))⟩, ⟨(some 40), (.bin .gtr .int (.tmp 39) (.const (.int .i64 1))), (some ((some 37), true))⟩, ⟨(some 41), (.raw (.pick (.tmp 37) (.tmp 40) (.const (.bool false)))), none⟩])
  (.cond (.tmp 41) .skip (.exit 1)))
  (.block 2 (.reg [⟨(some 42), (.mv (.tmp 9)), none⟩, ⟨(some 43), (.mv (.tmp 10)), none⟩, ⟨(some 44), (.callv (.tmp 42) [(.const (.bool false)), (.tmp 43)]), none⟩, ⟨(some 10), (.mv (.tmp 44)), none⟩])))
noncomputable def pf161 : PF := ⟨52, [.tmp 6, .tmp 7], (.seq (.reg [⟨(some 3), (.box 0 (.tmp 0)), none⟩, ⟨(some 4), (.box 0 (.tmp 1)), none⟩, ⟨(some 6), (.mv (.const (.int .i64 0))), none⟩, ⟨(some 7), (.mv (.const .nilIface)), none⟩])
  (.seq (.block 0 (.seq (.reg [⟨(some 12), (.load none (.tmp 3)), none⟩, ⟨(some 13), (.call 95 [(.tmp 12)]), none⟩, ⟨(some 14), (.bin .eql .ptr (.tmp 13) (.const (.pointer none))), none⟩, ⟨(some 11), (.mv (.tmp 14)), none⟩])
  (.cond (.tmp 11) (.seq (.reg [⟨(some 15), (.iface 49 (.const (.int .i64 18))), none⟩, ⟨(some 6), (.mv (.const (.int .i64 0))), none⟩, ⟨(some 7), (.mv (.tmp 15)), none⟩])
  .ret) (.seq (.reg [⟨(some 17), (.load none (.tmp 4)), none⟩, ⟨(some 18), (.mv (.tmp 2)), none⟩, ⟨(some 19), (.call 238 [(.tmp 17), (.tmp 18)]), none⟩, ⟨(some 20), (.un .not (.tmp 19)), none⟩, ⟨(some 16), (.mv (.tmp 20)), none⟩])
  (.cond (.tmp 16) (.seq (.reg [⟨(some 21), (.iface 49 (.const (.int .i64 1))), none⟩, ⟨(some 6), (.mv (.const (.int .i64 0))), none⟩, ⟨(some 7), (.mv (.tmp 21)), none⟩])
  .ret) (.seq (.draw [(⟨(some 26), (.mv (.tmp 2)), none⟩, []), (⟨(some 23), (.load none (.tmp 3)), none⟩, []), (⟨(some 25), (.load none (.tmp 4)), none⟩, []), (⟨(some 27), (.len .sl (.tmp 26)), none⟩, []), (⟨(some 24), (.call 157 [(.tmp 23)]), none⟩, [⟨(some 25), (.load none (.tmp 4)), none⟩, ⟨(some 27), (.len .sl (.tmp 26)), none⟩]), (⟨(some 28), (.call 22 [(.tmp 25), (.tmp 27)]), none⟩, []), (⟨(some 29), (.bin .lss .int (.tmp 24) (.tmp 28)), none⟩, []), (⟨(some 22), (.mv (.tmp 29)), none⟩, [])])
  (.cond (.tmp 22) (.seq (.reg [⟨(some 30), (.iface 49 (.const (.int .i64 14))), none⟩, ⟨(some 6), (.mv (.const (.int .i64 0))), none⟩, ⟨(some 7), (.mv (.tmp 30)), none⟩])
  .ret) .skip)))))))
  (.seq (.reg [⟨(some 8), (.alloc 0 [.nilIface]), none⟩])
  (.seq (.reg [⟨(some 31), (.fn 239 [] [(.tmp 3), (.tmp 4), (.tmp 8)]), none⟩, ⟨(some 9), (.mv (.tmp 31)), none⟩])
  (.seq (.reg [⟨(some 32), (.mv (.tmp 9)), none⟩, ⟨(some 33), (.mv (.tmp 2)), none⟩, ⟨(some 34), (.callv (.tmp 32) [(.const (.bool true)), (.tmp 33)]), none⟩, ⟨(some 10), (.mv (.tmp 34)), none⟩])
  (.seq (.block 1 (.loop pc161_0))
  (.seq (.seq (.reg [⟨(some 45), (.load none (.tmp 8)), none⟩, ⟨(some 46), (.bin .neq .ifc (.tmp 45) (.const .nilIface)), none⟩])
  (.cond (.tmp 46) (.seq (.draw [(⟨(some 6), (.mv (.const (.int .i64 0))), none⟩, []), (⟨(some 47), (.load none (.tmp 8)), none⟩, []), (⟨(some 7), (.mv (.tmp 47)), none⟩, [])])
  .ret) .skip))
  (.seq (.reg [⟨(some 48), (.mv (.tmp 10)), none⟩, ⟨(some 49), (.indexAddr (.sl 3) (.tmp 48) (.const (.int .i64 0))), none⟩, ⟨(some 50), (.fieldAddr 2 (.tmp 49)), none⟩, ⟨(some 51), (.load none (.tmp 50)), none⟩, ⟨(some 6), (.mv (.tmp 51)), none⟩, ⟨(some 7), (.mv (.const .nilIface)), none⟩])
  .ret))))))))⟩
theorem pf161_ok : pfOf Tryz.prog plan 161 = some pf161 := by kernel_rfl
theorem ok161 : fnOk Tryz.prog plan 161 = true := by kernel_rfl
/- 92 scantling/size.Bitmaps -/
noncomputable def pf92 : PF := ⟨9, [.tmp 2], (.seq (.reg [⟨(some 2), (.mv (.const (.int .i64 0))), none⟩])
  (.seq (.seq (.reg [⟨(some 3), (.mv (.tmp 0)), none⟩, ⟨(some 4), (.bin .lss .int (.tmp 3) (.const (.int .i64 1))), none⟩])
  (.cond (.tmp 4) (.seq (.reg [⟨(some 2), (.mv (.const (.int .i64 0))), none⟩])
  .ret) .skip))
  (.seq (.reg [⟨(some 5), (.mv (.tmp 0)), none⟩, ⟨(some 6), (.bin .sub .int (.tmp 5) (.const (.int .i64 1))), none⟩, ⟨(some 7), (.bin .quo .int (.tmp 6) (.const (.int .i64 960))), none⟩, ⟨(some 8), (.bin .add .int (.tmp 7) (.const (.int .i64 1))), none⟩, ⟨(some 2), (.mv (.tmp 8)), none⟩])
  .ret)))⟩
theorem pf92_ok : pfOf Tryz.prog plan 92 = some pf92 := by kernel_rfl
theorem ok92 : fnOk Tryz.prog plan 92 = true := by kernel_rfl
/- 162 (*scantling/alloc.Alloc).Ahead -/
noncomputable def pf162 : PF := ⟨23, [.tmp 4], (.seq (.reg [⟨(some 4), (.mv (.const (.slice none 0 0))), none⟩])
  (.seq (.seq (.reg [⟨(some 6), (.mv (.tmp 0)), none⟩, ⟨(some 7), (.call 153 [(.tmp 6)]), none⟩, ⟨(some 8), (.mv (.tmp 7)), none⟩, ⟨(some 9), (.mv (.tmp 1)), (some ((some 8), false))⟩, ⟨(some 10), (.bin .lss .int (.tmp 9) (.const (.int .i64 1))), (some ((some 8), false))⟩, ⟨(some 11), (.raw (.pick (.tmp 8) (.const (.bool true)) (.tmp 10))), none⟩])
  (.cond (.tmp 11) (.seq (.reg [⟨(some 4), (.mv (.const (.slice none 0 0))), none⟩])
  .ret) .skip))
  (.seq (.reg [⟨(some 12), (.mv (.tmp 0)), none⟩, ⟨(some 13), (.nil (.tmp 12)), none⟩, ⟨(some 14), (.fieldAddr 0 (.tmp 13)), none⟩, ⟨(some 15), (.call 234 [(.tmp 14)]), none⟩, ⟨(some 5), (.mv (.tmp 15)), none⟩])
  (.seq (.reg [⟨(some 16), (.mv (.tmp 5)), none⟩, ⟨(some 17), (.mv (.tmp 1)), none⟩, ⟨(some 18), (.mv (.tmp 5)), none⟩, ⟨(some 19), (.len .sl (.tmp 18)), none⟩, ⟨(some 20), (.raw (.call { callee := .builtin .min, args := #[(.tmp 17), (.tmp 19)], argTypes := #[3, 3] })), none⟩, ⟨(some 21), (.slice (.sl 1) (.tmp 16) none (some (.tmp 20)) none), none⟩, ⟨(some 22), (.call 121 [(.tmp 21)]), none⟩, ⟨(some 4), (.mv (.tmp 22)), none⟩])
  .ret))))⟩
theorem pf162_ok : pfOf Tryz.prog plan 162 = some pf162 := by kernel_rfl
theorem ok162 : fnOk Tryz.prog plan 162 = true := by kernel_rfl
/- 163 scantling/plot.Meta$1 -/
noncomputable def pf163 : PF := ⟨7, [], (.seq (.reg [⟨(some 2), (.box 0 (.tmp 0)), none⟩])
  (.reg [⟨(some 3), (.load none (.tmp 1)), none⟩, ⟨(some 4), (.load (some 3) (.tmp 2)), none⟩, ⟨(some 5), (.buildSlice 3 1 [(0, (.tmp 4))]), none⟩, ⟨(some 6), (.append 3 24 false (.tmp 3) (.tmp 5)), none⟩, ⟨none, (.store 1 (.tmp 1) (.tmp 6)), none⟩]))⟩
theorem pf163_ok : pfOf Tryz.prog plan 163 = some pf163 := by kernel_rfl
theorem ok163 : fnOk Tryz.prog plan 163 = true := by kernel_rfl
/- 164 scantling/slots.Put -/
noncomputable def pc164_0 : PCode := (.seq (.reg [⟨(some 23), (.bin .lss .int (.tmp 22) (.tmp 21)), none⟩])
  (.seq (.cond (.tmp 23) .skip (.exit 0))
  (.seq (.block 1 (.seq (.reg [⟨(some 24), (.indexAddr (.sl 3) (.tmp 20) (.tmp 22)), none⟩, ⟨(some 25), (.load (some 3) (.tmp 24)), none⟩, ⟨(some 7), (.alloc 0 [(.int .i64 0), (.int .i64 0), (.int .i64 0)]), none⟩, ⟨none, (.store 3 (.tmp 7) (.tmp 25)), none⟩])
  (.seq (.reg [⟨(some 26), (.load (some 3) (.tmp 7)), none⟩, ⟨(some 27), (.call 160 [(.tmp 26)]), none⟩, ⟨(some 8), (.mv (.tmp 27)), none⟩])
  (.seq (.seq (.reg [⟨(some 28), (.mv (.tmp 8)), none⟩, ⟨(some 29), (.bin .eql .str (.tmp 28) (.const (.string (bs [])))), none⟩])
  (.cond (.tmp 29) (.seq (.reg [⟨(some 2), (.mv (.const (.slice none 0 0))), none⟩, ⟨(some 3), (.mv (.const (.int .i64 1))), none⟩])
  .ret) .skip))
  (.reg [⟨(some 30), (.mv (.tmp 4)), none⟩, ⟨(some 31), (.mv (.tmp 8)), none⟩, ⟨(some 32), (.append 1 1 true (.tmp 30) (.tmp 31)), none⟩, ⟨(some 4), (.mv (.tmp 32)), none⟩])))))
  (.reg [⟨(some 33), (.bin .add .int (.tmp 22) (.const (.int .i64 1))), none⟩, ⟨(some 22), (.mv (.tmp 33)), none⟩]))))
noncomputable def pf164 : PF := ⟨39, [.tmp 2, .tmp 3], (.seq (.reg [⟨(some 2), (.mv (.const (.slice none 0 0))), none⟩, ⟨(some 3), (.mv (.const (.int .i64 0))), none⟩])
  (.seq (.seq (.reg [⟨(some 9), (.mv (.tmp 0)), none⟩, ⟨(some 10), (.len .sl (.tmp 9)), none⟩, ⟨(some 11), (.bin .gtr .int (.tmp 10) (.const (.int .i64 15))), none⟩])
  (.cond (.tmp 11) (.seq (.reg [⟨(some 2), (.mv (.const (.slice none 0 0))), none⟩, ⟨(some 3), (.mv (.const (.int .i64 1))), none⟩])
  .ret) .skip))
  (.seq (.reg [⟨(some 13), (.mv (.tmp 0)), none⟩, ⟨(some 14), (.len .sl (.tmp 13)), none⟩, ⟨(some 15), (.build [(.int .i64 0), (.int .i64 0)] [(0, 1), (1, 1)] [(0, (.const (.int .i64 4))), (1, (.tmp 14))]), none⟩, ⟨(some 16), (.buildSlice 2 1 [(0, (.tmp 15))]), none⟩, ⟨(some 17), (.call 107 [(.tmp 16)]), none⟩, ⟨(some 12), (.mv (.tmp 17)), none⟩, ⟨(some 18), (.extract (.tmp 12) 0), none⟩, ⟨(some 19), (.extract (.tmp 12) 1), none⟩, ⟨(some 4), (.mv (.tmp 18)), none⟩, ⟨(some 5), (.mv (.tmp 19)), none⟩])
  (.seq (.seq (.reg [⟨(some 20), (.mv (.tmp 0)), none⟩, ⟨(some 21), (.len .sl (.tmp 20)), none⟩, ⟨(some 22), (.mv (.const (.int .i64 0))), none⟩])
  (.block 0 (.loop pc164_0)))
  (.seq (.reg [⟨(some 34), (.mv (.tmp 4)), none⟩, ⟨(some 35), (.mv (.tmp 4)), none⟩, ⟨(some 36), (.len .sl (.tmp 35)), none⟩, ⟨(some 37), (.bin .sub .int (.const (.int .i64 244)) (.tmp 36)), none⟩, ⟨(some 38), (.raw (.call { callee := .builtin .append, args := #[(.tmp 34), (.tmp 37)], argTypes := #[22, 3] })), none⟩, ⟨(some 2), (.mv (.tmp 38)), none⟩, ⟨(some 3), (.mv (.const (.int .i64 0))), none⟩])
  .ret)))))⟩
theorem pf164_ok : pfOf Tryz.prog plan 164 = some pf164 := by kernel_rfl
theorem ok164 : fnOk Tryz.prog plan 164 = true := by kernel_rfl
/- 165 (*scantling/alloc.Alloc).Lay -/
noncomputable def pf165 : PF := ⟨35, [.tmp 6, .tmp 7], (.seq (.reg [⟨(some 6), (.mv (.const (.int .i64 0))), none⟩, ⟨(some 7), (.mv (.const .nilIface)), none⟩])
  (.seq (.reg [⟨(some 12), (.mv (.tmp 0)), none⟩, ⟨(some 13), (.call 241 [(.tmp 12)]), none⟩, ⟨(some 11), (.mv (.tmp 13)), none⟩, ⟨(some 14), (.extract (.tmp 11) 0), none⟩, ⟨(some 15), (.extract (.tmp 11) 1), none⟩, ⟨(some 8), (.mv (.tmp 14)), none⟩, ⟨(some 9), (.mv (.tmp 15)), none⟩])
  (.seq (.seq (.reg [⟨(some 16), (.mv (.tmp 9)), none⟩, ⟨(some 17), (.bin .neq .ifc (.tmp 16) (.const .nilIface)), none⟩])
  (.cond (.tmp 17) (.seq (.reg [⟨(some 18), (.mv (.tmp 9)), none⟩, ⟨(some 6), (.mv (.const (.int .i64 0))), none⟩, ⟨(some 7), (.mv (.tmp 18)), none⟩])
  .ret) .skip))
  (.seq (.seq (.reg [⟨(some 19), (.mv (.tmp 0)), none⟩, ⟨(some 20), (.nil (.tmp 19)), none⟩, ⟨(some 21), (.fieldAddr 2 (.tmp 20)), none⟩, ⟨(some 22), (.load none (.tmp 21)), none⟩, ⟨(some 23), (.mv (.tmp 8)), none⟩, ⟨(some 24), (.mv (.tmp 1)), none⟩, ⟨(some 25), (.mv (.tmp 2)), none⟩, ⟨(some 26), (.call 59 [(.tmp 22), (.tmp 23), (.tmp 24), (.tmp 25)]), none⟩, ⟨(some 10), (.mv (.tmp 26)), none⟩])
  (.seq (.reg [⟨(some 27), (.mv (.tmp 10)), none⟩, ⟨(some 28), (.bin .neq .ifc (.tmp 27) (.const .nilIface)), none⟩])
  (.cond (.tmp 28) (.seq (.reg [⟨(some 29), (.mv (.tmp 0)), none⟩, ⟨(some 30), (.nil (.tmp 29)), none⟩, ⟨(some 31), (.fieldAddr 0 (.tmp 30)), none⟩, ⟨(some 32), (.call 242 [(.tmp 31)]), none⟩])
  (.seq (.reg [⟨(some 33), (.mv (.tmp 10)), none⟩, ⟨(some 6), (.mv (.const (.int .i64 0))), none⟩, ⟨(some 7), (.mv (.tmp 33)), none⟩])
  .ret)) .skip)))
  (.seq (.reg [⟨(some 34), (.mv (.tmp 8)), none⟩, ⟨(some 6), (.mv (.tmp 34)), none⟩, ⟨(some 7), (.mv (.const .nilIface)), none⟩])
  .ret)))))⟩
theorem pf165_ok : pfOf Tryz.prog plan 165 = some pf165 := by kernel_rfl
theorem ok165 : fnOk Tryz.prog plan 165 = true := by kernel_rfl
/- 104 (*scantling/alloc.Alloc).Used -/
noncomputable def pf104 : PF := ⟨10, [.tmp 2], (.seq (.reg [⟨(some 2), (.mv (.const (.int .i64 0))), none⟩])
  (.seq (.seq (.reg [⟨(some 3), (.mv (.tmp 0)), none⟩, ⟨(some 4), (.call 153 [(.tmp 3)]), none⟩])
  (.cond (.tmp 4) (.seq (.reg [⟨(some 2), (.mv (.const (.int .i64 0))), none⟩])
  .ret) .skip))
  (.seq (.reg [⟨(some 5), (.mv (.tmp 0)), none⟩, ⟨(some 6), (.nil (.tmp 5)), none⟩, ⟨(some 7), (.fieldAddr 0 (.tmp 6)), none⟩, ⟨(some 8), (.fieldAddr 1 (.tmp 7)), none⟩, ⟨(some 9), (.load none (.tmp 8)), none⟩, ⟨(some 2), (.mv (.tmp 9)), none⟩])
  .ret)))⟩
theorem pf104_ok : pfOf Tryz.prog plan 104 = some pf104 := by kernel_rfl
theorem ok104 : fnOk Tryz.prog plan 104 = true := by kernel_rfl
/- 106 scantling/super.Put$1 -/
noncomputable def pf106 : PF := ⟨14, [], (.draw [(⟨(some 8), (.mv (.tmp 0)), none⟩, []), (⟨(some 9), (.nil (.tmp 8)), none⟩, []), (⟨(some 7), (.load none (.tmp 3)), none⟩, []), (⟨(some 10), (.load none (.tmp 9)), none⟩, []), (⟨(some 11), (.build [(.int .i64 0), (.int .i64 0)] [(0, 1), (1, 1)] [(0, (.const (.int .i64 4))), (1, (.tmp 10))]), none⟩, []), (⟨(some 12), (.buildSlice 2 1 [(0, (.tmp 11))]), none⟩, [⟨(some 7), (.load none (.tmp 3)), none⟩]), (⟨(some 13), (.append 2 16 false (.tmp 7) (.tmp 12)), none⟩, []), (⟨none, (.store 1 (.tmp 3) (.tmp 13)), none⟩, [])])⟩
theorem pf106_ok : pfOf Tryz.prog plan 106 = some pf106 := by kernel_rfl
theorem ok106 : fnOk Tryz.prog plan 106 = true := by kernel_rfl
/- 107 scantling/code.Pack -/
noncomputable def pc107_0 : PCode := (.seq (.reg [⟨(some 10), (.bin .lss .int (.tmp 9) (.tmp 8)), none⟩])
  (.seq (.cond (.tmp 10) .skip (.exit 0))
  (.seq (.block 1 (.seq (.reg [⟨(some 11), (.indexAddr (.sl 2) (.tmp 7) (.tmp 9)), none⟩, ⟨(some 12), (.load (some 2) (.tmp 11)), none⟩, ⟨(some 6), (.alloc 0 [(.int .i64 0), (.int .i64 0)]), none⟩, ⟨none, (.store 2 (.tmp 6) (.tmp 12)), none⟩])
  (.seq (.seq (.reg [⟨(some 13), (.fieldAddr 0 (.tmp 6)), none⟩, ⟨(some 14), (.load none (.tmp 13)), none⟩, ⟨(some 15), (.call 170 [(.tmp 14)]), none⟩, ⟨(some 16), (.un .not (.tmp 15)), none⟩])
  (.cond (.tmp 16) (.seq (.reg [⟨(some 2), (.mv (.const (.slice none 0 0))), none⟩, ⟨(some 3), (.mv (.const (.int .i64 1))), none⟩])
  .ret) .skip))
  (.seq (.seq (.reg [⟨(some 17), (.fieldAddr 1 (.tmp 6)), none⟩, ⟨(some 18), (.load none (.tmp 17)), none⟩, ⟨(some 19), (.fieldAddr 0 (.tmp 6)), none⟩, ⟨(some 20), (.load none (.tmp 19)), none⟩, ⟨(some 21), (.call 171 [(.tmp 18), (.tmp 20)]), none⟩, ⟨(some 22), (.un .not (.tmp 21)), none⟩])
  (.cond (.tmp 22) (.seq (.reg [⟨(some 2), (.mv (.const (.slice none 0 0))), none⟩, ⟨(some 3), (.mv (.const (.int .i64 2))), none⟩])
  .ret) .skip))
  (.reg [⟨(some 23), (.mv (.tmp 4)), none⟩, ⟨(some 24), (.fieldAddr 1 (.tmp 6)), none⟩, ⟨(some 25), (.load none (.tmp 24)), none⟩, ⟨(some 26), (.fieldAddr 0 (.tmp 6)), none⟩, ⟨(some 27), (.load none (.tmp 26)), none⟩, ⟨(some 28), (.call 172 [(.tmp 25), (.tmp 27)]), none⟩, ⟨(some 29), (.append 1 1 false (.tmp 23) (.tmp 28)), none⟩, ⟨(some 4), (.mv (.tmp 29)), none⟩])))))
  (.reg [⟨(some 30), (.bin .add .int (.tmp 9) (.const (.int .i64 1))), none⟩, ⟨(some 9), (.mv (.tmp 30)), none⟩]))))
noncomputable def pf107 : PF := ⟨32, [.tmp 2, .tmp 3], (.seq (.reg [⟨(some 2), (.mv (.const (.slice none 0 0))), none⟩, ⟨(some 3), (.mv (.const (.int .i64 0))), none⟩])
  (.seq (.reg [⟨(some 4), (.mv (.const (.slice none 0 0))), none⟩])
  (.seq (.seq (.reg [⟨(some 7), (.mv (.tmp 0)), none⟩, ⟨(some 8), (.len .sl (.tmp 7)), none⟩, ⟨(some 9), (.mv (.const (.int .i64 0))), none⟩])
  (.block 0 (.loop pc107_0)))
  (.seq (.reg [⟨(some 31), (.mv (.tmp 4)), none⟩, ⟨(some 2), (.mv (.tmp 31)), none⟩, ⟨(some 3), (.mv (.const (.int .i64 0))), none⟩])
  .ret))))⟩
theorem pf107_ok : pfOf Tryz.prog plan 107 = some pf107 := by kernel_rfl
theorem ok107 : fnOk Tryz.prog plan 107 = true := by kernel_rfl
/- 108 scantling/seal.Seal -/
noncomputable def pc108_0 : PCode := (.seq (.reg [⟨(some 30), (.bin .lss .int (.tmp 29) (.tmp 28)), none⟩])
  (.seq (.cond (.tmp 30) .skip (.exit 0))
  (.seq (.block 1 (.seq (.reg [⟨(some 31), (.indexAddr (.sl 3) (.tmp 27) (.tmp 29)), none⟩, ⟨(some 32), (.load (some 3) (.tmp 31)), none⟩, ⟨(some 10), (.alloc 0 [(.int .i64 0), (.int .i64 0), (.int .i64 0)]), none⟩, ⟨none, (.store 3 (.tmp 10) (.tmp 32)), none⟩])
  (.reg [⟨(some 34), (.mv (.tmp 8)), none⟩, ⟨(some 35), (.fieldAddr 0 (.tmp 10)), none⟩, ⟨(some 36), (.load none (.tmp 35)), none⟩, ⟨(some 37), (.fieldAddr 1 (.tmp 10)), none⟩, ⟨(some 38), (.load none (.tmp 37)), none⟩, ⟨(some 39), (.fieldAddr 2 (.tmp 10)), none⟩, ⟨(some 40), (.load none (.tmp 39)), none⟩, ⟨(some 41), (.call 174 [(.tmp 34), (.tmp 36), (.tmp 38), (.tmp 40)]), none⟩, ⟨(some 33), (.mv (.tmp 41)), none⟩, ⟨(some 42), (.extract (.tmp 33) 0), none⟩, ⟨(some 43), (.extract (.tmp 33) 1), none⟩, ⟨(some 8), (.mv (.tmp 42)), none⟩])))
  (.reg [⟨(some 44), (.bin .add .int (.tmp 29) (.const (.int .i64 1))), none⟩, ⟨(some 29), (.mv (.tmp 44)), none⟩]))))
noncomputable def pf108 : PF := ⟨54, [.tmp 6, .tmp 7], (.seq (.reg [⟨(some 6), (.mv (.const (.slice none 0 0))), none⟩, ⟨(some 7), (.mv (.const (.int .i64 0))), none⟩])
  (.seq (.seq (.reg [⟨(some 11), (.mv (.tmp 0)), none⟩, ⟨(some 12), (.mv (.tmp 1)), none⟩, ⟨(some 13), (.call 173 [(.tmp 11), (.tmp 12)]), none⟩, ⟨(some 14), (.un .not (.tmp 13)), none⟩])
  (.cond (.tmp 14) (.seq (.reg [⟨(some 6), (.mv (.const (.slice none 0 0))), none⟩, ⟨(some 7), (.mv (.const (.int .i64 1))), none⟩])
  .ret) .skip))
  (.seq (.seq (.reg [⟨(some 15), (.mv (.tmp 2)), none⟩, ⟨(some 16), (.len .sl (.tmp 15)), none⟩, ⟨(some 17), (.bin .gtr .int (.tmp 16) (.const (.int .i64 244))), none⟩])
  (.cond (.tmp 17) (.seq (.reg [⟨(some 6), (.mv (.const (.slice none 0 0))), none⟩, ⟨(some 7), (.mv (.const (.int .i64 2))), none⟩])
  .ret) .skip))
  (.seq (.reg [⟨(some 18), (.makeSlice 1 1 [(.int .u8 0)] (.const (.int .i64 256)) (.const (.int .i64 256))), none⟩, ⟨(some 8), (.mv (.tmp 18)), none⟩])
  (.seq (.reg [⟨(some 19), (.mv (.tmp 8)), none⟩, ⟨(some 20), (.slice (.sl 1) (.tmp 19) (some (.const (.int .i64 8))) none none), none⟩, ⟨(some 21), (.mv (.tmp 2)), none⟩, ⟨(some 22), (.copy 1 false (.tmp 20) (.tmp 21)), none⟩])
  (.seq (.seq (.reg [⟨(some 23), (.mv (.tmp 1)), none⟩, ⟨(some 24), (.build [(.int .i64 0), (.int .i64 0), (.int .i64 0)] [(0, 1), (1, 1), (2, 1)] [(0, (.const (.int .i64 0))), (1, (.const (.int .i64 4))), (2, (.tmp 23))]), none⟩, ⟨(some 25), (.mv (.tmp 0)), none⟩, ⟨(some 26), (.build [(.int .i64 0), (.int .i64 0), (.int .i64 0)] [(0, 1), (1, 1), (2, 1)] [(0, (.const (.int .i64 4))), (1, (.const (.int .i64 2))), (2, (.tmp 25))]), none⟩, ⟨(some 27), (.buildSlice 3 2 [(0, (.tmp 24)), (1, (.tmp 26))]), none⟩, ⟨(some 28), (.len .sl (.tmp 27)), none⟩, ⟨(some 29), (.mv (.const (.int .i64 0))), none⟩])
  (.block 0 (.loop pc108_0)))
  (.seq (.reg [⟨(some 46), (.mv (.tmp 8)), none⟩, ⟨(some 47), (.mv (.tmp 8)), none⟩, ⟨(some 48), (.mv (.tmp 0)), none⟩, ⟨(some 49), (.call 175 [(.tmp 47), (.tmp 48)]), none⟩, ⟨(some 50), (.call 174 [(.tmp 46), (.const (.int .i64 252)), (.const (.int .i64 4)), (.tmp 49)]), none⟩, ⟨(some 45), (.mv (.tmp 50)), none⟩, ⟨(some 51), (.extract (.tmp 45) 0), none⟩, ⟨(some 52), (.extract (.tmp 45) 1), none⟩, ⟨(some 8), (.mv (.tmp 51)), none⟩])
  (.seq (.reg [⟨(some 53), (.mv (.tmp 8)), none⟩, ⟨(some 6), (.mv (.tmp 53)), none⟩, ⟨(some 7), (.mv (.const (.int .i64 0))), none⟩])
  .ret))))))))⟩
theorem pf108_ok : pfOf Tryz.prog plan 108 = some pf108 := by kernel_rfl
theorem ok108 : fnOk Tryz.prog plan 108 = true := by kernel_rfl
/- 109 (*scantling/image.Image).Write -/
noncomputable def pf109 : PF := ⟨24, [.tmp 6], (.seq (.reg [⟨(some 6), (.mv (.const (.int .i64 0))), none⟩])
  (.seq (.reg [⟨(some 10), (.mv (.tmp 0)), none⟩, ⟨(some 11), (.mv (.tmp 1)), none⟩, ⟨(some 12), (.call 176 [(.tmp 10), (.tmp 11)]), none⟩, ⟨(some 9), (.mv (.tmp 12)), none⟩, ⟨(some 13), (.extract (.tmp 9) 0), none⟩, ⟨(some 14), (.extract (.tmp 9) 1), none⟩, ⟨(some 7), (.mv (.tmp 13)), none⟩, ⟨(some 8), (.mv (.tmp 14)), none⟩])
  (.seq (.seq (.reg [⟨(some 15), (.mv (.tmp 8)), none⟩, ⟨(some 16), (.bin .neq .int (.tmp 15) (.const (.int .i64 0))), none⟩])
  (.cond (.tmp 16) (.seq (.reg [⟨(some 17), (.mv (.tmp 8)), none⟩, ⟨(some 6), (.mv (.tmp 17)), none⟩])
  .ret) .skip))
  (.seq (.seq (.reg [⟨(some 18), (.mv (.tmp 2)), none⟩, ⟨(some 19), (.len .sl (.tmp 18)), none⟩, ⟨(some 20), (.bin .neq .int (.tmp 19) (.const (.int .i64 256))), none⟩])
  (.cond (.tmp 20) (.seq (.reg [⟨(some 6), (.mv (.const (.int .i64 1))), none⟩])
  .ret) .skip))
  (.seq (.reg [⟨(some 21), (.mv (.tmp 7)), none⟩, ⟨(some 22), (.mv (.tmp 2)), none⟩, ⟨(some 23), (.copy 1 false (.tmp 21) (.tmp 22)), none⟩])
  (.seq (.reg [⟨(some 6), (.mv (.const (.int .i64 0))), none⟩])
  .ret))))))⟩
theorem pf109_ok : pfOf Tryz.prog plan 109 = some pf109 := by kernel_rfl
theorem ok109 : fnOk Tryz.prog plan 109 = true := by kernel_rfl
/- 182 scantling/check.stages$1 -/
noncomputable def pf182 : PF := ⟨13, [.tmp 3], (.seq (.reg [⟨(some 3), (.mv (.const (.slice none 0 0))), none⟩])
  (.seq (.reg [⟨(some 5), (.mv (.tmp 0)), none⟩, ⟨(some 6), (.load none (.tmp 1)), none⟩, ⟨(some 7), (.call 183 [(.tmp 6)]), none⟩, ⟨(some 4), (.mv (.tmp 7)), none⟩, ⟨(some 8), (.extract (.tmp 4) 0), none⟩, ⟨(some 9), (.extract (.tmp 4) 1), none⟩, ⟨(some 10), (.nil (.tmp 5)), none⟩, ⟨(some 11), (.fieldAddr 0 (.tmp 10)), none⟩, ⟨none, (.store 11 (.tmp 11) (.tmp 8)), none⟩, ⟨(some 3), (.mv (.tmp 9)), none⟩])
  (.seq (.reg [⟨(some 12), (.mv (.tmp 3)), none⟩, ⟨(some 3), (.mv (.tmp 12)), none⟩])
  .ret)))⟩
theorem pf182_ok : pfOf Tryz.prog plan 182 = some pf182 := by kernel_rfl
theorem ok182 : fnOk Tryz.prog plan 182 = true := by kernel_rfl
/- 183 scantling/audit.Super -/
noncomputable def pf183 : PF := ⟨18, [.cell 2 (some 11), .tmp 3], (.seq (.reg [⟨(some 2), (.alloc 0 (List.replicate 11 (.int .i64 0))), none⟩, ⟨(some 3), (.mv (.const (.slice none 0 0))), none⟩])
  (.seq (.reg [⟨(some 7), (.mv (.tmp 0)), none⟩, ⟨(some 8), (.call 24 [(.tmp 7)]), none⟩, ⟨(some 6), (.mv (.tmp 8)), none⟩, ⟨(some 9), (.extract (.tmp 6) 0), none⟩, ⟨(some 10), (.extract (.tmp 6) 1), none⟩, ⟨(some 4), (.alloc 0 (List.replicate 11 (.int .i64 0))), none⟩, ⟨none, (.store 11 (.tmp 4) (.tmp 9)), none⟩, ⟨(some 5), (.mv (.tmp 10)), none⟩])
  (.seq (.seq (.reg [⟨(some 11), (.mv (.tmp 5)), none⟩, ⟨(some 12), (.bin .neq .ifc (.tmp 11) (.const .nilIface)), none⟩])
  (.cond (.tmp 12) (.seq (.reg [⟨(some 13), (.build (List.replicate 11 (.int .i64 0)) [(0, 1), (1, 1), (2, 1), (3, 1), (4, 1), (5, 1), (6, 1), (7, 1), (8, 1), (9, 1), (10, 1)] []), none⟩, ⟨(some 14), (.mv (.tmp 5)), none⟩, ⟨(some 15), (.call 248 [(.const (.int .i64 1)), (.tmp 14)]), none⟩, ⟨(some 16), (.buildSlice 3 1 [(0, (.tmp 15))]), none⟩, ⟨none, (.store 11 (.tmp 2) (.tmp 13)), none⟩, ⟨(some 3), (.mv (.tmp 16)), none⟩])
  .ret) .skip))
  (.seq (.reg [⟨(some 17), (.load (some 11) (.tmp 4)), none⟩, ⟨none, (.store 11 (.tmp 2) (.tmp 17)), none⟩, ⟨(some 3), (.mv (.const (.slice none 0 0))), none⟩])
  .ret))))⟩
theorem pf183_ok : pfOf Tryz.prog plan 183 = some pf183 := by kernel_rfl
theorem ok183 : fnOk Tryz.prog plan 183 = true := by kernel_rfl
/- 184 scantling/check.stages$2 -/
noncomputable def pf184 : PF := ⟨19, [.tmp 4], (.seq (.reg [⟨(some 4), (.mv (.const (.slice none 0 0))), none⟩])
  (.seq (.draw [(⟨(some 6), (.mv (.tmp 0)), none⟩, []), (⟨(some 8), (.mv (.tmp 0)), none⟩, []), (⟨(some 9), (.nil (.tmp 8)), none⟩, []), (⟨(some 10), (.fieldAddr 0 (.tmp 9)), none⟩, []), (⟨(some 7), (.load none (.tmp 1)), none⟩, []), (⟨(some 11), (.load (some 11) (.tmp 10)), none⟩, []), (⟨(some 12), (.load none (.tmp 2)), none⟩, []), (⟨(some 13), (.call 185 [(.tmp 7), (.tmp 11), (.tmp 12)]), none⟩, []), (⟨(some 5), (.mv (.tmp 13)), none⟩, []), (⟨(some 14), (.extract (.tmp 5) 0), none⟩, []), (⟨(some 15), (.extract (.tmp 5) 1), none⟩, []), (⟨(some 16), (.nil (.tmp 6)), none⟩, []), (⟨(some 17), (.fieldAddr 11 (.tmp 16)), none⟩, []), (⟨none, (.store 5 (.tmp 17) (.tmp 14)), none⟩, []), (⟨(some 4), (.mv (.tmp 15)), none⟩, [])])
  (.seq (.reg [⟨(some 18), (.mv (.tmp 4)), none⟩, ⟨(some 4), (.mv (.tmp 18)), none⟩])
  .ret)))⟩
theorem pf184_ok : pfOf Tryz.prog plan 184 = some pf184 := by kernel_rfl
theorem ok184 : fnOk Tryz.prog plan 184 = true := by kernel_rfl
/- 185 scantling/audit.Pool -/
noncomputable def pf185 : PF := ⟨77, [.cell 6 (some 5), .tmp 7], (.seq (.reg [⟨(some 4), (.box 0 (.tmp 1)), none⟩, ⟨(some 6), (.alloc 0 [(.int .i64 0), (.int .i64 0), (.int .i64 0), (.int .i64 0), (.slice none 0 0)]), none⟩, ⟨(some 7), (.mv (.const (.slice none 0 0))), none⟩])
  (.seq (.reg [⟨(some 10), (.mv (.tmp 0)), none⟩, ⟨(some 11), (.load (some 11) (.tmp 4)), none⟩, ⟨(some 12), (.mv (.tmp 2)), none⟩, ⟨(some 13), (.raw (.makeMap 367 none)), none⟩, ⟨(some 14), (.raw (.makeMap 368 none)), none⟩, ⟨(some 15), (.raw (.makeMap 369 none)), none⟩, ⟨(some 16), (.build [(.slice none 0 0), (.pointer none), (.int .i64 0), (.int .i64 0), (.int .i64 0), (.int .i64 0), (.int .i64 0), (.int .i64 0), (.int .i64 0), (.int .i64 0), (.int .i64 0), (.int .i64 0), (.int .i64 0), (.int .i64 0), (.map none), (.map none), (.map none)] [(0, 1), (1, 1), (2, 11), (13, 1), (14, 1), (15, 1), (16, 1)] [(1, (.tmp 10)), (2, (.tmp 11)), (3, (.tmp 12)), (4, (.tmp 13)), (5, (.tmp 14)), (6, (.tmp 15))]), none⟩, ⟨(some 17), (.box 0 (.tmp 16)), none⟩, ⟨(some 8), (.mv (.tmp 17)), none⟩])
  (.seq (.reg [⟨(some 18), (.mv (.tmp 8)), none⟩, ⟨(some 19), (.call 249 [(.tmp 18)]), none⟩])
  (.seq (.reg [⟨(some 20), (.mv (.tmp 8)), none⟩, ⟨(some 21), (.call 250 [(.tmp 20)]), none⟩])
  (.seq (.reg [⟨(some 22), (.fieldAddr 0 (.tmp 4)), none⟩, ⟨(some 23), (.load none (.tmp 22)), none⟩, ⟨(some 24), (.fieldAddr 1 (.tmp 4)), none⟩, ⟨(some 25), (.load none (.tmp 24)), none⟩, ⟨(some 26), (.fieldAddr 2 (.tmp 4)), none⟩, ⟨(some 27), (.load none (.tmp 26)), none⟩, ⟨(some 28), (.fieldAddr 3 (.tmp 4)), none⟩, ⟨(some 29), (.load none (.tmp 28)), none⟩, ⟨(some 30), (.build [(.int .i64 0), (.int .i64 0), (.int .i64 0), (.int .i64 0), (.slice none 0 0)] [(0, 1), (1, 1), (2, 1), (3, 1), (4, 1)] [(0, (.tmp 23)), (1, (.tmp 25)), (2, (.tmp 27)), (3, (.tmp 29))]), none⟩, ⟨(some 9), (.alloc 0 [(.int .i64 0), (.int .i64 0), (.int .i64 0), (.int .i64 0), (.slice none 0 0)]), none⟩, ⟨none, (.store 5 (.tmp 9) (.tmp 30)), none⟩])
  (.seq (.seq (.reg [⟨(some 31), (.mv (.tmp 8)), none⟩, ⟨(some 32), (.nil (.tmp 31)), none⟩, ⟨(some 33), (.fieldAddr 0 (.tmp 32)), none⟩, ⟨(some 34), (.fieldAddr 0 (.tmp 33)), none⟩, ⟨(some 35), (.load none (.tmp 34)), none⟩, ⟨(some 36), (.len .sl (.tmp 35)), none⟩, ⟨(some 37), (.bin .eql .int (.tmp 36) (.const (.int .i64 0))), none⟩])
  (.cond (.tmp 37) (.reg [⟨(some 38), (.mv (.tmp 8)), none⟩, ⟨(some 39), (.call 251 [(.tmp 38)]), none⟩, ⟨(some 40), (.fieldAddr 4 (.tmp 9)), none⟩, ⟨none, (.store 1 (.tmp 40) (.tmp 39)), none⟩]) .skip))
  (.seq (.seq (.reg [⟨(some 41), (.mv (.tmp 8)), none⟩, ⟨(some 42), (.nil (.tmp 41)), none⟩, ⟨(some 43), (.fieldAddr 0 (.tmp 42)), none⟩, ⟨(some 44), (.fieldAddr 0 (.tmp 43)), none⟩, ⟨(some 45), (.load none (.tmp 44)), none⟩, ⟨(some 46), (.len .sl (.tmp 45)), none⟩, ⟨(some 47), (.bin .eql .int (.tmp 46) (.const (.int .i64 0))), none⟩, ⟨(some 48), (.mv (.tmp 47)), none⟩, ⟨(some 49), (.fieldAddr 4 (.tmp 9)), (some ((some 48), true))⟩, ⟨(some 50), (.load none (.tmp 49)), (some ((some 48), true))⟩, ⟨(some 51), (.len .sl (.tmp 50)), (some ((some 48), true))⟩, ⟨(some 52), (.bin .gtr .int (.tmp 51) (.const (.int .i64 4096))), (some ((some 48), true))⟩, ⟨(some 53), (.mv (.tmp 52)), (some ((some 48), true))⟩, ⟨(some 54), (.load (some 5) (.tmp 9)), (some ((some 53), false))⟩, ⟨(some 55), (.call 21 [(.tmp 54)]), (some ((some 53), false))⟩, ⟨(some 56), (.bin .gtr .int (.tmp 55) (.const (.int .i64 16384))), (some ((some 53), false))⟩, ⟨(some 57), (.raw (.pick (.tmp 53) (.const (.bool true)) (.tmp 56))), (some ((some 48), true))⟩, ⟨(some 58), (.raw (.pick (.tmp 48) (.tmp 57) (.const (.bool false)))), none⟩])
  (.cond (.tmp 58) (.reg [⟨(some 59), (.mv (.tmp 8)), none⟩, ⟨(some 60), (.nil (.tmp 59)), none⟩, ⟨(some 61), (.fieldAddr 0 (.tmp 60)), none⟩, ⟨(some 62), (.call 252 [(.tmp 61), (.const (.int .i64 4)), (.const (.int .i64 0)), (.const (.int .i64 2))]), none⟩]) .skip))
  (.seq (.seq (.reg [⟨(some 63), (.mv (.tmp 8)), none⟩, ⟨(some 64), (.nil (.tmp 63)), none⟩, ⟨(some 65), (.fieldAddr 0 (.tmp 64)), none⟩, ⟨(some 66), (.fieldAddr 0 (.tmp 65)), none⟩, ⟨(some 67), (.load none (.tmp 66)), none⟩, ⟨(some 68), (.len .sl (.tmp 67)), none⟩, ⟨(some 69), (.bin .gtr .int (.tmp 68) (.const (.int .i64 0))), none⟩])
  (.cond (.tmp 69) (.seq (.draw [(⟨(some 70), (.build [(.int .i64 0), (.int .i64 0), (.int .i64 0), (.int .i64 0), (.slice none 0 0)] [(0, 1), (1, 1), (2, 1), (3, 1), (4, 1)] []), none⟩, []), (⟨(some 71), (.mv (.tmp 8)), none⟩, []), (⟨(some 72), (.nil (.tmp 71)), none⟩, []), (⟨(some 73), (.fieldAddr 0 (.tmp 72)), none⟩, []), (⟨(some 74), (.fieldAddr 0 (.tmp 73)), none⟩, []), (⟨(some 75), (.load none (.tmp 74)), none⟩, []), (⟨none, (.store 5 (.tmp 6) (.tmp 70)), none⟩, [⟨(some 75), (.load none (.tmp 74)), none⟩]), (⟨(some 7), (.mv (.tmp 75)), none⟩, [])])
  .ret) .skip))
  (.seq (.reg [⟨(some 76), (.load (some 5) (.tmp 9)), none⟩, ⟨none, (.store 5 (.tmp 6) (.tmp 76)), none⟩, ⟨(some 7), (.mv (.const (.slice none 0 0))), none⟩])
  .ret)))))))))⟩
theorem pf185_ok : pfOf Tryz.prog plan 185 = some pf185 := by kernel_rfl
theorem ok185 : fnOk Tryz.prog plan 185 = true := by kernel_rfl
/- 186 scantling/check.stages$3 -/
noncomputable def pf186 : PF := ⟨19, [.tmp 4], (.seq (.reg [⟨(some 4), (.mv (.const (.slice none 0 0))), none⟩])
  (.seq (.draw [(⟨(some 6), (.mv (.tmp 0)), none⟩, []), (⟨(some 8), (.mv (.tmp 0)), none⟩, []), (⟨(some 9), (.nil (.tmp 8)), none⟩, []), (⟨(some 10), (.fieldAddr 0 (.tmp 9)), none⟩, []), (⟨(some 7), (.load none (.tmp 1)), none⟩, []), (⟨(some 11), (.load (some 11) (.tmp 10)), none⟩, []), (⟨(some 12), (.load none (.tmp 2)), none⟩, []), (⟨(some 13), (.call 187 [(.tmp 7), (.tmp 11), (.tmp 12)]), none⟩, []), (⟨(some 5), (.mv (.tmp 13)), none⟩, []), (⟨(some 14), (.extract (.tmp 5) 0), none⟩, []), (⟨(some 15), (.extract (.tmp 5) 1), none⟩, []), (⟨(some 16), (.nil (.tmp 6)), none⟩, []), (⟨(some 17), (.fieldAddr 16 (.tmp 16)), none⟩, []), (⟨none, (.store 1 (.tmp 17) (.tmp 14)), none⟩, []), (⟨(some 4), (.mv (.tmp 15)), none⟩, [])])
  (.seq (.reg [⟨(some 18), (.mv (.tmp 4)), none⟩, ⟨(some 4), (.mv (.tmp 18)), none⟩])
  .ret)))⟩
theorem pf186_ok : pfOf Tryz.prog plan 186 = some pf186 := by kernel_rfl
theorem ok186 : fnOk Tryz.prog plan 186 = true := by kernel_rfl
/- 187 scantling/audit.Data -/
noncomputable def pf187 : PF := ⟨28, [.tmp 6, .tmp 7], (.seq (.reg [⟨(some 4), (.box 0 (.tmp 1)), none⟩, ⟨(some 6), (.mv (.const (.slice none 0 0))), none⟩, ⟨(some 7), (.mv (.const (.slice none 0 0))), none⟩])
  (.seq (.reg [⟨(some 11), (.mv (.tmp 0)), none⟩, ⟨(some 12), (.fieldAddr 7 (.tmp 4)), none⟩, ⟨(some 13), (.load none (.tmp 12)), none⟩, ⟨(some 14), (.fieldAddr 8 (.tmp 4)), none⟩, ⟨(some 15), (.load none (.tmp 14)), none⟩, ⟨(some 16), (.fieldAddr 3 (.tmp 4)), none⟩, ⟨(some 17), (.load none (.tmp 16)), none⟩, ⟨(some 18), (.mv (.tmp 2)), none⟩, ⟨(some 19), (.call 253 [(.tmp 11), (.tmp 13), (.tmp 15), (.tmp 17), (.tmp 18)]), none⟩, ⟨(some 10), (.mv (.tmp 19)), none⟩, ⟨(some 20), (.extract (.tmp 10) 0), none⟩, ⟨(some 21), (.extract (.tmp 10) 1), none⟩, ⟨(some 8), (.mv (.tmp 20)), none⟩, ⟨(some 9), (.mv (.tmp 21)), none⟩])
  (.seq (.seq (.reg [⟨(some 22), (.mv (.tmp 9)), none⟩, ⟨(some 23), (.bin .neq .ifc (.tmp 22) (.const .nilIface)), none⟩])
  (.cond (.tmp 23) (.seq (.reg [⟨(some 24), (.mv (.tmp 9)), none⟩, ⟨(some 25), (.call 248 [(.const (.int .i64 5)), (.tmp 24)]), none⟩, ⟨(some 26), (.buildSlice 3 1 [(0, (.tmp 25))]), none⟩, ⟨(some 6), (.mv (.const (.slice none 0 0))), none⟩, ⟨(some 7), (.mv (.tmp 26)), none⟩])
  .ret) .skip))
  (.seq (.reg [⟨(some 27), (.mv (.tmp 8)), none⟩, ⟨(some 6), (.mv (.tmp 27)), none⟩, ⟨(some 7), (.mv (.const (.slice none 0 0))), none⟩])
  .ret))))⟩
theorem pf187_ok : pfOf Tryz.prog plan 187 = some pf187 := by kernel_rfl
theorem ok187 : fnOk Tryz.prog plan 187 = true := by kernel_rfl
/- 188 scantling/check.stages$4 -/
noncomputable def pf188 : PF := ⟨19, [.tmp 4], (.seq (.reg [⟨(some 4), (.mv (.const (.slice none 0 0))), none⟩])
  (.seq (.draw [(⟨(some 6), (.mv (.tmp 0)), none⟩, []), (⟨(some 8), (.mv (.tmp 0)), none⟩, []), (⟨(some 9), (.nil (.tmp 8)), none⟩, []), (⟨(some 10), (.fieldAddr 0 (.tmp 9)), none⟩, []), (⟨(some 7), (.load none (.tmp 1)), none⟩, []), (⟨(some 11), (.load (some 11) (.tmp 10)), none⟩, []), (⟨(some 12), (.load none (.tmp 2)), none⟩, []), (⟨(some 13), (.call 189 [(.tmp 7), (.tmp 11), (.tmp 12)]), none⟩, []), (⟨(some 5), (.mv (.tmp 13)), none⟩, []), (⟨(some 14), (.extract (.tmp 5) 0), none⟩, []), (⟨(some 15), (.extract (.tmp 5) 1), none⟩, []), (⟨(some 16), (.nil (.tmp 6)), none⟩, []), (⟨(some 17), (.fieldAddr 17 (.tmp 16)), none⟩, []), (⟨none, (.store 1 (.tmp 17) (.tmp 14)), none⟩, []), (⟨(some 4), (.mv (.tmp 15)), none⟩, [])])
  (.seq (.reg [⟨(some 18), (.mv (.tmp 4)), none⟩, ⟨(some 4), (.mv (.tmp 18)), none⟩])
  .ret)))⟩
theorem pf188_ok : pfOf Tryz.prog plan 188 = some pf188 := by kernel_rfl
theorem ok188 : fnOk Tryz.prog plan 188 = true := by kernel_rfl
/- 189 scantling/audit.Meta -/
noncomputable def pf189 : PF := ⟨28, [.tmp 6, .tmp 7], (.seq (.reg [⟨(some 4), (.box 0 (.tmp 1)), none⟩, ⟨(some 6), (.mv (.const (.slice none 0 0))), none⟩, ⟨(some 7), (.mv (.const (.slice none 0 0))), none⟩])
  (.seq (.reg [⟨(some 11), (.mv (.tmp 0)), none⟩, ⟨(some 12), (.fieldAddr 9 (.tmp 4)), none⟩, ⟨(some 13), (.load none (.tmp 12)), none⟩, ⟨(some 14), (.fieldAddr 10 (.tmp 4)), none⟩, ⟨(some 15), (.load none (.tmp 14)), none⟩, ⟨(some 16), (.fieldAddr 4 (.tmp 4)), none⟩, ⟨(some 17), (.load none (.tmp 16)), none⟩, ⟨(some 18), (.mv (.tmp 2)), none⟩, ⟨(some 19), (.call 254 [(.tmp 11), (.tmp 13), (.tmp 15), (.tmp 17), (.tmp 18)]), none⟩, ⟨(some 10), (.mv (.tmp 19)), none⟩, ⟨(some 20), (.extract (.tmp 10) 0), none⟩, ⟨(some 21), (.extract (.tmp 10) 1), none⟩, ⟨(some 8), (.mv (.tmp 20)), none⟩, ⟨(some 9), (.mv (.tmp 21)), none⟩])
  (.seq (.seq (.reg [⟨(some 22), (.mv (.tmp 9)), none⟩, ⟨(some 23), (.bin .neq .ifc (.tmp 22) (.const .nilIface)), none⟩])
  (.cond (.tmp 23) (.seq (.reg [⟨(some 24), (.mv (.tmp 9)), none⟩, ⟨(some 25), (.call 248 [(.const (.int .i64 7)), (.tmp 24)]), none⟩, ⟨(some 26), (.buildSlice 3 1 [(0, (.tmp 25))]), none⟩, ⟨(some 6), (.mv (.const (.slice none 0 0))), none⟩, ⟨(some 7), (.mv (.tmp 26)), none⟩])
  .ret) .skip))
  (.seq (.reg [⟨(some 27), (.mv (.tmp 8)), none⟩, ⟨(some 6), (.mv (.tmp 27)), none⟩, ⟨(some 7), (.mv (.const (.slice none 0 0))), none⟩])
  .ret))))⟩
theorem pf189_ok : pfOf Tryz.prog plan 189 = some pf189 := by kernel_rfl
theorem ok189 : fnOk Tryz.prog plan 189 = true := by kernel_rfl
/- 190 scantling/check.stages$5 -/
noncomputable def pf190 : PF := ⟨13, [.tmp 2], (.seq (.reg [⟨(some 2), (.mv (.const (.slice none 0 0))), none⟩])
  (.seq (.draw [(⟨(some 3), (.mv (.tmp 0)), none⟩, []), (⟨(some 4), (.nil (.tmp 3)), none⟩, []), (⟨(some 5), (.fieldAddr 16 (.tmp 4)), none⟩, []), (⟨(some 7), (.mv (.tmp 0)), none⟩, []), (⟨(some 8), (.nil (.tmp 7)), none⟩, []), (⟨(some 9), (.fieldAddr 11 (.tmp 8)), none⟩, []), (⟨(some 6), (.load none (.tmp 5)), none⟩, []), (⟨(some 10), (.load (some 5) (.tmp 9)), none⟩, []), (⟨(some 11), (.call 77 [(.tmp 10)]), none⟩, [⟨(some 6), (.load none (.tmp 5)), none⟩]), (⟨(some 12), (.call 191 [(.const (.int .i64 6)), (.tmp 6), (.tmp 11)]), none⟩, []), (⟨(some 2), (.mv (.tmp 12)), none⟩, [])])
  .ret))⟩
theorem pf190_ok : pfOf Tryz.prog plan 190 = some pf190 := by kernel_rfl
theorem ok190 : fnOk Tryz.prog plan 190 = true := by kernel_rfl
/- 191 scantling/audit.Counts -/
noncomputable def pc191_0 : PCode := (.seq (.reg [⟨(some 15), (.bin .lss .int (.tmp 14) (.tmp 13)), none⟩])
  (.seq (.cond (.tmp 15) .skip (.exit 0))
  (.seq (.block 1 (.seq (.reg [⟨(some 16), (.indexAddr (.sl 1) (.tmp 12) (.tmp 14)), none⟩, ⟨(some 17), (.load none (.tmp 16)), none⟩, ⟨(some 9), (.mv (.tmp 17)), none⟩])
  (.reg [⟨(some 18), (.mv (.tmp 0)), none⟩, ⟨(some 19), (.mv (.tmp 9)), none⟩, ⟨(some 20), (.call 252 [(.tmp 7), (.tmp 18), (.tmp 19), (.const (.int .i64 13))]), none⟩])))
  (.reg [⟨(some 21), (.bin .add .int (.tmp 14) (.const (.int .i64 1))), none⟩, ⟨(some 14), (.mv (.tmp 21)), none⟩]))))
noncomputable def pf191 : PF := ⟨24, [.tmp 6], (.seq (.reg [⟨(some 6), (.mv (.const (.slice none 0 0))), none⟩])
  (.seq (.reg [⟨(some 7), (.alloc 0 [(.slice none 0 0)]), none⟩])
  (.seq (.seq (.reg [⟨(some 10), (.mv (.tmp 1)), none⟩, ⟨(some 11), (.mv (.tmp 2)), none⟩, ⟨(some 12), (.call 255 [(.tmp 10), (.tmp 11)]), none⟩, ⟨(some 13), (.len .sl (.tmp 12)), none⟩, ⟨(some 14), (.mv (.const (.int .i64 0))), none⟩])
  (.block 0 (.loop pc191_0)))
  (.seq (.reg [⟨(some 22), (.fieldAddr 0 (.tmp 7)), none⟩, ⟨(some 23), (.load none (.tmp 22)), none⟩, ⟨(some 6), (.mv (.tmp 23)), none⟩])
  .ret))))⟩
theorem pf191_ok : pfOf Tryz.prog plan 191 = some pf191 := by kernel_rfl
theorem ok191 : fnOk Tryz.prog plan 191 = true := by kernel_rfl
/- 192 scantling/check.stages$6 -/
noncomputable def pf192 : PF := ⟨7, [.tmp 3], (.seq (.reg [⟨(some 3), (.mv (.const (.slice none 0 0))), none⟩])
  (.seq (.reg [⟨(some 4), (.load none (.tmp 1)), none⟩, ⟨(some 5), (.mv (.tmp 0)), none⟩, ⟨(some 6), (.call 193 [(.tmp 4), (.tmp 5)]), none⟩, ⟨(some 3), (.mv (.tmp 6)), none⟩])
  .ret))⟩
theorem pf192_ok : pfOf Tryz.prog plan 192 = some pf192 := by kernel_rfl
theorem ok192 : fnOk Tryz.prog plan 192 = true := by kernel_rfl
/- 193 scantling/check.counts -/
noncomputable def pf193 : PF := ⟨27, [.tmp 4], (.seq (.reg [⟨(some 4), (.mv (.const (.slice none 0 0))), none⟩])
  (.seq (.reg [⟨(some 8), (.mv (.tmp 0)), none⟩, ⟨(some 9), (.mv (.tmp 1)), none⟩, ⟨(some 10), (.nil (.tmp 9)), none⟩, ⟨(some 11), (.fieldAddr 0 (.tmp 10)), none⟩, ⟨(some 12), (.load (some 11) (.tmp 11)), none⟩, ⟨(some 13), (.call 25 [(.tmp 8), (.tmp 12)]), none⟩, ⟨(some 7), (.mv (.tmp 13)), none⟩, ⟨(some 14), (.extract (.tmp 7) 0), none⟩, ⟨(some 15), (.extract (.tmp 7) 1), none⟩, ⟨(some 5), (.mv (.tmp 14)), none⟩, ⟨(some 6), (.mv (.tmp 15)), none⟩])
  (.seq (.seq (.reg [⟨(some 16), (.mv (.tmp 6)), none⟩, ⟨(some 17), (.bin .neq .ifc (.tmp 16) (.const .nilIface)), none⟩])
  (.cond (.tmp 17) (.seq (.reg [⟨(some 18), (.mv (.tmp 6)), none⟩, ⟨(some 19), (.call 248 [(.const (.int .i64 7)), (.tmp 18)]), none⟩, ⟨(some 20), (.buildSlice 3 1 [(0, (.tmp 19))]), none⟩, ⟨(some 4), (.mv (.tmp 20)), none⟩])
  .ret) .skip))
  (.seq (.reg [⟨(some 21), (.mv (.tmp 1)), none⟩, ⟨(some 22), (.nil (.tmp 21)), none⟩, ⟨(some 23), (.fieldAddr 17 (.tmp 22)), none⟩, ⟨(some 24), (.load none (.tmp 23)), none⟩, ⟨(some 25), (.mv (.tmp 5)), none⟩, ⟨(some 26), (.call 191 [(.const (.int .i64 8)), (.tmp 24), (.tmp 25)]), none⟩, ⟨(some 4), (.mv (.tmp 26)), none⟩])
  .ret))))⟩
theorem pf193_ok : pfOf Tryz.prog plan 193 = some pf193 := by kernel_rfl
theorem ok193 : fnOk Tryz.prog plan 193 = true := by kernel_rfl
/- 176 (*scantling/image.Image).block -/
noncomputable def pf176 : PF := ⟨33, [.tmp 4, .tmp 5], (.seq (.reg [⟨(some 4), (.mv (.const (.slice none 0 0))), none⟩, ⟨(some 5), (.mv (.const (.int .i64 0))), none⟩])
  (.seq (.block 0 (.seq (.reg [⟨(some 9), (.mv (.tmp 0)), none⟩, ⟨(some 10), (.bin .eql .ptr (.tmp 9) (.const (.pointer none))), none⟩, ⟨(some 8), (.mv (.tmp 10)), none⟩])
  (.cond (.tmp 8) (.seq (.reg [⟨(some 4), (.mv (.const (.slice none 0 0))), none⟩, ⟨(some 5), (.mv (.const (.int .i64 18))), none⟩])
  .ret) (.seq (.reg [⟨(some 12), (.mv (.tmp 1)), none⟩, ⟨(some 13), (.bin .lss .int (.tmp 12) (.const (.int .i64 0))), none⟩, ⟨(some 14), (.mv (.tmp 13)), none⟩, ⟨(some 15), (.mv (.tmp 1)), (some ((some 14), false))⟩, ⟨(some 16), (.mv (.tmp 0)), (some ((some 14), false))⟩, ⟨(some 17), (.call 68 [(.tmp 16)]), (some ((some 14), false))⟩, ⟨(some 18), (.bin .geq .int (.tmp 15) (.tmp 17)), (some ((some 14), false))⟩, ⟨(some 19), (.raw (.pick (.tmp 14) (.const (.bool true)) (.tmp 18))), none⟩, ⟨(some 11), (.mv (.tmp 19)), none⟩])
  (.cond (.tmp 11) (.seq (.reg [⟨(some 4), (.mv (.const (.slice none 0 0))), none⟩, ⟨(some 5), (.mv (.const (.int .i64 3))), none⟩])
  .ret) .skip)))))
  (.seq (.reg [⟨(some 20), (.mv (.tmp 1)), none⟩, ⟨(some 21), (.bin .mul .int (.tmp 20) (.const (.int .i64 256))), none⟩, ⟨(some 22), (.mv (.tmp 1)), none⟩, ⟨(some 23), (.bin .add .int (.tmp 22) (.const (.int .i64 1))), none⟩, ⟨(some 24), (.bin .mul .int (.tmp 23) (.const (.int .i64 256))), none⟩, ⟨(some 6), (.mv (.tmp 21)), none⟩, ⟨(some 7), (.mv (.tmp 24)), none⟩])
  (.seq (.reg [⟨(some 25), (.mv (.tmp 0)), none⟩, ⟨(some 26), (.nil (.tmp 25)), none⟩, ⟨(some 27), (.fieldAddr 0 (.tmp 26)), none⟩, ⟨(some 28), (.load none (.tmp 27)), none⟩, ⟨(some 29), (.mv (.tmp 6)), none⟩, ⟨(some 30), (.mv (.tmp 7)), none⟩, ⟨(some 31), (.mv (.tmp 7)), none⟩, ⟨(some 32), (.slice (.sl 1) (.tmp 28) (some (.tmp 29)) (some (.tmp 30)) (some (.tmp 31))), none⟩, ⟨(some 4), (.mv (.tmp 32)), none⟩, ⟨(some 5), (.mv (.const (.int .i64 0))), none⟩])
  .ret))))⟩
theorem pf176_ok : pfOf Tryz.prog plan 176 = some pf176 := by kernel_rfl
theorem ok176 : fnOk Tryz.prog plan 176 = true := by kernel_rfl
/- 194 scantling/seal.Open$1 -/
noncomputable def pf194 : PF := ⟨7, [.tmp 2], (.seq (.reg [⟨(some 2), (.mv (.const (.bool false))), none⟩])
  (.seq (.reg [⟨(some 3), (.load none (.tmp 0)), none⟩, ⟨(some 4), (.load none (.tmp 1)), none⟩, ⟨(some 5), (.call 173 [(.tmp 3), (.tmp 4)]), none⟩, ⟨(some 6), (.un .not (.tmp 5)), none⟩, ⟨(some 2), (.mv (.tmp 6)), none⟩])
  .ret))⟩
theorem pf194_ok : pfOf Tryz.prog plan 194 = some pf194 := by kernel_rfl
theorem ok194 : fnOk Tryz.prog plan 194 = true := by kernel_rfl
/- 173 scantling/seal.known -/
noncomputable def pf173 : PF := ⟨19, [.tmp 4], (.seq (.reg [⟨(some 4), (.mv (.const (.bool false))), none⟩])
  (.seq (.reg [⟨(some 5), (.mv (.tmp 0)), none⟩, ⟨(some 6), (.bin .geq .int (.tmp 5) (.const (.int .i64 1))), none⟩, ⟨(some 7), (.mv (.tmp 6)), none⟩, ⟨(some 8), (.mv (.tmp 0)), (some ((some 7), true))⟩, ⟨(some 9), (.bin .leq .int (.tmp 8) (.const (.int .i64 4))), (some ((some 7), true))⟩, ⟨(some 10), (.raw (.pick (.tmp 7) (.tmp 9) (.const (.bool false)))), none⟩, ⟨(some 11), (.mv (.tmp 10)), none⟩, ⟨(some 12), (.mv (.tmp 1)), (some ((some 11), true))⟩, ⟨(some 13), (.bin .geq .int (.tmp 12) (.const (.int .i64 0))), (some ((some 11), true))⟩, ⟨(some 14), (.raw (.pick (.tmp 11) (.tmp 13) (.const (.bool false)))), none⟩, ⟨(some 15), (.mv (.tmp 14)), none⟩, ⟨(some 16), (.mv (.tmp 1)), (some ((some 15), true))⟩, ⟨(some 17), (.bin .lss .int (.tmp 16) (.const (.int .i64 14400))), (some ((some 15), true))⟩, ⟨(some 18), (.raw (.pick (.tmp 15) (.tmp 17) (.const (.bool false)))), none⟩, ⟨(some 4), (.mv (.tmp 18)), none⟩])
  .ret))⟩
theorem pf173_ok : pfOf Tryz.prog plan 173 = some pf173 := by kernel_rfl
theorem ok173 : fnOk Tryz.prog plan 173 = true := by kernel_rfl
/- 195 scantling/seal.Open$2 -/
noncomputable def pf195 : PF := ⟨5, [.tmp 1], (.seq (.reg [⟨(some 1), (.mv (.const (.bool false))), none⟩])
  (.seq (.reg [⟨(some 2), (.load none (.tmp 0)), none⟩, ⟨(some 3), (.len .sl (.tmp 2)), none⟩, ⟨(some 4), (.bin .neq .int (.tmp 3) (.const (.int .i64 256))), none⟩, ⟨(some 1), (.mv (.tmp 4)), none⟩])
  .ret))⟩
theorem pf195_ok : pfOf Tryz.prog plan 195 = some pf195 := by kernel_rfl
theorem ok195 : fnOk Tryz.prog plan 195 = true := by kernel_rfl
/- 196 scantling/seal.Open$3 -/
noncomputable def pf196 : PF := ⟨9, [.tmp 2], (.seq (.reg [⟨(some 2), (.mv (.const (.bool false))), none⟩])
  (.seq (.draw [(⟨(some 3), (.load none (.tmp 0)), none⟩, []), (⟨(some 5), (.load none (.tmp 0)), none⟩, []), (⟨(some 6), (.load none (.tmp 1)), none⟩, []), (⟨(some 4), (.call 197 [(.tmp 3), (.const (.int .i64 252)), (.const (.int .i64 4))]), none⟩, [⟨(some 5), (.load none (.tmp 0)), none⟩, ⟨(some 6), (.load none (.tmp 1)), none⟩]), (⟨(some 7), (.call 175 [(.tmp 5), (.tmp 6)]), none⟩, []), (⟨(some 8), (.bin .neq .int (.tmp 4) (.tmp 7)), none⟩, []), (⟨(some 2), (.mv (.tmp 8)), none⟩, [])])
  .ret))⟩
theorem pf196_ok : pfOf Tryz.prog plan 196 = some pf196 := by kernel_rfl
theorem ok196 : fnOk Tryz.prog plan 196 = true := by kernel_rfl
/- 197 scantling/seal.told -/
noncomputable def pf197 : PF := ⟨17, [.tmp 6], (.seq (.reg [⟨(some 6), (.mv (.const (.int .i64 0))), none⟩])
  (.seq (.reg [⟨(some 10), (.mv (.tmp 0)), none⟩, ⟨(some 11), (.mv (.tmp 1)), none⟩, ⟨(some 12), (.mv (.tmp 2)), none⟩, ⟨(some 13), (.call 117 [(.tmp 10), (.tmp 11), (.tmp 12)]), none⟩, ⟨(some 9), (.mv (.tmp 13)), none⟩, ⟨(some 14), (.extract (.tmp 9) 0), none⟩, ⟨(some 15), (.extract (.tmp 9) 1), none⟩, ⟨(some 7), (.mv (.tmp 14)), none⟩, ⟨(some 8), (.mv (.tmp 15)), none⟩])
  (.seq (.reg [⟨(some 16), (.mv (.tmp 7)), none⟩, ⟨(some 6), (.mv (.tmp 16)), none⟩])
  .ret)))⟩
theorem pf197_ok : pfOf Tryz.prog plan 197 = some pf197 := by kernel_rfl
theorem ok197 : fnOk Tryz.prog plan 197 = true := by kernel_rfl
/- 175 scantling/seal.sum -/
noncomputable def pf175 : PF := ⟨12, [.tmp 4], (.seq (.reg [⟨(some 4), (.mv (.const (.int .i64 0))), none⟩])
  (.seq (.reg [⟨(some 5), (.mv (.tmp 0)), none⟩, ⟨(some 6), (.slice (.sl 1) (.tmp 5) none (some (.const (.int .i64 252))) none), none⟩, ⟨(some 7), (.buildSlice 1 1 [(0, (.tmp 6))]), none⟩, ⟨(some 8), (.call 243 [(.tmp 7)]), none⟩, ⟨(some 9), (.mv (.tmp 1)), none⟩, ⟨(some 10), (.call 244 [(.tmp 9)]), none⟩, ⟨(some 11), (.bin .xor .int (.tmp 8) (.tmp 10)), none⟩, ⟨(some 4), (.mv (.tmp 11)), none⟩])
  .ret))⟩
theorem pf175_ok : pfOf Tryz.prog plan 175 = some pf175 := by kernel_rfl
theorem ok175 : fnOk Tryz.prog plan 175 = true := by kernel_rfl
/- 198 scantling/seal.Open$4 -/
noncomputable def pf198 : PF := ⟨7, [.tmp 2], (.seq (.reg [⟨(some 2), (.mv (.const (.bool false))), none⟩])
  (.seq (.draw [(⟨(some 3), (.load none (.tmp 0)), none⟩, []), (⟨(some 5), (.load none (.tmp 1)), none⟩, []), (⟨(some 4), (.call 197 [(.tmp 3), (.const (.int .i64 0)), (.const (.int .i64 4))]), none⟩, [⟨(some 5), (.load none (.tmp 1)), none⟩]), (⟨(some 6), (.bin .neq .int (.tmp 4) (.tmp 5)), none⟩, []), (⟨(some 2), (.mv (.tmp 6)), none⟩, [])])
  .ret))⟩
theorem pf198_ok : pfOf Tryz.prog plan 198 = some pf198 := by kernel_rfl
theorem ok198 : fnOk Tryz.prog plan 198 = true := by kernel_rfl
/- 199 scantling/seal.Open$5 -/
noncomputable def pf199 : PF := ⟨7, [.tmp 2], (.seq (.reg [⟨(some 2), (.mv (.const (.bool false))), none⟩])
  (.seq (.draw [(⟨(some 3), (.load none (.tmp 0)), none⟩, []), (⟨(some 5), (.load none (.tmp 1)), none⟩, []), (⟨(some 4), (.call 197 [(.tmp 3), (.const (.int .i64 4)), (.const (.int .i64 2))]), none⟩, [⟨(some 5), (.load none (.tmp 1)), none⟩]), (⟨(some 6), (.bin .neq .int (.tmp 4) (.tmp 5)), none⟩, []), (⟨(some 2), (.mv (.tmp 6)), none⟩, [])])
  .ret))⟩
theorem pf199_ok : pfOf Tryz.prog plan 199 = some pf199 := by kernel_rfl
theorem ok199 : fnOk Tryz.prog plan 199 = true := by kernel_rfl
/- 200 scantling/seal.Open$6 -/
noncomputable def pf200 : PF := ⟨5, [.tmp 1], (.seq (.reg [⟨(some 1), (.mv (.const (.bool false))), none⟩])
  (.seq (.reg [⟨(some 2), (.load none (.tmp 0)), none⟩, ⟨(some 3), (.call 197 [(.tmp 2), (.const (.int .i64 6)), (.const (.int .i64 2))]), none⟩, ⟨(some 4), (.bin .neq .int (.tmp 3) (.const (.int .i64 0))), none⟩, ⟨(some 1), (.mv (.tmp 4)), none⟩])
  .ret))⟩
theorem pf200_ok : pfOf Tryz.prog plan 200 = some pf200 := by kernel_rfl
theorem ok200 : fnOk Tryz.prog plan 200 = true := by kernel_rfl
/- 201 scantling/code.there -/
noncomputable def pf201 : PF := ⟨28, [.tmp 6], (.seq (.reg [⟨(some 6), (.mv (.const (.int .i64 0))), none⟩])
  (.seq (.block 0 (.seq (.reg [⟨(some 8), (.mv (.tmp 2)), none⟩, ⟨(some 9), (.call 170 [(.tmp 8)]), none⟩, ⟨(some 10), (.un .not (.tmp 9)), none⟩, ⟨(some 7), (.mv (.tmp 10)), none⟩])
  (.cond (.tmp 7) (.seq (.reg [⟨(some 6), (.mv (.const (.int .i64 1))), none⟩])
  .ret) (.seq (.reg [⟨(some 12), (.mv (.tmp 1)), none⟩, ⟨(some 13), (.bin .lss .int (.tmp 12) (.const (.int .i64 0))), none⟩, ⟨(some 14), (.mv (.tmp 13)), none⟩, ⟨(some 15), (.mv (.tmp 1)), (some ((some 14), false))⟩, ⟨(some 16), (.mv (.tmp 0)), (some ((some 14), false))⟩, ⟨(some 17), (.len .sl (.tmp 16)), (some ((some 14), false))⟩, ⟨(some 18), (.bin .gtr .int (.tmp 15) (.tmp 17)), (some ((some 14), false))⟩, ⟨(some 19), (.raw (.pick (.tmp 14) (.const (.bool true)) (.tmp 18))), none⟩, ⟨(some 20), (.mv (.tmp 19)), none⟩, ⟨(some 21), (.mv (.tmp 0)), (some ((some 20), false))⟩, ⟨(some 22), (.len .sl (.tmp 21)), (some ((some 20), false))⟩, ⟨(some 23), (.mv (.tmp 1)), (some ((some 20), false))⟩, ⟨(some 24), (.bin .sub .int (.tmp 22) (.tmp 23)), (some ((some 20), false))⟩, ⟨(some 25), (.mv (.tmp 2)), (some ((some 20), false))⟩, ⟨(some 26), (.bin .lss .int (.tmp 24) (.tmp 25)), (some ((some 20), false))⟩, ⟨(some 27), (.raw (.pick (.tmp 20) (.const (.bool true)) (.tmp 26))), none⟩, ⟨(some 11), (.mv (.tmp 27)), none⟩])
  (.cond (.tmp 11) (.seq (.reg [⟨(some 6), (.mv (.const (.int .i64 3))), none⟩])
  .ret) .skip)))))
  (.seq (.reg [⟨(some 6), (.mv (.const (.int .i64 0))), none⟩])
  .ret)))⟩
theorem pf201_ok : pfOf Tryz.prog plan 201 = some pf201 := by kernel_rfl
theorem ok201 : fnOk Tryz.prog plan 201 = true := by kernel_rfl
/- 202 scantling/block.Index -/
noncomputable def pf202 : PF := ⟨11, [.tmp 4, .tmp 5], (.seq (.reg [⟨(some 4), (.mv (.const (.slice none 0 0))), none⟩, ⟨(some 5), (.mv (.const .nilIface)), none⟩])
  (.seq (.reg [⟨(some 6), (.mv (.tmp 0)), none⟩, ⟨(some 7), (.mv (.tmp 1)), none⟩, ⟨(some 8), (.call 256 [(.tmp 6), (.tmp 7), (.const (.int .i64 4)), (.func 257)]), none⟩, ⟨(some 9), (.extract (.tmp 8) 0), none⟩, ⟨(some 10), (.extract (.tmp 8) 1), none⟩, ⟨(some 4), (.mv (.tmp 9)), none⟩, ⟨(some 5), (.mv (.tmp 10)), none⟩])
  .ret))⟩
theorem pf202_ok : pfOf Tryz.prog plan 202 = some pf202 := by kernel_rfl
theorem ok202 : fnOk Tryz.prog plan 202 = true := by kernel_rfl
/- 203 scantling/fault.First -/
noncomputable def pc203_0 : PCode := (.seq (.reg [⟨(some 8), (.bin .lss .int (.tmp 7) (.tmp 6)), none⟩])
  (.seq (.cond (.tmp 8) .skip (.exit 0))
  (.seq (.block 1 (.seq (.reg [⟨(some 9), (.indexAddr (.sl 1) (.tmp 5) (.tmp 7)), none⟩, ⟨(some 10), (.load none (.tmp 9)), none⟩, ⟨(some 4), (.mv (.tmp 10)), none⟩])
  (.seq (.reg [⟨(some 11), (.mv (.tmp 4)), none⟩, ⟨(some 12), (.bin .neq .ifc (.tmp 11) (.const .nilIface)), none⟩])
  (.cond (.tmp 12) (.seq (.reg [⟨(some 13), (.mv (.tmp 4)), none⟩, ⟨(some 2), (.mv (.tmp 13)), none⟩])
  .ret) .skip))))
  (.reg [⟨(some 14), (.bin .add .int (.tmp 7) (.const (.int .i64 1))), none⟩, ⟨(some 7), (.mv (.tmp 14)), none⟩]))))
noncomputable def pf203 : PF := ⟨15, [.tmp 2], (.seq (.reg [⟨(some 2), (.mv (.const .nilIface)), none⟩])
  (.seq (.seq (.reg [⟨(some 5), (.mv (.tmp 0)), none⟩, ⟨(some 6), (.len .sl (.tmp 5)), none⟩, ⟨(some 7), (.mv (.const (.int .i64 0))), none⟩])
  (.block 0 (.loop pc203_0)))
  (.seq (.reg [⟨(some 2), (.mv (.const .nilIface)), none⟩])
  .ret)))⟩
theorem pf203_ok : pfOf Tryz.prog plan 203 = some pf203 := by kernel_rfl
theorem ok203 : fnOk Tryz.prog plan 203 = true := by kernel_rfl
/- 204 (*scantling/reach.reacher).slots -/
noncomputable def pc204_0 : PCode := (.seq (.reg [⟨(some 11), (.bin .lss .int (.tmp 10) (.tmp 9)), none⟩])
  (.seq (.cond (.tmp 11) .skip (.exit 0))
  (.seq (.block 1 (.seq (.reg [⟨(some 12), (.indexAddr (.sl 3) (.tmp 8) (.tmp 10)), none⟩, ⟨(some 13), (.load (some 3) (.tmp 12)), none⟩, ⟨(some 6), (.alloc 0 [(.int .i64 0), (.int .i64 0), (.int .i64 0)]), none⟩, ⟨none, (.store 3 (.tmp 6) (.tmp 13)), none⟩])
  (.seq (.reg [⟨(some 14), (.mv (.tmp 0)), none⟩, ⟨(some 15), (.fieldAddr 0 (.tmp 6)), none⟩, ⟨(some 16), (.load none (.tmp 15)), none⟩, ⟨(some 17), (.call 72 [(.tmp 14), (.tmp 16), (.const (.int .i64 (-2)))]), none⟩, ⟨(some 7), (.mv (.tmp 17)), none⟩])
  (.seq (.reg [⟨(some 18), (.mv (.tmp 7)), none⟩, ⟨(some 19), (.bin .neq .ifc (.tmp 18) (.const .nilIface)), none⟩])
  (.cond (.tmp 19) (.seq (.reg [⟨(some 20), (.mv (.tmp 7)), none⟩, ⟨(some 4), (.mv (.tmp 20)), none⟩])
  .ret) .skip)))))
  (.reg [⟨(some 21), (.bin .add .int (.tmp 10) (.const (.int .i64 1))), none⟩, ⟨(some 10), (.mv (.tmp 21)), none⟩]))))
noncomputable def pf204 : PF := ⟨22, [.tmp 4], (.seq (.reg [⟨(some 4), (.mv (.const .nilIface)), none⟩])
  (.seq (.seq (.reg [⟨(some 8), (.mv (.tmp 1)), none⟩, ⟨(some 9), (.len .sl (.tmp 8)), none⟩, ⟨(some 10), (.mv (.const (.int .i64 0))), none⟩])
  (.block 0 (.loop pc204_0)))
  (.seq (.reg [⟨(some 4), (.mv (.const .nilIface)), none⟩])
  .ret)))⟩
theorem pf204_ok : pfOf Tryz.prog plan 204 = some pf204 := by kernel_rfl
theorem ok204 : fnOk Tryz.prog plan 204 = true := by kernel_rfl
/- 205 scantling/block.Bits -/
noncomputable def pf205 : PF := ⟨11, [.tmp 4, .tmp 5], (.seq (.reg [⟨(some 4), (.mv (.const (.slice none 0 0))), none⟩, ⟨(some 5), (.mv (.const .nilIface)), none⟩])
  (.seq (.reg [⟨(some 6), (.mv (.tmp 0)), none⟩, ⟨(some 7), (.mv (.tmp 1)), none⟩, ⟨(some 8), (.call 258 [(.tmp 6), (.tmp 7), (.const (.int .i64 3)), (.func 259)]), none⟩, ⟨(some 9), (.extract (.tmp 8) 0), none⟩, ⟨(some 10), (.extract (.tmp 8) 1), none⟩, ⟨(some 4), (.mv (.tmp 9)), none⟩, ⟨(some 5), (.mv (.tmp 10)), none⟩])
  .ret))⟩
theorem pf205_ok : pfOf Tryz.prog plan 205 = some pf205 := by kernel_rfl
theorem ok205 : fnOk Tryz.prog plan 205 = true := by kernel_rfl
/- 207 scantling/node.shape -/
noncomputable def pf207 : PF := ⟨92, [.cell 2 (some 4), .tmp 3, .tmp 4], (.seq (.reg [⟨(some 2), (.alloc 0 [(.int .i64 0), (.bool false), (.slice none 0 0), (.slice none 0 0)]), none⟩, ⟨(some 3), (.mv (.const (.int .i64 0))), none⟩, ⟨(some 4), (.mv (.const (.bool false))), none⟩])
  (.seq (.seq (.reg [⟨(some 11), (.mv (.tmp 0)), none⟩, ⟨(some 12), (.len .sl (.tmp 11)), none⟩, ⟨(some 13), (.bin .neq .int (.tmp 12) (.const (.int .i64 244))), none⟩])
  (.cond (.tmp 13) (.seq (.reg [⟨(some 14), (.build [(.int .i64 0), (.bool false), (.slice none 0 0), (.slice none 0 0)] [(0, 1), (1, 1), (2, 1), (3, 1)] []), none⟩, ⟨none, (.store 4 (.tmp 2) (.tmp 14)), none⟩, ⟨(some 3), (.mv (.const (.int .i64 0))), none⟩, ⟨(some 4), (.mv (.const (.bool false))), none⟩])
  .ret) .skip))
  (.seq (.reg [⟨(some 16), (.mv (.tmp 0)), none⟩, ⟨(some 17), (.buildSlice 1 6 [(0, (.const (.int .i64 1))), (1, (.const (.int .i64 1))), (2, (.const (.int .i64 2))), (3, (.const (.int .i64 2))), (4, (.const (.int .i64 2))), (5, (.const (.int .i64 4)))]), none⟩, ⟨(some 18), (.call 262 [(.tmp 16), (.tmp 17)]), none⟩, ⟨(some 15), (.mv (.tmp 18)), none⟩, ⟨(some 19), (.extract (.tmp 15) 0), none⟩, ⟨(some 20), (.extract (.tmp 15) 1), none⟩, ⟨(some 5), (.mv (.tmp 19)), none⟩, ⟨(some 6), (.mv (.tmp 20)), none⟩])
  (.seq (.draw [(⟨(some 21), (.mv (.tmp 5)), none⟩, []), (⟨(some 22), (.indexAddr (.sl 1) (.tmp 21) (.const (.int .i64 1))), none⟩, []), (⟨(some 24), (.mv (.tmp 5)), none⟩, []), (⟨(some 25), (.indexAddr (.sl 1) (.tmp 24) (.const (.int .i64 0))), none⟩, []), (⟨(some 23), (.load none (.tmp 22)), none⟩, []), (⟨(some 26), (.load none (.tmp 25)), none⟩, []), (⟨(some 27), (.bin .eql .int (.tmp 26) (.const (.int .i64 1))), none⟩, []), (⟨(some 28), (.build [(.int .i64 0), (.bool false), (.slice none 0 0), (.slice none 0 0)] [(0, 1), (1, 1), (2, 1), (3, 1)] [(0, (.tmp 23)), (1, (.tmp 27))]), none⟩, []), (⟨(some 7), (.alloc 0 [(.int .i64 0), (.bool false), (.slice none 0 0), (.slice none 0 0)]), none⟩, [⟨(some 23), (.load none (.tmp 22)), none⟩, ⟨(some 26), (.load none (.tmp 25)), none⟩]), (⟨none, (.store 4 (.tmp 7) (.tmp 28)), none⟩, [])])
  (.seq (.seq (.reg [⟨(some 29), (.mv (.tmp 5)), none⟩, ⟨(some 30), (.indexAddr (.sl 1) (.tmp 29) (.const (.int .i64 0))), none⟩, ⟨(some 31), (.load none (.tmp 30)), none⟩, ⟨(some 32), (.bin .gtr .int (.tmp 31) (.const (.int .i64 1))), none⟩, ⟨(some 33), (.mv (.tmp 32)), none⟩, ⟨(some 34), (.fieldAddr 0 (.tmp 7)), (some ((some 33), false))⟩, ⟨(some 35), (.load none (.tmp 34)), (some ((some 33), false))⟩, ⟨(some 36), (.fieldAddr 1 (.tmp 7)), (some ((some 33), false))⟩, ⟨(some 37), (.load none (.tmp 36)), (some ((some 33), false))⟩, ⟨(some 38), (.call 126 [(.tmp 35), (.tmp 37)]), (some ((some 33), false))⟩, ⟨(some 39), (.bin .eql .int (.tmp 38) (.const (.int .i64 0))), (some ((some 33), false))⟩, ⟨(some 40), (.raw (.pick (.tmp 33) (.const (.bool true)) (.tmp 39))), none⟩])
  (.cond (.tmp 40) (.seq (.reg [⟨(some 41), (.build [(.int .i64 0), (.bool false), (.slice none 0 0), (.slice none 0 0)] [(0, 1), (1, 1), (2, 1), (3, 1)] []), none⟩, ⟨none, (.store 4 (.tmp 2) (.tmp 41)), none⟩, ⟨(some 3), (.mv (.const (.int .i64 0))), none⟩, ⟨(some 4), (.mv (.const (.bool false))), none⟩])
  .ret) .skip))
  (.seq (.draw [(⟨(some 42), (.fieldAddr 0 (.tmp 7)), none⟩, []), (⟨(some 44), (.fieldAddr 1 (.tmp 7)), none⟩, []), (⟨(some 47), (.fieldAddr 0 (.tmp 7)), none⟩, []), (⟨(some 49), (.fieldAddr 1 (.tmp 7)), none⟩, []), (⟨(some 43), (.load none (.tmp 42)), none⟩, []), (⟨(some 45), (.load none (.tmp 44)), none⟩, []), (⟨(some 48), (.load none (.tmp 47)), none⟩, []), (⟨(some 50), (.load none (.tmp 49)), none⟩, []), (⟨(some 46), (.call 126 [(.tmp 43), (.tmp 45)]), none⟩, [⟨(some 48), (.load none (.tmp 47)), none⟩, ⟨(some 50), (.load none (.tmp 49)), none⟩]), (⟨(some 51), (.call 75 [(.tmp 48), (.tmp 50)]), none⟩, []), (⟨(some 8), (.mv (.tmp 46)), none⟩, []), (⟨(some 9), (.mv (.tmp 51)), none⟩, [])])
  (.seq (.reg [⟨(some 52), (.mv (.tmp 5)), none⟩, ⟨(some 53), (.indexAddr (.sl 1) (.tmp 52) (.const (.int .i64 2))), none⟩, ⟨(some 54), (.load none (.tmp 53)), none⟩, ⟨(some 55), (.mv (.tmp 9)), none⟩, ⟨(some 56), (.bin .leq .int (.tmp 54) (.tmp 55)), none⟩, ⟨(some 57), (.mv (.tmp 56)), none⟩, ⟨(some 58), (.mv (.tmp 5)), (some ((some 57), true))⟩, ⟨(some 59), (.indexAddr (.sl 1) (.tmp 58) (.const (.int .i64 3))), (some ((some 57), true))⟩, ⟨(some 60), (.load none (.tmp 59)), (some ((some 57), true))⟩, ⟨(some 61), (.mv (.tmp 8)), (some ((some 57), true))⟩, ⟨(some 62), (.bin .eql .int (.tmp 60) (.tmp 61)), (some ((some 57), true))⟩, ⟨(some 63), (.raw (.pick (.tmp 57) (.tmp 62) (.const (.bool false)))), none⟩, ⟨(some 64), (.mv (.tmp 63)), none⟩, ⟨(some 65), (.mv (.tmp 5)), (some ((some 64), true))⟩, ⟨(some 66), (.indexAddr (.sl 1) (.tmp 65) (.const (.int .i64 4))), (some ((some 64), true))⟩, ⟨(some 67), (.load none (.tmp 66)), (some ((some 64), true))⟩, ⟨(some 68), (.mv (.tmp 9)), (some ((some 64), true))⟩, ⟨(some 69), (.bin .eql .int (.tmp 67) (.tmp 68)), (some ((some 64), true))⟩, ⟨(some 70), (.raw (.pick (.tmp 64) (.tmp 69) (.const (.bool false)))), none⟩, ⟨(some 71), (.mv (.tmp 70)), none⟩, ⟨(some 72), (.mv (.tmp 5)), (some ((some 71), true))⟩, ⟨(some 73), (.indexAddr (.sl 1) (.tmp 72) (.const (.int .i64 5))), (some ((some 71), true))⟩, ⟨(some 74), (.load none (.tmp 73)), (some ((some 71), true))⟩, ⟨(some 75), (.bin .eql .int (.tmp 74) (.const (.int .i64 0))), (some ((some 71), true))⟩, ⟨(some 76), (.raw (.pick (.tmp 71) (.tmp 75) (.const (.bool false)))), none⟩, ⟨(some 77), (.mv (.tmp 76)), none⟩, ⟨(some 78), (.fieldAddr 1 (.tmp 7)), (some ((some 77), true))⟩, ⟨(some 79), (.load none (.tmp 78)), (some ((some 77), true))⟩, ⟨(some 80), (.mv (.tmp 79)), (some ((some 77), true))⟩, ⟨(some 81), (.mv (.tmp 5)), (some ((some 80), false))⟩, ⟨(some 82), (.indexAddr (.sl 1) (.tmp 81) (.const (.int .i64 2))), (some ((some 80), false))⟩, ⟨(some 83), (.load none (.tmp 82)), (some ((some 80), false))⟩, ⟨(some 84), (.bin .gtr .int (.tmp 83) (.const (.int .i64 0))), (some ((some 80), false))⟩, ⟨(some 85), (.raw (.pick (.tmp 80) (.const (.bool true)) (.tmp 84))), (some ((some 77), true))⟩, ⟨(some 86), (.raw (.pick (.tmp 77) (.tmp 85) (.const (.bool false)))), none⟩, ⟨(some 10), (.mv (.tmp 86)), none⟩])
  (.seq (.draw [(⟨(some 88), (.mv (.tmp 5)), none⟩, []), (⟨(some 89), (.indexAddr (.sl 1) (.tmp 88) (.const (.int .i64 2))), none⟩, []), (⟨(some 91), (.mv (.tmp 10)), none⟩, []), (⟨(some 87), (.load (some 4) (.tmp 7)), none⟩, []), (⟨(some 90), (.load none (.tmp 89)), none⟩, []), (⟨none, (.store 4 (.tmp 2) (.tmp 87)), none⟩, [⟨(some 90), (.load none (.tmp 89)), none⟩]), (⟨(some 3), (.mv (.tmp 90)), none⟩, []), (⟨(some 4), (.mv (.tmp 91)), none⟩, [])])
  .ret))))))))⟩
theorem pf207_ok : pfOf Tryz.prog plan 207 = some pf207 := by kernel_rfl
theorem ok207 : fnOk Tryz.prog plan 207 = true := by kernel_rfl
/- 208 scantling/code.Zero -/
noncomputable def pf208 : PF := ⟨6, [.tmp 2], (.seq (.reg [⟨(some 2), (.mv (.const (.bool false))), none⟩])
  (.seq (.reg [⟨(some 3), (.mv (.tmp 0)), none⟩, ⟨(some 4), (.call 263 [(.tmp 3), (.func 264)]), none⟩, ⟨(some 5), (.un .not (.tmp 4)), none⟩, ⟨(some 2), (.mv (.tmp 5)), none⟩])
  .ret))⟩
theorem pf208_ok : pfOf Tryz.prog plan 208 = some pf208 := by kernel_rfl
theorem ok208 : fnOk Tryz.prog plan 208 = true := by kernel_rfl
/- 210 scantling/pool.maps$1 -/
noncomputable def pc210_0 : PCode := (.seq (.reg [⟨(some 19), (.bin .lss .int (.tmp 18) (.tmp 17)), none⟩])
  (.seq (.cond (.tmp 19) .skip (.exit 2))
  (.seq (.block 3 (.seq (.reg [⟨(some 20), (.indexAddr (.sl 3) (.tmp 16) (.tmp 18)), none⟩, ⟨(some 21), (.load (some 3) (.tmp 20)), none⟩, ⟨(some 6), (.alloc 0 [(.int .i64 0), (.int .i64 0), (.int .i64 0)]), none⟩, ⟨none, (.store 3 (.tmp 6) (.tmp 21)), none⟩])
  (.seq (.reg [⟨(some 22), (.mv (.tmp 0)), none⟩, ⟨(some 23), (.mv (.tmp 3)), none⟩, ⟨(some 24), (.load (some 3) (.tmp 6)), none⟩, ⟨(some 25), (.callv (.tmp 22) [(.tmp 23), (.tmp 24)]), none⟩, ⟨(some 26), (.un .not (.tmp 25)), none⟩])
  (.cond (.tmp 26) .ret .skip))))
  (.reg [⟨(some 27), (.bin .add .int (.tmp 18) (.const (.int .i64 1))), none⟩, ⟨(some 18), (.mv (.tmp 27)), none⟩]))))
noncomputable def pc210_1 : PCode := (.seq (.reg [⟨(some 11), (.bin .lss .int (.tmp 10) (.tmp 9)), none⟩])
  (.seq (.cond (.tmp 11) .skip (.exit 0))
  (.seq (.block 1 (.seq (.reg [⟨(some 12), (.mv (.tmp 10)), none⟩, ⟨(some 13), (.indexAddr (.sl 5) (.tmp 8) (.tmp 10)), none⟩, ⟨(some 14), (.load (some 5) (.tmp 13)), none⟩, ⟨(some 4), (.alloc 0 [(.int .i64 0), (.int .i64 0), (.int .i64 0), (.int .i64 0), (.slice none 0 0)]), none⟩, ⟨(some 3), (.mv (.tmp 12)), none⟩, ⟨none, (.store 5 (.tmp 4) (.tmp 14)), none⟩])
  (.seq (.reg [⟨(some 15), (.fieldAddr 4 (.tmp 4)), none⟩, ⟨(some 16), (.load none (.tmp 15)), none⟩, ⟨(some 17), (.len .sl (.tmp 16)), none⟩, ⟨(some 18), (.mv (.const (.int .i64 0))), none⟩])
  (.block 2 (.loop pc210_0)))))
  (.reg [⟨(some 28), (.bin .add .int (.tmp 10) (.const (.int .i64 1))), none⟩, ⟨(some 10), (.mv (.tmp 28)), none⟩]))))
noncomputable def pf210 : PF := ⟨29, [], (.seq (.reg [⟨(some 7), (.fieldAddr 4 (.tmp 1)), none⟩, ⟨(some 8), (.load none (.tmp 7)), none⟩, ⟨(some 9), (.len .sl (.tmp 8)), none⟩, ⟨(some 10), (.mv (.const (.int .i64 0))), none⟩])
  (.block 0 (.loop pc210_1)))⟩
theorem pf210_ok : pfOf Tryz.prog plan 210 = some pf210 := by kernel_rfl
theorem ok210 : fnOk Tryz.prog plan 210 = true := by kernel_rfl
/- 152 slices.IndexFunc[[]int,int] -/
noncomputable def pc152_0 : PCode := (.seq (.reg [⟨(some 9), (.bin .lss .int (.tmp 8) (.tmp 7)), none⟩])
  (.seq (.cond (.tmp 9) .skip (.exit 0))
  (.seq (.block 1 (.seq (.reg [⟨(some 10), (.mv (.tmp 8)), none⟩, ⟨(some 5), (.mv (.tmp 10)), none⟩])
  (.seq (.reg [⟨(some 11), (.mv (.tmp 1)), none⟩, ⟨(some 12), (.mv (.tmp 0)), none⟩, ⟨(some 13), (.mv (.tmp 5)), none⟩, ⟨(some 14), (.indexAddr (.sl 1) (.tmp 12) (.tmp 13)), none⟩, ⟨(some 15), (.load none (.tmp 14)), none⟩, ⟨(some 16), (.callv (.tmp 11) [(.tmp 15)]), none⟩])
  (.cond (.tmp 16) (.seq (.reg [⟨(some 17), (.mv (.tmp 5)), none⟩, ⟨(some 4), (.mv (.tmp 17)), none⟩])
  .ret) .skip))))
  (.reg [⟨(some 18), (.bin .add .int (.tmp 8) (.const (.int .i64 1))), none⟩, ⟨(some 8), (.mv (.tmp 18)), none⟩]))))
noncomputable def pf152 : PF := ⟨19, [.tmp 4], (.seq (.reg [⟨(some 4), (.mv (.const (.int .i64 0))), none⟩])
  (.seq (.seq (.reg [⟨(some 6), (.mv (.tmp 0)), none⟩, ⟨(some 7), (.len .sl (.tmp 6)), none⟩, ⟨(some 8), (.mv (.const (.int .i64 0))), none⟩])
  (.block 0 (.loop pc152_0)))
  (.seq (.reg [⟨(some 4), (.mv (.const (.int .i64 (-1)))), none⟩])
  .ret)))⟩
theorem pf152_ok : pfOf Tryz.prog plan 152 = some pf152 := by kernel_rfl
theorem ok152 : fnOk Tryz.prog plan 152 = true := by kernel_rfl
/- 93 scantling/size.sum -/
noncomputable def pc93_0 : PCode := (.seq (.reg [⟨(some 9), (.bin .lss .int (.tmp 8) (.tmp 7)), none⟩])
  (.seq (.cond (.tmp 9) .skip (.exit 0))
  (.seq (.block 1 (.seq (.reg [⟨(some 10), (.indexAddr (.sl 1) (.tmp 6) (.tmp 8)), none⟩, ⟨(some 11), (.load none (.tmp 10)), none⟩, ⟨(some 5), (.mv (.tmp 11)), none⟩])
  (.reg [⟨(some 12), (.mv (.tmp 3)), none⟩, ⟨(some 13), (.mv (.tmp 5)), none⟩, ⟨(some 14), (.bin .add .int (.tmp 12) (.tmp 13)), none⟩, ⟨(some 3), (.mv (.tmp 14)), none⟩])))
  (.reg [⟨(some 15), (.bin .add .int (.tmp 8) (.const (.int .i64 1))), none⟩, ⟨(some 8), (.mv (.tmp 15)), none⟩]))))
noncomputable def pf93 : PF := ⟨17, [.tmp 2], (.seq (.reg [⟨(some 2), (.mv (.const (.int .i64 0))), none⟩])
  (.seq (.reg [⟨(some 3), (.mv (.const (.int .i64 0))), none⟩])
  (.seq (.seq (.reg [⟨(some 6), (.mv (.tmp 0)), none⟩, ⟨(some 7), (.len .sl (.tmp 6)), none⟩, ⟨(some 8), (.mv (.const (.int .i64 0))), none⟩])
  (.block 0 (.loop pc93_0)))
  (.seq (.reg [⟨(some 16), (.mv (.tmp 3)), none⟩, ⟨(some 2), (.mv (.tmp 16)), none⟩])
  .ret))))⟩
theorem pf93_ok : pfOf Tryz.prog plan 93 = some pf93 := by kernel_rfl
theorem ok93 : fnOk Tryz.prog plan 93 = true := by kernel_rfl
/- 94 scantling/size.often -/
noncomputable def pc94_0 : PCode := (.seq (.reg [⟨(some 10), (.bin .lss .int (.tmp 9) (.tmp 8)), none⟩])
  (.seq (.cond (.tmp 10) .skip (.exit 0))
  (.seq (.block 1 (.seq (.reg [⟨(some 11), (.indexAddr (.sl 1) (.tmp 7) (.tmp 9)), none⟩, ⟨(some 12), (.load none (.tmp 11)), none⟩, ⟨(some 5), (.mv (.tmp 12)), none⟩])
  (.seq (.reg [⟨(some 13), (.mv (.tmp 5)), none⟩, ⟨(some 14), (.bin .geq .int (.tmp 13) (.const (.int .i64 3))), none⟩])
  (.cond (.tmp 14) (.reg [⟨(some 15), (.mv (.tmp 3)), none⟩, ⟨(some 16), (.bin .add .int (.tmp 15) (.const (.int .i64 1))), none⟩, ⟨(some 3), (.mv (.tmp 16)), none⟩]) .skip))))
  (.reg [⟨(some 17), (.bin .add .int (.tmp 9) (.const (.int .i64 1))), none⟩, ⟨(some 9), (.mv (.tmp 17)), none⟩]))))
noncomputable def pf94 : PF := ⟨19, [.tmp 2], (.seq (.reg [⟨(some 1), (.box 0 (.tmp 0)), none⟩, ⟨(some 2), (.mv (.const (.int .i64 0))), none⟩])
  (.seq (.reg [⟨(some 3), (.mv (.const (.int .i64 0))), none⟩])
  (.seq (.seq (.reg [⟨(some 6), (.load (some 5) (.tmp 1)), none⟩, ⟨(some 7), (.call 77 [(.tmp 6)]), none⟩, ⟨(some 8), (.len .sl (.tmp 7)), none⟩, ⟨(some 9), (.mv (.const (.int .i64 0))), none⟩])
  (.block 0 (.loop pc94_0)))
  (.seq (.reg [⟨(some 18), (.mv (.tmp 3)), none⟩, ⟨(some 2), (.mv (.tmp 18)), none⟩])
  .ret))))⟩
theorem pf94_ok : pfOf Tryz.prog plan 94 = some pf94 := by kernel_rfl
theorem ok94 : fnOk Tryz.prog plan 94 = true := by kernel_rfl
/- 166 scantling/value.put -/
noncomputable def pc166_0 : PCode := (.seq (.reg [⟨(some 13), (.bin .lss .int (.tmp 12) (.tmp 11)), none⟩])
  (.seq (.cond (.tmp 13) .skip (.exit 0))
  (.seq (.block 1 (.seq (.reg [⟨(some 14), (.mv (.tmp 12)), none⟩, ⟨(some 15), (.indexAddr (.sl 3) (.tmp 10) (.tmp 12)), none⟩, ⟨(some 16), (.load (some 3) (.tmp 15)), none⟩, ⟨(some 7), (.alloc 0 [(.int .i64 0), (.int .i64 0), (.int .i64 0)]), none⟩, ⟨(some 6), (.mv (.tmp 14)), none⟩, ⟨none, (.store 3 (.tmp 7) (.tmp 16)), none⟩])
  (.seq (.seq (.draw [(⟨(some 17), (.mv (.tmp 1)), none⟩, []), (⟨(some 18), (.mv (.tmp 6)), none⟩, []), (⟨(some 19), (.indexAddr (.sl 1) (.tmp 17) (.tmp 18)), none⟩, []), (⟨(some 21), (.fieldAddr 1 (.tmp 7)), none⟩, []), (⟨(some 20), (.load none (.tmp 19)), none⟩, []), (⟨(some 22), (.load none (.tmp 21)), none⟩, []), (⟨(some 23), (.bin .lss .int (.tmp 20) (.tmp 22)), none⟩, []), (⟨(some 24), (.mv (.tmp 23)), none⟩, []), (⟨(some 25), (.mv (.tmp 1)), (some ((some 24), false))⟩, []), (⟨(some 26), (.mv (.tmp 6)), (some ((some 24), false))⟩, []), (⟨(some 27), (.indexAddr (.sl 1) (.tmp 25) (.tmp 26)), (some ((some 24), false))⟩, []), (⟨(some 29), (.fieldAddr 2 (.tmp 7)), (some ((some 24), false))⟩, []), (⟨(some 28), (.load none (.tmp 27)), (some ((some 24), false))⟩, []), (⟨(some 30), (.load none (.tmp 29)), (some ((some 24), false))⟩, []), (⟨(some 31), (.bin .gtr .int (.tmp 28) (.tmp 30)), (some ((some 24), false))⟩, []), (⟨(some 32), (.raw (.pick (.tmp 24) (.const (.bool true)) (.tmp 31))), none⟩, [])])
  (.cond (.tmp 32) (.seq (.reg [⟨(some 4), (.mv (.const (.string (bs [])))), none⟩])
  .ret) .skip))
  (.seq (.draw [(⟨(some 34), (.fieldAddr 0 (.tmp 7)), none⟩, []), (⟨(some 36), (.mv (.tmp 1)), none⟩, []), (⟨(some 37), (.mv (.tmp 6)), none⟩, []), (⟨(some 38), (.indexAddr (.sl 1) (.tmp 36) (.tmp 37)), none⟩, []), (⟨(some 35), (.load none (.tmp 34)), none⟩, []), (⟨(some 39), (.load none (.tmp 38)), none⟩, []), (⟨(some 40), (.build [(.int .i64 0), (.int .i64 0)] [(0, 1), (1, 1)] [(0, (.tmp 35)), (1, (.tmp 39))]), none⟩, []), (⟨(some 41), (.buildSlice 2 1 [(0, (.tmp 40))]), none⟩, []), (⟨(some 42), (.call 107 [(.tmp 41)]), none⟩, []), (⟨(some 33), (.mv (.tmp 42)), none⟩, []), (⟨(some 43), (.extract (.tmp 33) 0), none⟩, []), (⟨(some 44), (.extract (.tmp 33) 1), none⟩, []), (⟨(some 8), (.mv (.tmp 43)), none⟩, []), (⟨(some 9), (.mv (.tmp 44)), none⟩, [])])
  (.reg [⟨(some 45), (.mv (.tmp 5)), none⟩, ⟨(some 46), (.mv (.tmp 8)), none⟩, ⟨(some 47), (.append 1 1 false (.tmp 45) (.tmp 46)), none⟩, ⟨(some 5), (.mv (.tmp 47)), none⟩])))))
  (.reg [⟨(some 48), (.bin .add .int (.tmp 12) (.const (.int .i64 1))), none⟩, ⟨(some 12), (.mv (.tmp 48)), none⟩]))))
noncomputable def pf166 : PF := ⟨51, [.tmp 4], (.seq (.reg [⟨(some 4), (.mv (.const (.string (bs [])))), none⟩])
  (.seq (.reg [⟨(some 5), (.mv (.const (.slice none 0 0))), none⟩])
  (.seq (.seq (.reg [⟨(some 10), (.mv (.tmp 0)), none⟩, ⟨(some 11), (.len .sl (.tmp 10)), none⟩, ⟨(some 12), (.mv (.const (.int .i64 0))), none⟩])
  (.block 0 (.loop pc166_0)))
  (.seq (.reg [⟨(some 49), (.mv (.tmp 5)), none⟩, ⟨(some 50), (.cstr true (.tmp 49)), none⟩, ⟨(some 4), (.mv (.tmp 50)), none⟩])
  .ret))))⟩
theorem pf166_ok : pfOf Tryz.prog plan 166 = some pf166 := by kernel_rfl
theorem ok166 : fnOk Tryz.prog plan 166 = true := by kernel_rfl
/- 168 scantling/value.root -/
noncomputable def pf168 : PF := ⟨3, [.tmp 0], (.seq (.reg [⟨(some 0), (.mv (.const (.slice none 0 0))), none⟩])
  (.seq (.reg [⟨(some 1), (.build [(.int .i64 0), (.int .i64 0), (.int .i64 0)] [(0, 1), (1, 1), (2, 1)] [(0, (.const (.int .i64 4))), (1, (.const (.int .i64 1))), (2, (.const (.int .i64 14399)))]), none⟩, ⟨(some 2), (.buildSlice 3 1 [(0, (.tmp 1))]), none⟩, ⟨(some 0), (.mv (.tmp 2)), none⟩])
  .ret))⟩
theorem pf168_ok : pfOf Tryz.prog plan 168 = some pf168 := by kernel_rfl
theorem ok168 : fnOk Tryz.prog plan 168 = true := by kernel_rfl
/- 233 slices.Chunk[[]int,int] -/
noncomputable def pf233 : PF := ⟨9, [.tmp 4], (.seq (.reg [⟨(some 2), (.box 0 (.tmp 0)), none⟩, ⟨(some 3), (.box 0 (.tmp 1)), none⟩, ⟨(some 4), (.mv (.const .nilFunc)), none⟩])
  (.seq (.seq (.reg [⟨(some 5), (.load none (.tmp 3)), none⟩, ⟨(some 6), (.bin .lss .int (.tmp 5) (.const (.int .i64 1))), none⟩])
  (.cond (.tmp 6) (.reg [⟨(some 7), (.iface 9 (.const (.string (bs [99, 97, 110, 110, 111, 116, 32, 98, 101, 32, 108, 101, 115, 115, 32, 116, 104, 97, 110, 32, 49])))), none⟩, ⟨none, (.raw (.panic (.tmp 7))), none⟩]) .skip))
  (.seq (.reg [⟨(some 8), (.fn 286 [] [(.tmp 2), (.tmp 3)]), none⟩, ⟨(some 4), (.mv (.tmp 8)), none⟩])
  .ret)))⟩
theorem pf233_ok : pfOf Tryz.prog plan 233 = some pf233 := by kernel_rfl
theorem ok233 : fnOk Tryz.prog plan 233 = true := by kernel_rfl
/- 234 (*scantling/alloc.queue).left -/
noncomputable def pf234 : PF := ⟨12, [.tmp 2], (.seq (.reg [⟨(some 2), (.mv (.const (.slice none 0 0))), none⟩])
  (.seq (.draw [(⟨(some 3), (.mv (.tmp 0)), none⟩, []), (⟨(some 4), (.nil (.tmp 3)), none⟩, []), (⟨(some 5), (.fieldAddr 0 (.tmp 4)), none⟩, []), (⟨(some 7), (.mv (.tmp 0)), none⟩, []), (⟨(some 8), (.nil (.tmp 7)), none⟩, []), (⟨(some 9), (.fieldAddr 1 (.tmp 8)), none⟩, []), (⟨(some 6), (.load none (.tmp 5)), none⟩, []), (⟨(some 10), (.load none (.tmp 9)), none⟩, []), (⟨(some 11), (.slice (.sl 1) (.tmp 6) (some (.tmp 10)) none none), none⟩, []), (⟨(some 2), (.mv (.tmp 11)), none⟩, [])])
  .ret))⟩
theorem pf234_ok : pfOf Tryz.prog plan 234 = some pf234 := by kernel_rfl
theorem ok234 : fnOk Tryz.prog plan 234 = true := by kernel_rfl
/- 62 scantling/tall.Levels -/
noncomputable def pc62_0 : PCode := (.seq (.seq (.reg [⟨(some 26), (.mv (.tmp 7)), none⟩, ⟨(some 27), (.mv (.tmp 7)), none⟩, ⟨(some 28), (.len .sl (.tmp 27)), none⟩, ⟨(some 29), (.bin .sub .int (.tmp 28) (.const (.int .i64 1))), none⟩, ⟨(some 30), (.indexAddr (.sl 1) (.tmp 26) (.tmp 29)), none⟩, ⟨(some 31), (.load none (.tmp 30)), none⟩, ⟨(some 32), (.bin .gtr .int (.tmp 31) (.const (.int .i64 1))), none⟩])
  (.cond (.tmp 32) .skip (.exit 0)))
  (.block 1 (.reg [⟨(some 33), (.mv (.tmp 7)), none⟩, ⟨(some 34), (.mv (.tmp 7)), none⟩, ⟨(some 35), (.mv (.tmp 7)), none⟩, ⟨(some 36), (.len .sl (.tmp 35)), none⟩, ⟨(some 37), (.bin .sub .int (.tmp 36) (.const (.int .i64 1))), none⟩, ⟨(some 38), (.indexAddr (.sl 1) (.tmp 34) (.tmp 37)), none⟩, ⟨(some 39), (.load none (.tmp 38)), none⟩, ⟨(some 40), (.mv (.tmp 6)), none⟩, ⟨(some 41), (.call 112 [(.tmp 39), (.tmp 40)]), none⟩, ⟨(some 42), (.buildSlice 1 1 [(0, (.tmp 41))]), none⟩, ⟨(some 43), (.append 1 8 false (.tmp 33) (.tmp 42)), none⟩, ⟨(some 7), (.mv (.tmp 43)), none⟩])))
noncomputable def pf62 : PF := ⟨45, [.tmp 4], (.seq (.reg [⟨(some 4), (.mv (.const (.slice none 0 0))), none⟩])
  (.seq (.reg [⟨(some 8), (.mv (.tmp 0)), none⟩, ⟨(some 9), (.call 75 [(.tmp 8), (.const (.bool true))]), none⟩, ⟨(some 10), (.mv (.tmp 0)), none⟩, ⟨(some 11), (.call 75 [(.tmp 10), (.const (.bool false))]), none⟩, ⟨(some 5), (.mv (.tmp 9)), none⟩, ⟨(some 6), (.mv (.tmp 11)), none⟩])
  (.seq (.seq (.reg [⟨(some 12), (.mv (.tmp 5)), none⟩, ⟨(some 13), (.bin .eql .int (.tmp 12) (.const (.int .i64 0))), none⟩, ⟨(some 14), (.mv (.tmp 13)), none⟩, ⟨(some 15), (.mv (.tmp 1)), (some ((some 14), false))⟩, ⟨(some 16), (.bin .lss .int (.tmp 15) (.const (.int .i64 0))), (some ((some 14), false))⟩, ⟨(some 17), (.raw (.pick (.tmp 14) (.const (.bool true)) (.tmp 16))), none⟩, ⟨(some 18), (.mv (.tmp 17)), none⟩, ⟨(some 19), (.mv (.tmp 1)), (some ((some 18), false))⟩, ⟨(some 20), (.bin .gtr .int (.tmp 19) (.const (.int .i64 32768))), (some ((some 18), false))⟩, ⟨(some 21), (.raw (.pick (.tmp 18) (.const (.bool true)) (.tmp 20))), none⟩])
  (.cond (.tmp 21) (.seq (.reg [⟨(some 4), (.mv (.const (.slice none 0 0))), none⟩])
  .ret) .skip))
  (.seq (.reg [⟨(some 22), (.mv (.tmp 1)), none⟩, ⟨(some 23), (.mv (.tmp 5)), none⟩, ⟨(some 24), (.call 112 [(.tmp 22), (.tmp 23)]), none⟩, ⟨(some 25), (.buildSlice 1 1 [(0, (.tmp 24))]), none⟩, ⟨(some 7), (.mv (.tmp 25)), none⟩])
  (.seq (.block 0 (.loop pc62_0))
  (.seq (.reg [⟨(some 44), (.mv (.tmp 7)), none⟩, ⟨(some 4), (.mv (.tmp 44)), none⟩])
  .ret))))))⟩
theorem pf62_ok : pfOf Tryz.prog plan 62 = some pf62 := by kernel_rfl
theorem ok62 : fnOk Tryz.prog plan 62 = true := by kernel_rfl
/- 235 scantling/bits.Put -/
noncomputable def pc235_0 : PCode := (.seq (.reg [⟨(some 31), (.bin .lss .int (.tmp 30) (.tmp 29)), none⟩])
  (.seq (.cond (.tmp 31) .skip (.exit 0))
  (.seq (.block 1 (.seq (.reg [⟨(some 32), (.mv (.tmp 30)), none⟩, ⟨(some 33), (.indexAddr (.sl 1) (.tmp 28) (.tmp 30)), none⟩, ⟨(some 34), (.load none (.tmp 33)), none⟩, ⟨(some 7), (.mv (.tmp 32)), none⟩, ⟨(some 8), (.mv (.tmp 34)), none⟩])
  (.draw [(⟨(some 35), (.mv (.tmp 6)), none⟩, []), (⟨(some 36), (.mv (.tmp 7)), none⟩, []), (⟨(some 37), (.bin .quo .int (.tmp 36) (.const (.int .i64 4))), none⟩, []), (⟨(some 38), (.bin .add .int (.const (.int .i64 4)) (.tmp 37)), none⟩, []), (⟨(some 39), (.indexAddr (.sl 1) (.tmp 35) (.tmp 38)), none⟩, []), (⟨(some 41), (.mv (.tmp 8)), none⟩, []), (⟨(some 42), (.mv (.tmp 7)), none⟩, []), (⟨(some 43), (.bin .rem .int (.tmp 42) (.const (.int .i64 4))), none⟩, []), (⟨(some 44), (.bin .mul .int (.tmp 43) (.const (.int .i64 2))), none⟩, []), (⟨(some 45), (.bin .shl .int (.tmp 41) (.tmp 44)), none⟩, []), (⟨(some 40), (.load none (.tmp 39)), none⟩, []), (⟨(some 46), (.cint .u8 (.tmp 45)), none⟩, []), (⟨(some 47), (.bin .or .int (.tmp 40) (.tmp 46)), none⟩, []), (⟨(some 48), (.indexAddr (.sl 1) (.tmp 35) (.tmp 38)), none⟩, []), (⟨none, (.store 1 (.tmp 48) (.tmp 47)), none⟩, [])])))
  (.reg [⟨(some 49), (.bin .add .int (.tmp 30) (.const (.int .i64 1))), none⟩, ⟨(some 30), (.mv (.tmp 49)), none⟩]))))
noncomputable def pf235 : PF := ⟨51, [.tmp 2, .tmp 3], (.seq (.reg [⟨(some 2), (.mv (.const (.slice none 0 0))), none⟩, ⟨(some 3), (.mv (.const (.int .i64 0))), none⟩])
  (.seq (.seq (.reg [⟨(some 9), (.mv (.tmp 0)), none⟩, ⟨(some 10), (.len .sl (.tmp 9)), none⟩, ⟨(some 11), (.bin .gtr .int (.tmp 10) (.const (.int .i64 960))), none⟩, ⟨(some 12), (.mv (.tmp 11)), none⟩, ⟨(some 13), (.mv (.tmp 0)), (some ((some 12), false))⟩, ⟨(some 14), (.call 90 [(.tmp 13), (.func 287)]), (some ((some 12), false))⟩, ⟨(some 15), (.raw (.pick (.tmp 12) (.const (.bool true)) (.tmp 14))), none⟩])
  (.cond (.tmp 15) (.seq (.reg [⟨(some 2), (.mv (.const (.slice none 0 0))), none⟩, ⟨(some 3), (.mv (.const (.int .i64 1))), none⟩])
  .ret) .skip))
  (.seq (.reg [⟨(some 17), (.mv (.tmp 0)), none⟩, ⟨(some 18), (.len .sl (.tmp 17)), none⟩, ⟨(some 19), (.build [(.int .i64 0), (.int .i64 0)] [(0, 1), (1, 1)] [(0, (.const (.int .i64 4))), (1, (.tmp 18))]), none⟩, ⟨(some 20), (.buildSlice 2 1 [(0, (.tmp 19))]), none⟩, ⟨(some 21), (.call 107 [(.tmp 20)]), none⟩, ⟨(some 16), (.mv (.tmp 21)), none⟩, ⟨(some 22), (.extract (.tmp 16) 0), none⟩, ⟨(some 23), (.extract (.tmp 16) 1), none⟩, ⟨(some 4), (.mv (.tmp 22)), none⟩, ⟨(some 5), (.mv (.tmp 23)), none⟩])
  (.seq (.reg [⟨(some 24), (.makeSlice 1 1 [(.int .u8 0)] (.const (.int .i64 244)) (.const (.int .i64 244))), none⟩, ⟨(some 6), (.mv (.tmp 24)), none⟩])
  (.seq (.reg [⟨(some 25), (.mv (.tmp 6)), none⟩, ⟨(some 26), (.mv (.tmp 4)), none⟩, ⟨(some 27), (.copy 1 false (.tmp 25) (.tmp 26)), none⟩])
  (.seq (.seq (.reg [⟨(some 28), (.mv (.tmp 0)), none⟩, ⟨(some 29), (.len .sl (.tmp 28)), none⟩, ⟨(some 30), (.mv (.const (.int .i64 0))), none⟩])
  (.block 0 (.loop pc235_0)))
  (.seq (.reg [⟨(some 50), (.mv (.tmp 6)), none⟩, ⟨(some 2), (.mv (.tmp 50)), none⟩, ⟨(some 3), (.mv (.const (.int .i64 0))), none⟩])
  .ret)))))))⟩
theorem pf235_ok : pfOf Tryz.prog plan 235 = some pf235 := by kernel_rfl
theorem ok235 : fnOk Tryz.prog plan 235 = true := by kernel_rfl
/- 236 scantling/bits.Free -/
noncomputable def pc236_0 : PCode := (.seq (.reg [⟨(some 13), (.bin .lss .int (.tmp 12) (.tmp 11)), none⟩])
  (.seq (.cond (.tmp 13) .skip (.exit 0))
  (.seq (.block 1 (.seq (.reg [⟨(some 14), (.mv (.tmp 12)), none⟩, ⟨(some 15), (.indexAddr (.sl 1) (.tmp 10) (.tmp 12)), none⟩, ⟨(some 16), (.load none (.tmp 15)), none⟩, ⟨(some 6), (.mv (.tmp 14)), none⟩, ⟨(some 7), (.mv (.tmp 16)), none⟩])
  (.seq (.seq (.reg [⟨(some 17), (.mv (.tmp 7)), none⟩, ⟨(some 18), (.bin .neq .int (.tmp 17) (.const (.int .i64 0))), none⟩])
  (.cond (.tmp 18) (.exit 1) .skip))
  (.seq (.seq (.reg [⟨(some 19), (.mv (.tmp 4)), none⟩, ⟨(some 20), (.bin .eql .int (.tmp 19) (.const (.int .i64 0))), none⟩])
  (.cond (.tmp 20) (.reg [⟨(some 21), (.mv (.tmp 6)), none⟩, ⟨(some 5), (.mv (.tmp 21)), none⟩]) .skip))
  (.reg [⟨(some 22), (.mv (.tmp 4)), none⟩, ⟨(some 23), (.bin .add .int (.tmp 22) (.const (.int .i64 1))), none⟩, ⟨(some 4), (.mv (.tmp 23)), none⟩])))))
  (.reg [⟨(some 24), (.bin .add .int (.tmp 12) (.const (.int .i64 1))), none⟩, ⟨(some 12), (.mv (.tmp 24)), none⟩]))))
noncomputable def pf236 : PF := ⟨27, [.tmp 2, .tmp 3], (.seq (.reg [⟨(some 2), (.mv (.const (.int .i64 0))), none⟩, ⟨(some 3), (.mv (.const (.int .i64 0))), none⟩])
  (.seq (.reg [⟨(some 8), (.mv (.tmp 0)), none⟩, ⟨(some 9), (.len .sl (.tmp 8)), none⟩, ⟨(some 4), (.mv (.const (.int .i64 0))), none⟩, ⟨(some 5), (.mv (.tmp 9)), none⟩])
  (.seq (.seq (.reg [⟨(some 10), (.mv (.tmp 0)), none⟩, ⟨(some 11), (.len .sl (.tmp 10)), none⟩, ⟨(some 12), (.mv (.const (.int .i64 0))), none⟩])
  (.block 0 (.loop pc236_0)))
  (.seq (.reg [⟨(some 25), (.mv (.tmp 4)), none⟩, ⟨(some 26), (.mv (.tmp 5)), none⟩, ⟨(some 2), (.mv (.tmp 25)), none⟩, ⟨(some 3), (.mv (.tmp 26)), none⟩])
  .ret))))⟩
theorem pf236_ok : pfOf Tryz.prog plan 236 = some pf236 := by kernel_rfl
theorem ok236 : fnOk Tryz.prog plan 236 = true := by kernel_rfl
/- 237 scantling/value.slot -/
noncomputable def pf237 : PF := ⟨5, [.tmp 0], (.seq (.reg [⟨(some 0), (.mv (.const (.slice none 0 0))), none⟩])
  (.seq (.reg [⟨(some 1), (.build [(.int .i64 0), (.int .i64 0), (.int .i64 0)] [(0, 1), (1, 1), (2, 1)] [(0, (.const (.int .i64 8))), (1, (.const (.int .i64 1))), (2, (.const (.int .i64 14399)))]), none⟩, ⟨(some 2), (.build [(.int .i64 0), (.int .i64 0), (.int .i64 0)] [(0, 1), (1, 1), (2, 1)] [(0, (.const (.int .i64 4))), (1, (.const (.int .i64 0))), (2, (.const (.int .i64 960)))]), none⟩, ⟨(some 3), (.build [(.int .i64 0), (.int .i64 0), (.int .i64 0)] [(0, 1), (1, 1), (2, 1)] [(0, (.const (.int .i64 4))), (1, (.const (.int .i64 0))), (2, (.const (.int .i64 960)))]), none⟩, ⟨(some 4), (.buildSlice 3 3 [(0, (.tmp 1)), (1, (.tmp 2)), (2, (.tmp 3))]), none⟩, ⟨(some 0), (.mv (.tmp 4)), none⟩])
  .ret))⟩
theorem pf237_ok : pfOf Tryz.prog plan 237 = some pf237 := by kernel_rfl
theorem ok237 : fnOk Tryz.prog plan 237 = true := by kernel_rfl
/- 238 scantling/build.right -/
noncomputable def pc238_0 : PCode := (.seq (.reg [⟨(some 23), (.bin .lss .int (.tmp 22) (.tmp 21)), none⟩])
  (.seq (.cond (.tmp 23) .skip (.exit 0))
  (.seq (.block 1 (.seq (.reg [⟨(some 24), (.indexAddr (.sl 3) (.tmp 20) (.tmp 22)), none⟩, ⟨(some 25), (.load (some 3) (.tmp 24)), none⟩, ⟨(some 8), (.alloc 0 [(.int .i64 0), (.string (bs [])), (.int .i64 0)]), none⟩, ⟨none, (.store 3 (.tmp 8) (.tmp 25)), none⟩])
  (.seq (.seq (.reg [⟨(some 26), (.fieldAddr 0 (.tmp 8)), none⟩, ⟨(some 27), (.load none (.tmp 26)), none⟩, ⟨(some 28), (.mv (.tmp 6)), none⟩, ⟨(some 29), (.bin .leq .int (.tmp 27) (.tmp 28)), none⟩, ⟨(some 30), (.mv (.tmp 29)), none⟩, ⟨(some 31), (.fieldAddr 0 (.tmp 8)), (some ((some 30), false))⟩, ⟨(some 32), (.load none (.tmp 31)), (some ((some 30), false))⟩, ⟨(some 33), (.bin .gtr .int (.tmp 32) (.const (.int .i64 281474976710655))), (some ((some 30), false))⟩, ⟨(some 34), (.raw (.pick (.tmp 30) (.const (.bool true)) (.tmp 33))), none⟩, ⟨(some 35), (.mv (.tmp 34)), none⟩, ⟨(some 36), (.fieldAddr 1 (.tmp 8)), (some ((some 35), false))⟩, ⟨(some 37), (.load none (.tmp 36)), (some ((some 35), false))⟩, ⟨(some 38), (.len .str (.tmp 37)), (some ((some 35), false))⟩, ⟨(some 39), (.mv (.tmp 5)), (some ((some 35), false))⟩, ⟨(some 40), (.bin .neq .int (.tmp 38) (.tmp 39)), (some ((some 35), false))⟩, ⟨(some 41), (.raw (.pick (.tmp 35) (.const (.bool true)) (.tmp 40))), none⟩])
  (.cond (.tmp 41) (.seq (.reg [⟨(some 4), (.mv (.const (.bool false))), none⟩])
  .ret) .skip))
  (.reg [⟨(some 42), (.fieldAddr 0 (.tmp 8)), none⟩, ⟨(some 43), (.load none (.tmp 42)), none⟩, ⟨(some 6), (.mv (.tmp 43)), none⟩]))))
  (.reg [⟨(some 44), (.bin .add .int (.tmp 22) (.const (.int .i64 1))), none⟩, ⟨(some 22), (.mv (.tmp 44)), none⟩]))))
noncomputable def pf238 : PF := ⟨45, [.tmp 4], (.seq (.reg [⟨(some 4), (.mv (.const (.bool false))), none⟩])
  (.seq (.reg [⟨(some 9), (.mv (.tmp 0)), none⟩, ⟨(some 10), (.call 126 [(.tmp 9), (.const (.bool true))]), none⟩, ⟨(some 5), (.mv (.tmp 10)), none⟩])
  (.seq (.seq (.reg [⟨(some 11), (.mv (.tmp 5)), none⟩, ⟨(some 12), (.bin .eql .int (.tmp 11) (.const (.int .i64 0))), none⟩, ⟨(some 13), (.mv (.tmp 12)), none⟩, ⟨(some 14), (.mv (.tmp 0)), (some ((some 13), false))⟩, ⟨(some 15), (.mv (.tmp 1)), (some ((some 13), false))⟩, ⟨(some 16), (.len .sl (.tmp 15)), (some ((some 13), false))⟩, ⟨(some 17), (.call 22 [(.tmp 14), (.tmp 16)]), (some ((some 13), false))⟩, ⟨(some 18), (.bin .eql .int (.tmp 17) (.const (.int .i64 0))), (some ((some 13), false))⟩, ⟨(some 19), (.raw (.pick (.tmp 13) (.const (.bool true)) (.tmp 18))), none⟩])
  (.cond (.tmp 19) (.seq (.reg [⟨(some 4), (.mv (.const (.bool false))), none⟩])
  .ret) .skip))
  (.seq (.reg [⟨(some 6), (.mv (.const (.int .i64 (-1)))), none⟩])
  (.seq (.seq (.reg [⟨(some 20), (.mv (.tmp 1)), none⟩, ⟨(some 21), (.len .sl (.tmp 20)), none⟩, ⟨(some 22), (.mv (.const (.int .i64 0))), none⟩])
  (.block 0 (.loop pc238_0)))
  (.seq (.reg [⟨(some 4), (.mv (.const (.bool true))), none⟩])
  .ret))))))⟩
theorem pf238_ok : pfOf Tryz.prog plan 238 = some pf238 := by kernel_rfl
theorem ok238 : fnOk Tryz.prog plan 238 = true := by kernel_rfl
/- 239 scantling/build.Tree$1 -/
noncomputable def pf239 : PF := ⟨20, [.tmp 7], (.seq (.reg [⟨(some 7), (.mv (.const (.slice none 0 0))), none⟩])
  (.seq (.reg [⟨(some 11), (.load none (.tmp 2)), none⟩, ⟨(some 12), (.load none (.tmp 3)), none⟩, ⟨(some 13), (.mv (.tmp 0)), none⟩, ⟨(some 14), (.mv (.tmp 1)), none⟩, ⟨(some 15), (.call 240 [(.tmp 11), (.tmp 12), (.tmp 13), (.tmp 14)]), none⟩, ⟨(some 10), (.mv (.tmp 15)), none⟩, ⟨(some 16), (.extract (.tmp 10) 0), none⟩, ⟨(some 17), (.extract (.tmp 10) 1), none⟩, ⟨(some 8), (.mv (.tmp 16)), none⟩, ⟨(some 9), (.mv (.tmp 17)), none⟩])
  (.seq (.reg [⟨(some 18), (.mv (.tmp 9)), none⟩, ⟨none, (.store 1 (.tmp 4) (.tmp 18)), none⟩])
  (.seq (.reg [⟨(some 19), (.mv (.tmp 8)), none⟩, ⟨(some 7), (.mv (.tmp 19)), none⟩])
  .ret))))⟩
theorem pf239_ok : pfOf Tryz.prog plan 239 = some pf239 := by kernel_rfl
theorem ok239 : fnOk Tryz.prog plan 239 = true := by kernel_rfl

end Am
end Go.Proofs.YtbpabpnpoidpcaaGreatDoor
