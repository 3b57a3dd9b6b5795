/- errors.Is of two numbers of the program's own errors. No conditions. -/
import Derived.Test.YtbpabpnpoidpcaaGreatDoorChecked
import Derived.Test.YtbpabpnpoidpcaaGreatDoorAbsa
import Derived.WalkKit
import Derived.LaidEql
import Derived.Stop.Asserts
import Derived.RowKitTokens
namespace Go.Proofs.YtbpabpnpoidpcaaGreatDoor
open Go.RowKit Go.Extern.Stop Go.Stop Go.Extern
set_option maxRecDepth 100000
set_option linter.unusedVariables false

theorem isTypeOf (v : Value) (w : World) : (Extern.ReflectliteType.typeOf #[.iface 49 v]).run Tryz.prog w = .ok (.iface 338 (.agg #[.pointer (some ⟨6, 49, none⟩)])) w := by kernel_rfl
theorem isComparable (w : World) : ((Extern.ReflectliteType.method fun t => do Extern.Rtype.noPackHeld "Comparable" t; (fun a => Value.bool a.comparable) <$> typeInfo t) #[.agg #[.pointer (some ⟨6, 49, none⟩)]]).run Tryz.prog w = .ok (.bool true) w := by kernel_rfl
theorem isMethodComparable (v : Value) (w : World) : (Go.method 638 338 v "Comparable").run Tryz.prog w = .ok (402, v) w := by kernel_rfl
theorem noIsE (v : Value) (xT : TypeId) (w : World) : (Instr.typeAssert (.iface 49 v) xT 420 true).run Tryz.prog w = .ok (.tuple #[.nilIface, .bool false]) w := run_typeAssert_lacksB Tryz.underlying420 (by kernel_rfl) (by kernel_rfl) v xT w
theorem noUnwrapE (v : Value) (xT : TypeId) (w : World) : (Instr.typeAssert (.iface 49 v) xT 253 true).run Tryz.prog w = .ok (.tuple #[.nilIface, .bool false]) w := run_typeAssert_lacksB Tryz.underlying253 (by kernel_rfl) (by kernel_rfl) v xT w
theorem noUnwrapsE (v : Value) (xT : TypeId) (w : World) : (Instr.typeAssert (.iface 49 v) xT 346 true).run Tryz.prog w = .ok (.tuple #[.nilIface, .bool false]) w := run_typeAssert_lacksB Tryz.underlying346 (by kernel_rfl) (by kernel_rfl) v xT w
theorem eqlE (a b : Int) (w : World) : (binOp .eql 27 (.iface 49 (.int .i64 a)) (.iface 49 (.int .i64 b))).run Tryz.prog w = .ok (.bool (decide (a = b))) w := by
  have hk : Am.kd Tryz.prog 27 = .ifc := by kernel_rfl
  have hc : Am.cmpInt Tryz.prog 49 = true := by kernel_rfl
  have h : Am.aeq Tryz.prog 27 false (.iface 49 (.int .i64 a)) (.iface 49 (.int .i64 b)) = some (decide (a = b)) := by
    simp [Am.aeq, hk, hc]
  obtain ⟨h1, _, _, h2, _⟩ := Am.aeq_sound (P := Tryz.prog) (r := fun _ => none) (w := w) (.plain _ rfl) (.plain _ rfl) h
  rw [h2]
  simp [h1]

theorem is_num (a b : Int) (w : World) : Calls Tryz.prog 245 #[.iface 49 (.int .i64 a), .iface 49 (.int .i64 b), .bool true] w fun e w' => e = .returned (.bool (decide (a = b))) ∧ w' = w := by
  have n1 := noIsE
  have n2 := noUnwrapE
  have n3 := noUnwrapsE
  have n4 := eqlE a b
  go_enter Tryz.func245, Tryz.ntmps245
  go_wp2
  by_cases hab : a = b
  · subst hab
    simp only [decide_true] at n4 ⊢
    go_loopw [0] (fun E wl => wl = w ∧ E = .iface 49 (.int .i64 a)) (fun _ _ => 0)
    case atStart => exact ⟨rfl, rfl⟩
    case round =>
      obtain ⟨rfl, rfl⟩ := hrel
      go_wp2
      go_ret
      exact ⟨rfl, rfl⟩
  · have hd : decide (a = b) = false := by simpa using hab
    simp only [hd] at n4 ⊢
    go_loopw [0] (fun E wl => wl = w ∧ E = .iface 49 (.int .i64 a)) (fun _ _ => 0)
    case atStart => exact ⟨rfl, rfl⟩
    case round =>
      obtain ⟨rfl, rfl⟩ := hrel
      go_wp2
      go_ret
      exact ⟨by simp [hab], rfl⟩

theorem is_call (a b : Int) (w : World) : Calls Tryz.prog 177 #[.iface 49 (.int .i64 a), .iface 49 (.int .i64 b)] w fun e w' => e = .returned (.bool (decide (a = b))) ∧ w' = w := by
  have n1 := isTypeOf
  have n2 := isComparable
  have n3 := isMethodComparable
  have h8 := @run_callFunc_extern Tryz.prog 229 _ Extern.ReflectliteType.typeOf Tryz.func229 (by kernel_rfl) (by kernel_rfl) (by kernel_rfl) (by kernel_rfl)
  have h32 := @run_callFunc_extern Tryz.prog 402 _ (Extern.ReflectliteType.method fun t => do Extern.Rtype.noPackHeld "Comparable" t; pure (.bool (← typeInfo t).comparable)) Tryz.func402 (by kernel_rfl) (by kernel_rfl) (by kernel_rfl) (by kernel_rfl)
  go_enter Tryz.func177, Tryz.ntmps177
  go_wp2_with (go_at_call 245; refine (is_num a b _).mono ?_; rintro e w' ⟨rfl, rfl⟩)
  go_ret
  exact ⟨rfl, rfl⟩

end Go.Proofs.YtbpabpnpoidpcaaGreatDoor
