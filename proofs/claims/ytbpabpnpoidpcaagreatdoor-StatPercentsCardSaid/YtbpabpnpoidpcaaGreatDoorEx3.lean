/- lay.Lay's deferred call, where nothing panics. No conditions. -/
import Derived.Test.YtbpabpnpoidpcaaGreatDoorChecked
import Derived.Test.YtbpabpnpoidpcaaGreatDoorAbsi
import Derived.WalkKit
import Derived.RecoverIn
import Derived.KernelRfl
namespace Go.Proofs.YtbpabpnpoidpcaaGreatDoor
open Go.RowKit
set_option maxRecDepth 100000
set_option linter.unusedVariables false

theorem layTa (w : World) : (Instr.typeAssert .nilIface 20 100 true).run Tryz.prog w = .ok (.tuple #[.agg #[.nilIface], .bool false]) w := by kernel_rfl
theorem layd (p q : Value) (w : World) : CallsDIn (Am.Fw none) 0 Tryz.prog 49 #[p, q] .returning w fun e u w' => e = .returned (.tuple #[]) ∧ u = .returning ∧ Below w.heap.size w w' := by
  refine callsDIn_of_wpSIn Tryz.func49 rfl trivial fun c₀ cs hu => ?_
  apply wpSIn_seq
  apply wpSIn_region
  have hta := layTa
  simp [wpOpsSIn, go_sem, recoverD, hu, hta, Tryz.ntmps49, Exit.thenS]
  apply wpSIn_seq
  apply wpSIn_region
  simp [wpOpsSIn, go_sem, Exit.thenS]
  refine wpSIn_cond (t := false) (by simp [Act.eval, Array.replicate]) ?_
  simp only [Bool.false_eq_true, if_false]
  refine wpSIn_of_wpIn rfl (wpIn_skip ?_)
  cases c₀
  simp_all [bodyPostS, results, Tryz.results49]
  exact (Below.refl _ _).alloc (Nat.le_refl _) _

end Go.Proofs.YtbpabpnpoidpcaaGreatDoor
