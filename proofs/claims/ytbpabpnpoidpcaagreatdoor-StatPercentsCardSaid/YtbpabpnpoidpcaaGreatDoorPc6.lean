/- Names for parts of the loaded program. No conditions. -/
import Derived.Test.YtbpabpnpoidpcaaGreatDoorPc4
set_option linter.unusedVariables false
namespace Go.Proofs.YtbpabpnpoidpcaaGreatDoor
namespace Am
open Go Go.RowKit

def bs (l : List Nat) : ByteArray := ⟨⟨l.map UInt8.ofNat⟩⟩
def bodyOf (P : Program) (f : FuncId) : Code := match P.funcs[f]? with
  | some fn => match fn.body with
    | some c => c
    | none => .skip
  | none => .skip
/-- A range over a function within code, by its way. -/
def subLoop : Code → List Nat → Array Tmp × Code × Code
  | .seq a _, 0 :: p => subLoop a p
  | .seq _ b, _ :: p => subLoop b p
  | .cond _ a _, 0 :: p => subLoop a p
  | .cond _ _ b, _ :: p => subLoop b p
  | .block _ a, _ :: p => subLoop a p
  | .loop a, _ :: p => subLoop a p
  | .rangeFunc _ ps a b, [] => (ps, a, b)
  | .rangeFunc _ _ a _, 2 :: p => subLoop a p
  | .rangeFunc _ _ _ b, _ :: p => subLoop b p
  | _, _ => (#[], .skip, .skip)

end Am
end Go.Proofs.YtbpabpnpoidpcaaGreatDoor
