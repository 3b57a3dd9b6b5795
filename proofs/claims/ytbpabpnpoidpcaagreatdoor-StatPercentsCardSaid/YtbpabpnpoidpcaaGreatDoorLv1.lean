/- The document's example of layer 48, run by the kernel: it answers true. No conditions. -/
import Derived.Test.YtbpabpnpoidpcaaGreatDoorLv0
set_option maxRecDepth 1000000
namespace Go.Proofs.YtbpabpnpoidpcaaGreatDoor
namespace Am
open Go Go.RowKit

theorem lives_run : isT (zcallN Tryz.prog zbase zdcall plan (lkp pfL) 100000 (.func 6) [] ⟨0, .leaf⟩) = true := by kernel_rfl

end Am
end Go.Proofs.YtbpabpnpoidpcaaGreatDoor
