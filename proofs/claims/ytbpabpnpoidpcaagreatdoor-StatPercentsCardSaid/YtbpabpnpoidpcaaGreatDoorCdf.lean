/- Closed facts of the row of StatPercents, each by itself. No conditions. -/
import Derived.Test.YtbpabpnpoidpcaaGreatDoorChecked
import Derived.Test.YtbpabpnpoidpcaaGreatDoorRows
import Derived.ProofKit
import Derived.JoinedOf
set_option maxRecDepth 100000
namespace Go.Proofs.YtbpabpnpoidpcaaGreatDoor.statPercents
open Go Go.RowKit

theorem k0 : Tryz.prog.funcNamed "scantling/scantlinglaw48.StatPercents" = some 4 := by kernel_rfl
theorem k1 : Rows.statPercentsRow.wf (OpenSpec.ofChange Rows.statPercentsSpec) = true := by kernel_rfl
theorem k2 : laidOutB Tryz.prog = true := by kernel_rfl
theorem k3 : mapsRowed Tryz.prog = true := by kernel_rfl
theorem k4 : (Tryz.f4.params.all fun x => Tryz.prog.readableRec x) = true := by kernel_rfl
theorem k5 : namedTie Tryz.prog Rows.statPercentsRow.named Rows.statPercentsSpec.vars = true := by kernel_rfl
theorem k6 : (Rows.statPercentsRow.stops == []) = true := by kernel_rfl
theorem k7 : (Tryz.prog.stops == []) = true := by kernel_rfl
theorem k8 : (Rows.statPercentsRow.knobs == []) = true := by kernel_rfl
theorem k9 : (Tryz.prog.stopKnobs == []) = true := by kernel_rfl
theorem k10 : (Rows.statPercentsRow.inPlace == Tryz.prog.inPlace 4) = true := by kernel_rfl
theorem k11 : (Rows.statPercentsRow.unfollowed == Tryz.prog.unfollowed 4) = true := by kernel_rfl
theorem k12 : (Rows.statPercentsRow.recurses == Tryz.prog.recurses 4) = true := by kernel_rfl
theorem k13 : (Rows.statPercentsRow.named == Tryz.prog.varsNamed 4) = true := by kernel_rfl
theorem k14 : (Rows.statPercentsRow.maps == (Tryz.f4.params.toList ++ Rows.statPercentsSpec.plain.varTypes Tryz.prog).any (Tryz.prog.mapsRec ·)) = true := by kernel_rfl
theorem k15 : (Rows.statPercentsRow.ifaces == (Tryz.f4.params.toList ++ Rows.statPercentsSpec.plain.varTypes Tryz.prog).any (Tryz.prog.ifacesRec ·)) = true := by kernel_rfl
theorem k16 : (Rows.statPercentsRow.mapsOut == Tryz.prog.mapsAmong Tryz.f4.resultTypes.toList) = true := by kernel_rfl
theorem k17 : (Rows.statPercentsRow.loops == (Tryz.f4.params.toList ++ Rows.statPercentsSpec.plain.varTypes Tryz.prog).any (Tryz.prog.loopsFrom ·)) = true := by kernel_rfl
theorem k18 : (Rows.statPercentsRow.wideKeys == (Tryz.f4.params.toList ++ Rows.statPercentsSpec.plain.varTypes Tryz.prog ++ Tryz.f4.resultTypes.toList).any (Tryz.prog.wideKeysFrom ·)) = true := by kernel_rfl
theorem k19 : (Rows.statPercentsSpec.vars.all (Tryz.prog.varReadable ·)) = true := by kernel_rfl
theorem k20 : (Tryz.f4.resultTypes.all (fun t => Tryz.prog.readableRec t && decide (t < Tryz.prog.types.size))) = true := by kernel_rfl
theorem k21 : (Rows.statPercentsRow.ifacesOut == Tryz.f4.resultTypes.toList.any (Tryz.prog.ifacesRec ·)) = true := by kernel_rfl
theorem k22 : (Rows.statPercentsRow.loopsOut == Tryz.f4.resultTypes.toList.any (Tryz.prog.loopsFrom ·)) = true := by kernel_rfl
theorem k23 : (Rows.statPercentsRow.plainKeys == Tryz.prog.plainKeys) = true := by kernel_rfl
theorem k24 : Rows.statPercentsRow.shortTexts.isNone = true := by kernel_rfl
theorem k25 : Tryz.prog.stopsHeard = true := by kernel_rfl
theorem k26 : Tryz.prog.mayEnter = true := by kernel_rfl
theorem k27 : (Rows.statPercentsRow.lifted == Tryz.prog.liftsFinal) = true := by kernel_rfl
theorem k28 : (Tryz.prog.make == some Rows.statPercentsRow.make) = true := by kernel_rfl
theorem k29 : (Rows.statPercentsRow.kinds == (if Rows.statPercentsRow.domain.isEmpty then [] else Tryz.f4.params.toList.map fun t => match Tryz.prog.underlying t with | some (.int k) => some k | _ => none)) = true := by kernel_rfl
theorem k30 : (Rows.statPercentsRow.pinned == Rows.statPercentsRow.pinnedBy) = true := by kernel_rfl
theorem k31 : (Rows.statPercentsRow.veiled == (Tryz.f4.params.toList ++ Rows.statPercentsSpec.plain.varTypes Tryz.prog ++ Tryz.f4.resultTypes.toList).any (Tryz.prog.veiledRec ·)) = true := by kernel_rfl
theorem k32 : (Rows.statPercentsRow.veiledFits Tryz.prog Tryz.f4.params.toList (Tryz.f4.params.toList ++ Rows.statPercentsSpec.plain.varTypes Tryz.prog ++ Tryz.f4.resultTypes.toList)) = true := by kernel_rfl
end Go.Proofs.YtbpabpnpoidpcaaGreatDoor.statPercents
