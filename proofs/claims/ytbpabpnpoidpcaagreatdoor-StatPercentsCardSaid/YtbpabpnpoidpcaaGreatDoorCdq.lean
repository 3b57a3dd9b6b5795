/- StatPercents: for every input the call returns true and the arguments read as before (the tied card). Condition: errors.errorType holds what the program's text lays, which the card ties. -/
import Derived.Test.YtbpabpnpoidpcaaGreatDoorCdp
import Derived.Test.YtbpabpnpoidpcaaGreatDoorCdf
import Derived.Test.YtbpabpnpoidpcaaGreatDoorCards
import Derived.Test.YtbpabpnpoidpcaaGreatDoorTie
import Derived.SevenTiedAt
set_option linter.unusedVariables false
set_option maxRecDepth 100000
namespace Go.Proofs.YtbpabpnpoidpcaaGreatDoor.statPercents
open Go Go.ChangeShapes Go.WideShapes Go.ChangeAt Go.RowKit

theorem closed : joinedFacts Tryz.prog 4 Tryz.f4 Rows.statPercentsSpec Rows.statPercentsRow = true := by
  unfold joinedFacts
  repeat' with_reducible refine Card.andI ?_ ?_
  · exact k1
  · exact k2
  · exact k3
  · exact k4
  · exact k5
  · exact k6
  · exact k7
  · exact k8
  · exact k9
  · exact k10
  · exact k11
  · exact k12
  · exact k13
  · exact k14
  · exact k15
  · exact k16
  · exact k17
  · exact k18
  · exact k19
  · exact k20
  · exact k21
  · exact k22
  · exact k23
  · exact k24
  · exact k25
  · exact k26
  · exact k27
  · exact k28
  · exact k29
  · exact k30
  · exact k31
  · exact k32

theorem inst : Tryz.f4.isInstance Tryz.prog Rows.statPercentsRow.origin Rows.statPercentsRow.targs := of_decide_eq_true (by kernel_rfl)
theorem wrapper : Tryz.f4.isWrapper Tryz.prog Rows.statPercentsRow.wrapper Rows.statPercentsRow.mainSum := by
  unfold Func.isWrapper; first | (rw [if_pos (by decide +kernel)]; kernel_rfl) | (rw [if_neg (by decide +kernel)]; exact ⟨rfl, rfl⟩)

theorem over : Rows.StatPercentsSaid :=
  OpenClaim.holds_of_wide 4 Tryz.f4 rfl rfl rfl rfl rfl rfl rfl ⟨rfl, rfl, rfl, rfl, rfl⟩ rfl rfl rfl rfl rfl k0 Tryz.func4 closed inst wrapper
    (fun os started H enc _ => lifted os started H enc)

theorem c1 : Rows.statPercentsRow.wfByText (OpenSpec.ofChange Rows.statPercentsSpec) = true := by kernel_rfl
theorem c2 : Tryz.prog.mainIs = some (true, "6442690500bbf123d03c92dc60d3cf5849c1e5cbcf7b84f3158626c4f8be4d7e".toList) := by kernel_rfl
theorem c3 : true = Tryz.prog.looks [] := by kernel_rfl
theorem c4 : Tryz.prog.wantsStandIn 3 = false := by kernel_rfl
theorem c5 : false = Rows.statPercentsRow.goesBy Tryz.prog := by kernel_rfl

/-- The statement. -/
theorem card_holds : Rows.StatPercentsCardSaid :=
  Claim7.holds_tied_plain_at .later [] [.handle] true (true, "6442690500bbf123d03c92dc60d3cf5849c1e5cbcf7b84f3158626c4f8be4d7e") true
    over (fun _ h => by cases h) c1 (fun _ h => by cases h) statPercents_row_tie rfl ⟨rfl, rfl⟩ c2 rfl
    (fun f fn hf hfn => by
      obtain rfl : f = 4 := Option.some.inj (k0.symm.trans hf) |>.symm
      obtain rfl : fn = Tryz.f4 := (Option.some.inj (Tryz.func4.symm.trans hfn)).symm
      exact ⟨c3, fun j t ht => by
        rw [Tryz.params4] at ht
        have h3 : t = 3 := by
          rcases j with _ | _ | j
          · simpa using ht.symm
          · simpa using ht.symm
          · simp at ht
        subst h3
        exact c4⟩)
    c5
#print axioms card_holds
end Go.Proofs.YtbpabpnpoidpcaaGreatDoor.statPercents
