/-
  DERIVED. GIVEN WITH THE SEED: THE CARDS: each row of YtbpabpnpoidpcaaGreatDoorRows.lean that lists a variable, with what it lists TIED to the program's text (the seventh form; the later family's looks); each row that meets fmt, with fmt's text TOLD by the authors' own Lean function (tested against real Go, not proved from fmt's source: count such statements apart). THE CARD IS WHAT COUNTS. Prove the row's statement (the work); the ties are given (YtbpabpnpoidpcaaGreatDoorTie.lean); close each card by the builder's one call (the guide's Derived/Test/ToyasCard.lean, 'card_holds'). Laid BY PROGRAM, IN A SANDBOX (cutbox-door.mjs). By AI agents, Wed Nov 11 2026. No macro, syntax, notation, axiom, sorry.
-/
import Derived.Test.YtbpabpnpoidpcaaGreatDoorRows
import GoSem.ClaimSeven
namespace Go.Proofs.YtbpabpnpoidpcaaGreatDoor
namespace Rows

/-- THE TIED CARD OF 'scantlinglaw48.StatTells'. -/
def statTellsCard : Claim7 := { stood := { row := statTellsRow, standIns := [], harness := (true, "6442690500bbf123d03c92dc60d3cf5849c1e5cbcf7b84f3158626c4f8be4d7e"), looks := true }, kinds := [], alts := [], laidByText := true, laidKinds := [.handle], laidTests := true, laidLooks := .later }
def StatTellsCardSaid : Prop := Claim7.holds Tryz.pinned (.plain (OpenSpec.ofChange statTellsSpec)) statTellsCard

/-- THE TIED CARD OF 'scantlinglaw48.StatPercents'. -/
def statPercentsCard : Claim7 := { stood := { row := statPercentsRow, standIns := [], harness := (true, "6442690500bbf123d03c92dc60d3cf5849c1e5cbcf7b84f3158626c4f8be4d7e"), looks := true }, kinds := [], alts := [], laidByText := true, laidKinds := [.handle], laidTests := true, laidLooks := .later }
def StatPercentsCardSaid : Prop := Claim7.holds Tryz.pinned (.plain (OpenSpec.ofChange statPercentsSpec)) statPercentsCard

/-- THE TIED CARD OF 'scantlinglaw48.StatBounds'. -/
def statBoundsCard : Claim7 := { stood := { row := statBoundsRow, standIns := [], harness := (true, "6442690500bbf123d03c92dc60d3cf5849c1e5cbcf7b84f3158626c4f8be4d7e"), looks := true }, kinds := [], alts := [], laidByText := true, laidKinds := [.data, .data, .data, .handle], laidTests := true, laidLooks := .later }
def StatBoundsCardSaid : Prop := Claim7.holds Tryz.pinned (.plain (OpenSpec.ofChange statBoundsSpec)) statBoundsCard

/-- THE SECOND FORM's CARD OF 'scantlinglaw48.StatTells'. -/
def statTellsUptoCard : Claim7 := { stood := { row := statTellsUptoRow, standIns := [], harness := (true, "6442690500bbf123d03c92dc60d3cf5849c1e5cbcf7b84f3158626c4f8be4d7e"), looks := true }, kinds := [], alts := [], laidByText := true, laidKinds := [.handle], laidTests := true, laidLooks := .later }
def StatTellsUptoCardSaid : Prop := Claim7.holds Tryz.pinned (.plain (OpenSpec.upto statTellsSpec)) statTellsUptoCard

/-- THE SECOND FORM's CARD OF 'scantlinglaw48.StatPercents'. -/
def statPercentsUptoCard : Claim7 := { stood := { row := statPercentsUptoRow, standIns := [], harness := (true, "6442690500bbf123d03c92dc60d3cf5849c1e5cbcf7b84f3158626c4f8be4d7e"), looks := true }, kinds := [], alts := [], laidByText := true, laidKinds := [.handle], laidTests := true, laidLooks := .later }
def StatPercentsUptoCardSaid : Prop := Claim7.holds Tryz.pinned (.plain (OpenSpec.upto statPercentsSpec)) statPercentsUptoCard

/-- THE SECOND FORM's CARD OF 'scantlinglaw48.StatBounds'. -/
def statBoundsUptoCard : Claim7 := { stood := { row := statBoundsUptoRow, standIns := [], harness := (true, "6442690500bbf123d03c92dc60d3cf5849c1e5cbcf7b84f3158626c4f8be4d7e"), looks := true }, kinds := [], alts := [], laidByText := true, laidKinds := [.data, .data, .data, .handle], laidTests := true, laidLooks := .later }
def StatBoundsUptoCardSaid : Prop := Claim7.holds Tryz.pinned (.plain (OpenSpec.upto statBoundsSpec)) statBoundsUptoCard
end Rows
end Go.Proofs.YtbpabpnpoidpcaaGreatDoor
