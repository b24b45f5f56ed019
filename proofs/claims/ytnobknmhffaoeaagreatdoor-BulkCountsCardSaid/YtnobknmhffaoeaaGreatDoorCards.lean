/-
  DERIVED. GIVEN WITH THE SEED: THE CARDS: each row of YtnobknmhffaoeaaGreatDoorRows.lean that lists a variable, with what it lists TIED to the program's text (the seventh form; the later family's looks); each row that meets fmt, with fmt's text TOLD by the authors' own Lean function (tested against real Go, not proved from fmt's source: count such statements apart). THE CARD IS WHAT COUNTS. Prove the row's statement (the work); the ties are given (YtnobknmhffaoeaaGreatDoorTie.lean); close each card by the builder's one call (the guide's Derived/Test/ToyasCard.lean, 'card_holds'). Laid BY PROGRAM, IN A SANDBOX (cutbox-door.mjs). By AI agents, Wed Nov 11 2026. No macro, syntax, notation, axiom, sorry.
-/
import Derived.Test.YtnobknmhffaoeaaGreatDoorRows
import GoSem.ClaimSeven
namespace Go.Proofs.YtnobknmhffaoeaaGreatDoor
namespace Rows

/-- THE TIED CARD OF 'sluicegatelaw33.BulkLays'. -/
def bulkLaysCard : Claim7 := { stood := { row := bulkLaysRow, standIns := [], harness := (true, "c72c1295aef49536f89472167111df99461167b75acc902555a8efa60d614660"), looks := false }, kinds := [], alts := [], laidByText := true, laidKinds := [.data], laidTests := true, laidLooks := .later }
def BulkLaysCardSaid : Prop := Claim7.holds Tryz.pinned (.plain (OpenSpec.ofChange bulkLaysSpec)) bulkLaysCard

/-- THE TIED CARD OF 'sluicegatelaw33.BulkCounts'. -/
def bulkCountsCard : Claim7 := { stood := { row := bulkCountsRow, standIns := [], harness := (true, "c72c1295aef49536f89472167111df99461167b75acc902555a8efa60d614660"), looks := false }, kinds := [], alts := [], laidByText := true, laidKinds := [.data], laidTests := true, laidLooks := .later }
def BulkCountsCardSaid : Prop := Claim7.holds Tryz.pinned (.plain (OpenSpec.ofChange bulkCountsSpec)) bulkCountsCard

/-- THE SECOND FORM's CARD OF 'sluicegatelaw33.BulkLays'. -/
def bulkLaysUptoCard : Claim7 := { stood := { row := bulkLaysUptoRow, standIns := [], harness := (true, "c72c1295aef49536f89472167111df99461167b75acc902555a8efa60d614660"), looks := false }, kinds := [], alts := [], laidByText := true, laidKinds := [.data], laidTests := true, laidLooks := .later }
def BulkLaysUptoCardSaid : Prop := Claim7.holds Tryz.pinned (.plain (OpenSpec.upto bulkLaysSpec)) bulkLaysUptoCard

/-- THE SECOND FORM's CARD OF 'sluicegatelaw33.BulkCounts'. -/
def bulkCountsUptoCard : Claim7 := { stood := { row := bulkCountsUptoRow, standIns := [], harness := (true, "c72c1295aef49536f89472167111df99461167b75acc902555a8efa60d614660"), looks := false }, kinds := [], alts := [], laidByText := true, laidKinds := [.data], laidTests := true, laidLooks := .later }
def BulkCountsUptoCardSaid : Prop := Claim7.holds Tryz.pinned (.plain (OpenSpec.upto bulkCountsSpec)) bulkCountsUptoCard
end Rows
end Go.Proofs.YtnobknmhffaoeaaGreatDoor
