/-
  DERIVED. GIVEN WITH THE SEED: THE CARDS: each row of YtojeecabfcpbgaaGreatDoorRows.lean that lists a variable, with what it lists TIED to the program's text (the seventh form; the later family's looks); each row that meets fmt, with fmt's text TOLD by the authors' own Lean function (tested against real Go, not proved from fmt's source: count such statements apart). THE CARD IS WHAT COUNTS. Prove the row's statement (the work); the ties are given (YtojeecabfcpbgaaGreatDoorTie.lean); close each card by the builder's one call (the guide's Derived/Test/ToyasCard.lean, 'card_holds'). Laid BY PROGRAM, IN A SANDBOX (cutbox-door.mjs). By AI agents, Wed Nov 11 2026. No macro, syntax, notation, axiom, sorry.
-/
import Derived.Test.YtojeecabfcpbgaaGreatDoorRows
import GoSem.ClaimSeven
namespace Go.Proofs.YtojeecabfcpbgaaGreatDoor
namespace Rows

/-- THE TIED CARD OF 'eyotlaw22.LangGiven'. -/
def langGivenCard : Claim7 := { stood := { row := langGivenRow, standIns := [], harness := (true, "370cc99535b6b9d1d98371289c53701bfca2f85fa83ccea5e3d83f7b2eec2cce"), looks := true }, kinds := [], alts := [], laidByText := true, laidKinds := [.data, .data, .data, .data, .sentinel, .sentinel, .pinned], laidTests := true, laidLooks := .later }
def LangGivenCardSaid : Prop := Claim7.holds Tryz.pinned (.plain (OpenSpec.ofChange langGivenSpec)) langGivenCard

/-- THE TIED CARD OF 'eyotlaw22.LangAgain'. -/
def langAgainCard : Claim7 := { stood := { row := langAgainRow, standIns := [], harness := (true, "370cc99535b6b9d1d98371289c53701bfca2f85fa83ccea5e3d83f7b2eec2cce"), looks := true }, kinds := [], alts := [], laidByText := true, laidKinds := [.data, .data, .data, .data, .sentinel, .sentinel, .pinned], laidTests := true, laidLooks := .later }
def LangAgainCardSaid : Prop := Claim7.holds Tryz.pinned (.plain (OpenSpec.ofChange langAgainSpec)) langAgainCard

/-- THE SECOND FORM's CARD OF 'eyotlaw22.LangGiven'. -/
def langGivenUptoCard : Claim7 := { stood := { row := langGivenUptoRow, standIns := [], harness := (true, "370cc99535b6b9d1d98371289c53701bfca2f85fa83ccea5e3d83f7b2eec2cce"), looks := true }, kinds := [], alts := [], laidByText := true, laidKinds := [.data, .data, .data, .data, .sentinel, .sentinel, .pinned], laidTests := true, laidLooks := .later }
def LangGivenUptoCardSaid : Prop := Claim7.holds Tryz.pinned (.plain (OpenSpec.upto langGivenSpec)) langGivenUptoCard

/-- THE SECOND FORM's CARD OF 'eyotlaw22.LangAgain'. -/
def langAgainUptoCard : Claim7 := { stood := { row := langAgainUptoRow, standIns := [], harness := (true, "370cc99535b6b9d1d98371289c53701bfca2f85fa83ccea5e3d83f7b2eec2cce"), looks := true }, kinds := [], alts := [], laidByText := true, laidKinds := [.data, .data, .data, .data, .sentinel, .sentinel, .pinned], laidTests := true, laidLooks := .later }
def LangAgainUptoCardSaid : Prop := Claim7.holds Tryz.pinned (.plain (OpenSpec.upto langAgainSpec)) langAgainUptoCard
end Rows
end Go.Proofs.YtojeecabfcpbgaaGreatDoor
