/-
  DERIVED. GIVEN WITH THE SEED: THE CARDS: each row of YtmjbahmjgajmiaaGreatDoorRows.lean that lists a variable, with what it lists TIED to the program's text (the seventh form; the later family's looks); each row that meets fmt, with fmt's text TOLD by the authors' own Lean function (tested against real Go, not proved from fmt's source: count such statements apart). THE CARD IS WHAT COUNTS. Prove the row's statement (the work); the ties are given (YtmjbahmjgajmiaaGreatDoorTie.lean); close each card by the builder's one call (the guide's Derived/Test/ToyasCard.lean, 'card_holds'). Laid BY PROGRAM, IN A SANDBOX (cutbox-door.mjs). By AI agents, Wed Nov 11 2026. No macro, syntax, notation, axiom, sorry.
-/
import Derived.Test.YtmjbahmjgajmiaaGreatDoorRows
import GoSem.ClaimSeven
namespace Go.Proofs.YtmjbahmjgajmiaaGreatDoor
namespace Rows

/-- THE TIED CARD OF 'eyotlaw30.ScriptBack'. -/
def scriptBackCard : Claim7 := { stood := { row := scriptBackRow, standIns := [], harness := (true, "42019f17558db455cccf6a141f2446dbcd2d3717bc3a4fcec7ccc9b7119d4144"), looks := true }, kinds := [], alts := [], laidByText := true, laidKinds := [.data, .data, .data, .data, .sentinel, .sentinel, .pinned], laidTests := true, laidLooks := .later }
def ScriptBackCardSaid : Prop := Claim7.holds Tryz.pinned (.plain (OpenSpec.ofChange scriptBackSpec)) scriptBackCard

/-- THE TIED CARD OF 'eyotlaw30.ScriptLeft'. -/
def scriptLeftCard : Claim7 := { stood := { row := scriptLeftRow, standIns := [], harness := (true, "42019f17558db455cccf6a141f2446dbcd2d3717bc3a4fcec7ccc9b7119d4144"), looks := true }, kinds := [], alts := [], laidByText := true, laidKinds := [.data, .data, .data, .data, .sentinel, .sentinel, .pinned], laidTests := true, laidLooks := .later }
def ScriptLeftCardSaid : Prop := Claim7.holds Tryz.pinned (.plain (OpenSpec.ofChange scriptLeftSpec)) scriptLeftCard

/-- THE TIED CARD OF 'eyotlaw30.ScriptParts'. -/
def scriptPartsCard : Claim7 := { stood := { row := scriptPartsRow, standIns := [], harness := (true, "42019f17558db455cccf6a141f2446dbcd2d3717bc3a4fcec7ccc9b7119d4144"), looks := true }, kinds := [], alts := [], laidByText := true, laidKinds := [.data, .data, .data, .data, .sentinel, .sentinel, .pinned], laidTests := true, laidLooks := .later }
def ScriptPartsCardSaid : Prop := Claim7.holds Tryz.pinned (.plain (OpenSpec.ofChange scriptPartsSpec)) scriptPartsCard

/-- THE SECOND FORM's CARD OF 'eyotlaw30.ScriptBack'. -/
def scriptBackUptoCard : Claim7 := { stood := { row := scriptBackUptoRow, standIns := [], harness := (true, "42019f17558db455cccf6a141f2446dbcd2d3717bc3a4fcec7ccc9b7119d4144"), looks := true }, kinds := [], alts := [], laidByText := true, laidKinds := [.data, .data, .data, .data, .sentinel, .sentinel, .pinned], laidTests := true, laidLooks := .later }
def ScriptBackUptoCardSaid : Prop := Claim7.holds Tryz.pinned (.plain (OpenSpec.upto scriptBackSpec)) scriptBackUptoCard

/-- THE SECOND FORM's CARD OF 'eyotlaw30.ScriptLeft'. -/
def scriptLeftUptoCard : Claim7 := { stood := { row := scriptLeftUptoRow, standIns := [], harness := (true, "42019f17558db455cccf6a141f2446dbcd2d3717bc3a4fcec7ccc9b7119d4144"), looks := true }, kinds := [], alts := [], laidByText := true, laidKinds := [.data, .data, .data, .data, .sentinel, .sentinel, .pinned], laidTests := true, laidLooks := .later }
def ScriptLeftUptoCardSaid : Prop := Claim7.holds Tryz.pinned (.plain (OpenSpec.upto scriptLeftSpec)) scriptLeftUptoCard

/-- THE SECOND FORM's CARD OF 'eyotlaw30.ScriptParts'. -/
def scriptPartsUptoCard : Claim7 := { stood := { row := scriptPartsUptoRow, standIns := [], harness := (true, "42019f17558db455cccf6a141f2446dbcd2d3717bc3a4fcec7ccc9b7119d4144"), looks := true }, kinds := [], alts := [], laidByText := true, laidKinds := [.data, .data, .data, .data, .sentinel, .sentinel, .pinned], laidTests := true, laidLooks := .later }
def ScriptPartsUptoCardSaid : Prop := Claim7.holds Tryz.pinned (.plain (OpenSpec.upto scriptPartsSpec)) scriptPartsUptoCard
end Rows
end Go.Proofs.YtmjbahmjgajmiaaGreatDoor
