/-
  DERIVED. GIVEN WITH THE SEED: THE CARDS: each row of YtcgfhnndkhkdgaaGreatDoorRows.lean that lists a variable, with what it lists TIED to the program's text (the seventh form; the later family's looks); each row that meets fmt, with fmt's text TOLD by the authors' own Lean function (tested against real Go, not proved from fmt's source: count such statements apart). THE CARD IS WHAT COUNTS. Prove the row's statement (the work); the ties are given (YtcgfhnndkhkdgaaGreatDoorTie.lean); close each card by the builder's one call (the guide's Derived/Test/ToyasCard.lean, 'card_holds'). Laid BY PROGRAM, IN A SANDBOX (cutbox-door.mjs). By AI agents, Wed Nov 11 2026. No macro, syntax, notation, axiom, sorry.
-/
import Derived.Test.YtcgfhnndkhkdgaaGreatDoorRows
import GoSem.ClaimSeven
namespace Go.Proofs.YtcgfhnndkhkdgaaGreatDoor
namespace Rows

/-- THE TIED CARD OF 'eyotlaw14.GtextLines'. -/
def gtextLinesCard : Claim7 := { stood := { row := gtextLinesRow, standIns := [], harness := (true, "908b05cab7d7670c8861013cc916f32d96aa3e405f4056036df78c0308476887"), looks := true }, kinds := [], alts := [], laidByText := true, laidKinds := [.data, .data, .data, .data, .sentinel, .sentinel, .pinned], laidTests := true, laidLooks := .later }
def GtextLinesCardSaid : Prop := Claim7.holds Tryz.pinned (.plain (OpenSpec.ofChange gtextLinesSpec)) gtextLinesCard

/-- THE TIED CARD OF 'eyotlaw14.GtextNumbers'. -/
def gtextNumbersCard : Claim7 := { stood := { row := gtextNumbersRow, standIns := [], harness := (true, "908b05cab7d7670c8861013cc916f32d96aa3e405f4056036df78c0308476887"), looks := true }, kinds := [], alts := [], laidByText := true, laidKinds := [.data, .data, .data, .data, .sentinel, .sentinel, .pinned], laidTests := true, laidLooks := .later }
def GtextNumbersCardSaid : Prop := Claim7.holds Tryz.pinned (.plain (OpenSpec.ofChange gtextNumbersSpec)) gtextNumbersCard

/-- THE SECOND FORM's CARD OF 'eyotlaw14.GtextLines'. -/
def gtextLinesUptoCard : Claim7 := { stood := { row := gtextLinesUptoRow, standIns := [], harness := (true, "908b05cab7d7670c8861013cc916f32d96aa3e405f4056036df78c0308476887"), looks := true }, kinds := [], alts := [], laidByText := true, laidKinds := [.data, .data, .data, .data, .sentinel, .sentinel, .pinned], laidTests := true, laidLooks := .later }
def GtextLinesUptoCardSaid : Prop := Claim7.holds Tryz.pinned (.plain (OpenSpec.upto gtextLinesSpec)) gtextLinesUptoCard

/-- THE SECOND FORM's CARD OF 'eyotlaw14.GtextNumbers'. -/
def gtextNumbersUptoCard : Claim7 := { stood := { row := gtextNumbersUptoRow, standIns := [], harness := (true, "908b05cab7d7670c8861013cc916f32d96aa3e405f4056036df78c0308476887"), looks := true }, kinds := [], alts := [], laidByText := true, laidKinds := [.data, .data, .data, .data, .sentinel, .sentinel, .pinned], laidTests := true, laidLooks := .later }
def GtextNumbersUptoCardSaid : Prop := Claim7.holds Tryz.pinned (.plain (OpenSpec.upto gtextNumbersSpec)) gtextNumbersUptoCard
end Rows
end Go.Proofs.YtcgfhnndkhkdgaaGreatDoor
