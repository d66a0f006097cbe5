/-
  DERIVED. GIVEN WITH THE SEED: THE CARDS: each row of YtdkddodpioepdaaGreatDoorRows.lean that lists a variable, with what it lists TIED to the program's text (the seventh form; the later family's looks); each row that meets fmt, with fmt's text TOLD by the authors' own Lean function (tested against real Go, not proved from fmt's source: count such statements apart). THE CARD IS WHAT COUNTS. Prove the row's statement (the work); the ties are given (YtdkddodpioepdaaGreatDoorTie.lean); close each card by the builder's one call (the guide's Derived/Test/ToyasCard.lean, 'card_holds'). Laid BY PROGRAM, IN A SANDBOX (cutbox-door.mjs). By AI agents, Wed Nov 11 2026. No macro, syntax, notation, axiom, sorry.
-/
import Derived.Test.YtdkddodpioepdaaGreatDoorRows
import GoSem.ClaimSeven
namespace Go.Proofs.YtdkddodpioepdaaGreatDoor
namespace Rows

/-- THE TIED CARD OF 'eyotlaw22.LangGiven'. -/
def langGivenCard : Claim7 := { stood := { row := langGivenRow, standIns := [], harness := (true, "3f5331254e398cda7894d34272d04274e530697de9d5ba8cb55850e9d099a3d4"), looks := true }, kinds := [], alts := [], laidByText := true, laidKinds := [.data, .data, .data, .data, .sentinel, .sentinel, .pinned], laidTests := true, laidLooks := .later }
def LangGivenCardSaid : Prop := Claim7.holds Tryz.pinned (.plain (OpenSpec.ofChange langGivenSpec)) langGivenCard

/-- THE TIED CARD OF 'eyotlaw22.LangCaps'. -/
def langCapsCard : Claim7 := { stood := { row := langCapsRow, standIns := [], harness := (true, "3f5331254e398cda7894d34272d04274e530697de9d5ba8cb55850e9d099a3d4"), looks := true }, kinds := [], alts := [], laidByText := true, laidKinds := [.data, .data, .data, .data, .sentinel, .sentinel, .pinned], laidTests := true, laidLooks := .later }
def LangCapsCardSaid : Prop := Claim7.holds Tryz.pinned (.plain (OpenSpec.ofChange langCapsSpec)) langCapsCard

/-- THE TIED CARD OF 'eyotlaw22.LangFirst'. -/
def langFirstCard : Claim7 := { stood := { row := langFirstRow, standIns := [], harness := (true, "3f5331254e398cda7894d34272d04274e530697de9d5ba8cb55850e9d099a3d4"), looks := true }, kinds := [], alts := [], laidByText := true, laidKinds := [.data, .data, .data, .data, .sentinel, .sentinel, .pinned], laidTests := true, laidLooks := .later }
def LangFirstCardSaid : Prop := Claim7.holds Tryz.pinned (.plain (OpenSpec.ofChange langFirstSpec)) langFirstCard

/-- THE TIED CARD OF 'eyotlaw22.LangAgain'. -/
def langAgainCard : Claim7 := { stood := { row := langAgainRow, standIns := [], harness := (true, "3f5331254e398cda7894d34272d04274e530697de9d5ba8cb55850e9d099a3d4"), looks := true }, kinds := [], alts := [], laidByText := true, laidKinds := [.data, .data, .data, .data, .sentinel, .sentinel, .pinned], laidTests := true, laidLooks := .later }
def LangAgainCardSaid : Prop := Claim7.holds Tryz.pinned (.plain (OpenSpec.ofChange langAgainSpec)) langAgainCard

/-- THE SECOND FORM's CARD OF 'eyotlaw22.LangGiven'. -/
def langGivenUptoCard : Claim7 := { stood := { row := langGivenUptoRow, standIns := [], harness := (true, "3f5331254e398cda7894d34272d04274e530697de9d5ba8cb55850e9d099a3d4"), looks := true }, kinds := [], alts := [], laidByText := true, laidKinds := [.data, .data, .data, .data, .sentinel, .sentinel, .pinned], laidTests := true, laidLooks := .later }
def LangGivenUptoCardSaid : Prop := Claim7.holds Tryz.pinned (.plain (OpenSpec.upto langGivenSpec)) langGivenUptoCard

/-- THE SECOND FORM's CARD OF 'eyotlaw22.LangCaps'. -/
def langCapsUptoCard : Claim7 := { stood := { row := langCapsUptoRow, standIns := [], harness := (true, "3f5331254e398cda7894d34272d04274e530697de9d5ba8cb55850e9d099a3d4"), looks := true }, kinds := [], alts := [], laidByText := true, laidKinds := [.data, .data, .data, .data, .sentinel, .sentinel, .pinned], laidTests := true, laidLooks := .later }
def LangCapsUptoCardSaid : Prop := Claim7.holds Tryz.pinned (.plain (OpenSpec.upto langCapsSpec)) langCapsUptoCard

/-- THE SECOND FORM's CARD OF 'eyotlaw22.LangFirst'. -/
def langFirstUptoCard : Claim7 := { stood := { row := langFirstUptoRow, standIns := [], harness := (true, "3f5331254e398cda7894d34272d04274e530697de9d5ba8cb55850e9d099a3d4"), looks := true }, kinds := [], alts := [], laidByText := true, laidKinds := [.data, .data, .data, .data, .sentinel, .sentinel, .pinned], laidTests := true, laidLooks := .later }
def LangFirstUptoCardSaid : Prop := Claim7.holds Tryz.pinned (.plain (OpenSpec.upto langFirstSpec)) langFirstUptoCard

/-- THE SECOND FORM's CARD OF 'eyotlaw22.LangAgain'. -/
def langAgainUptoCard : Claim7 := { stood := { row := langAgainUptoRow, standIns := [], harness := (true, "3f5331254e398cda7894d34272d04274e530697de9d5ba8cb55850e9d099a3d4"), looks := true }, kinds := [], alts := [], laidByText := true, laidKinds := [.data, .data, .data, .data, .sentinel, .sentinel, .pinned], laidTests := true, laidLooks := .later }
def LangAgainUptoCardSaid : Prop := Claim7.holds Tryz.pinned (.plain (OpenSpec.upto langAgainSpec)) langAgainUptoCard
end Rows
end Go.Proofs.YtdkddodpioepdaaGreatDoor
