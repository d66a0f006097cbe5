/-
  DERIVED. GIVEN WITH THE SEED: THE CARDS: each row of YtjcnpcdcpfbpdaaGreatDoorRows.lean that lists a variable, with what it lists TIED to the program's text (the seventh form; the later family's looks); each row that meets fmt, with fmt's text TOLD by the authors' own Lean function (tested against real Go, not proved from fmt's source: count such statements apart). THE CARD IS WHAT COUNTS. Prove the row's statement (the work); the ties are given (YtjcnpcdcpfbpdaaGreatDoorTie.lean); close each card by the builder's one call (the guide's Derived/Test/ToyasCard.lean, 'card_holds'). Laid BY PROGRAM, IN A SANDBOX (cutbox-door.mjs). By AI agents, Wed Nov 11 2026. No macro, syntax, notation, axiom, sorry.
-/
import Derived.Test.YtjcnpcdcpfbpdaaGreatDoorRows
import GoSem.ClaimSeven
namespace Go.Proofs.YtjcnpcdcpfbpdaaGreatDoor
namespace Rows

/-- THE TIED CARD OF 'eyotlaw14.GtextParses'. -/
def gtextParsesCard : Claim7 := { stood := { row := gtextParsesRow, standIns := [], harness := (true, "bcc5565309d7f5661bb6b0a17463cadedc65cbd81e31414bc586fc3dd0d05011"), looks := true }, kinds := [], alts := [], laidByText := true, laidKinds := [.data, .data, .data, .data, .sentinel, .sentinel, .pinned], laidTests := true, laidLooks := .later }
def GtextParsesCardSaid : Prop := Claim7.holds Tryz.pinned (.plain (OpenSpec.ofChange gtextParsesSpec)) gtextParsesCard

/-- THE TIED CARD OF 'eyotlaw14.GtextShows'. -/
def gtextShowsCard : Claim7 := { stood := { row := gtextShowsRow, standIns := [], harness := (true, "bcc5565309d7f5661bb6b0a17463cadedc65cbd81e31414bc586fc3dd0d05011"), looks := true }, kinds := [], alts := [], laidByText := true, laidKinds := [.data, .data, .data, .data, .sentinel, .sentinel, .pinned], laidTests := true, laidLooks := .later }
def GtextShowsCardSaid : Prop := Claim7.holds Tryz.pinned (.plain (OpenSpec.ofChange gtextShowsSpec)) gtextShowsCard

/-- THE TIED CARD OF 'eyotlaw14.GtextBack'. -/
def gtextBackCard : Claim7 := { stood := { row := gtextBackRow, standIns := [], harness := (true, "bcc5565309d7f5661bb6b0a17463cadedc65cbd81e31414bc586fc3dd0d05011"), looks := true }, kinds := [], alts := [], laidByText := true, laidKinds := [.data, .data, .data, .data, .sentinel, .sentinel, .pinned], laidTests := true, laidLooks := .later }
def GtextBackCardSaid : Prop := Claim7.holds Tryz.pinned (.plain (OpenSpec.ofChange gtextBackSpec)) gtextBackCard

/-- THE TIED CARD OF 'eyotlaw14.GtextLines'. -/
def gtextLinesCard : Claim7 := { stood := { row := gtextLinesRow, standIns := [], harness := (true, "bcc5565309d7f5661bb6b0a17463cadedc65cbd81e31414bc586fc3dd0d05011"), looks := true }, kinds := [], alts := [], laidByText := true, laidKinds := [.data, .data, .data, .data, .sentinel, .sentinel, .pinned], laidTests := true, laidLooks := .later }
def GtextLinesCardSaid : Prop := Claim7.holds Tryz.pinned (.plain (OpenSpec.ofChange gtextLinesSpec)) gtextLinesCard

/-- THE TIED CARD OF 'eyotlaw14.GtextNumbers'. -/
def gtextNumbersCard : Claim7 := { stood := { row := gtextNumbersRow, standIns := [], harness := (true, "bcc5565309d7f5661bb6b0a17463cadedc65cbd81e31414bc586fc3dd0d05011"), looks := true }, kinds := [], alts := [], laidByText := true, laidKinds := [.data, .data, .data, .data, .sentinel, .sentinel, .pinned], laidTests := true, laidLooks := .later }
def GtextNumbersCardSaid : Prop := Claim7.holds Tryz.pinned (.plain (OpenSpec.ofChange gtextNumbersSpec)) gtextNumbersCard

/-- THE TIED CARD OF 'eyotlaw14.GtextSpaces'. -/
def gtextSpacesCard : Claim7 := { stood := { row := gtextSpacesRow, standIns := [], harness := (true, "bcc5565309d7f5661bb6b0a17463cadedc65cbd81e31414bc586fc3dd0d05011"), looks := true }, kinds := [], alts := [], laidByText := true, laidKinds := [.data, .data, .data, .data, .sentinel, .sentinel, .pinned], laidTests := true, laidLooks := .later }
def GtextSpacesCardSaid : Prop := Claim7.holds Tryz.pinned (.plain (OpenSpec.ofChange gtextSpacesSpec)) gtextSpacesCard

/-- THE TIED CARD OF 'eyotlaw14.GtextOrder'. -/
def gtextOrderCard : Claim7 := { stood := { row := gtextOrderRow, standIns := [], harness := (true, "bcc5565309d7f5661bb6b0a17463cadedc65cbd81e31414bc586fc3dd0d05011"), looks := true }, kinds := [], alts := [], laidByText := true, laidKinds := [.data, .data, .data, .data, .sentinel, .sentinel, .pinned], laidTests := true, laidLooks := .later }
def GtextOrderCardSaid : Prop := Claim7.holds Tryz.pinned (.plain (OpenSpec.ofChange gtextOrderSpec)) gtextOrderCard

/-- THE SECOND FORM's CARD OF 'eyotlaw14.GtextParses'. -/
def gtextParsesUptoCard : Claim7 := { stood := { row := gtextParsesUptoRow, standIns := [], harness := (true, "bcc5565309d7f5661bb6b0a17463cadedc65cbd81e31414bc586fc3dd0d05011"), looks := true }, kinds := [], alts := [], laidByText := true, laidKinds := [.data, .data, .data, .data, .sentinel, .sentinel, .pinned], laidTests := true, laidLooks := .later }
def GtextParsesUptoCardSaid : Prop := Claim7.holds Tryz.pinned (.plain (OpenSpec.upto gtextParsesSpec)) gtextParsesUptoCard

/-- THE SECOND FORM's CARD OF 'eyotlaw14.GtextShows'. -/
def gtextShowsUptoCard : Claim7 := { stood := { row := gtextShowsUptoRow, standIns := [], harness := (true, "bcc5565309d7f5661bb6b0a17463cadedc65cbd81e31414bc586fc3dd0d05011"), looks := true }, kinds := [], alts := [], laidByText := true, laidKinds := [.data, .data, .data, .data, .sentinel, .sentinel, .pinned], laidTests := true, laidLooks := .later }
def GtextShowsUptoCardSaid : Prop := Claim7.holds Tryz.pinned (.plain (OpenSpec.upto gtextShowsSpec)) gtextShowsUptoCard

/-- THE SECOND FORM's CARD OF 'eyotlaw14.GtextBack'. -/
def gtextBackUptoCard : Claim7 := { stood := { row := gtextBackUptoRow, standIns := [], harness := (true, "bcc5565309d7f5661bb6b0a17463cadedc65cbd81e31414bc586fc3dd0d05011"), looks := true }, kinds := [], alts := [], laidByText := true, laidKinds := [.data, .data, .data, .data, .sentinel, .sentinel, .pinned], laidTests := true, laidLooks := .later }
def GtextBackUptoCardSaid : Prop := Claim7.holds Tryz.pinned (.plain (OpenSpec.upto gtextBackSpec)) gtextBackUptoCard

/-- THE SECOND FORM's CARD OF 'eyotlaw14.GtextLines'. -/
def gtextLinesUptoCard : Claim7 := { stood := { row := gtextLinesUptoRow, standIns := [], harness := (true, "bcc5565309d7f5661bb6b0a17463cadedc65cbd81e31414bc586fc3dd0d05011"), looks := true }, kinds := [], alts := [], laidByText := true, laidKinds := [.data, .data, .data, .data, .sentinel, .sentinel, .pinned], laidTests := true, laidLooks := .later }
def GtextLinesUptoCardSaid : Prop := Claim7.holds Tryz.pinned (.plain (OpenSpec.upto gtextLinesSpec)) gtextLinesUptoCard

/-- THE SECOND FORM's CARD OF 'eyotlaw14.GtextNumbers'. -/
def gtextNumbersUptoCard : Claim7 := { stood := { row := gtextNumbersUptoRow, standIns := [], harness := (true, "bcc5565309d7f5661bb6b0a17463cadedc65cbd81e31414bc586fc3dd0d05011"), looks := true }, kinds := [], alts := [], laidByText := true, laidKinds := [.data, .data, .data, .data, .sentinel, .sentinel, .pinned], laidTests := true, laidLooks := .later }
def GtextNumbersUptoCardSaid : Prop := Claim7.holds Tryz.pinned (.plain (OpenSpec.upto gtextNumbersSpec)) gtextNumbersUptoCard

/-- THE SECOND FORM's CARD OF 'eyotlaw14.GtextSpaces'. -/
def gtextSpacesUptoCard : Claim7 := { stood := { row := gtextSpacesUptoRow, standIns := [], harness := (true, "bcc5565309d7f5661bb6b0a17463cadedc65cbd81e31414bc586fc3dd0d05011"), looks := true }, kinds := [], alts := [], laidByText := true, laidKinds := [.data, .data, .data, .data, .sentinel, .sentinel, .pinned], laidTests := true, laidLooks := .later }
def GtextSpacesUptoCardSaid : Prop := Claim7.holds Tryz.pinned (.plain (OpenSpec.upto gtextSpacesSpec)) gtextSpacesUptoCard

/-- THE SECOND FORM's CARD OF 'eyotlaw14.GtextOrder'. -/
def gtextOrderUptoCard : Claim7 := { stood := { row := gtextOrderUptoRow, standIns := [], harness := (true, "bcc5565309d7f5661bb6b0a17463cadedc65cbd81e31414bc586fc3dd0d05011"), looks := true }, kinds := [], alts := [], laidByText := true, laidKinds := [.data, .data, .data, .data, .sentinel, .sentinel, .pinned], laidTests := true, laidLooks := .later }
def GtextOrderUptoCardSaid : Prop := Claim7.holds Tryz.pinned (.plain (OpenSpec.upto gtextOrderSpec)) gtextOrderUptoCard
end Rows
end Go.Proofs.YtjcnpcdcpfbpdaaGreatDoor
