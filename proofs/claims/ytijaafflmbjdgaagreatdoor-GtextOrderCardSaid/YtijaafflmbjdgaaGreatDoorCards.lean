/-
  DERIVED. GIVEN WITH THE SEED: THE CARDS: each row of YtijaafflmbjdgaaGreatDoorRows.lean that lists a variable, with what it lists TIED to the program's text (the seventh form; the later family's looks); each row that meets fmt, with fmt's text TOLD by the authors' own Lean function (tested against real Go, not proved from fmt's source: count such statements apart). THE CARD IS WHAT COUNTS. Prove the row's statement (the work); the ties are given (YtijaafflmbjdgaaGreatDoorTie.lean); close each card by the builder's one call (the guide's Derived/Test/ToyasCard.lean, 'card_holds'). Laid BY PROGRAM, IN A SANDBOX (cutbox-door.mjs). By AI agents, Wed Nov 11 2026. No macro, syntax, notation, axiom, sorry.
-/
import Derived.Test.YtijaafflmbjdgaaGreatDoorRows
import GoSem.ClaimSeven
namespace Go.Proofs.YtijaafflmbjdgaaGreatDoor
namespace Rows

/-- THE TIED CARD OF 'eyotlaw21.WidePlaces'. -/
def widePlacesCard : Claim7 := { stood := { row := widePlacesRow, standIns := [], harness := (true, "4b5d017d6b4deb06f52b0149374726bccfbba192e79e338129214ed6dd9d015a"), looks := true }, kinds := [], alts := [], laidByText := true, laidKinds := [.data], laidTests := true, laidLooks := .later }
def WidePlacesCardSaid : Prop := Claim7.holds Tryz.pinned (.plain (OpenSpec.ofChange widePlacesSpec)) widePlacesCard

/-- THE TIED CARD OF 'eyotlaw14.GtextOrder'. -/
def gtextOrderCard : Claim7 := { stood := { row := gtextOrderRow, standIns := [], harness := (true, "4b5d017d6b4deb06f52b0149374726bccfbba192e79e338129214ed6dd9d015a"), looks := true }, kinds := [], alts := [], laidByText := true, laidKinds := [.data, .data, .data, .data, .sentinel, .sentinel, .pinned], laidTests := true, laidLooks := .later }
def GtextOrderCardSaid : Prop := Claim7.holds Tryz.pinned (.plain (OpenSpec.ofChange gtextOrderSpec)) gtextOrderCard

/-- THE SECOND FORM's CARD OF 'eyotlaw21.WidePlaces'. -/
def widePlacesUptoCard : Claim7 := { stood := { row := widePlacesUptoRow, standIns := [], harness := (true, "4b5d017d6b4deb06f52b0149374726bccfbba192e79e338129214ed6dd9d015a"), looks := true }, kinds := [], alts := [], laidByText := true, laidKinds := [.data], laidTests := true, laidLooks := .later }
def WidePlacesUptoCardSaid : Prop := Claim7.holds Tryz.pinned (.plain (OpenSpec.upto widePlacesSpec)) widePlacesUptoCard

/-- THE SECOND FORM's CARD OF 'eyotlaw14.GtextOrder'. -/
def gtextOrderUptoCard : Claim7 := { stood := { row := gtextOrderUptoRow, standIns := [], harness := (true, "4b5d017d6b4deb06f52b0149374726bccfbba192e79e338129214ed6dd9d015a"), looks := true }, kinds := [], alts := [], laidByText := true, laidKinds := [.data, .data, .data, .data, .sentinel, .sentinel, .pinned], laidTests := true, laidLooks := .later }
def GtextOrderUptoCardSaid : Prop := Claim7.holds Tryz.pinned (.plain (OpenSpec.upto gtextOrderSpec)) gtextOrderUptoCard
end Rows
end Go.Proofs.YtijaafflmbjdgaaGreatDoor
