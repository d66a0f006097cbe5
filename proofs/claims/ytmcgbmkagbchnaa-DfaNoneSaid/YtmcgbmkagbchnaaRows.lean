/-
  No cell of these rows narrows 'for every input' (looked for: loops, veiled, ifaces, maps, wideKeys, modest, calm, conditions, laid).
  DERIVED. THE GIVEN ROWS OF THIS SEAT. 6 by the template 'for every input the law returns true; each argument reads behind the call as it read before'; 0 by the template 'total and deterministic' (their statements: YtmcgbmkagbchnaaTotals.lean).
  GIVEN WITH THE SEED: the statements are not yours to turn. If you find one false, say at which input.
  Laid BY PROGRAM, IN A SANDBOX (cutbox-rows.mjs): the forced cells as the released guide's own fill.sh prints them over the translation 40e0fc972104f14a… (all of the seat's roots in one cut). By AI agents, Wed Nov 11 2026. No macro, syntax, notation, axiom, sorry.
-/
import Derived.Test.YtmcgbmkagbchnaaChecked
import GoSem.Claim
import GoSem.ClaimJoined
import GoSem.ClaimMapViews
import Derived.JoinedTies
import Derived.KernelRfl
namespace Go.Proofs.Ytmcgbmkagbchnaa
/- THE CELL 'sum', in the pinned program and in every row, IS THE sha256 OF THE DUMP (.gsa) THAT YtmcgbmkagbchnaaProg.lean LOADS. Nothing in Lean hashes anything: it is a label: what it is worth is what the hold of that sum in a sandbox is worth. -/
noncomputable def Try.pinned : Pinned := { name := "ytmcgbmkagbchnaa", sum := "40e0fc972104f14a915d8d7ddac10ce8a378f6cda2db93f9e56d05c34eccf3e6", checked := Try.checked }
namespace Rows
def none {H : Type} : Left H := { results := [], args := [] }

/-- 'eyotlaw11.DfaAny': WHATEVER THE INPUT: true; the input reads as it did. -/
def dfaAnySpec : ChangeSpec := { name := "dfaAny", fn := fun _ => fun
  | [d1, d2] => { results := [.lit (.bool true)], args := [d1, d2] }
  | _ => none }
def dfaAnyRow : OpenClaim := { program := "ytmcgbmkagbchnaa", sum := "40e0fc972104f14a915d8d7ddac10ce8a378f6cda2db93f9e56d05c34eccf3e6", func := "eyot/eyotlaw11.DfaAny", spec := "dfaAny", unfollowed := true, recurses := true, apart := false }
def DfaAnySaid : Prop := dfaAnyRow.holds Try.pinned (OpenSpec.ofChange dfaAnySpec)

/-- ITS FALSE NEIGHBOUR: 'it returns false'. Refute it at one input. -/
def dfaAnyWrong : ChangeSpec := { name := "dfaAny", fn := fun _ => fun
  | [d1, d2] => { results := [.lit (.bool false)], args := [d1, d2] }
  | _ => none }
def DfaAnyWrongFalsely : Prop := dfaAnyRow.holds Try.pinned (OpenSpec.ofChange dfaAnyWrong)

/-- 'eyotlaw11.DfaMatches': WHATEVER THE INPUT: true; the input reads as it did. -/
def dfaMatchesSpec : ChangeSpec := { name := "dfaMatches", fn := fun _ => fun
  | [d1, d2] => { results := [.lit (.bool true)], args := [d1, d2] }
  | _ => none }
def dfaMatchesRow : OpenClaim := { program := "ytmcgbmkagbchnaa", sum := "40e0fc972104f14a915d8d7ddac10ce8a378f6cda2db93f9e56d05c34eccf3e6", func := "eyot/eyotlaw11.DfaMatches", spec := "dfaMatches", unfollowed := true, recurses := true, apart := false }
def DfaMatchesSaid : Prop := dfaMatchesRow.holds Try.pinned (OpenSpec.ofChange dfaMatchesSpec)

/-- ITS FALSE NEIGHBOUR: 'it returns false'. Refute it at one input. -/
def dfaMatchesWrong : ChangeSpec := { name := "dfaMatches", fn := fun _ => fun
  | [d1, d2] => { results := [.lit (.bool false)], args := [d1, d2] }
  | _ => none }
def DfaMatchesWrongFalsely : Prop := dfaMatchesRow.holds Try.pinned (OpenSpec.ofChange dfaMatchesWrong)

/-- 'eyotlaw11.DfaFront': WHATEVER THE INPUT: true; the input reads as it did. -/
def dfaFrontSpec : ChangeSpec := { name := "dfaFront", fn := fun _ => fun
  | [d1, d2, d3] => { results := [.lit (.bool true)], args := [d1, d2, d3] }
  | _ => none }
def dfaFrontRow : OpenClaim := { program := "ytmcgbmkagbchnaa", sum := "40e0fc972104f14a915d8d7ddac10ce8a378f6cda2db93f9e56d05c34eccf3e6", func := "eyot/eyotlaw11.DfaFront", spec := "dfaFront", unfollowed := true, recurses := true, apart := false }
def DfaFrontSaid : Prop := dfaFrontRow.holds Try.pinned (OpenSpec.ofChange dfaFrontSpec)

/-- ITS FALSE NEIGHBOUR: 'it returns false'. Refute it at one input. -/
def dfaFrontWrong : ChangeSpec := { name := "dfaFront", fn := fun _ => fun
  | [d1, d2, d3] => { results := [.lit (.bool false)], args := [d1, d2, d3] }
  | _ => none }
def DfaFrontWrongFalsely : Prop := dfaFrontRow.holds Try.pinned (OpenSpec.ofChange dfaFrontWrong)

/-- 'eyotlaw11.DfaWalks': WHATEVER THE INPUT: true; the input reads as it did. -/
def dfaWalksSpec : ChangeSpec := { name := "dfaWalks", fn := fun _ => fun
  | [d1, d2] => { results := [.lit (.bool true)], args := [d1, d2] }
  | _ => none }
def dfaWalksRow : OpenClaim := { program := "ytmcgbmkagbchnaa", sum := "40e0fc972104f14a915d8d7ddac10ce8a378f6cda2db93f9e56d05c34eccf3e6", func := "eyot/eyotlaw11.DfaWalks", spec := "dfaWalks", unfollowed := true, recurses := true, apart := false }
def DfaWalksSaid : Prop := dfaWalksRow.holds Try.pinned (OpenSpec.ofChange dfaWalksSpec)

/-- ITS FALSE NEIGHBOUR: 'it returns false'. Refute it at one input. -/
def dfaWalksWrong : ChangeSpec := { name := "dfaWalks", fn := fun _ => fun
  | [d1, d2] => { results := [.lit (.bool false)], args := [d1, d2] }
  | _ => none }
def DfaWalksWrongFalsely : Prop := dfaWalksRow.holds Try.pinned (OpenSpec.ofChange dfaWalksWrong)

/-- 'eyotlaw11.DfaNone': WHATEVER THE INPUT: true; the input reads as it did. -/
def dfaNoneSpec : ChangeSpec := { name := "dfaNone", fn := fun _ => fun
  | [] => { results := [.lit (.bool true)], args := [] }
  | _ => none }
def dfaNoneRow : OpenClaim := { program := "ytmcgbmkagbchnaa", sum := "40e0fc972104f14a915d8d7ddac10ce8a378f6cda2db93f9e56d05c34eccf3e6", func := "eyot/eyotlaw11.DfaNone", spec := "dfaNone", unfollowed := true, recurses := true, apart := false }
def DfaNoneSaid : Prop := dfaNoneRow.holds Try.pinned (OpenSpec.ofChange dfaNoneSpec)

/-- ITS FALSE NEIGHBOUR: 'it returns false'. Refute it at one input. -/
def dfaNoneWrong : ChangeSpec := { name := "dfaNone", fn := fun _ => fun
  | [] => { results := [.lit (.bool false)], args := [] }
  | _ => none }
def DfaNoneWrongFalsely : Prop := dfaNoneRow.holds Try.pinned (OpenSpec.ofChange dfaNoneWrong)

/-- 'eyotlaw11.DfaFirst': WHATEVER THE INPUT: true; the input reads as it did. -/
def dfaFirstSpec : ChangeSpec := { name := "dfaFirst", fn := fun _ => fun
  | [d1, d2] => { results := [.lit (.bool true)], args := [d1, d2] }
  | _ => none }
def dfaFirstRow : OpenClaim := { program := "ytmcgbmkagbchnaa", sum := "40e0fc972104f14a915d8d7ddac10ce8a378f6cda2db93f9e56d05c34eccf3e6", func := "eyot/eyotlaw11.DfaFirst", spec := "dfaFirst", unfollowed := true, recurses := true, apart := false }
def DfaFirstSaid : Prop := dfaFirstRow.holds Try.pinned (OpenSpec.ofChange dfaFirstSpec)

/-- ITS FALSE NEIGHBOUR: 'it returns false'. Refute it at one input. -/
def dfaFirstWrong : ChangeSpec := { name := "dfaFirst", fn := fun _ => fun
  | [d1, d2] => { results := [.lit (.bool false)], args := [d1, d2] }
  | _ => none }
def DfaFirstWrongFalsely : Prop := dfaFirstRow.holds Try.pinned (OpenSpec.ofChange dfaFirstWrong)

/- THE SECOND FORM. 'bulk': how many values and letters a reading holds, each counted each time it is reached (what is shared counts as often as it is met; a slice's spare places count too). A statement '..UptoSaid' is the law's where the arguments, and the package variables that the reading takes, are together of bulk at most 1048576: NARROWER than '..Said'. Prove '..Said' where nothing that the law and all that it calls make is longer than what came in: it says more and counts as full. Else prove '..UptoSaid'. A law counts once. -/
mutual
def uptoBulk {H : Type} : DataW H → Nat
  | .lit (.string bytes) => bytes.length + 1
  | .lit _ => 1
  | .nil => 1
  | .ptr d => uptoBulk d + 1
  | .slice elems spare => uptoBulkAll elems + uptoBulkAll spare + 1
  | .agg parts => uptoBulkAll parts + 1
  | .iface _ d => uptoBulk d + 1
  | .map entries => uptoBulkEntries entries + 1
  | .held _ => 1
def uptoBulkAll {H : Type} : List (DataW H) → Nat
  | [] => 0
  | d :: r => uptoBulk d + uptoBulkAll r
def uptoBulkEntries {H : Type} : List (Lit × DataW H) → Nat
  | [] => 0
  | x :: r => uptoBulkEntry x + uptoBulkEntries r
def uptoBulkEntry {H : Type} : Lit × DataW H → Nat
  | (.string bytes, d) => bytes.length + uptoBulk d + 1
  | (_, d) => uptoBulk d + 1
 end
def uptoSmall : (H : Type) → List (DataW H) → Bool := fun _ ds => decide (uptoBulkAll ds ≤ 1048576)
def OpenSpec.upto (s : _root_.Go.ChangeSpec) : _root_.Go.OpenSpec := { _root_.Go.OpenSpec.ofChange s with cond := some uptoSmall }

/-- 'eyotlaw11.DfaAny', WHERE WHAT IT READS IS OF BULK AT MOST 1048576: true; the input reads as it did. -/
def dfaAnyUptoRow : OpenClaim := { program := "ytmcgbmkagbchnaa", sum := "40e0fc972104f14a915d8d7ddac10ce8a378f6cda2db93f9e56d05c34eccf3e6", func := "eyot/eyotlaw11.DfaAny", spec := "dfaAny", unfollowed := true, recurses := true, apart := false, narrowed := true }
def DfaAnyUptoSaid : Prop := dfaAnyUptoRow.holds Try.pinned (OpenSpec.upto dfaAnySpec)

/-- 'eyotlaw11.DfaMatches', WHERE WHAT IT READS IS OF BULK AT MOST 1048576: true; the input reads as it did. -/
def dfaMatchesUptoRow : OpenClaim := { program := "ytmcgbmkagbchnaa", sum := "40e0fc972104f14a915d8d7ddac10ce8a378f6cda2db93f9e56d05c34eccf3e6", func := "eyot/eyotlaw11.DfaMatches", spec := "dfaMatches", unfollowed := true, recurses := true, apart := false, narrowed := true }
def DfaMatchesUptoSaid : Prop := dfaMatchesUptoRow.holds Try.pinned (OpenSpec.upto dfaMatchesSpec)

/-- 'eyotlaw11.DfaFront', WHERE WHAT IT READS IS OF BULK AT MOST 1048576: true; the input reads as it did. -/
def dfaFrontUptoRow : OpenClaim := { program := "ytmcgbmkagbchnaa", sum := "40e0fc972104f14a915d8d7ddac10ce8a378f6cda2db93f9e56d05c34eccf3e6", func := "eyot/eyotlaw11.DfaFront", spec := "dfaFront", unfollowed := true, recurses := true, apart := false, narrowed := true }
def DfaFrontUptoSaid : Prop := dfaFrontUptoRow.holds Try.pinned (OpenSpec.upto dfaFrontSpec)

/-- 'eyotlaw11.DfaWalks', WHERE WHAT IT READS IS OF BULK AT MOST 1048576: true; the input reads as it did. -/
def dfaWalksUptoRow : OpenClaim := { program := "ytmcgbmkagbchnaa", sum := "40e0fc972104f14a915d8d7ddac10ce8a378f6cda2db93f9e56d05c34eccf3e6", func := "eyot/eyotlaw11.DfaWalks", spec := "dfaWalks", unfollowed := true, recurses := true, apart := false, narrowed := true }
def DfaWalksUptoSaid : Prop := dfaWalksUptoRow.holds Try.pinned (OpenSpec.upto dfaWalksSpec)

/-- 'eyotlaw11.DfaNone', WHERE WHAT IT READS IS OF BULK AT MOST 1048576: true; the input reads as it did. -/
def dfaNoneUptoRow : OpenClaim := { program := "ytmcgbmkagbchnaa", sum := "40e0fc972104f14a915d8d7ddac10ce8a378f6cda2db93f9e56d05c34eccf3e6", func := "eyot/eyotlaw11.DfaNone", spec := "dfaNone", unfollowed := true, recurses := true, apart := false, narrowed := true }
def DfaNoneUptoSaid : Prop := dfaNoneUptoRow.holds Try.pinned (OpenSpec.upto dfaNoneSpec)

/-- 'eyotlaw11.DfaFirst', WHERE WHAT IT READS IS OF BULK AT MOST 1048576: true; the input reads as it did. -/
def dfaFirstUptoRow : OpenClaim := { program := "ytmcgbmkagbchnaa", sum := "40e0fc972104f14a915d8d7ddac10ce8a378f6cda2db93f9e56d05c34eccf3e6", func := "eyot/eyotlaw11.DfaFirst", spec := "dfaFirst", unfollowed := true, recurses := true, apart := false, narrowed := true }
def DfaFirstUptoSaid : Prop := dfaFirstUptoRow.holds Try.pinned (OpenSpec.upto dfaFirstSpec)

end Rows
end Go.Proofs.Ytmcgbmkagbchnaa
