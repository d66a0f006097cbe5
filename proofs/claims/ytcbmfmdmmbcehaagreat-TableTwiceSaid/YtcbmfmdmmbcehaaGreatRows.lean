/-
  No cell of these rows narrows 'for every input' (looked for: loops, veiled, ifaces, maps, wideKeys, modest, calm, conditions, laid).
  DERIVED. THE GIVEN ROWS OF THIS SEAT. 3 by the template 'for every input the law returns true; each argument reads behind the call as it read before'; 0 by the template 'total and deterministic' (their statements: YtcbmfmdmmbcehaaGreatTotals.lean).
  GIVEN WITH THE SEED: the statements are not yours to turn. If you find one false, say at which input.
  Laid BY PROGRAM, IN A SANDBOX (cutbox-rows.mjs): the forced cells as the released guide's own fill.sh prints them over the translation 37d8bfaf79d4ea71… (all of the seat's roots in one cut). By AI agents, Wed Nov 11 2026. No macro, syntax, notation, axiom, sorry.
-/
import Derived.Test.YtcbmfmdmmbcehaaGreatChecked
import GoSem.Claim
import GoSem.ClaimJoined
import GoSem.ClaimMapViews
import Derived.JoinedTies
import Derived.KernelRfl
namespace Go.Proofs.YtcbmfmdmmbcehaaGreat
/- THE CELL 'sum', in the pinned program and in every row, IS THE sha256 OF THE DUMP (.gsa) THAT YtcbmfmdmmbcehaaGreatProg.lean LOADS. Nothing in Lean hashes anything: it is a label: what it is worth is what the hold of that sum in a sandbox is worth. -/
noncomputable def Tryz.pinned : Pinned := { name := "ytcbmfmdmmbcehaagreat", sum := "37d8bfaf79d4ea71573ec5b435817ec6db7afd1dc2f9d047c766fa1ec6fba2f6", checked := Tryz.checked }
namespace Rows
def none {H : Type} : Left H := { results := [], args := [] }

/-- 'eyotlaw17.TableGiven': WHATEVER THE INPUT: true; the input reads as it did. -/
def tableGivenSpec : ChangeSpec := { name := "tableGiven", fn := fun _ => fun
  | [d] => { results := [.lit (.bool true)], args := [d] }
  | _ => none }
def tableGivenRow : OpenClaim := { program := "ytcbmfmdmmbcehaagreat", sum := "37d8bfaf79d4ea71573ec5b435817ec6db7afd1dc2f9d047c766fa1ec6fba2f6", func := "eyot/eyotlaw17.TableGiven", spec := "tableGiven", inPlace := ["math.Float64frombits", "math.Float64bits"], unfollowed := true, recurses := true, plainKeys := false, apart := false }
def TableGivenSaid : Prop := tableGivenRow.holds Tryz.pinned (OpenSpec.ofChange tableGivenSpec)

/-- ITS FALSE NEIGHBOUR: 'it returns false'. Refute it at one input. -/
def tableGivenWrong : ChangeSpec := { name := "tableGiven", fn := fun _ => fun
  | [d] => { results := [.lit (.bool false)], args := [d] }
  | _ => none }
def TableGivenWrongFalsely : Prop := tableGivenRow.holds Tryz.pinned (OpenSpec.ofChange tableGivenWrong)

/-- 'eyotlaw17.TableTwice': WHATEVER THE INPUT: true; the input reads as it did. -/
def tableTwiceSpec : ChangeSpec := { name := "tableTwice", fn := fun _ => fun
  | [d1, d2] => { results := [.lit (.bool true)], args := [d1, d2] }
  | _ => none }
def tableTwiceRow : OpenClaim := { program := "ytcbmfmdmmbcehaagreat", sum := "37d8bfaf79d4ea71573ec5b435817ec6db7afd1dc2f9d047c766fa1ec6fba2f6", func := "eyot/eyotlaw17.TableTwice", spec := "tableTwice", inPlace := ["math.Float64frombits", "math.Float64bits"], unfollowed := true, recurses := true, plainKeys := false, apart := false }
def TableTwiceSaid : Prop := tableTwiceRow.holds Tryz.pinned (OpenSpec.ofChange tableTwiceSpec)

/-- ITS FALSE NEIGHBOUR: 'it returns false'. Refute it at one input. -/
def tableTwiceWrong : ChangeSpec := { name := "tableTwice", fn := fun _ => fun
  | [d1, d2] => { results := [.lit (.bool false)], args := [d1, d2] }
  | _ => none }
def TableTwiceWrongFalsely : Prop := tableTwiceRow.holds Tryz.pinned (OpenSpec.ofChange tableTwiceWrong)

/-- 'eyotlaw17.TableReads': WHATEVER THE INPUT: true; the input reads as it did. -/
def tableReadsSpec : ChangeSpec := { name := "tableReads", fn := fun _ => fun
  | [] => { results := [.lit (.bool true)], args := [] }
  | _ => none }
def tableReadsRow : OpenClaim := { program := "ytcbmfmdmmbcehaagreat", sum := "37d8bfaf79d4ea71573ec5b435817ec6db7afd1dc2f9d047c766fa1ec6fba2f6", func := "eyot/eyotlaw17.TableReads", spec := "tableReads", inPlace := ["math.Float64frombits", "math.Float64bits"], unfollowed := true, recurses := true, plainKeys := false, apart := false }
def TableReadsSaid : Prop := tableReadsRow.holds Tryz.pinned (OpenSpec.ofChange tableReadsSpec)

/-- ITS FALSE NEIGHBOUR: 'it returns false'. Refute it at one input. -/
def tableReadsWrong : ChangeSpec := { name := "tableReads", fn := fun _ => fun
  | [] => { results := [.lit (.bool false)], args := [] }
  | _ => none }
def TableReadsWrongFalsely : Prop := tableReadsRow.holds Tryz.pinned (OpenSpec.ofChange tableReadsWrong)

/- THE SECOND FORM. 'bulk': how many values and letters a reading holds, each counted each time it is reached (what is shared counts as often as it is met; a slice's spare places count too). A statement '..UptoSaid' is the law's where the arguments, and the package variables that the reading takes, are together of bulk at most 1048576: NARROWER than '..Said'. Prove '..Said' where nothing that the law and all that it calls make is longer than what came in: it says more and counts as full. Else prove '..UptoSaid'. A law counts once. -/
mutual
def uptoBulk {H : Type} : DataW H → Nat
  | .lit (.string bytes) => bytes.length + 1
  | .lit _ => 1
  | .nil => 1
  | .ptr d => uptoBulk d + 1
  | .slice elems spare => uptoBulkAll elems + uptoBulkAll spare + 1
  | .agg parts => uptoBulkAll parts + 1
  | .iface _ d => uptoBulk d + 1
  | .map entries => uptoBulkEntries entries + 1
  | .held _ => 1
def uptoBulkAll {H : Type} : List (DataW H) → Nat
  | [] => 0
  | d :: r => uptoBulk d + uptoBulkAll r
def uptoBulkEntries {H : Type} : List (Lit × DataW H) → Nat
  | [] => 0
  | x :: r => uptoBulkEntry x + uptoBulkEntries r
def uptoBulkEntry {H : Type} : Lit × DataW H → Nat
  | (.string bytes, d) => bytes.length + uptoBulk d + 1
  | (_, d) => uptoBulk d + 1
 end
def uptoSmall : (H : Type) → List (DataW H) → Bool := fun _ ds => decide (uptoBulkAll ds ≤ 1048576)
def OpenSpec.upto (s : _root_.Go.ChangeSpec) : _root_.Go.OpenSpec := { _root_.Go.OpenSpec.ofChange s with cond := some uptoSmall }

/-- 'eyotlaw17.TableGiven', WHERE WHAT IT READS IS OF BULK AT MOST 1048576: true; the input reads as it did. -/
def tableGivenUptoRow : OpenClaim := { program := "ytcbmfmdmmbcehaagreat", sum := "37d8bfaf79d4ea71573ec5b435817ec6db7afd1dc2f9d047c766fa1ec6fba2f6", func := "eyot/eyotlaw17.TableGiven", spec := "tableGiven", inPlace := ["math.Float64frombits", "math.Float64bits"], unfollowed := true, recurses := true, plainKeys := false, apart := false, narrowed := true }
def TableGivenUptoSaid : Prop := tableGivenUptoRow.holds Tryz.pinned (OpenSpec.upto tableGivenSpec)

/-- 'eyotlaw17.TableTwice', WHERE WHAT IT READS IS OF BULK AT MOST 1048576: true; the input reads as it did. -/
def tableTwiceUptoRow : OpenClaim := { program := "ytcbmfmdmmbcehaagreat", sum := "37d8bfaf79d4ea71573ec5b435817ec6db7afd1dc2f9d047c766fa1ec6fba2f6", func := "eyot/eyotlaw17.TableTwice", spec := "tableTwice", inPlace := ["math.Float64frombits", "math.Float64bits"], unfollowed := true, recurses := true, plainKeys := false, apart := false, narrowed := true }
def TableTwiceUptoSaid : Prop := tableTwiceUptoRow.holds Tryz.pinned (OpenSpec.upto tableTwiceSpec)

/-- 'eyotlaw17.TableReads', WHERE WHAT IT READS IS OF BULK AT MOST 1048576: true; the input reads as it did. -/
def tableReadsUptoRow : OpenClaim := { program := "ytcbmfmdmmbcehaagreat", sum := "37d8bfaf79d4ea71573ec5b435817ec6db7afd1dc2f9d047c766fa1ec6fba2f6", func := "eyot/eyotlaw17.TableReads", spec := "tableReads", inPlace := ["math.Float64frombits", "math.Float64bits"], unfollowed := true, recurses := true, plainKeys := false, apart := false, narrowed := true }
def TableReadsUptoSaid : Prop := tableReadsUptoRow.holds Tryz.pinned (OpenSpec.upto tableReadsSpec)

end Rows
end Go.Proofs.YtcbmfmdmmbcehaaGreat
