/-
  No cell of these rows narrows 'for every input' (looked for: loops, veiled, ifaces, maps, wideKeys, modest, calm, conditions, laid).
  DERIVED. THE GIVEN ROWS OF THIS SEAT. 2 by the template 'for every input the law returns true; each argument reads behind the call as it read before'; 0 by the template 'total and deterministic' (their statements: YtijaafflmbjdgaaGreatTotals.lean).
  GIVEN WITH THE SEED: the statements are not yours to turn. If you find one false, say at which input.
  Laid BY PROGRAM, IN A SANDBOX (cutbox-rows.mjs): the forced cells as the released guide's own fill.sh prints them over the translation 96f4908600b60107… (all of the seat's roots in one cut). By AI agents, Wed Nov 11 2026. No macro, syntax, notation, axiom, sorry.
-/
import Derived.Test.YtijaafflmbjdgaaGreatChecked
import GoSem.Claim
import GoSem.ClaimJoined
import GoSem.ClaimMapViews
import Derived.JoinedTies
import Derived.KernelRfl
namespace Go.Proofs.YtijaafflmbjdgaaGreat
/- THE CELL 'sum', in the pinned program and in every row, IS THE sha256 OF THE DUMP (.gsa) THAT YtijaafflmbjdgaaGreatProg.lean LOADS. Nothing in Lean hashes anything: it is a label: what it is worth is what the hold of that sum in a sandbox is worth. -/
noncomputable def Tryz.pinned : Pinned := { name := "ytijaafflmbjdgaagreat", sum := "96f4908600b60107a1962f3132ae996af9555ed897044d4d6e23e04aa8089779", checked := Tryz.checked }
namespace Rows
def none {H : Type} : Left H := { results := [], args := [] }

/-- 'eyotlaw15.FirstGiven': WHATEVER THE INPUT: true; the input reads as it did. -/
def firstGivenSpec : ChangeSpec := { name := "firstGiven", fn := fun _ => fun
  | [] => { results := [.lit (.bool true)], args := [] }
  | _ => none }
def firstGivenRow : OpenClaim := { program := "ytijaafflmbjdgaagreat", sum := "96f4908600b60107a1962f3132ae996af9555ed897044d4d6e23e04aa8089779", func := "eyot/eyotlaw15.FirstGiven", spec := "firstGiven", inPlace := ["math.Float64frombits", "math.Float64bits"], unfollowed := true, recurses := true, plainKeys := false, apart := false }
def FirstGivenSaid : Prop := firstGivenRow.holds Tryz.pinned (OpenSpec.ofChange firstGivenSpec)

/-- ITS FALSE NEIGHBOUR: 'it returns false'. Refute it at one input. -/
def firstGivenWrong : ChangeSpec := { name := "firstGiven", fn := fun _ => fun
  | [] => { results := [.lit (.bool false)], args := [] }
  | _ => none }
def FirstGivenWrongFalsely : Prop := firstGivenRow.holds Tryz.pinned (OpenSpec.ofChange firstGivenWrong)

/-- 'eyotlaw16.ItemGiven': WHATEVER THE INPUT: true; the input reads as it did. -/
def itemGivenSpec : ChangeSpec := { name := "itemGiven", fn := fun _ => fun
  | [d] => { results := [.lit (.bool true)], args := [d] }
  | _ => none }
def itemGivenRow : OpenClaim := { program := "ytijaafflmbjdgaagreat", sum := "96f4908600b60107a1962f3132ae996af9555ed897044d4d6e23e04aa8089779", func := "eyot/eyotlaw16.ItemGiven", spec := "itemGiven", inPlace := ["math.Float64frombits", "math.Float64bits"], unfollowed := true, recurses := true, plainKeys := false, apart := false }
def ItemGivenSaid : Prop := itemGivenRow.holds Tryz.pinned (OpenSpec.ofChange itemGivenSpec)

/-- ITS FALSE NEIGHBOUR: 'it returns false'. Refute it at one input. -/
def itemGivenWrong : ChangeSpec := { name := "itemGiven", fn := fun _ => fun
  | [d] => { results := [.lit (.bool false)], args := [d] }
  | _ => none }
def ItemGivenWrongFalsely : Prop := itemGivenRow.holds Tryz.pinned (OpenSpec.ofChange itemGivenWrong)

/- THE SECOND FORM. 'bulk': how many values and letters a reading holds, each counted each time it is reached (what is shared counts as often as it is met; a slice's spare places count too). A statement '..UptoSaid' is the law's where the arguments, and the package variables that the reading takes, are together of bulk at most 1048576: NARROWER than '..Said'. Prove '..Said' where nothing that the law and all that it calls make is longer than what came in: it says more and counts as full. Else prove '..UptoSaid'. A law counts once. -/
mutual
def uptoBulk {H : Type} : DataW H → Nat
  | .lit (.string bytes) => bytes.length + 1
  | .lit _ => 1
  | .nil => 1
  | .ptr d => uptoBulk d + 1
  | .slice elems spare => uptoBulkAll elems + uptoBulkAll spare + 1
  | .agg parts => uptoBulkAll parts + 1
  | .iface _ d => uptoBulk d + 1
  | .map entries => uptoBulkEntries entries + 1
  | .held _ => 1
def uptoBulkAll {H : Type} : List (DataW H) → Nat
  | [] => 0
  | d :: r => uptoBulk d + uptoBulkAll r
def uptoBulkEntries {H : Type} : List (Lit × DataW H) → Nat
  | [] => 0
  | x :: r => uptoBulkEntry x + uptoBulkEntries r
def uptoBulkEntry {H : Type} : Lit × DataW H → Nat
  | (.string bytes, d) => bytes.length + uptoBulk d + 1
  | (_, d) => uptoBulk d + 1
 end
def uptoSmall : (H : Type) → List (DataW H) → Bool := fun _ ds => decide (uptoBulkAll ds ≤ 1048576)
def OpenSpec.upto (s : _root_.Go.ChangeSpec) : _root_.Go.OpenSpec := { _root_.Go.OpenSpec.ofChange s with cond := some uptoSmall }

/-- 'eyotlaw15.FirstGiven', WHERE WHAT IT READS IS OF BULK AT MOST 1048576: true; the input reads as it did. -/
def firstGivenUptoRow : OpenClaim := { program := "ytijaafflmbjdgaagreat", sum := "96f4908600b60107a1962f3132ae996af9555ed897044d4d6e23e04aa8089779", func := "eyot/eyotlaw15.FirstGiven", spec := "firstGiven", inPlace := ["math.Float64frombits", "math.Float64bits"], unfollowed := true, recurses := true, plainKeys := false, apart := false, narrowed := true }
def FirstGivenUptoSaid : Prop := firstGivenUptoRow.holds Tryz.pinned (OpenSpec.upto firstGivenSpec)

/-- 'eyotlaw16.ItemGiven', WHERE WHAT IT READS IS OF BULK AT MOST 1048576: true; the input reads as it did. -/
def itemGivenUptoRow : OpenClaim := { program := "ytijaafflmbjdgaagreat", sum := "96f4908600b60107a1962f3132ae996af9555ed897044d4d6e23e04aa8089779", func := "eyot/eyotlaw16.ItemGiven", spec := "itemGiven", inPlace := ["math.Float64frombits", "math.Float64bits"], unfollowed := true, recurses := true, plainKeys := false, apart := false, narrowed := true }
def ItemGivenUptoSaid : Prop := itemGivenUptoRow.holds Tryz.pinned (OpenSpec.upto itemGivenSpec)

end Rows
end Go.Proofs.YtijaafflmbjdgaaGreat
