/- That no function of the program starts a goroutine: so no call does. -/
import Derived.Test.YtodehankgheooaaRows
import Derived.ProofKit
import Derived.OpenShut
import Derived.SevenTiedAt
set_option maxRecDepth 1000000
namespace Go.Proofs.Ytodehankgheooaa.dfaAny
open Go Go.ChangeShapes Go.WideShapes Go.ChangeAt Go.RowKit
theorem goes_none {P : Program} (f : FuncId) (h : P.funcs.any Func.goes = false) : P.goes f = false := by
  have key : ∀ g : Nat, (P.funcs[g]?).any Func.goes = false := fun g => by
    cases hg : P.funcs[g]? with
    | none => rfl
    | some fn =>
      obtain ⟨hl, he⟩ := Array.getElem?_eq_some_iff.1 hg
      rw [Array.any_eq_false] at h
      have := h g hl
      rw [he] at this
      simpa using this
  unfold Program.goes
  rw [h, Bool.and_false, Bool.or_false]
  rw [List.any_eq_false]
  intro g _
  rw [key g]
  simp
theorem anyGoes : Try.prog.funcs.any Func.goes = false := by kernel_rfl
theorem namedF : Try.prog.funcNamed "eyot/eyotlaw11.DfaAny" = some 3 := by kernel_rfl
theorem goesOk : false = Rows.dfaAnyRow.goesBy Try.pinned.checked.prog := by
  show false = ((Try.prog.funcNamed "eyot/eyotlaw11.DfaAny").any Try.prog.goes || false)
  rw [namedF, Option.any_some, goes_none 3 anyGoes]; rfl
end Go.Proofs.Ytodehankgheooaa.dfaAny
