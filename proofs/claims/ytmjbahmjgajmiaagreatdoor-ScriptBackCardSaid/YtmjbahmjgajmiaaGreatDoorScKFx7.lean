/- What the row says of the program, limb by limb: run by the kernel. Printed by facts.py. -/
import Derived.Test.YtmjbahmjgajmiaaGreatDoorRows
import Derived.ProofKit
import Derived.OpenShut
set_option maxRecDepth 1000000
namespace Go.Proofs.YtmjbahmjgajmiaaGreatDoor.scriptBack
open Go Go.ChangeShapes Go.WideShapes Go.ChangeAt Go.RowKit
theorem limb28 : (fun (P : Program) (_ : FuncId) (fn : Func) (_ : ChangeSpec) (c : OpenClaim) => (c.kinds == (if c.domain.isEmpty then [] else fn.params.toList.map fun t => match P.underlying t with | some (.int k) => some k | _ => none))) Tryz.prog 3 Tryz.f3 Rows.scriptBackSpec Rows.scriptBackRow = true := by kernel_rfl
theorem limb29 : (fun (_ : Program) (_ : FuncId) (_ : Func) (_ : ChangeSpec) (c : OpenClaim) => (c.pinned == c.pinnedBy)) Tryz.prog 3 Tryz.f3 Rows.scriptBackSpec Rows.scriptBackRow = true := by kernel_rfl
theorem limb30 : (fun (P : Program) (_ : FuncId) (fn : Func) (s : ChangeSpec) (c : OpenClaim) => (c.veiled == (fn.params.toList ++ s.plain.varTypes P ++ fn.resultTypes.toList).any (P.veiledRec ·))) Tryz.prog 3 Tryz.f3 Rows.scriptBackSpec Rows.scriptBackRow = true := by kernel_rfl
theorem limb31 : (fun (P : Program) (_ : FuncId) (fn : Func) (s : ChangeSpec) (c : OpenClaim) => c.veiledFits P fn.params.toList (fn.params.toList ++ s.plain.varTypes P ++ fn.resultTypes.toList)) Tryz.prog 3 Tryz.f3 Rows.scriptBackSpec Rows.scriptBackRow = true := by kernel_rfl
end Go.Proofs.YtmjbahmjgajmiaaGreatDoor.scriptBack
