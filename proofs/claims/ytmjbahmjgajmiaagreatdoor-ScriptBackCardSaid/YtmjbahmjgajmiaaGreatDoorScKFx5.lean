/- What the row says of the program, limb by limb: run by the kernel. Printed by facts.py. -/
import Derived.Test.YtmjbahmjgajmiaaGreatDoorRows
import Derived.ProofKit
import Derived.OpenShut
set_option maxRecDepth 1000000
namespace Go.Proofs.YtmjbahmjgajmiaaGreatDoor.scriptBack
open Go Go.ChangeShapes Go.WideShapes Go.ChangeAt Go.RowKit
theorem limb20 : (fun (P : Program) (_ : FuncId) (fn : Func) (_ : ChangeSpec) (c : OpenClaim) => (c.ifacesOut == fn.resultTypes.toList.any (P.ifacesRec ·))) Tryz.prog 3 Tryz.f3 Rows.scriptBackSpec Rows.scriptBackRow = true := by kernel_rfl
theorem limb21 : (fun (P : Program) (_ : FuncId) (fn : Func) (_ : ChangeSpec) (c : OpenClaim) => (c.loopsOut == fn.resultTypes.toList.any (P.loopsFrom ·))) Tryz.prog 3 Tryz.f3 Rows.scriptBackSpec Rows.scriptBackRow = true := by kernel_rfl
theorem limb22 : (fun (P : Program) (_ : FuncId) (_ : Func) (_ : ChangeSpec) (c : OpenClaim) => (c.plainKeys == P.plainKeys)) Tryz.prog 3 Tryz.f3 Rows.scriptBackSpec Rows.scriptBackRow = true := by kernel_rfl
theorem limb23 : (fun (_ : Program) (_ : FuncId) (_ : Func) (_ : ChangeSpec) (c : OpenClaim) => c.shortTexts.isNone) Tryz.prog 3 Tryz.f3 Rows.scriptBackSpec Rows.scriptBackRow = true := by kernel_rfl
end Go.Proofs.YtmjbahmjgajmiaaGreatDoor.scriptBack
