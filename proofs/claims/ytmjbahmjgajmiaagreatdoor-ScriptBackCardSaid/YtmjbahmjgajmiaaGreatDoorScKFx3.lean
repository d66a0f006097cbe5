/- What the row says of the program, limb by limb: run by the kernel. Printed by facts.py. -/
import Derived.Test.YtmjbahmjgajmiaaGreatDoorRows
import Derived.ProofKit
import Derived.OpenShut
set_option maxRecDepth 1000000
namespace Go.Proofs.YtmjbahmjgajmiaaGreatDoor.scriptBack
open Go Go.ChangeShapes Go.WideShapes Go.ChangeAt Go.RowKit
theorem limb12 : (fun (P : Program) (f : FuncId) (_ : Func) (_ : ChangeSpec) (c : OpenClaim) => (c.named == P.varsNamed f)) Tryz.prog 3 Tryz.f3 Rows.scriptBackSpec Rows.scriptBackRow = true := by kernel_rfl
theorem limb13 : (fun (P : Program) (_ : FuncId) (fn : Func) (s : ChangeSpec) (c : OpenClaim) => (c.maps == (fn.params.toList ++ s.plain.varTypes P).any (P.mapsRec ·))) Tryz.prog 3 Tryz.f3 Rows.scriptBackSpec Rows.scriptBackRow = true := by kernel_rfl
theorem limb14 : (fun (P : Program) (_ : FuncId) (fn : Func) (s : ChangeSpec) (c : OpenClaim) => (c.ifaces == (fn.params.toList ++ s.plain.varTypes P).any (P.ifacesRec ·))) Tryz.prog 3 Tryz.f3 Rows.scriptBackSpec Rows.scriptBackRow = true := by kernel_rfl
theorem limb15 : (fun (P : Program) (_ : FuncId) (fn : Func) (_ : ChangeSpec) (c : OpenClaim) => (c.mapsOut == P.mapsAmong fn.resultTypes.toList)) Tryz.prog 3 Tryz.f3 Rows.scriptBackSpec Rows.scriptBackRow = true := by kernel_rfl
end Go.Proofs.YtmjbahmjgajmiaaGreatDoor.scriptBack
