/- What the row says of the program, limb by limb: run by the kernel. Printed by facts.py. -/
import Derived.Test.YtmjbahmjgajmiaaGreatDoorRows
import Derived.ProofKit
import Derived.OpenShut
set_option maxRecDepth 1000000
namespace Go.Proofs.YtmjbahmjgajmiaaGreatDoor.scriptBack
open Go Go.ChangeShapes Go.WideShapes Go.ChangeAt Go.RowKit
theorem limb0 : (fun (_ : Program) (_ : FuncId) (_ : Func) (s : ChangeSpec) (c : OpenClaim) => c.wf (OpenSpec.ofChange s)) Tryz.prog 3 Tryz.f3 Rows.scriptBackSpec Rows.scriptBackRow = true := by kernel_rfl
theorem limb1 : (fun (P : Program) (_ : FuncId) (_ : Func) (_ : ChangeSpec) (_ : OpenClaim) => laidOutB P) Tryz.prog 3 Tryz.f3 Rows.scriptBackSpec Rows.scriptBackRow = true := by kernel_rfl
theorem limb2 : (fun (P : Program) (_ : FuncId) (_ : Func) (_ : ChangeSpec) (_ : OpenClaim) => mapsRowed P) Tryz.prog 3 Tryz.f3 Rows.scriptBackSpec Rows.scriptBackRow = true := by kernel_rfl
theorem limb3 : (fun (P : Program) (_ : FuncId) (fn : Func) (_ : ChangeSpec) (_ : OpenClaim) => fn.params.all (P.readableRec ·)) Tryz.prog 3 Tryz.f3 Rows.scriptBackSpec Rows.scriptBackRow = true := by kernel_rfl
end Go.Proofs.YtmjbahmjgajmiaaGreatDoor.scriptBack
