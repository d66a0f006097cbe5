/- What the row says of the program, limb by limb: run by the kernel. Printed by facts.py. -/
import Derived.Test.YtodehankgheooaaRows
import Derived.ProofKit
import Derived.OpenShut
set_option maxRecDepth 1000000
namespace Go.Proofs.Ytodehankgheooaa.dfaAny
open Go Go.ChangeShapes Go.WideShapes Go.ChangeAt Go.RowKit
theorem limb0 : (fun (_ : Program) (_ : FuncId) (_ : Func) (s : ChangeSpec) (c : OpenClaim) => c.wf (OpenSpec.ofChange s)) Try.prog 3 Try.f3 Rows.dfaAnySpec Rows.dfaAnyRow = true := by kernel_rfl
theorem limb1 : (fun (P : Program) (_ : FuncId) (_ : Func) (_ : ChangeSpec) (_ : OpenClaim) => laidOutB P) Try.prog 3 Try.f3 Rows.dfaAnySpec Rows.dfaAnyRow = true := by kernel_rfl
theorem limb2 : (fun (P : Program) (_ : FuncId) (_ : Func) (_ : ChangeSpec) (_ : OpenClaim) => mapsRowed P) Try.prog 3 Try.f3 Rows.dfaAnySpec Rows.dfaAnyRow = true := by kernel_rfl
theorem limb3 : (fun (P : Program) (_ : FuncId) (fn : Func) (_ : ChangeSpec) (_ : OpenClaim) => fn.params.all (P.readableRec ·)) Try.prog 3 Try.f3 Rows.dfaAnySpec Rows.dfaAnyRow = true := by kernel_rfl
theorem limb4 : (fun (P : Program) (_ : FuncId) (_ : Func) (s : ChangeSpec) (c : OpenClaim) => namedTie P c.named s.vars) Try.prog 3 Try.f3 Rows.dfaAnySpec Rows.dfaAnyRow = true := by kernel_rfl
theorem limb5 : (fun (_ : Program) (_ : FuncId) (_ : Func) (_ : ChangeSpec) (c : OpenClaim) => (c.stops == [])) Try.prog 3 Try.f3 Rows.dfaAnySpec Rows.dfaAnyRow = true := by kernel_rfl
theorem limb6 : (fun (P : Program) (_ : FuncId) (_ : Func) (_ : ChangeSpec) (_ : OpenClaim) => (P.stops == [])) Try.prog 3 Try.f3 Rows.dfaAnySpec Rows.dfaAnyRow = true := by kernel_rfl
theorem limb7 : (fun (_ : Program) (_ : FuncId) (_ : Func) (_ : ChangeSpec) (c : OpenClaim) => (c.knobs == [])) Try.prog 3 Try.f3 Rows.dfaAnySpec Rows.dfaAnyRow = true := by kernel_rfl
theorem limb8 : (fun (P : Program) (_ : FuncId) (_ : Func) (_ : ChangeSpec) (_ : OpenClaim) => (P.stopKnobs == [])) Try.prog 3 Try.f3 Rows.dfaAnySpec Rows.dfaAnyRow = true := by kernel_rfl
theorem limb9 : (fun (P : Program) (f : FuncId) (_ : Func) (_ : ChangeSpec) (c : OpenClaim) => (c.inPlace == P.inPlace f)) Try.prog 3 Try.f3 Rows.dfaAnySpec Rows.dfaAnyRow = true := by kernel_rfl
theorem limb10 : (fun (P : Program) (f : FuncId) (_ : Func) (_ : ChangeSpec) (c : OpenClaim) => (c.unfollowed == P.unfollowed f)) Try.prog 3 Try.f3 Rows.dfaAnySpec Rows.dfaAnyRow = true := by kernel_rfl
theorem limb11 : (fun (P : Program) (f : FuncId) (_ : Func) (_ : ChangeSpec) (c : OpenClaim) => (c.recurses == P.recurses f)) Try.prog 3 Try.f3 Rows.dfaAnySpec Rows.dfaAnyRow = true := by kernel_rfl
theorem limb12 : (fun (P : Program) (f : FuncId) (_ : Func) (_ : ChangeSpec) (c : OpenClaim) => (c.named == P.varsNamed f)) Try.prog 3 Try.f3 Rows.dfaAnySpec Rows.dfaAnyRow = true := by kernel_rfl
theorem limb13 : (fun (P : Program) (_ : FuncId) (fn : Func) (s : ChangeSpec) (c : OpenClaim) => (c.maps == (fn.params.toList ++ s.plain.varTypes P).any (P.mapsRec ·))) Try.prog 3 Try.f3 Rows.dfaAnySpec Rows.dfaAnyRow = true := by kernel_rfl
theorem limb14 : (fun (P : Program) (_ : FuncId) (fn : Func) (s : ChangeSpec) (c : OpenClaim) => (c.ifaces == (fn.params.toList ++ s.plain.varTypes P).any (P.ifacesRec ·))) Try.prog 3 Try.f3 Rows.dfaAnySpec Rows.dfaAnyRow = true := by kernel_rfl
theorem limb15 : (fun (P : Program) (_ : FuncId) (fn : Func) (_ : ChangeSpec) (c : OpenClaim) => (c.mapsOut == P.mapsAmong fn.resultTypes.toList)) Try.prog 3 Try.f3 Rows.dfaAnySpec Rows.dfaAnyRow = true := by kernel_rfl
theorem limb16 : (fun (P : Program) (_ : FuncId) (fn : Func) (s : ChangeSpec) (c : OpenClaim) => (c.loops == (fn.params.toList ++ s.plain.varTypes P).any (P.loopsFrom ·))) Try.prog 3 Try.f3 Rows.dfaAnySpec Rows.dfaAnyRow = true := by kernel_rfl
theorem limb17 : (fun (P : Program) (_ : FuncId) (fn : Func) (s : ChangeSpec) (c : OpenClaim) => (c.wideKeys == (fn.params.toList ++ s.plain.varTypes P ++ fn.resultTypes.toList).any (P.wideKeysFrom ·))) Try.prog 3 Try.f3 Rows.dfaAnySpec Rows.dfaAnyRow = true := by kernel_rfl
theorem limb18 : (fun (P : Program) (_ : FuncId) (_ : Func) (s : ChangeSpec) (_ : OpenClaim) => s.vars.all (P.varReadable ·)) Try.prog 3 Try.f3 Rows.dfaAnySpec Rows.dfaAnyRow = true := by kernel_rfl
theorem limb19 : (fun (P : Program) (_ : FuncId) (fn : Func) (_ : ChangeSpec) (_ : OpenClaim) => fn.resultTypes.all (fun t => P.readableRec t && decide (t < P.types.size))) Try.prog 3 Try.f3 Rows.dfaAnySpec Rows.dfaAnyRow = true := by kernel_rfl
theorem limb20 : (fun (P : Program) (_ : FuncId) (fn : Func) (_ : ChangeSpec) (c : OpenClaim) => (c.ifacesOut == fn.resultTypes.toList.any (P.ifacesRec ·))) Try.prog 3 Try.f3 Rows.dfaAnySpec Rows.dfaAnyRow = true := by kernel_rfl
theorem limb21 : (fun (P : Program) (_ : FuncId) (fn : Func) (_ : ChangeSpec) (c : OpenClaim) => (c.loopsOut == fn.resultTypes.toList.any (P.loopsFrom ·))) Try.prog 3 Try.f3 Rows.dfaAnySpec Rows.dfaAnyRow = true := by kernel_rfl
theorem limb22 : (fun (P : Program) (_ : FuncId) (_ : Func) (_ : ChangeSpec) (c : OpenClaim) => (c.plainKeys == P.plainKeys)) Try.prog 3 Try.f3 Rows.dfaAnySpec Rows.dfaAnyRow = true := by kernel_rfl
theorem limb23 : (fun (_ : Program) (_ : FuncId) (_ : Func) (_ : ChangeSpec) (c : OpenClaim) => c.shortTexts.isNone) Try.prog 3 Try.f3 Rows.dfaAnySpec Rows.dfaAnyRow = true := by kernel_rfl
theorem limb24 : (fun (P : Program) (_ : FuncId) (_ : Func) (_ : ChangeSpec) (_ : OpenClaim) => P.stopsHeard) Try.prog 3 Try.f3 Rows.dfaAnySpec Rows.dfaAnyRow = true := by kernel_rfl
theorem limb25 : (fun (P : Program) (_ : FuncId) (_ : Func) (_ : ChangeSpec) (_ : OpenClaim) => P.mayEnter) Try.prog 3 Try.f3 Rows.dfaAnySpec Rows.dfaAnyRow = true := by kernel_rfl
theorem limb26 : (fun (P : Program) (_ : FuncId) (_ : Func) (_ : ChangeSpec) (c : OpenClaim) => (c.lifted == P.liftsFinal)) Try.prog 3 Try.f3 Rows.dfaAnySpec Rows.dfaAnyRow = true := by kernel_rfl
theorem limb27 : (fun (P : Program) (_ : FuncId) (_ : Func) (_ : ChangeSpec) (c : OpenClaim) => (P.make == some c.make)) Try.prog 3 Try.f3 Rows.dfaAnySpec Rows.dfaAnyRow = true := by kernel_rfl
theorem limb28 : (fun (P : Program) (_ : FuncId) (fn : Func) (_ : ChangeSpec) (c : OpenClaim) => (c.kinds == (if c.domain.isEmpty then [] else fn.params.toList.map fun t => match P.underlying t with | some (.int k) => some k | _ => none))) Try.prog 3 Try.f3 Rows.dfaAnySpec Rows.dfaAnyRow = true := by kernel_rfl
theorem limb29 : (fun (_ : Program) (_ : FuncId) (_ : Func) (_ : ChangeSpec) (c : OpenClaim) => (c.pinned == c.pinnedBy)) Try.prog 3 Try.f3 Rows.dfaAnySpec Rows.dfaAnyRow = true := by kernel_rfl
theorem limb30 : (fun (P : Program) (_ : FuncId) (fn : Func) (s : ChangeSpec) (c : OpenClaim) => (c.veiled == (fn.params.toList ++ s.plain.varTypes P ++ fn.resultTypes.toList).any (P.veiledRec ·))) Try.prog 3 Try.f3 Rows.dfaAnySpec Rows.dfaAnyRow = true := by kernel_rfl
theorem limb31 : (fun (P : Program) (_ : FuncId) (fn : Func) (s : ChangeSpec) (c : OpenClaim) => c.veiledFits P fn.params.toList (fn.params.toList ++ s.plain.varTypes P ++ fn.resultTypes.toList)) Try.prog 3 Try.f3 Rows.dfaAnySpec Rows.dfaAnyRow = true := by kernel_rfl
end Go.Proofs.Ytodehankgheooaa.dfaAny
