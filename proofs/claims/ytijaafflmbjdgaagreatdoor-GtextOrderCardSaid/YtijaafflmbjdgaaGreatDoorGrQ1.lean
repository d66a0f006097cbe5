/- Runs of the law's functions, by the kernel. Printed by fin.py. -/
import Derived.Test.YtijaafflmbjdgaaGreatDoorGrD
set_option maxRecDepth 1000000
namespace Ey.Gr
open Go (IntKind)
theorem run1_0 : (fun b : Nat => allN (fun c => tru (callZ lkB 100000 198 (.one (.u 0 1) (.one (.u 0 b) (.one (.u 0 c) .nil))) ZH.none)) 3) 0 = true := by kernel_rfl
theorem run1_1 : (fun b : Nat => allN (fun c => tru (callZ lkB 100000 198 (.one (.u 0 1) (.one (.u 0 b) (.one (.u 0 c) .nil))) ZH.none)) 3) 1 = true := by kernel_rfl
theorem run1_2 : (fun b : Nat => allN (fun c => tru (callZ lkB 100000 198 (.one (.u 0 1) (.one (.u 0 b) (.one (.u 0 c) .nil))) ZH.none)) 3) 2 = true := by kernel_rfl
theorem run2_0 : (fun b : Nat => allN (fun c => tru (callZ lkB 100000 199 (.one (.u 0 2) (.one (.u 0 b) (.one (.u 0 c) .nil))) ZH.none)) 2) 0 = true := by kernel_rfl
end Ey.Gr
