/- Runs of the law's functions, by the kernel. Printed by fin.py. -/
import Derived.Test.YtijaafflmbjdgaaGreatDoorGrD
set_option maxRecDepth 1000000
namespace Ey.Gr
open Go (IntKind)
theorem begunRun : tru (callZ lk5 100000 191 .nil ZH.none) = true := by kernel_rfl
theorem run0_0 : (fun b : Nat => allN (fun c => tru (callZ lkB 100000 198 (.one (.u 0 0) (.one (.u 0 b) (.one (.u 0 c) .nil))) ZH.none)) 3) 0 = true := by kernel_rfl
theorem run0_1 : (fun b : Nat => allN (fun c => tru (callZ lkB 100000 198 (.one (.u 0 0) (.one (.u 0 b) (.one (.u 0 c) .nil))) ZH.none)) 3) 1 = true := by kernel_rfl
theorem run0_2 : (fun b : Nat => allN (fun c => tru (callZ lkB 100000 198 (.one (.u 0 0) (.one (.u 0 b) (.one (.u 0 c) .nil))) ZH.none)) 3) 2 = true := by kernel_rfl
end Ey.Gr
