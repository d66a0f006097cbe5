/- Runs of the law's functions, by the kernel. Printed by fin.py. -/
import Derived.Test.YtijaafflmbjdgaaGreatDoorGrD
set_option maxRecDepth 1000000
namespace Ey.Gr
open Go (IntKind)
theorem run2_1 : (fun b : Nat => allN (fun c => tru (callZ lkB 100000 199 (.one (.u 0 2) (.one (.u 0 b) (.one (.u 0 c) .nil))) ZH.none)) 2) 1 = true := by kernel_rfl
theorem run3_0 : (fun b : Nat => allN (fun c => tru (callZ lkB 100000 200 (.one (.u 0 3) (.one (.u 0 b) (.one (.u 0 c) .nil))) ZH.none)) 6) 0 = true := by kernel_rfl
theorem run3_1 : (fun b : Nat => allN (fun c => tru (callZ lkB 100000 200 (.one (.u 0 3) (.one (.u 0 b) (.one (.u 0 c) .nil))) ZH.none)) 6) 1 = true := by kernel_rfl
theorem run3_2 : (fun b : Nat => allN (fun c => tru (callZ lkB 100000 200 (.one (.u 0 3) (.one (.u 0 b) (.one (.u 0 c) .nil))) ZH.none)) 6) 2 = true := by kernel_rfl
end Ey.Gr
