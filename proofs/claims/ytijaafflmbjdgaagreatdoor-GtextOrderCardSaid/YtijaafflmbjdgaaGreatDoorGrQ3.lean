/- Runs of the law's functions, by the kernel. Printed by fin.py. -/
import Derived.Test.YtijaafflmbjdgaaGreatDoorGrD
set_option maxRecDepth 1000000
namespace Ey.Gr
open Go (IntKind)
theorem run3_3 : (fun b : Nat => allN (fun c => tru (callZ lkB 100000 200 (.one (.u 0 3) (.one (.u 0 b) (.one (.u 0 c) .nil))) ZH.none)) 6) 3 = true := by kernel_rfl
theorem run3_4 : (fun b : Nat => allN (fun c => tru (callZ lkB 100000 200 (.one (.u 0 3) (.one (.u 0 b) (.one (.u 0 c) .nil))) ZH.none)) 6) 4 = true := by kernel_rfl
theorem run3_5 : (fun b : Nat => allN (fun c => tru (callZ lkB 100000 200 (.one (.u 0 3) (.one (.u 0 b) (.one (.u 0 c) .nil))) ZH.none)) 6) 5 = true := by kernel_rfl
theorem run4_0 : (fun b : Nat => allN (fun c => tru (callZ lkB 100000 201 (.one (.u 0 4) (.one (.u 0 b) (.one (.u 0 c) .nil))) ZH.none)) 4) 0 = true := by kernel_rfl
end Ey.Gr
