/- Runs of the law's functions, by the kernel. Printed by fin.py. -/
import Derived.Test.YtijaafflmbjdgaaGreatDoorGrD
set_option maxRecDepth 1000000
namespace Ey.Gr
open Go (IntKind)
theorem run4_1 : (fun b : Nat => allN (fun c => tru (callZ lkB 100000 201 (.one (.u 0 4) (.one (.u 0 b) (.one (.u 0 c) .nil))) ZH.none)) 4) 1 = true := by kernel_rfl
theorem run4_2 : (fun b : Nat => allN (fun c => tru (callZ lkB 100000 201 (.one (.u 0 4) (.one (.u 0 b) (.one (.u 0 c) .nil))) ZH.none)) 4) 2 = true := by kernel_rfl
theorem run4_3 : (fun b : Nat => allN (fun c => tru (callZ lkB 100000 201 (.one (.u 0 4) (.one (.u 0 b) (.one (.u 0 c) .nil))) ZH.none)) 4) 3 = true := by kernel_rfl
end Ey.Gr
