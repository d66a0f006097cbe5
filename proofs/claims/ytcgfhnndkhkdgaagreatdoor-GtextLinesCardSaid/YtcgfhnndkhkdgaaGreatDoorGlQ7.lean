/- Runs of the law's functions, by the kernel. Printed by fin.py. -/
import Derived.Test.YtcgfhnndkhkdgaaGreatDoorGlD
set_option maxRecDepth 1000000
namespace Ey.Gl
open Go (IntKind)
theorem run4_8 : (fun b : Nat => allN (fun c => tru (callZ lkB 100000 104 (.one (.u 0 4) (.one (.u 0 b) (.one (.u 0 c) .nil))) ZH.none)) 4) 8 = true := by kernel_rfl
theorem run4_9 : (fun b : Nat => allN (fun c => tru (callZ lkB 100000 104 (.one (.u 0 4) (.one (.u 0 b) (.one (.u 0 c) .nil))) ZH.none)) 4) 9 = true := by kernel_rfl
theorem run4_10 : (fun b : Nat => allN (fun c => tru (callZ lkB 100000 104 (.one (.u 0 4) (.one (.u 0 b) (.one (.u 0 c) .nil))) ZH.none)) 4) 10 = true := by kernel_rfl
end Ey.Gl
