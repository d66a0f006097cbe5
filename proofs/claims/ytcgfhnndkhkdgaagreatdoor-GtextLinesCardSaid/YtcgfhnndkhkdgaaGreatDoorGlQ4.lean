/- Runs of the law's functions, by the kernel. Printed by fin.py. -/
import Derived.Test.YtcgfhnndkhkdgaaGreatDoorGlD
set_option maxRecDepth 1000000
namespace Ey.Gl
open Go (IntKind)
theorem run3_2 : (fun b : Nat => allN (fun c => tru (callZ lkB 100000 103 (.one (.u 0 3) (.one (.u 0 b) (.one (.u 0 c) .nil))) ZH.none)) 4) 2 = true := by kernel_rfl
theorem run3_3 : (fun b : Nat => allN (fun c => tru (callZ lkB 100000 103 (.one (.u 0 3) (.one (.u 0 b) (.one (.u 0 c) .nil))) ZH.none)) 4) 3 = true := by kernel_rfl
theorem run3_4 : (fun b : Nat => allN (fun c => tru (callZ lkB 100000 103 (.one (.u 0 3) (.one (.u 0 b) (.one (.u 0 c) .nil))) ZH.none)) 4) 4 = true := by kernel_rfl
theorem run3_5 : (fun b : Nat => allN (fun c => tru (callZ lkB 100000 103 (.one (.u 0 3) (.one (.u 0 b) (.one (.u 0 c) .nil))) ZH.none)) 4) 5 = true := by kernel_rfl
theorem run3_6 : (fun b : Nat => allN (fun c => tru (callZ lkB 100000 103 (.one (.u 0 3) (.one (.u 0 b) (.one (.u 0 c) .nil))) ZH.none)) 4) 6 = true := by kernel_rfl
theorem run3_7 : (fun b : Nat => allN (fun c => tru (callZ lkB 100000 103 (.one (.u 0 3) (.one (.u 0 b) (.one (.u 0 c) .nil))) ZH.none)) 4) 7 = true := by kernel_rfl
theorem run3_8 : (fun b : Nat => allN (fun c => tru (callZ lkB 100000 103 (.one (.u 0 3) (.one (.u 0 b) (.one (.u 0 c) .nil))) ZH.none)) 4) 8 = true := by kernel_rfl
theorem run3_9 : (fun b : Nat => allN (fun c => tru (callZ lkB 100000 103 (.one (.u 0 3) (.one (.u 0 b) (.one (.u 0 c) .nil))) ZH.none)) 4) 9 = true := by kernel_rfl
end Ey.Gl
