/- Runs of the law's functions, by the kernel. Printed by fin.py. -/
import Derived.Test.YtcgfhnndkhkdgaaGreatDoorGlD
set_option maxRecDepth 1000000
namespace Ey.Gl
open Go (IntKind)
theorem run0_7 : (fun b : Nat => allN (fun c => tru (callZ lkB 100000 100 (.one (.u 0 0) (.one (.u 0 b) (.one (.u 0 c) .nil))) ZH.none)) 4) 7 = true := by kernel_rfl
theorem run0_8 : (fun b : Nat => allN (fun c => tru (callZ lkB 100000 100 (.one (.u 0 0) (.one (.u 0 b) (.one (.u 0 c) .nil))) ZH.none)) 4) 8 = true := by kernel_rfl
theorem run0_9 : (fun b : Nat => allN (fun c => tru (callZ lkB 100000 100 (.one (.u 0 0) (.one (.u 0 b) (.one (.u 0 c) .nil))) ZH.none)) 4) 9 = true := by kernel_rfl
theorem run1_0 : (fun b : Nat => allN (fun c => tru (callZ lkB 100000 101 (.one (.u 0 1) (.one (.u 0 b) (.one (.u 0 c) .nil))) ZH.none)) 4) 0 = true := by kernel_rfl
theorem run1_1 : (fun b : Nat => allN (fun c => tru (callZ lkB 100000 101 (.one (.u 0 1) (.one (.u 0 b) (.one (.u 0 c) .nil))) ZH.none)) 4) 1 = true := by kernel_rfl
theorem run1_2 : (fun b : Nat => allN (fun c => tru (callZ lkB 100000 101 (.one (.u 0 1) (.one (.u 0 b) (.one (.u 0 c) .nil))) ZH.none)) 4) 2 = true := by kernel_rfl
theorem run1_3 : (fun b : Nat => allN (fun c => tru (callZ lkB 100000 101 (.one (.u 0 1) (.one (.u 0 b) (.one (.u 0 c) .nil))) ZH.none)) 4) 3 = true := by kernel_rfl
theorem run1_4 : (fun b : Nat => allN (fun c => tru (callZ lkB 100000 101 (.one (.u 0 1) (.one (.u 0 b) (.one (.u 0 c) .nil))) ZH.none)) 4) 4 = true := by kernel_rfl
end Ey.Gl
