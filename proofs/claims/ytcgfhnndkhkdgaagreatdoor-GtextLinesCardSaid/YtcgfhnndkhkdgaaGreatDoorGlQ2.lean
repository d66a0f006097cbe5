/- Runs of the law's functions, by the kernel. Printed by fin.py. -/
import Derived.Test.YtcgfhnndkhkdgaaGreatDoorGlD
set_option maxRecDepth 1000000
namespace Ey.Gl
open Go (IntKind)
theorem run1_5 : (fun b : Nat => allN (fun c => tru (callZ lkB 100000 101 (.one (.u 0 1) (.one (.u 0 b) (.one (.u 0 c) .nil))) ZH.none)) 4) 5 = true := by kernel_rfl
theorem run1_6 : (fun b : Nat => allN (fun c => tru (callZ lkB 100000 101 (.one (.u 0 1) (.one (.u 0 b) (.one (.u 0 c) .nil))) ZH.none)) 4) 6 = true := by kernel_rfl
theorem run1_7 : (fun b : Nat => allN (fun c => tru (callZ lkB 100000 101 (.one (.u 0 1) (.one (.u 0 b) (.one (.u 0 c) .nil))) ZH.none)) 4) 7 = true := by kernel_rfl
theorem run1_8 : (fun b : Nat => allN (fun c => tru (callZ lkB 100000 101 (.one (.u 0 1) (.one (.u 0 b) (.one (.u 0 c) .nil))) ZH.none)) 4) 8 = true := by kernel_rfl
theorem run1_9 : (fun b : Nat => allN (fun c => tru (callZ lkB 100000 101 (.one (.u 0 1) (.one (.u 0 b) (.one (.u 0 c) .nil))) ZH.none)) 4) 9 = true := by kernel_rfl
theorem run1_10 : (fun b : Nat => allN (fun c => tru (callZ lkB 100000 101 (.one (.u 0 1) (.one (.u 0 b) (.one (.u 0 c) .nil))) ZH.none)) 4) 10 = true := by kernel_rfl
theorem run1_11 : (fun b : Nat => allN (fun c => tru (callZ lkB 100000 101 (.one (.u 0 1) (.one (.u 0 b) (.one (.u 0 c) .nil))) ZH.none)) 4) 11 = true := by kernel_rfl
theorem run2_0 : (fun b : Nat => allN (fun c => tru (callZ lkB 100000 102 (.one (.u 0 2) (.one (.u 0 b) (.one (.u 0 c) .nil))) ZH.none)) 4) 0 = true := by kernel_rfl
end Ey.Gl
