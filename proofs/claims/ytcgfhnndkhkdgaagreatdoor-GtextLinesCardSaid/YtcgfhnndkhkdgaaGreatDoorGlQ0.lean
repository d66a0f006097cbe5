/- Runs of the law's functions, by the kernel. Printed by fin.py. -/
import Derived.Test.YtcgfhnndkhkdgaaGreatDoorGlD
set_option maxRecDepth 1000000
namespace Ey.Gl
open Go (IntKind)
theorem begunRun : tru (callZ lk1 100000 94 .nil ZH.none) = true := by kernel_rfl
theorem run0_0 : (fun b : Nat => allN (fun c => tru (callZ lkB 100000 100 (.one (.u 0 0) (.one (.u 0 b) (.one (.u 0 c) .nil))) ZH.none)) 4) 0 = true := by kernel_rfl
theorem run0_1 : (fun b : Nat => allN (fun c => tru (callZ lkB 100000 100 (.one (.u 0 0) (.one (.u 0 b) (.one (.u 0 c) .nil))) ZH.none)) 4) 1 = true := by kernel_rfl
theorem run0_2 : (fun b : Nat => allN (fun c => tru (callZ lkB 100000 100 (.one (.u 0 0) (.one (.u 0 b) (.one (.u 0 c) .nil))) ZH.none)) 4) 2 = true := by kernel_rfl
theorem run0_3 : (fun b : Nat => allN (fun c => tru (callZ lkB 100000 100 (.one (.u 0 0) (.one (.u 0 b) (.one (.u 0 c) .nil))) ZH.none)) 4) 3 = true := by kernel_rfl
theorem run0_4 : (fun b : Nat => allN (fun c => tru (callZ lkB 100000 100 (.one (.u 0 0) (.one (.u 0 b) (.one (.u 0 c) .nil))) ZH.none)) 4) 4 = true := by kernel_rfl
theorem run0_5 : (fun b : Nat => allN (fun c => tru (callZ lkB 100000 100 (.one (.u 0 0) (.one (.u 0 b) (.one (.u 0 c) .nil))) ZH.none)) 4) 5 = true := by kernel_rfl
theorem run0_6 : (fun b : Nat => allN (fun c => tru (callZ lkB 100000 100 (.one (.u 0 0) (.one (.u 0 b) (.one (.u 0 c) .nil))) ZH.none)) 4) 6 = true := by kernel_rfl
end Ey.Gl
