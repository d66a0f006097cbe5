/- Runs of the law's functions, by the kernel. Printed by fin.py. -/
import Derived.Test.YtcgfhnndkhkdgaaGreatDoorGlD
set_option maxRecDepth 1000000
namespace Ey.Gl
open Go (IntKind)
theorem run2_1 : (fun b : Nat => allN (fun c => tru (callZ lkB 100000 102 (.one (.u 0 2) (.one (.u 0 b) (.one (.u 0 c) .nil))) ZH.none)) 4) 1 = true := by kernel_rfl
theorem run2_2 : (fun b : Nat => allN (fun c => tru (callZ lkB 100000 102 (.one (.u 0 2) (.one (.u 0 b) (.one (.u 0 c) .nil))) ZH.none)) 4) 2 = true := by kernel_rfl
theorem run2_3 : (fun b : Nat => allN (fun c => tru (callZ lkB 100000 102 (.one (.u 0 2) (.one (.u 0 b) (.one (.u 0 c) .nil))) ZH.none)) 4) 3 = true := by kernel_rfl
theorem run2_4 : (fun b : Nat => allN (fun c => tru (callZ lkB 100000 102 (.one (.u 0 2) (.one (.u 0 b) (.one (.u 0 c) .nil))) ZH.none)) 4) 4 = true := by kernel_rfl
theorem run2_5 : (fun b : Nat => allN (fun c => tru (callZ lkB 100000 102 (.one (.u 0 2) (.one (.u 0 b) (.one (.u 0 c) .nil))) ZH.none)) 4) 5 = true := by kernel_rfl
theorem run2_6 : (fun b : Nat => allN (fun c => tru (callZ lkB 100000 102 (.one (.u 0 2) (.one (.u 0 b) (.one (.u 0 c) .nil))) ZH.none)) 4) 6 = true := by kernel_rfl
theorem run3_0 : (fun b : Nat => allN (fun c => tru (callZ lkB 100000 103 (.one (.u 0 3) (.one (.u 0 b) (.one (.u 0 c) .nil))) ZH.none)) 4) 0 = true := by kernel_rfl
theorem run3_1 : (fun b : Nat => allN (fun c => tru (callZ lkB 100000 103 (.one (.u 0 3) (.one (.u 0 b) (.one (.u 0 c) .nil))) ZH.none)) 4) 1 = true := by kernel_rfl
end Ey.Gl
