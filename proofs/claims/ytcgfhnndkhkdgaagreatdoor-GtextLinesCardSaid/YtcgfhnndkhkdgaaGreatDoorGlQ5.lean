/- Runs of the law's functions, by the kernel. Printed by fin.py. -/
import Derived.Test.YtcgfhnndkhkdgaaGreatDoorGlD
set_option maxRecDepth 1000000
namespace Ey.Gl
open Go (IntKind)
theorem run3_10 : (fun b : Nat => allN (fun c => tru (callZ lkB 100000 103 (.one (.u 0 3) (.one (.u 0 b) (.one (.u 0 c) .nil))) ZH.none)) 4) 10 = true := by kernel_rfl
theorem run3_11 : (fun b : Nat => allN (fun c => tru (callZ lkB 100000 103 (.one (.u 0 3) (.one (.u 0 b) (.one (.u 0 c) .nil))) ZH.none)) 4) 11 = true := by kernel_rfl
theorem run3_12 : (fun b : Nat => allN (fun c => tru (callZ lkB 100000 103 (.one (.u 0 3) (.one (.u 0 b) (.one (.u 0 c) .nil))) ZH.none)) 4) 12 = true := by kernel_rfl
theorem run3_13 : (fun b : Nat => allN (fun c => tru (callZ lkB 100000 103 (.one (.u 0 3) (.one (.u 0 b) (.one (.u 0 c) .nil))) ZH.none)) 4) 13 = true := by kernel_rfl
theorem run3_14 : (fun b : Nat => allN (fun c => tru (callZ lkB 100000 103 (.one (.u 0 3) (.one (.u 0 b) (.one (.u 0 c) .nil))) ZH.none)) 4) 14 = true := by kernel_rfl
theorem run3_15 : (fun b : Nat => allN (fun c => tru (callZ lkB 100000 103 (.one (.u 0 3) (.one (.u 0 b) (.one (.u 0 c) .nil))) ZH.none)) 4) 15 = true := by kernel_rfl
theorem run3_16 : (fun b : Nat => allN (fun c => tru (callZ lkB 100000 103 (.one (.u 0 3) (.one (.u 0 b) (.one (.u 0 c) .nil))) ZH.none)) 4) 16 = true := by kernel_rfl
theorem run3_17 : (fun b : Nat => allN (fun c => tru (callZ lkB 100000 103 (.one (.u 0 3) (.one (.u 0 b) (.one (.u 0 c) .nil))) ZH.none)) 4) 17 = true := by kernel_rfl
end Ey.Gl
