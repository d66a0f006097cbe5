/- Runs of the law's functions, by the kernel. Printed by fin.py. -/
import Derived.Test.YtcgfhnndkhkdgaaGreatDoorGnD
set_option maxRecDepth 1000000
namespace Ey.Gn
open Go (IntKind)
theorem run0_129 : (fun a : Nat => allN (fun b => tru (callZ lkB 100000 94 (.one (.u 1 a) (.one (.u 0 b) .nil)) ZH.none)) 9) 129 = true := by kernel_rfl
theorem run0_130 : (fun a : Nat => allN (fun b => tru (callZ lkB 100000 94 (.one (.u 1 a) (.one (.u 0 b) .nil)) ZH.none)) 9) 130 = true := by kernel_rfl
theorem run0_131 : (fun a : Nat => allN (fun b => tru (callZ lkB 100000 94 (.one (.u 1 a) (.one (.u 0 b) .nil)) ZH.none)) 9) 131 = true := by kernel_rfl
theorem run0_132 : (fun a : Nat => allN (fun b => tru (callZ lkB 100000 94 (.one (.u 1 a) (.one (.u 0 b) .nil)) ZH.none)) 9) 132 = true := by kernel_rfl
theorem run0_133 : (fun a : Nat => allN (fun b => tru (callZ lkB 100000 94 (.one (.u 1 a) (.one (.u 0 b) .nil)) ZH.none)) 9) 133 = true := by kernel_rfl
theorem run0_134 : (fun a : Nat => allN (fun b => tru (callZ lkB 100000 94 (.one (.u 1 a) (.one (.u 0 b) .nil)) ZH.none)) 9) 134 = true := by kernel_rfl
theorem run0_135 : (fun a : Nat => allN (fun b => tru (callZ lkB 100000 94 (.one (.u 1 a) (.one (.u 0 b) .nil)) ZH.none)) 9) 135 = true := by kernel_rfl
theorem run0_136 : (fun a : Nat => allN (fun b => tru (callZ lkB 100000 94 (.one (.u 1 a) (.one (.u 0 b) .nil)) ZH.none)) 9) 136 = true := by kernel_rfl
theorem run0_137 : (fun a : Nat => allN (fun b => tru (callZ lkB 100000 94 (.one (.u 1 a) (.one (.u 0 b) .nil)) ZH.none)) 9) 137 = true := by kernel_rfl
theorem run0_138 : (fun a : Nat => allN (fun b => tru (callZ lkB 100000 94 (.one (.u 1 a) (.one (.u 0 b) .nil)) ZH.none)) 9) 138 = true := by kernel_rfl
end Ey.Gn
