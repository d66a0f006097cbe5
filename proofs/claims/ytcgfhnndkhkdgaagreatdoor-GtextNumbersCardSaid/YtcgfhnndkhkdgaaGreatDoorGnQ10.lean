/- Runs of the law's functions, by the kernel. Printed by fin.py. -/
import Derived.Test.YtcgfhnndkhkdgaaGreatDoorGnD
set_option maxRecDepth 1000000
namespace Ey.Gn
open Go (IntKind)
theorem run0_99 : (fun a : Nat => allN (fun b => tru (callZ lkB 100000 94 (.one (.u 1 a) (.one (.u 0 b) .nil)) ZH.none)) 9) 99 = true := by kernel_rfl
theorem run0_100 : (fun a : Nat => allN (fun b => tru (callZ lkB 100000 94 (.one (.u 1 a) (.one (.u 0 b) .nil)) ZH.none)) 9) 100 = true := by kernel_rfl
theorem run0_101 : (fun a : Nat => allN (fun b => tru (callZ lkB 100000 94 (.one (.u 1 a) (.one (.u 0 b) .nil)) ZH.none)) 9) 101 = true := by kernel_rfl
theorem run0_102 : (fun a : Nat => allN (fun b => tru (callZ lkB 100000 94 (.one (.u 1 a) (.one (.u 0 b) .nil)) ZH.none)) 9) 102 = true := by kernel_rfl
theorem run0_103 : (fun a : Nat => allN (fun b => tru (callZ lkB 100000 94 (.one (.u 1 a) (.one (.u 0 b) .nil)) ZH.none)) 9) 103 = true := by kernel_rfl
theorem run0_104 : (fun a : Nat => allN (fun b => tru (callZ lkB 100000 94 (.one (.u 1 a) (.one (.u 0 b) .nil)) ZH.none)) 9) 104 = true := by kernel_rfl
theorem run0_105 : (fun a : Nat => allN (fun b => tru (callZ lkB 100000 94 (.one (.u 1 a) (.one (.u 0 b) .nil)) ZH.none)) 9) 105 = true := by kernel_rfl
theorem run0_106 : (fun a : Nat => allN (fun b => tru (callZ lkB 100000 94 (.one (.u 1 a) (.one (.u 0 b) .nil)) ZH.none)) 9) 106 = true := by kernel_rfl
theorem run0_107 : (fun a : Nat => allN (fun b => tru (callZ lkB 100000 94 (.one (.u 1 a) (.one (.u 0 b) .nil)) ZH.none)) 9) 107 = true := by kernel_rfl
theorem run0_108 : (fun a : Nat => allN (fun b => tru (callZ lkB 100000 94 (.one (.u 1 a) (.one (.u 0 b) .nil)) ZH.none)) 9) 108 = true := by kernel_rfl
end Ey.Gn
