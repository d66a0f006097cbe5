/- Runs of the law's functions, by the kernel. Printed by fin.py. -/
import Derived.Test.YtcgfhnndkhkdgaaGreatDoorGnD
set_option maxRecDepth 1000000
namespace Ey.Gn
open Go (IntKind)
theorem run0_39 : (fun a : Nat => allN (fun b => tru (callZ lkB 100000 94 (.one (.u 1 a) (.one (.u 0 b) .nil)) ZH.none)) 9) 39 = true := by kernel_rfl
theorem run0_40 : (fun a : Nat => allN (fun b => tru (callZ lkB 100000 94 (.one (.u 1 a) (.one (.u 0 b) .nil)) ZH.none)) 9) 40 = true := by kernel_rfl
theorem run0_41 : (fun a : Nat => allN (fun b => tru (callZ lkB 100000 94 (.one (.u 1 a) (.one (.u 0 b) .nil)) ZH.none)) 9) 41 = true := by kernel_rfl
theorem run0_42 : (fun a : Nat => allN (fun b => tru (callZ lkB 100000 94 (.one (.u 1 a) (.one (.u 0 b) .nil)) ZH.none)) 9) 42 = true := by kernel_rfl
theorem run0_43 : (fun a : Nat => allN (fun b => tru (callZ lkB 100000 94 (.one (.u 1 a) (.one (.u 0 b) .nil)) ZH.none)) 9) 43 = true := by kernel_rfl
theorem run0_44 : (fun a : Nat => allN (fun b => tru (callZ lkB 100000 94 (.one (.u 1 a) (.one (.u 0 b) .nil)) ZH.none)) 9) 44 = true := by kernel_rfl
theorem run0_45 : (fun a : Nat => allN (fun b => tru (callZ lkB 100000 94 (.one (.u 1 a) (.one (.u 0 b) .nil)) ZH.none)) 9) 45 = true := by kernel_rfl
theorem run0_46 : (fun a : Nat => allN (fun b => tru (callZ lkB 100000 94 (.one (.u 1 a) (.one (.u 0 b) .nil)) ZH.none)) 9) 46 = true := by kernel_rfl
theorem run0_47 : (fun a : Nat => allN (fun b => tru (callZ lkB 100000 94 (.one (.u 1 a) (.one (.u 0 b) .nil)) ZH.none)) 9) 47 = true := by kernel_rfl
theorem run0_48 : (fun a : Nat => allN (fun b => tru (callZ lkB 100000 94 (.one (.u 1 a) (.one (.u 0 b) .nil)) ZH.none)) 9) 48 = true := by kernel_rfl
end Ey.Gn
