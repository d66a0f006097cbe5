/- Runs of the law's functions, by the kernel. Printed by fin.py. -/
import Derived.Test.YtcgfhnndkhkdgaaGreatDoorGnD
set_option maxRecDepth 1000000
namespace Ey.Gn
open Go (IntKind)
theorem run0_159 : (fun a : Nat => allN (fun b => tru (callZ lkB 100000 94 (.one (.u 1 a) (.one (.u 0 b) .nil)) ZH.none)) 9) 159 = true := by kernel_rfl
theorem run0_160 : (fun a : Nat => allN (fun b => tru (callZ lkB 100000 94 (.one (.u 1 a) (.one (.u 0 b) .nil)) ZH.none)) 9) 160 = true := by kernel_rfl
theorem run0_161 : (fun a : Nat => allN (fun b => tru (callZ lkB 100000 94 (.one (.u 1 a) (.one (.u 0 b) .nil)) ZH.none)) 9) 161 = true := by kernel_rfl
theorem run0_162 : (fun a : Nat => allN (fun b => tru (callZ lkB 100000 94 (.one (.u 1 a) (.one (.u 0 b) .nil)) ZH.none)) 9) 162 = true := by kernel_rfl
theorem run0_163 : (fun a : Nat => allN (fun b => tru (callZ lkB 100000 94 (.one (.u 1 a) (.one (.u 0 b) .nil)) ZH.none)) 9) 163 = true := by kernel_rfl
theorem run0_164 : (fun a : Nat => allN (fun b => tru (callZ lkB 100000 94 (.one (.u 1 a) (.one (.u 0 b) .nil)) ZH.none)) 9) 164 = true := by kernel_rfl
theorem run0_165 : (fun a : Nat => allN (fun b => tru (callZ lkB 100000 94 (.one (.u 1 a) (.one (.u 0 b) .nil)) ZH.none)) 9) 165 = true := by kernel_rfl
theorem run0_166 : (fun a : Nat => allN (fun b => tru (callZ lkB 100000 94 (.one (.u 1 a) (.one (.u 0 b) .nil)) ZH.none)) 9) 166 = true := by kernel_rfl
theorem run0_167 : (fun a : Nat => allN (fun b => tru (callZ lkB 100000 94 (.one (.u 1 a) (.one (.u 0 b) .nil)) ZH.none)) 9) 167 = true := by kernel_rfl
theorem run0_168 : (fun a : Nat => allN (fun b => tru (callZ lkB 100000 94 (.one (.u 1 a) (.one (.u 0 b) .nil)) ZH.none)) 9) 168 = true := by kernel_rfl
end Ey.Gn
