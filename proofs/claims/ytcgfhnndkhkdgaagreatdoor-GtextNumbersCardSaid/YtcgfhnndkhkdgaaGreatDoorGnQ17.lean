/- Runs of the law's functions, by the kernel. Printed by fin.py. -/
import Derived.Test.YtcgfhnndkhkdgaaGreatDoorGnD
set_option maxRecDepth 1000000
namespace Ey.Gn
open Go (IntKind)
theorem run0_169 : (fun a : Nat => allN (fun b => tru (callZ lkB 100000 94 (.one (.u 1 a) (.one (.u 0 b) .nil)) ZH.none)) 9) 169 = true := by kernel_rfl
theorem run0_170 : (fun a : Nat => allN (fun b => tru (callZ lkB 100000 94 (.one (.u 1 a) (.one (.u 0 b) .nil)) ZH.none)) 9) 170 = true := by kernel_rfl
theorem run0_171 : (fun a : Nat => allN (fun b => tru (callZ lkB 100000 94 (.one (.u 1 a) (.one (.u 0 b) .nil)) ZH.none)) 9) 171 = true := by kernel_rfl
theorem run0_172 : (fun a : Nat => allN (fun b => tru (callZ lkB 100000 94 (.one (.u 1 a) (.one (.u 0 b) .nil)) ZH.none)) 9) 172 = true := by kernel_rfl
theorem run0_173 : (fun a : Nat => allN (fun b => tru (callZ lkB 100000 94 (.one (.u 1 a) (.one (.u 0 b) .nil)) ZH.none)) 9) 173 = true := by kernel_rfl
theorem run0_174 : (fun a : Nat => allN (fun b => tru (callZ lkB 100000 94 (.one (.u 1 a) (.one (.u 0 b) .nil)) ZH.none)) 9) 174 = true := by kernel_rfl
theorem run0_175 : (fun a : Nat => allN (fun b => tru (callZ lkB 100000 94 (.one (.u 1 a) (.one (.u 0 b) .nil)) ZH.none)) 9) 175 = true := by kernel_rfl
theorem run0_176 : (fun a : Nat => allN (fun b => tru (callZ lkB 100000 94 (.one (.u 1 a) (.one (.u 0 b) .nil)) ZH.none)) 9) 176 = true := by kernel_rfl
theorem run0_177 : (fun a : Nat => allN (fun b => tru (callZ lkB 100000 94 (.one (.u 1 a) (.one (.u 0 b) .nil)) ZH.none)) 9) 177 = true := by kernel_rfl
theorem run0_178 : (fun a : Nat => allN (fun b => tru (callZ lkB 100000 94 (.one (.u 1 a) (.one (.u 0 b) .nil)) ZH.none)) 9) 178 = true := by kernel_rfl
end Ey.Gn
