/- Runs of the law's functions, by the kernel. Printed by fin.py. -/
import Derived.Test.YtojeecabfcpbgaaGreatDoorLaD
set_option maxRecDepth 1000000
namespace Ey.La
open Go (IntKind)
theorem run0_1 : (fun a : Nat => tru (callZ lkB 100000 220 (.one (.u 0 a) .nil) ZH.none)) 1 = true := by kernel_rfl
theorem run0_2 : (fun a : Nat => tru (callZ lkB 100000 220 (.one (.u 0 a) .nil) ZH.none)) 2 = true := by kernel_rfl
end Ey.La
