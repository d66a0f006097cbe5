/- Runs of the law's functions, by the kernel. Printed by fin.py. -/
import Derived.Test.YtojeecabfcpbgaaGreatDoorLaD
set_option maxRecDepth 1000000
namespace Ey.La
open Go (IntKind)
theorem run0_3 : (fun a : Nat => tru (callZ lkB 100000 220 (.one (.u 0 a) .nil) ZH.none)) 3 = true := by kernel_rfl
theorem run0_4 : (fun a : Nat => tru (callZ lkB 100000 220 (.one (.u 0 a) .nil) ZH.none)) 4 = true := by kernel_rfl
end Ey.La
