/- Runs of the law's functions, by the kernel. Printed by fin.py. -/
import Derived.Test.YtojeecabfcpbgaaGreatDoorLaD
set_option maxRecDepth 1000000
namespace Ey.La
open Go (IntKind)
theorem begunRun : tru (callZ lk4 100000 112 .nil ZH.none) = true := by kernel_rfl
theorem run0_0 : (fun a : Nat => tru (callZ lkB 100000 220 (.one (.u 0 a) .nil) ZH.none)) 0 = true := by kernel_rfl
end Ey.La
