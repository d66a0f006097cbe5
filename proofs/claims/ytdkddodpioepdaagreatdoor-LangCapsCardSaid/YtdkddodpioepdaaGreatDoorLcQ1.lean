/- Runs of the law's functions, by the kernel. Printed by fin.py. -/
import Derived.Test.YtdkddodpioepdaaGreatDoorLcD
set_option maxRecDepth 1000000
namespace Ey.Lc
open Go (IntKind)
theorem run0 : tru (callZ (natsZ [(98, onceZ), (9, .mem (memF [m0]) a9 n9.1 n9.2), (23, .mem (memF [m1, m3]) a23 n23.1 n23.2), (100, .mem (memF [m2]) a100 n100.1 n100.2), (182, .mem (memF [m4]) a182 n182.1 n182.2)] zs) 100000 184 (.nil) ZH.none) = true := by kernel_rfl
end Ey.Lc
