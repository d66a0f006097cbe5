/- Runs of the law's functions, by the kernel. Printed by fin.py. -/
import Derived.Test.YtdkddodpioepdaaGreatDoorLfD
set_option maxRecDepth 1000000
namespace Ey.Lf
open Go (IntKind)
theorem run0 : tru (callZ (natsZ [(99, onceZ), (9, .mem (memF [m1]) a9 n9.1 n9.2), (23, .mem (memF [m2]) a23 n23.1 n23.2), (101, .mem (memF [m0, m3, m4]) a101 n101.1 n101.2)] zs) 100000 188 (.nil) ZH.none) = true := by kernel_rfl
end Ey.Lf
