/- Runs of the law's functions, by the kernel. Printed by fin.py. -/
import Derived.Test.YtdkddodpioepdaaGreatDoorLfD
set_option maxRecDepth 1000000
namespace Ey.Lf
open Go (IntKind)
theorem begunRun : tru (callZ (lookZ zs) 100000 99 .nil ZH.none) = true := by kernel_rfl
end Ey.Lf
