/- Runs of the law's functions, by the kernel. Printed by fin.py. -/
import Derived.Test.YtijaafflmbjdgaaGreatFgD
set_option maxRecDepth 1000000
namespace Ey.Fg
open Go (IntKind)
theorem begunRun : tru (callZ lk6 100000 158 .nil ZH.none) = true := by kernel_rfl
theorem run0 : tru (callZ lkB 100000 162 (.nil) ZH.none) = true := by kernel_rfl
end Ey.Fg
