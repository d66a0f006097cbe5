/- The beginning of the law, which asks nothing of the arguments: run by the kernel. -/
import Derived.Test.YtodehankgheooaaDaN
set_option maxRecDepth 1000000
namespace Ey.Da
open Go (IntKind)
theorem begunRun : tru (callZ (lookZ zs) 100000 27 .nil ZH.none) = true := by kernel_rfl
end Ey.Da
