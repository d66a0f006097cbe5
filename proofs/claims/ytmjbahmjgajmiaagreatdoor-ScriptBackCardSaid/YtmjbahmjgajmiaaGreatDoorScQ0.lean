/- The beginning of the laws, which asks nothing of the arguments: run by the kernel. -/
import Derived.Test.YtmjbahmjgajmiaaGreatDoorScN
set_option maxRecDepth 1000000
namespace Ey.Sc
open Go (IntKind)
theorem begunRun : tru (callZ (lookZ zs) 100000 197 .nil ZH.none) = true := by kernel_rfl
end Ey.Sc
