/- Runs of the law's functions, by the kernel. Printed by fin.py. -/
import Derived.Test.YtcbmfmdmmbcehaaGreatTrD
set_option maxRecDepth 1000000
namespace Ey.Tr
open Go (IntKind)
theorem begunRun : tru (callZ lk6 100000 170 .nil ZH.none) = true := by kernel_rfl
theorem run0 : tru (callZ lkB 100000 172 (.nil) ZH.none) = true := by kernel_rfl
end Ey.Tr
