/- Runs of the law's functions, by the kernel. Printed by fin.py. -/
import Derived.Test.YtcbmfmdmmbcehaaGreatTtD
set_option maxRecDepth 1000000
namespace Ey.Tt
open Go (IntKind)
theorem begunRun : tru (callZ lk5 100000 183 .nil ZH.none) = true := by kernel_rfl
theorem run0_0 : (fun b : Nat => tru (callZ lkB 100000 184 (.one (.u 0 0) (.one (.u 0 b) .nil)) ZH.none)) 0 = true := by kernel_rfl
end Ey.Tt
