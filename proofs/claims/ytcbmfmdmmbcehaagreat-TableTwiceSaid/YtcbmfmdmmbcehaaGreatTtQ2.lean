/- Runs of the law's functions, by the kernel. Printed by fin.py. -/
import Derived.Test.YtcbmfmdmmbcehaaGreatTtD
set_option maxRecDepth 1000000
namespace Ey.Tt
open Go (IntKind)
theorem run1_0 : (fun b : Nat => tru (callZ lkB 100000 185 (.one (.u 0 1) (.one (.u 0 b) .nil)) ZH.none)) 0 = true := by kernel_rfl
theorem run1_1 : (fun b : Nat => tru (callZ lkB 100000 185 (.one (.u 0 1) (.one (.u 0 b) .nil)) ZH.none)) 1 = true := by kernel_rfl
end Ey.Tt
