/- Runs of the law's functions, by the kernel. Printed by fin.py. -/
import Derived.Test.YtcbmfmdmmbcehaaGreatTtD
set_option maxRecDepth 1000000
namespace Ey.Tt
open Go (IntKind)
theorem run4_2 : (fun b : Nat => tru (callZ lkB 100000 185 (.one (.u 0 4) (.one (.u 0 b) .nil)) ZH.none)) 2 = true := by kernel_rfl
theorem run4_3 : (fun b : Nat => tru (callZ lkB 100000 185 (.one (.u 0 4) (.one (.u 0 b) .nil)) ZH.none)) 3 = true := by kernel_rfl
end Ey.Tt
