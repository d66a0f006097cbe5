/- Runs of the law's functions, by the kernel. Printed by fin.py. -/
import Derived.Test.YtcbmfmdmmbcehaaGreatTtD
set_option maxRecDepth 1000000
namespace Ey.Tt
open Go (IntKind)
theorem run3_6 : (fun b : Nat => tru (callZ lkB 100000 187 (.one (.u 0 3) (.one (.u 0 b) .nil)) ZH.none)) 6 = true := by kernel_rfl
theorem run3_7 : (fun b : Nat => tru (callZ lkB 100000 187 (.one (.u 0 3) (.one (.u 0 b) .nil)) ZH.none)) 7 = true := by kernel_rfl
end Ey.Tt
