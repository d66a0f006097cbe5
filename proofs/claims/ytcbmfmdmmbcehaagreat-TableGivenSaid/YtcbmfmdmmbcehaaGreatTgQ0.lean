/- Runs of the law's functions, by the kernel. Printed by fin.py. -/
import Derived.Test.YtcbmfmdmmbcehaaGreatTgD
set_option maxRecDepth 1000000
namespace Ey.Tg
open Go (IntKind)
theorem begunRun : tru (callZ lk6 100000 180 .nil ZH.none) = true := by kernel_rfl
theorem run0_0 : (fun a : Nat => tru (callZ lkB 100000 181 (.one (.u 0 a) .nil) ZH.none)) 0 = true := by kernel_rfl
theorem run0_1 : (fun a : Nat => tru (callZ lkB 100000 181 (.one (.u 0 a) .nil) ZH.none)) 1 = true := by kernel_rfl
theorem run0_2 : (fun a : Nat => tru (callZ lkB 100000 181 (.one (.u 0 a) .nil) ZH.none)) 2 = true := by kernel_rfl
theorem run0_3 : (fun a : Nat => tru (callZ lkB 100000 181 (.one (.u 0 a) .nil) ZH.none)) 3 = true := by kernel_rfl
theorem run0_4 : (fun a : Nat => tru (callZ lkB 100000 181 (.one (.u 0 a) .nil) ZH.none)) 4 = true := by kernel_rfl
end Ey.Tg
