/- Runs of the law's functions, by the kernel. Printed by fin.py. -/
import Derived.Test.YtjjlcckkmaiafaaGreatDoorSfN
set_option maxRecDepth 1000000
namespace Ey.Sf
open Go (IntKind)
theorem run0 : tru (callZ (natsZ [(196, onceZ)] zs) 100000 208 (.nil) ZH.none) = true := by kernel_rfl
end Ey.Sf
