/- That a call answers as written down: run by the kernel. Printed by memo.py. -/
import Derived.Test.YtdkddodpioepdaaGreatDoorLcD
namespace Ey.Lc
set_option maxRecDepth 1000000
theorem r0 : ifB (okM m0.H.bl) false (isM (callZ (natsZ [(98, onceZ)] zs) 100000 9 m0.w m0.H) m0) = true := by kernel_rfl
end Ey.Lc
