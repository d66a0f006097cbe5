/- That a call answers as written down: run by the kernel. Printed by memo.py. -/
import Derived.Test.YtdkddodpioepdaaGreatDoorLfD
namespace Ey.Lf
set_option maxRecDepth 1000000
theorem r0 : ifB (okM m0.H.bl) false (isM (callZ (natsZ [(99, onceZ)] zs) 100000 101 m0.w m0.H) m0) = true := by kernel_rfl
end Ey.Lf
