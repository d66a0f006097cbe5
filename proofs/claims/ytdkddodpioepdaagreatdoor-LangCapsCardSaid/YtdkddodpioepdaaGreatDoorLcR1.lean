/- That a call answers as written down: run by the kernel. Printed by memo.py. -/
import Derived.Test.YtdkddodpioepdaaGreatDoorLcD
namespace Ey.Lc
set_option maxRecDepth 1000000
theorem r1 : ifB (okM m1.H.bl) false (isM (callZ (natsZ [(98, onceZ), (9, .mem (memF [m0]) a9 n9.1 n9.2)] zs) 100000 23 m1.w m1.H) m1) = true := by kernel_rfl
end Ey.Lc
