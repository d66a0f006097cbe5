/- That a call answers as written down: run by the kernel. Printed by memo.py. -/
import Derived.Test.YtdkddodpioepdaaGreatDoorLfD
namespace Ey.Lf
set_option maxRecDepth 1000000
theorem r1 : ifB (okM m1.H.bl) false (isM (callZ (natsZ [(99, onceZ), (101, .mem (memF [m0]) a101 n101.1 n101.2)] zs) 100000 9 m1.w m1.H) m1) = true := by kernel_rfl
end Ey.Lf
