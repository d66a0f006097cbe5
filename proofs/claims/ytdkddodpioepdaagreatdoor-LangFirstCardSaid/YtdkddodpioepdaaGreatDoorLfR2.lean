/- That a call answers as written down: run by the kernel. Printed by memo.py. -/
import Derived.Test.YtdkddodpioepdaaGreatDoorLfD
namespace Ey.Lf
set_option maxRecDepth 1000000
theorem r2 : ifB (okM m2.H.bl) false (isM (callZ (natsZ [(99, onceZ), (9, .mem (memF [m1]) a9 n9.1 n9.2), (101, .mem (memF [m0]) a101 n101.1 n101.2)] zs) 100000 23 m2.w m2.H) m2) = true := by kernel_rfl
end Ey.Lf
