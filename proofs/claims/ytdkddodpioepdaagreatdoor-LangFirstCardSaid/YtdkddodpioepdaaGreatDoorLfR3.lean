/- That a call answers as written down: run by the kernel. Printed by memo.py. -/
import Derived.Test.YtdkddodpioepdaaGreatDoorLfD
namespace Ey.Lf
set_option maxRecDepth 1000000
theorem r3 : ifB (okM m3.H.bl) false (isM (callZ (natsZ [(99, onceZ), (9, .mem (memF [m1]) a9 n9.1 n9.2), (23, .mem (memF [m2]) a23 n23.1 n23.2), (101, .mem (memF [m0]) a101 n101.1 n101.2)] zs) 100000 101 m3.w m3.H) m3) = true := by kernel_rfl
end Ey.Lf
