/- That a call answers as written down: run by the kernel. Printed by memo.py. -/
import Derived.Test.YtdkddodpioepdaaGreatDoorLcD
namespace Ey.Lc
set_option maxRecDepth 1000000
theorem r2 : ifB (okM m2.H.bl) false (isM (callZ (natsZ [(98, onceZ), (9, .mem (memF [m0]) a9 n9.1 n9.2), (23, .mem (memF [m1]) a23 n23.1 n23.2)] zs) 100000 100 m2.w m2.H) m2) = true := by kernel_rfl
end Ey.Lc
