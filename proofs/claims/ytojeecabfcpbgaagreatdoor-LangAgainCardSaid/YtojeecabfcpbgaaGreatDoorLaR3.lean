/- That calls answer as written down: run by the kernel. Printed by memo2.py. -/
import Derived.Test.YtojeecabfcpbgaaGreatDoorLaD
namespace Ey.La
set_option maxRecDepth 1000000
theorem r9 : ifB (okM m9.H.bl) false (isM (callZ lk2 100000 114 m9.w m9.H) m9) = true := by kernel_rfl
theorem r10 : ifB (okM m10.H.bl) false (isM (callZ lk2 100000 114 m10.w m10.H) m10) = true := by kernel_rfl
end Ey.La
