/- That calls answer as written down: run by the kernel. Printed by memo2.py. -/
import Derived.Test.YtojeecabfcpbgaaGreatDoorLaD
namespace Ey.La
set_option maxRecDepth 1000000
theorem r0 : ifB (okM m0.H.bl) false (isM (callZ lk0 100000 114 m0.w m0.H) m0) = true := by kernel_rfl
theorem r1 : ifB (okM m1.H.bl) false (isM (callZ lk0 100000 139 m1.w m1.H) m1) = true := by kernel_rfl
theorem r2 : ifB (okM m2.H.bl) false (isM (callZ lk0 100000 114 m2.w m2.H) m2) = true := by kernel_rfl
theorem r3 : ifB (okM m3.H.bl) false (isM (callZ lk0 100000 139 m3.w m3.H) m3) = true := by kernel_rfl
end Ey.La
