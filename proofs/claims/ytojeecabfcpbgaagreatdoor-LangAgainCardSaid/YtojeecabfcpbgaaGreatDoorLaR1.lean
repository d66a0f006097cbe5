/- That calls answer as written down: run by the kernel. Printed by memo2.py. -/
import Derived.Test.YtojeecabfcpbgaaGreatDoorLaD
namespace Ey.La
set_option maxRecDepth 1000000
theorem r4 : ifB (okM m4.H.bl) false (isM (callZ lk0 100000 142 m4.w m4.H) m4) = true := by kernel_rfl
theorem r5 : ifB (okM m5.H.bl) false (isM (callZ lk0 100000 217 m5.w m5.H) m5) = true := by kernel_rfl
theorem r6 : ifB (okM m6.H.bl) false (isM (callZ lk1 100000 217 m6.w m6.H) m6) = true := by kernel_rfl
theorem r7 : ifB (okM m7.H.bl) false (isM (callZ lk1 100000 184 m7.w m7.H) m7) = true := by kernel_rfl
end Ey.La
