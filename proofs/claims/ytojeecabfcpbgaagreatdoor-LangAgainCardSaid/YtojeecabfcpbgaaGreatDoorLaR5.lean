/- That calls answer as written down: run by the kernel. Printed by memo2.py. -/
import Derived.Test.YtojeecabfcpbgaaGreatDoorLaD
namespace Ey.La
set_option maxRecDepth 1000000
theorem r12 : ifB (okM m12.H.bl) false (isM (callZ lk3 100000 114 m12.w m12.H) m12) = true := by kernel_rfl
end Ey.La
