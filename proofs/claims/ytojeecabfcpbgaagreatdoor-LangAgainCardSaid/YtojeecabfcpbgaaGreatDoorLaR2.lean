/- That calls answer as written down: run by the kernel. Printed by memo2.py. -/
import Derived.Test.YtojeecabfcpbgaaGreatDoorLaD
namespace Ey.La
set_option maxRecDepth 1000000
theorem r8 : ifB (okM m8.H.bl) false (isM (callZ lk1 100000 114 m8.w m8.H) m8) = true := by kernel_rfl
end Ey.La
