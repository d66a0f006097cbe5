/- That calls answer as written down: run by the kernel. Printed by memo2.py. -/
import Derived.Test.YtojeecabfcpbgaaGreatDoorLaD
namespace Ey.La
set_option maxRecDepth 1000000
theorem r13 : ifB (okM m13.H.bl) false (isM (callZ lk3 100000 114 m13.w m13.H) m13) = true := by kernel_rfl
end Ey.La
