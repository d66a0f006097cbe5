/- That calls answer as written down: run by the kernel. Printed by memo2.py. -/
import Derived.Test.YtojeecabfcpbgaaGreatDoorLaD
namespace Ey.La
set_option maxRecDepth 1000000
theorem r11 : ifB (okM m11.H.bl) false (isM (callZ lk2 100000 217 m11.w m11.H) m11) = true := by kernel_rfl
end Ey.La
