/- That calls answer as written down: run by the kernel. Printed by memo2.py. -/
import Derived.Test.YtijaafflmbjdgaaGreatIgD
namespace Ey.Ig
set_option maxRecDepth 1000000
theorem r124 : ifB (okM m124.H.bl) false (isM (callZ lk2 100000 99 m124.w m124.H) m124) = true := by kernel_rfl
theorem r125 : ifB (okM m125.H.bl) false (isM (callZ lk2 100000 105 m125.w m125.H) m125) = true := by kernel_rfl
theorem r126 : ifB (okM m126.H.bl) false (isM (callZ lk2 100000 99 m126.w m126.H) m126) = true := by kernel_rfl
end Ey.Ig
