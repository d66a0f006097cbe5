/- That calls answer as written down: run by the kernel. Printed by memo2.py. -/
import Derived.Test.YtijaafflmbjdgaaGreatIgD
namespace Ey.Ig
set_option maxRecDepth 1000000
theorem r119 : ifB (okM m119.H.bl) false (isM (callZ lk3 100000 75 m119.w m119.H) m119) = true := by kernel_rfl
theorem r120 : ifB (okM m120.H.bl) false (isM (callZ lk3 100000 170 m120.w m120.H) m120) = true := by kernel_rfl
end Ey.Ig
