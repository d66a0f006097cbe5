/- That calls answer as written down: run by the kernel. Printed by memo2.py. -/
import Derived.Test.YtijaafflmbjdgaaGreatIgD
namespace Ey.Ig
set_option maxRecDepth 1000000
theorem r133 : ifB (okM m133.H.bl) false (isM (callZ lk3 100000 77 m133.w m133.H) m133) = true := by kernel_rfl
theorem r134 : ifB (okM m134.H.bl) false (isM (callZ lk4 100000 170 m134.w m134.H) m134) = true := by kernel_rfl
end Ey.Ig
