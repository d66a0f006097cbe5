/- That calls answer as written down: run by the kernel. Printed by memo2.py. -/
import Derived.Test.YtijaafflmbjdgaaGreatIgD
namespace Ey.Ig
set_option maxRecDepth 1000000
theorem r121 : ifB (okM m121.H.bl) false (isM (callZ lk2 100000 77 m121.w m121.H) m121) = true := by kernel_rfl
theorem r122 : ifB (okM m122.H.bl) false (isM (callZ lk2 100000 106 m122.w m122.H) m122) = true := by kernel_rfl
theorem r123 : ifB (okM m123.H.bl) false (isM (callZ lk2 100000 75 m123.w m123.H) m123) = true := by kernel_rfl
end Ey.Ig
