/- That calls answer as written down: run by the kernel. Printed by memo2.py. -/
import Derived.Test.YtijaafflmbjdgaaGreatIgD
namespace Ey.Ig
set_option maxRecDepth 1000000
theorem r111 : ifB (okM m111.H.bl) false (isM (callZ lk2 100000 77 m111.w m111.H) m111) = true := by kernel_rfl
theorem r112 : ifB (okM m112.H.bl) false (isM (callZ lk2 100000 106 m112.w m112.H) m112) = true := by kernel_rfl
theorem r113 : ifB (okM m113.H.bl) false (isM (callZ lk2 100000 75 m113.w m113.H) m113) = true := by kernel_rfl
end Ey.Ig
