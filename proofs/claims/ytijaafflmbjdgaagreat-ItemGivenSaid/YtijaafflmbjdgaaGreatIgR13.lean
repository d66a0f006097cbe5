/- That calls answer as written down: run by the kernel. Printed by memo2.py. -/
import Derived.Test.YtijaafflmbjdgaaGreatIgD
namespace Ey.Ig
set_option maxRecDepth 1000000
theorem r135 : ifB (okM m135.H.bl) false (isM (callZ lk4 100000 170 m135.w m135.H) m135) = true := by kernel_rfl
end Ey.Ig
