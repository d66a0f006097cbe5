/- That calls answer as written down: run by the kernel. Printed by memo2.py. -/
import Derived.Test.YtijaafflmbjdgaaGreatIgD
namespace Ey.Ig
set_option maxRecDepth 1000000
theorem r131 : ifB (okM m131.H.bl) false (isM (callZ lk3 100000 77 m131.w m131.H) m131) = true := by kernel_rfl
end Ey.Ig
