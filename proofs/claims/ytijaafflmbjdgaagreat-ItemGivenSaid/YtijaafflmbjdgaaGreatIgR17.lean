/- That calls answer as written down: run by the kernel. Printed by memo2.py. -/
import Derived.Test.YtijaafflmbjdgaaGreatIgD
namespace Ey.Ig
set_option maxRecDepth 1000000
theorem r139 : ifB (okM m139.H.bl) false (isM (callZ lk5 100000 170 m139.w m139.H) m139) = true := by kernel_rfl
end Ey.Ig
