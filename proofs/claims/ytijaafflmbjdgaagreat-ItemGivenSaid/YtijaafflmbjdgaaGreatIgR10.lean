/- That calls answer as written down: run by the kernel. Printed by memo2.py. -/
import Derived.Test.YtijaafflmbjdgaaGreatIgD
namespace Ey.Ig
set_option maxRecDepth 1000000
theorem r121 : ifB (okM m121.H.bl) false (isM (callZ lk3 100000 77 m121.w m121.H) m121) = true := by kernel_rfl
end Ey.Ig
