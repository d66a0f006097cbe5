/- That calls answer as written down: run by the kernel. Printed by memo2.py. -/
import Derived.Test.YtijaafflmbjdgaaGreatIgD
namespace Ey.Ig
set_option maxRecDepth 1000000
theorem r132 : ifB (okM m132.H.bl) false (isM (callZ lk3 100000 106 m132.w m132.H) m132) = true := by kernel_rfl
end Ey.Ig
