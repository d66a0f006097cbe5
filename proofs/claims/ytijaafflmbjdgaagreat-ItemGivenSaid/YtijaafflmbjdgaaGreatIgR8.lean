/- That calls answer as written down: run by the kernel. Printed by memo2.py. -/
import Derived.Test.YtijaafflmbjdgaaGreatIgD
namespace Ey.Ig
set_option maxRecDepth 1000000
theorem r118 : ifB (okM m118.H.bl) false (isM (callZ lk3 100000 75 m118.w m118.H) m118) = true := by kernel_rfl
end Ey.Ig
