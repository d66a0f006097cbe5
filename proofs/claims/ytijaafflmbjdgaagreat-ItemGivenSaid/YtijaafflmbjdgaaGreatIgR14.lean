/- That calls answer as written down: run by the kernel. Printed by memo2.py. -/
import Derived.Test.YtijaafflmbjdgaaGreatIgD
namespace Ey.Ig
set_option maxRecDepth 1000000
theorem r136 : ifB (okM m136.H.bl) false (isM (callZ lk4 100000 75 m136.w m136.H) m136) = true := by kernel_rfl
end Ey.Ig
