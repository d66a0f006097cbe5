/- That calls answer as written down: run by the kernel. Printed by memo2.py. -/
import Derived.Test.YtijaafflmbjdgaaGreatIgD
namespace Ey.Ig
set_option maxRecDepth 1000000
theorem r137 : ifB (okM m137.H.bl) false (isM (callZ lk4 100000 75 m137.w m137.H) m137) = true := by kernel_rfl
end Ey.Ig
