/- That calls answer as written down: run by the kernel. Printed by memo2.py. -/
import Derived.Test.YtijaafflmbjdgaaGreatIgD
namespace Ey.Ig
set_option maxRecDepth 1000000
theorem r138 : ifB (okM m138.H.bl) false (isM (callZ lk5 100000 170 m138.w m138.H) m138) = true := by kernel_rfl
end Ey.Ig
