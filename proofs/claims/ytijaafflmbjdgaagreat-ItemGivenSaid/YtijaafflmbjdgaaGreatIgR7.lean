/- That calls answer as written down: run by the kernel. Printed by memo2.py. -/
import Derived.Test.YtijaafflmbjdgaaGreatIgD
namespace Ey.Ig
set_option maxRecDepth 1000000
theorem r117 : ifB (okM m117.H.bl) false (isM (callZ lk2 100000 106 m117.w m117.H) m117) = true := by kernel_rfl
end Ey.Ig
