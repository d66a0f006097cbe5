/- That calls answer as written down: run by the kernel. Printed by memo2.py. -/
import Derived.Test.YtijaafflmbjdgaaGreatFgD
namespace Ey.Fg
set_option maxRecDepth 1000000
theorem r70 : ifB (okM m70.H.bl) false (isM (callZ lk3 100000 101 m70.w m70.H) m70) = true := by kernel_rfl
end Ey.Fg
