/- That calls answer as written down: run by the kernel. Printed by memo2.py. -/
import Derived.Test.YtijaafflmbjdgaaGreatFgD
namespace Ey.Fg
set_option maxRecDepth 1000000
theorem r68 : ifB (okM m68.H.bl) false (isM (callZ lk3 100000 70 m68.w m68.H) m68) = true := by kernel_rfl
end Ey.Fg
