/- That calls answer as written down: run by the kernel. Printed by memo2.py. -/
import Derived.Test.YtijaafflmbjdgaaGreatFgD
namespace Ey.Fg
set_option maxRecDepth 1000000
theorem r71 : ifB (okM m71.H.bl) false (isM (callZ lk4 100000 157 m71.w m71.H) m71) = true := by kernel_rfl
end Ey.Fg
