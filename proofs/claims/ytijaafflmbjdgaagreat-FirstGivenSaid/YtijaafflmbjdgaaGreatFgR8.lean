/- That calls answer as written down: run by the kernel. Printed by memo2.py. -/
import Derived.Test.YtijaafflmbjdgaaGreatFgD
namespace Ey.Fg
set_option maxRecDepth 1000000
theorem r72 : ifB (okM m72.H.bl) false (isM (callZ lk4 100000 70 m72.w m72.H) m72) = true := by kernel_rfl
end Ey.Fg
