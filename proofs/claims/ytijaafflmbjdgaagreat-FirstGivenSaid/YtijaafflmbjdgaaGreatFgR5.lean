/- That calls answer as written down: run by the kernel. Printed by memo2.py. -/
import Derived.Test.YtijaafflmbjdgaaGreatFgD
namespace Ey.Fg
set_option maxRecDepth 1000000
theorem r69 : ifB (okM m69.H.bl) false (isM (callZ lk3 100000 72 m69.w m69.H) m69) = true := by kernel_rfl
end Ey.Fg
