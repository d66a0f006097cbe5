/- That calls answer as written down: run by the kernel. Printed by memo2.py. -/
import Derived.Test.YtijaafflmbjdgaaGreatFgD
namespace Ey.Fg
set_option maxRecDepth 1000000
theorem r73 : ifB (okM m73.H.bl) false (isM (callZ lk5 100000 157 m73.w m73.H) m73) = true := by kernel_rfl
end Ey.Fg
