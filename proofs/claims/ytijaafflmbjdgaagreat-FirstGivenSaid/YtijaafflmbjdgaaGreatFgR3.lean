/- That calls answer as written down: run by the kernel. Printed by memo2.py. -/
import Derived.Test.YtijaafflmbjdgaaGreatFgD
namespace Ey.Fg
set_option maxRecDepth 1000000
theorem r65 : ifB (okM m65.H.bl) false (isM (callZ lk2 100000 101 m65.w m65.H) m65) = true := by kernel_rfl
theorem r66 : ifB (okM m66.H.bl) false (isM (callZ lk2 100000 94 m66.w m66.H) m66) = true := by kernel_rfl
theorem r67 : ifB (okM m67.H.bl) false (isM (callZ lk2 100000 100 m67.w m67.H) m67) = true := by kernel_rfl
end Ey.Fg
