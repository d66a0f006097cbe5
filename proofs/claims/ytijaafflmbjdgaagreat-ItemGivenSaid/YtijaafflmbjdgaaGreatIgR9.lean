/- That calls answer as written down: run by the kernel. Printed by memo2.py. -/
import Derived.Test.YtijaafflmbjdgaaGreatIgD
namespace Ey.Ig
set_option maxRecDepth 1000000
theorem r129 : ifB (okM m129.H.bl) false (isM (callZ lk3 100000 75 m129.w m129.H) m129) = true := by kernel_rfl
theorem r130 : ifB (okM m130.H.bl) false (isM (callZ lk3 100000 170 m130.w m130.H) m130) = true := by kernel_rfl
end Ey.Ig
