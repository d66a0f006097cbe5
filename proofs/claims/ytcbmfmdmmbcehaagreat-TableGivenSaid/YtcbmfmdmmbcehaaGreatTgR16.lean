/- That calls answer as written down: run by the kernel. Printed by memo2.py. -/
import Derived.Test.YtcbmfmdmmbcehaaGreatTgD
namespace Ey.Tg
set_option maxRecDepth 1000000
theorem r128 : ifB (okM m128.H.bl) false (isM (callZ lk4 100000 78 m128.w m128.H) m128) = true := by kernel_rfl
end Ey.Tg
