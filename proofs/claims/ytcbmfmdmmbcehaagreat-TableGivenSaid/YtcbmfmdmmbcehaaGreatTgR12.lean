/- That calls answer as written down: run by the kernel. Printed by memo2.py. -/
import Derived.Test.YtcbmfmdmmbcehaaGreatTgD
namespace Ey.Tg
set_option maxRecDepth 1000000
theorem r124 : ifB (okM m124.H.bl) false (isM (callZ lk3 100000 177 m124.w m124.H) m124) = true := by kernel_rfl
end Ey.Tg
