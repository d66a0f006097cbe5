/- That calls answer as written down: run by the kernel. Printed by memo2.py. -/
import Derived.Test.YtcbmfmdmmbcehaaGreatTgD
namespace Ey.Tg
set_option maxRecDepth 1000000
theorem r125 : ifB (okM m125.H.bl) false (isM (callZ lk3 100000 78 m125.w m125.H) m125) = true := by kernel_rfl
end Ey.Tg
