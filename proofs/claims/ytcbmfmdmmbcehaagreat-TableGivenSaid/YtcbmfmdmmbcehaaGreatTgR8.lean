/- That calls answer as written down: run by the kernel. Printed by memo2.py. -/
import Derived.Test.YtcbmfmdmmbcehaaGreatTgD
namespace Ey.Tg
set_option maxRecDepth 1000000
theorem r119 : ifB (okM m119.H.bl) false (isM (callZ lk3 100000 78 m119.w m119.H) m119) = true := by kernel_rfl
end Ey.Tg
