/- That calls answer as written down: run by the kernel. Printed by memo2.py. -/
import Derived.Test.YtcbmfmdmmbcehaaGreatTgD
namespace Ey.Tg
set_option maxRecDepth 1000000
theorem r122 : ifB (okM m122.H.bl) false (isM (callZ lk3 100000 80 m122.w m122.H) m122) = true := by kernel_rfl
end Ey.Tg
