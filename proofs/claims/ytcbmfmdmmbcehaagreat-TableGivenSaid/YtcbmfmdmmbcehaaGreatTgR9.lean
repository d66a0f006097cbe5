/- That calls answer as written down: run by the kernel. Printed by memo2.py. -/
import Derived.Test.YtcbmfmdmmbcehaaGreatTgD
namespace Ey.Tg
set_option maxRecDepth 1000000
theorem r120 : ifB (okM m120.H.bl) false (isM (callZ lk3 100000 78 m120.w m120.H) m120) = true := by kernel_rfl
theorem r121 : ifB (okM m121.H.bl) false (isM (callZ lk3 100000 179 m121.w m121.H) m121) = true := by kernel_rfl
end Ey.Tg
