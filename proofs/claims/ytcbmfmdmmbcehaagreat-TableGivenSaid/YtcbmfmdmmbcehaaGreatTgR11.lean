/- That calls answer as written down: run by the kernel. Printed by memo2.py. -/
import Derived.Test.YtcbmfmdmmbcehaaGreatTgD
namespace Ey.Tg
set_option maxRecDepth 1000000
theorem r123 : ifB (okM m123.H.bl) false (isM (callZ lk3 100000 111 m123.w m123.H) m123) = true := by kernel_rfl
end Ey.Tg
