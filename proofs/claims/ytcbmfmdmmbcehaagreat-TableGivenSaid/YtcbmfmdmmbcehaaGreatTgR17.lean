/- That calls answer as written down: run by the kernel. Printed by memo2.py. -/
import Derived.Test.YtcbmfmdmmbcehaaGreatTgD
namespace Ey.Tg
set_option maxRecDepth 1000000
theorem r129 : ifB (okM m129.H.bl) false (isM (callZ lk4 100000 179 m129.w m129.H) m129) = true := by kernel_rfl
end Ey.Tg
