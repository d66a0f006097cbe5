/- That calls answer as written down: run by the kernel. Printed by memo2.py. -/
import Derived.Test.YtcbmfmdmmbcehaaGreatTgD
namespace Ey.Tg
set_option maxRecDepth 1000000
theorem r126 : ifB (okM m126.H.bl) false (isM (callZ lk4 100000 179 m126.w m126.H) m126) = true := by kernel_rfl
end Ey.Tg
