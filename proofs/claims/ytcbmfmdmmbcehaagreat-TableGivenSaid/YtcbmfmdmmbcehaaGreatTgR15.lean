/- That calls answer as written down: run by the kernel. Printed by memo2.py. -/
import Derived.Test.YtcbmfmdmmbcehaaGreatTgD
namespace Ey.Tg
set_option maxRecDepth 1000000
theorem r127 : ifB (okM m127.H.bl) false (isM (callZ lk4 100000 179 m127.w m127.H) m127) = true := by kernel_rfl
end Ey.Tg
