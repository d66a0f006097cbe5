/- That calls answer as written down: run by the kernel. Printed by memo2.py. -/
import Derived.Test.YtcbmfmdmmbcehaaGreatTgD
namespace Ey.Tg
set_option maxRecDepth 1000000
theorem r117 : ifB (okM m117.H.bl) false (isM (callZ lk2 100000 80 m117.w m117.H) m117) = true := by kernel_rfl
theorem r118 : ifB (okM m118.H.bl) false (isM (callZ lk2 100000 111 m118.w m118.H) m118) = true := by kernel_rfl
end Ey.Tg
