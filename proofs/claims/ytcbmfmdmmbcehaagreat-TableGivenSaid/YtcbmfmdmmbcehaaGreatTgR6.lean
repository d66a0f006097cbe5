/- That calls answer as written down: run by the kernel. Printed by memo2.py. -/
import Derived.Test.YtcbmfmdmmbcehaaGreatTgD
namespace Ey.Tg
set_option maxRecDepth 1000000
theorem r114 : ifB (okM m114.H.bl) false (isM (callZ lk2 100000 104 m114.w m114.H) m114) = true := by kernel_rfl
theorem r115 : ifB (okM m115.H.bl) false (isM (callZ lk2 100000 110 m115.w m115.H) m115) = true := by kernel_rfl
theorem r116 : ifB (okM m116.H.bl) false (isM (callZ lk2 100000 154 m116.w m116.H) m116) = true := by kernel_rfl
end Ey.Tg
