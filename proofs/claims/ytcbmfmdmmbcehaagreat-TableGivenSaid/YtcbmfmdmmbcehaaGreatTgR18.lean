/- That calls answer as written down: run by the kernel. Printed by memo2.py. -/
import Derived.Test.YtcbmfmdmmbcehaaGreatTgD
namespace Ey.Tg
set_option maxRecDepth 1000000
theorem r130 : ifB (okM m130.H.bl) false (isM (callZ lk5 100000 179 m130.w m130.H) m130) = true := by kernel_rfl
end Ey.Tg
