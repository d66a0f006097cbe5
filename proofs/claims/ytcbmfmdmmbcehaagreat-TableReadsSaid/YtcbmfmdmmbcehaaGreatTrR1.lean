/- That calls answer as written down: run by the kernel. Printed by memo2.py. -/
import Derived.Test.YtcbmfmdmmbcehaaGreatTrD
namespace Ey.Tr
set_option maxRecDepth 1000000
theorem r26 : ifB (okM m26.H.bl) false (isM (callZ lk3 100000 167 m26.w m26.H) m26) = true := by kernel_rfl
theorem r27 : ifB (okM m27.H.bl) false (isM (callZ lk4 100000 72 m27.w m27.H) m27) = true := by kernel_rfl
end Ey.Tr
