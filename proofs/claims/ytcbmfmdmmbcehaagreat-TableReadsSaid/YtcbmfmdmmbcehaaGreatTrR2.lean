/- That calls answer as written down: run by the kernel. Printed by memo2.py. -/
import Derived.Test.YtcbmfmdmmbcehaaGreatTrD
namespace Ey.Tr
set_option maxRecDepth 1000000
theorem r28 : ifB (okM m28.H.bl) false (isM (callZ lk5 100000 169 m28.w m28.H) m28) = true := by kernel_rfl
end Ey.Tr
