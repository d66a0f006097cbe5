/- That a call answers as written down: run by the kernel. -/
import Derived.Test.YtcbmfmdmmbcehaaGreatTtS
namespace Ey.Tt
set_option maxRecDepth 1000000
theorem r109 : rQ lkS 78 m109 = true := by kernel_rfl
end Ey.Tt
