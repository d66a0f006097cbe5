/- That a call answers as written down: run by the kernel. -/
import Derived.Test.YtcbmfmdmmbcehaaGreatTtS
namespace Ey.Tt
set_option maxRecDepth 1000000
theorem rE : rQ lk3 80 e0 = true := by kernel_rfl
end Ey.Tt
