/- That calls answer as written down: run by the kernel. Printed by memo2.py. -/
import Derived.Test.YtcbmfmdmmbcehaaGreatTtD
namespace Ey.Tt
set_option maxRecDepth 1000000
theorem r38 : rQ lk0 152 m38 = true := by kernel_rfl
theorem r39 : rQ lk0 152 m39 = true := by kernel_rfl
end Ey.Tt
