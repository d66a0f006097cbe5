/- That calls answer as written down: run by the kernel. Printed by memo2.py. -/
import Derived.Test.YtcbmfmdmmbcehaaGreatTtD
namespace Ey.Tt
set_option maxRecDepth 1000000
theorem r104 : rQ lk2 109 m104 = true := by kernel_rfl
end Ey.Tt
