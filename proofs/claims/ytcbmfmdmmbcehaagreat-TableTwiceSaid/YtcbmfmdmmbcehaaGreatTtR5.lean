/- That calls answer as written down: run by the kernel. Printed by memo2.py. -/
import Derived.Test.YtcbmfmdmmbcehaaGreatTtD
namespace Ey.Tt
set_option maxRecDepth 1000000
theorem r40 : rQ lk0 152 m40 = true := by kernel_rfl
theorem r41 : rQ lk0 152 m41 = true := by kernel_rfl
end Ey.Tt
