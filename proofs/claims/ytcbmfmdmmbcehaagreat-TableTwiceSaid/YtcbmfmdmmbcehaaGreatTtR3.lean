/- That calls answer as written down: run by the kernel. Printed by memo2.py. -/
import Derived.Test.YtcbmfmdmmbcehaaGreatTtD
namespace Ey.Tt
set_option maxRecDepth 1000000
theorem r36 : rQ lk0 152 m36 = true := by kernel_rfl
theorem r37 : rQ lk0 152 m37 = true := by kernel_rfl
end Ey.Tt
