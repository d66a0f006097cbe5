/- That calls answer as written down: run by the kernel. Printed by memo2.py. -/
import Derived.Test.YtcbmfmdmmbcehaaGreatTtD
namespace Ey.Tt
set_option maxRecDepth 1000000
theorem r13 : rQ lk0 79 m13 = true := by kernel_rfl
theorem r14 : rQ lk0 95 m14 = true := by kernel_rfl
theorem r15 : rQ lk0 95 m15 = true := by kernel_rfl
theorem r16 : rQ lk0 95 m16 = true := by kernel_rfl
theorem r17 : rQ lk0 95 m17 = true := by kernel_rfl
theorem r18 : rQ lk0 95 m18 = true := by kernel_rfl
theorem r19 : rQ lk0 95 m19 = true := by kernel_rfl
theorem r20 : rQ lk0 95 m20 = true := by kernel_rfl
end Ey.Tt
