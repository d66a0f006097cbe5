/- That calls answer as written down: run by the kernel. Printed by memo2.py. -/
import Derived.Test.YtcbmfmdmmbcehaaGreatTtD
namespace Ey.Tt
set_option maxRecDepth 1000000
theorem r0 : rQ lk0 2 m0 = true := by kernel_rfl
theorem r1 : rQ lk0 50 m1 = true := by kernel_rfl
theorem r2 : rQ lk0 50 m2 = true := by kernel_rfl
theorem r3 : rQ lk0 50 m3 = true := by kernel_rfl
theorem r4 : rQ lk0 50 m4 = true := by kernel_rfl
theorem r5 : rQ lk0 50 m5 = true := by kernel_rfl
theorem r6 : rQ lk0 50 m6 = true := by kernel_rfl
theorem r7 : rQ lk0 95 m7 = true := by kernel_rfl
theorem r8 : rQ lk0 95 m8 = true := by kernel_rfl
theorem r9 : rQ lk0 50 m9 = true := by kernel_rfl
theorem r10 : rQ lk0 50 m10 = true := by kernel_rfl
theorem r11 : rQ lk0 50 m11 = true := by kernel_rfl
theorem r12 : rQ lk0 50 m12 = true := by kernel_rfl
end Ey.Tt
