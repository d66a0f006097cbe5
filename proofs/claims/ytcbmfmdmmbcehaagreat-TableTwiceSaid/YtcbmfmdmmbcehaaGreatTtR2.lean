/- That calls answer as written down: run by the kernel. Printed by memo2.py. -/
import Derived.Test.YtcbmfmdmmbcehaaGreatTtD
namespace Ey.Tt
set_option maxRecDepth 1000000
theorem r21 : rQ lk0 95 m21 = true := by kernel_rfl
theorem r22 : rQ lk0 95 m22 = true := by kernel_rfl
theorem r23 : rQ lk0 108 m23 = true := by kernel_rfl
theorem r24 : rQ lk0 50 m24 = true := by kernel_rfl
theorem r25 : rQ lk0 50 m25 = true := by kernel_rfl
theorem r26 : rQ lk0 50 m26 = true := by kernel_rfl
theorem r27 : rQ lk0 50 m27 = true := by kernel_rfl
theorem r28 : rQ lk0 50 m28 = true := by kernel_rfl
theorem r29 : rQ lk0 50 m29 = true := by kernel_rfl
theorem r30 : rQ lk0 50 m30 = true := by kernel_rfl
theorem r31 : rQ lk0 50 m31 = true := by kernel_rfl
theorem r32 : rQ lk0 50 m32 = true := by kernel_rfl
theorem r33 : rQ lk0 50 m33 = true := by kernel_rfl
theorem r34 : rQ lk0 50 m34 = true := by kernel_rfl
theorem r35 : rQ lk0 50 m35 = true := by kernel_rfl
end Ey.Tt
