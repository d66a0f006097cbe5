/- That calls answer as written down: run by the kernel. Printed by memo2.py. -/
import Derived.Test.YtijaafflmbjdgaaGreatDoorGrD
namespace Ey.Gr
set_option maxRecDepth 1000000
theorem r0 : rQ lk0 165 m0 = true := by kernel_rfl
theorem r1 : rQ lk0 165 m1 = true := by kernel_rfl
theorem r2 : rQ lk0 165 m2 = true := by kernel_rfl
theorem r3 : rQ lk0 165 m3 = true := by kernel_rfl
theorem r4 : rQ lk0 165 m4 = true := by kernel_rfl
theorem r5 : rQ lk0 165 m5 = true := by kernel_rfl
theorem r6 : rQ lk0 165 m6 = true := by kernel_rfl
theorem r7 : rQ lk0 165 m7 = true := by kernel_rfl
theorem r8 : rQ lk0 165 m8 = true := by kernel_rfl
theorem r9 : rQ lk0 165 m9 = true := by kernel_rfl
theorem r10 : rQ lk0 165 m10 = true := by kernel_rfl
theorem r11 : rQ lk0 90 m11 = true := by kernel_rfl
theorem r12 : rQ lk0 90 m12 = true := by kernel_rfl
theorem r13 : rQ lk0 90 m13 = true := by kernel_rfl
theorem r14 : rQ lk0 150 m14 = true := by kernel_rfl
theorem r15 : rQ lk0 85 m15 = true := by kernel_rfl
theorem r16 : rQ lk0 150 m16 = true := by kernel_rfl
theorem r17 : rQ lk0 96 m17 = true := by kernel_rfl
theorem r18 : rQ lk0 190 m18 = true := by kernel_rfl
theorem r19 : rQ lk0 190 m19 = true := by kernel_rfl
theorem r20 : rQ lk0 190 m20 = true := by kernel_rfl
theorem r21 : rQ lk0 190 m21 = true := by kernel_rfl
theorem r22 : rQ lk0 3 m22 = true := by kernel_rfl
theorem r23 : rQ lk0 61 m23 = true := by kernel_rfl
theorem r24 : rQ lk0 61 m24 = true := by kernel_rfl
theorem r25 : rQ lk0 61 m25 = true := by kernel_rfl
theorem r26 : rQ lk0 61 m26 = true := by kernel_rfl
theorem r27 : rQ lk0 61 m27 = true := by kernel_rfl
theorem r28 : rQ lk0 61 m28 = true := by kernel_rfl
theorem r29 : rQ lk0 123 m29 = true := by kernel_rfl
theorem r30 : rQ lk0 123 m30 = true := by kernel_rfl
theorem r31 : rQ lk0 61 m31 = true := by kernel_rfl
theorem r32 : rQ lk0 61 m32 = true := by kernel_rfl
theorem r33 : rQ lk0 61 m33 = true := by kernel_rfl
theorem r34 : rQ lk0 61 m34 = true := by kernel_rfl
end Ey.Gr
