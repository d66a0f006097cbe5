/- That calls answer as written down: run by the kernel. Printed by memo2.py. -/
import Derived.Test.YtcbmfmdmmbcehaaGreatTgD
namespace Ey.Tg
set_option maxRecDepth 1000000
theorem r0 : ifB (okM m0.H.bl) false (isM (callZ lk0 100000 79 m0.w m0.H) m0) = true := by kernel_rfl
theorem r1 : ifB (okM m1.H.bl) false (isM (callZ lk0 100000 96 m1.w m1.H) m1) = true := by kernel_rfl
theorem r2 : ifB (okM m2.H.bl) false (isM (callZ lk0 100000 2 m2.w m2.H) m2) = true := by kernel_rfl
theorem r3 : ifB (okM m3.H.bl) false (isM (callZ lk0 100000 50 m3.w m3.H) m3) = true := by kernel_rfl
theorem r4 : ifB (okM m4.H.bl) false (isM (callZ lk0 100000 50 m4.w m4.H) m4) = true := by kernel_rfl
theorem r5 : ifB (okM m5.H.bl) false (isM (callZ lk0 100000 50 m5.w m5.H) m5) = true := by kernel_rfl
theorem r6 : ifB (okM m6.H.bl) false (isM (callZ lk0 100000 50 m6.w m6.H) m6) = true := by kernel_rfl
theorem r7 : ifB (okM m7.H.bl) false (isM (callZ lk0 100000 50 m7.w m7.H) m7) = true := by kernel_rfl
theorem r8 : ifB (okM m8.H.bl) false (isM (callZ lk0 100000 50 m8.w m8.H) m8) = true := by kernel_rfl
theorem r9 : ifB (okM m9.H.bl) false (isM (callZ lk0 100000 177 m9.w m9.H) m9) = true := by kernel_rfl
theorem r10 : ifB (okM m10.H.bl) false (isM (callZ lk0 100000 79 m10.w m10.H) m10) = true := by kernel_rfl
theorem r11 : ifB (okM m11.H.bl) false (isM (callZ lk0 100000 96 m11.w m11.H) m11) = true := by kernel_rfl
theorem r12 : ifB (okM m12.H.bl) false (isM (callZ lk0 100000 96 m12.w m12.H) m12) = true := by kernel_rfl
theorem r13 : ifB (okM m13.H.bl) false (isM (callZ lk0 100000 50 m13.w m13.H) m13) = true := by kernel_rfl
theorem r14 : ifB (okM m14.H.bl) false (isM (callZ lk0 100000 50 m14.w m14.H) m14) = true := by kernel_rfl
theorem r15 : ifB (okM m15.H.bl) false (isM (callZ lk0 100000 50 m15.w m15.H) m15) = true := by kernel_rfl
theorem r16 : ifB (okM m16.H.bl) false (isM (callZ lk0 100000 50 m16.w m16.H) m16) = true := by kernel_rfl
theorem r17 : ifB (okM m17.H.bl) false (isM (callZ lk0 100000 177 m17.w m17.H) m17) = true := by kernel_rfl
end Ey.Tg
