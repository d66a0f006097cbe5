/- That calls answer as written down: run by the kernel. Printed by memo2.py. -/
import Derived.Test.YtijaafflmbjdgaaGreatIgD
namespace Ey.Ig
set_option maxRecDepth 1000000
theorem r18 : ifB (okM m18.H.bl) false (isM (callZ lk0 100000 78 m18.w m18.H) m18) = true := by kernel_rfl
theorem r19 : ifB (okM m19.H.bl) false (isM (callZ lk0 100000 76 m19.w m19.H) m19) = true := by kernel_rfl
theorem r20 : ifB (okM m20.H.bl) false (isM (callZ lk0 100000 91 m20.w m20.H) m20) = true := by kernel_rfl
theorem r21 : ifB (okM m21.H.bl) false (isM (callZ lk0 100000 50 m21.w m21.H) m21) = true := by kernel_rfl
theorem r22 : ifB (okM m22.H.bl) false (isM (callZ lk0 100000 50 m22.w m22.H) m22) = true := by kernel_rfl
theorem r23 : ifB (okM m23.H.bl) false (isM (callZ lk0 100000 50 m23.w m23.H) m23) = true := by kernel_rfl
theorem r24 : ifB (okM m24.H.bl) false (isM (callZ lk0 100000 50 m24.w m24.H) m24) = true := by kernel_rfl
theorem r25 : ifB (okM m25.H.bl) false (isM (callZ lk0 100000 50 m25.w m25.H) m25) = true := by kernel_rfl
theorem r26 : ifB (okM m26.H.bl) false (isM (callZ lk0 100000 50 m26.w m26.H) m26) = true := by kernel_rfl
theorem r27 : ifB (okM m27.H.bl) false (isM (callZ lk0 100000 50 m27.w m27.H) m27) = true := by kernel_rfl
theorem r28 : ifB (okM m28.H.bl) false (isM (callZ lk0 100000 50 m28.w m28.H) m28) = true := by kernel_rfl
theorem r29 : ifB (okM m29.H.bl) false (isM (callZ lk0 100000 50 m29.w m29.H) m29) = true := by kernel_rfl
theorem r30 : ifB (okM m30.H.bl) false (isM (callZ lk0 100000 50 m30.w m30.H) m30) = true := by kernel_rfl
theorem r31 : ifB (okM m31.H.bl) false (isM (callZ lk0 100000 50 m31.w m31.H) m31) = true := by kernel_rfl
theorem r32 : ifB (okM m32.H.bl) false (isM (callZ lk0 100000 50 m32.w m32.H) m32) = true := by kernel_rfl
end Ey.Ig
