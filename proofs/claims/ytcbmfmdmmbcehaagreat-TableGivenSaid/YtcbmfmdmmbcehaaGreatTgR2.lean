/- That calls answer as written down: run by the kernel. Printed by memo2.py. -/
import Derived.Test.YtcbmfmdmmbcehaaGreatTgD
namespace Ey.Tg
set_option maxRecDepth 1000000
theorem r23 : ifB (okM m23.H.bl) false (isM (callZ lk0 100000 50 m23.w m23.H) m23) = true := by kernel_rfl
theorem r24 : ifB (okM m24.H.bl) false (isM (callZ lk0 100000 50 m24.w m24.H) m24) = true := by kernel_rfl
theorem r25 : ifB (okM m25.H.bl) false (isM (callZ lk0 100000 50 m25.w m25.H) m25) = true := by kernel_rfl
theorem r26 : ifB (okM m26.H.bl) false (isM (callZ lk0 100000 50 m26.w m26.H) m26) = true := by kernel_rfl
theorem r27 : ifB (okM m27.H.bl) false (isM (callZ lk0 100000 50 m27.w m27.H) m27) = true := by kernel_rfl
theorem r28 : ifB (okM m28.H.bl) false (isM (callZ lk0 100000 50 m28.w m28.H) m28) = true := by kernel_rfl
theorem r29 : ifB (okM m29.H.bl) false (isM (callZ lk0 100000 50 m29.w m29.H) m29) = true := by kernel_rfl
theorem r30 : ifB (okM m30.H.bl) false (isM (callZ lk0 100000 50 m30.w m30.H) m30) = true := by kernel_rfl
theorem r31 : ifB (okM m31.H.bl) false (isM (callZ lk0 100000 50 m31.w m31.H) m31) = true := by kernel_rfl
theorem r32 : ifB (okM m32.H.bl) false (isM (callZ lk0 100000 50 m32.w m32.H) m32) = true := by kernel_rfl
theorem r33 : ifB (okM m33.H.bl) false (isM (callZ lk0 100000 50 m33.w m33.H) m33) = true := by kernel_rfl
theorem r34 : ifB (okM m34.H.bl) false (isM (callZ lk0 100000 125 m34.w m34.H) m34) = true := by kernel_rfl
theorem r35 : ifB (okM m35.H.bl) false (isM (callZ lk0 100000 79 m35.w m35.H) m35) = true := by kernel_rfl
theorem r36 : ifB (okM m36.H.bl) false (isM (callZ lk0 100000 96 m36.w m36.H) m36) = true := by kernel_rfl
theorem r37 : ifB (okM m37.H.bl) false (isM (callZ lk0 100000 96 m37.w m37.H) m37) = true := by kernel_rfl
theorem r38 : ifB (okM m38.H.bl) false (isM (callZ lk0 100000 96 m38.w m38.H) m38) = true := by kernel_rfl
theorem r39 : ifB (okM m39.H.bl) false (isM (callZ lk0 100000 96 m39.w m39.H) m39) = true := by kernel_rfl
theorem r40 : ifB (okM m40.H.bl) false (isM (callZ lk0 100000 50 m40.w m40.H) m40) = true := by kernel_rfl
theorem r41 : ifB (okM m41.H.bl) false (isM (callZ lk0 100000 50 m41.w m41.H) m41) = true := by kernel_rfl
theorem r42 : ifB (okM m42.H.bl) false (isM (callZ lk0 100000 50 m42.w m42.H) m42) = true := by kernel_rfl
theorem r43 : ifB (okM m43.H.bl) false (isM (callZ lk0 100000 50 m43.w m43.H) m43) = true := by kernel_rfl
theorem r44 : ifB (okM m44.H.bl) false (isM (callZ lk0 100000 50 m44.w m44.H) m44) = true := by kernel_rfl
theorem r45 : ifB (okM m45.H.bl) false (isM (callZ lk0 100000 50 m45.w m45.H) m45) = true := by kernel_rfl
theorem r46 : ifB (okM m46.H.bl) false (isM (callZ lk0 100000 50 m46.w m46.H) m46) = true := by kernel_rfl
theorem r47 : ifB (okM m47.H.bl) false (isM (callZ lk0 100000 50 m47.w m47.H) m47) = true := by kernel_rfl
theorem r48 : ifB (okM m48.H.bl) false (isM (callZ lk0 100000 50 m48.w m48.H) m48) = true := by kernel_rfl
theorem r49 : ifB (okM m49.H.bl) false (isM (callZ lk0 100000 50 m49.w m49.H) m49) = true := by kernel_rfl
theorem r50 : ifB (okM m50.H.bl) false (isM (callZ lk0 100000 50 m50.w m50.H) m50) = true := by kernel_rfl
end Ey.Tg
