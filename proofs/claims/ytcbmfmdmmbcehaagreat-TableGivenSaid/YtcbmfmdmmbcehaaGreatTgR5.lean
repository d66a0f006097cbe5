/- That calls answer as written down: run by the kernel. Printed by memo2.py. -/
import Derived.Test.YtcbmfmdmmbcehaaGreatTgD
namespace Ey.Tg
set_option maxRecDepth 1000000
theorem r103 : ifB (okM m103.H.bl) false (isM (callZ lk1 100000 55 m103.w m103.H) m103) = true := by kernel_rfl
theorem r104 : ifB (okM m104.H.bl) false (isM (callZ lk1 100000 55 m104.w m104.H) m104) = true := by kernel_rfl
theorem r105 : ifB (okM m105.H.bl) false (isM (callZ lk1 100000 55 m105.w m105.H) m105) = true := by kernel_rfl
theorem r106 : ifB (okM m106.H.bl) false (isM (callZ lk1 100000 55 m106.w m106.H) m106) = true := by kernel_rfl
theorem r107 : ifB (okM m107.H.bl) false (isM (callZ lk1 100000 55 m107.w m107.H) m107) = true := by kernel_rfl
theorem r108 : ifB (okM m108.H.bl) false (isM (callZ lk1 100000 55 m108.w m108.H) m108) = true := by kernel_rfl
theorem r109 : ifB (okM m109.H.bl) false (isM (callZ lk1 100000 55 m109.w m109.H) m109) = true := by kernel_rfl
theorem r110 : ifB (okM m110.H.bl) false (isM (callZ lk1 100000 55 m110.w m110.H) m110) = true := by kernel_rfl
theorem r111 : ifB (okM m111.H.bl) false (isM (callZ lk2 100000 111 m111.w m111.H) m111) = true := by kernel_rfl
theorem r112 : ifB (okM m112.H.bl) false (isM (callZ lk2 100000 111 m112.w m112.H) m112) = true := by kernel_rfl
theorem r113 : ifB (okM m113.H.bl) false (isM (callZ lk2 100000 78 m113.w m113.H) m113) = true := by kernel_rfl
end Ey.Tg
