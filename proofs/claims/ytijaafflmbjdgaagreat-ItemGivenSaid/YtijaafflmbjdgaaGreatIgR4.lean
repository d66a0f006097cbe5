/- That calls answer as written down: run by the kernel. Printed by memo2.py. -/
import Derived.Test.YtijaafflmbjdgaaGreatIgD
namespace Ey.Ig
set_option maxRecDepth 1000000
theorem r96 : ifB (okM m96.H.bl) false (isM (callZ lk1 100000 149 m96.w m96.H) m96) = true := by kernel_rfl
theorem r97 : ifB (okM m97.H.bl) false (isM (callZ lk1 100000 92 m97.w m97.H) m97) = true := by kernel_rfl
theorem r98 : ifB (okM m98.H.bl) false (isM (callZ lk1 100000 92 m98.w m98.H) m98) = true := by kernel_rfl
theorem r99 : ifB (okM m99.H.bl) false (isM (callZ lk1 100000 92 m99.w m99.H) m99) = true := by kernel_rfl
theorem r100 : ifB (okM m100.H.bl) false (isM (callZ lk1 100000 92 m100.w m100.H) m100) = true := by kernel_rfl
theorem r101 : ifB (okM m101.H.bl) false (isM (callZ lk1 100000 92 m101.w m101.H) m101) = true := by kernel_rfl
theorem r102 : ifB (okM m102.H.bl) false (isM (callZ lk1 100000 54 m102.w m102.H) m102) = true := by kernel_rfl
theorem r103 : ifB (okM m103.H.bl) false (isM (callZ lk1 100000 55 m103.w m103.H) m103) = true := by kernel_rfl
theorem r104 : ifB (okM m104.H.bl) false (isM (callZ lk1 100000 55 m104.w m104.H) m104) = true := by kernel_rfl
theorem r105 : ifB (okM m105.H.bl) false (isM (callZ lk1 100000 55 m105.w m105.H) m105) = true := by kernel_rfl
theorem r106 : ifB (okM m106.H.bl) false (isM (callZ lk1 100000 55 m106.w m106.H) m106) = true := by kernel_rfl
theorem r107 : ifB (okM m107.H.bl) false (isM (callZ lk1 100000 55 m107.w m107.H) m107) = true := by kernel_rfl
theorem r108 : ifB (okM m108.H.bl) false (isM (callZ lk1 100000 55 m108.w m108.H) m108) = true := by kernel_rfl
theorem r109 : ifB (okM m109.H.bl) false (isM (callZ lk1 100000 55 m109.w m109.H) m109) = true := by kernel_rfl
theorem r110 : ifB (okM m110.H.bl) false (isM (callZ lk1 100000 55 m110.w m110.H) m110) = true := by kernel_rfl
theorem r111 : ifB (okM m111.H.bl) false (isM (callZ lk1 100000 55 m111.w m111.H) m111) = true := by kernel_rfl
theorem r112 : ifB (okM m112.H.bl) false (isM (callZ lk1 100000 55 m112.w m112.H) m112) = true := by kernel_rfl
theorem r113 : ifB (okM m113.H.bl) false (isM (callZ lk1 100000 55 m113.w m113.H) m113) = true := by kernel_rfl
theorem r114 : ifB (okM m114.H.bl) false (isM (callZ lk1 100000 55 m114.w m114.H) m114) = true := by kernel_rfl
theorem r115 : ifB (okM m115.H.bl) false (isM (callZ lk1 100000 55 m115.w m115.H) m115) = true := by kernel_rfl
theorem r116 : ifB (okM m116.H.bl) false (isM (callZ lk1 100000 55 m116.w m116.H) m116) = true := by kernel_rfl
theorem r117 : ifB (okM m117.H.bl) false (isM (callZ lk1 100000 55 m117.w m117.H) m117) = true := by kernel_rfl
theorem r118 : ifB (okM m118.H.bl) false (isM (callZ lk2 100000 99 m118.w m118.H) m118) = true := by kernel_rfl
theorem r119 : ifB (okM m119.H.bl) false (isM (callZ lk2 100000 106 m119.w m119.H) m119) = true := by kernel_rfl
theorem r120 : ifB (okM m120.H.bl) false (isM (callZ lk2 100000 149 m120.w m120.H) m120) = true := by kernel_rfl
end Ey.Ig
