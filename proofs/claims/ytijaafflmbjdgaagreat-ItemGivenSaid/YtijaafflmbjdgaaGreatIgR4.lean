/- That calls answer as written down: run by the kernel. Printed by memo2.py. -/
import Derived.Test.YtijaafflmbjdgaaGreatIgD
namespace Ey.Ig
set_option maxRecDepth 1000000
theorem r85 : ifB (okM m85.H.bl) false (isM (callZ lk1 100000 55 m85.w m85.H) m85) = true := by kernel_rfl
theorem r86 : ifB (okM m86.H.bl) false (isM (callZ lk1 100000 55 m86.w m86.H) m86) = true := by kernel_rfl
theorem r87 : ifB (okM m87.H.bl) false (isM (callZ lk1 100000 55 m87.w m87.H) m87) = true := by kernel_rfl
theorem r88 : ifB (okM m88.H.bl) false (isM (callZ lk1 100000 55 m88.w m88.H) m88) = true := by kernel_rfl
theorem r89 : ifB (okM m89.H.bl) false (isM (callZ lk1 100000 55 m89.w m89.H) m89) = true := by kernel_rfl
theorem r90 : ifB (okM m90.H.bl) false (isM (callZ lk1 100000 55 m90.w m90.H) m90) = true := by kernel_rfl
theorem r91 : ifB (okM m91.H.bl) false (isM (callZ lk1 100000 55 m91.w m91.H) m91) = true := by kernel_rfl
theorem r92 : ifB (okM m92.H.bl) false (isM (callZ lk1 100000 99 m92.w m92.H) m92) = true := by kernel_rfl
theorem r93 : ifB (okM m93.H.bl) false (isM (callZ lk1 100000 54 m93.w m93.H) m93) = true := by kernel_rfl
theorem r94 : ifB (okM m94.H.bl) false (isM (callZ lk1 100000 55 m94.w m94.H) m94) = true := by kernel_rfl
theorem r95 : ifB (okM m95.H.bl) false (isM (callZ lk1 100000 55 m95.w m95.H) m95) = true := by kernel_rfl
theorem r96 : ifB (okM m96.H.bl) false (isM (callZ lk1 100000 55 m96.w m96.H) m96) = true := by kernel_rfl
theorem r97 : ifB (okM m97.H.bl) false (isM (callZ lk1 100000 55 m97.w m97.H) m97) = true := by kernel_rfl
theorem r98 : ifB (okM m98.H.bl) false (isM (callZ lk1 100000 55 m98.w m98.H) m98) = true := by kernel_rfl
theorem r99 : ifB (okM m99.H.bl) false (isM (callZ lk1 100000 55 m99.w m99.H) m99) = true := by kernel_rfl
theorem r100 : ifB (okM m100.H.bl) false (isM (callZ lk1 100000 55 m100.w m100.H) m100) = true := by kernel_rfl
theorem r101 : ifB (okM m101.H.bl) false (isM (callZ lk1 100000 55 m101.w m101.H) m101) = true := by kernel_rfl
theorem r102 : ifB (okM m102.H.bl) false (isM (callZ lk1 100000 55 m102.w m102.H) m102) = true := by kernel_rfl
theorem r103 : ifB (okM m103.H.bl) false (isM (callZ lk1 100000 55 m103.w m103.H) m103) = true := by kernel_rfl
theorem r104 : ifB (okM m104.H.bl) false (isM (callZ lk1 100000 55 m104.w m104.H) m104) = true := by kernel_rfl
theorem r105 : ifB (okM m105.H.bl) false (isM (callZ lk1 100000 55 m105.w m105.H) m105) = true := by kernel_rfl
theorem r106 : ifB (okM m106.H.bl) false (isM (callZ lk1 100000 55 m106.w m106.H) m106) = true := by kernel_rfl
theorem r107 : ifB (okM m107.H.bl) false (isM (callZ lk1 100000 55 m107.w m107.H) m107) = true := by kernel_rfl
theorem r108 : ifB (okM m108.H.bl) false (isM (callZ lk1 100000 55 m108.w m108.H) m108) = true := by kernel_rfl
theorem r109 : ifB (okM m109.H.bl) false (isM (callZ lk2 100000 106 m109.w m109.H) m109) = true := by kernel_rfl
theorem r110 : ifB (okM m110.H.bl) false (isM (callZ lk2 100000 149 m110.w m110.H) m110) = true := by kernel_rfl
end Ey.Ig
