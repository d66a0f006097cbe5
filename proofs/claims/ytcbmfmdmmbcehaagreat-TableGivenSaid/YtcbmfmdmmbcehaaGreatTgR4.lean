/- That calls answer as written down: run by the kernel. Printed by memo2.py. -/
import Derived.Test.YtcbmfmdmmbcehaaGreatTgD
namespace Ey.Tg
set_option maxRecDepth 1000000
theorem r78 : ifB (okM m78.H.bl) false (isM (callZ lk1 100000 97 m78.w m78.H) m78) = true := by kernel_rfl
theorem r79 : ifB (okM m79.H.bl) false (isM (callZ lk1 100000 54 m79.w m79.H) m79) = true := by kernel_rfl
theorem r80 : ifB (okM m80.H.bl) false (isM (callZ lk1 100000 54 m80.w m80.H) m80) = true := by kernel_rfl
theorem r81 : ifB (okM m81.H.bl) false (isM (callZ lk1 100000 55 m81.w m81.H) m81) = true := by kernel_rfl
theorem r82 : ifB (okM m82.H.bl) false (isM (callZ lk1 100000 55 m82.w m82.H) m82) = true := by kernel_rfl
theorem r83 : ifB (okM m83.H.bl) false (isM (callZ lk1 100000 55 m83.w m83.H) m83) = true := by kernel_rfl
theorem r84 : ifB (okM m84.H.bl) false (isM (callZ lk1 100000 55 m84.w m84.H) m84) = true := by kernel_rfl
theorem r85 : ifB (okM m85.H.bl) false (isM (callZ lk1 100000 55 m85.w m85.H) m85) = true := by kernel_rfl
theorem r86 : ifB (okM m86.H.bl) false (isM (callZ lk1 100000 55 m86.w m86.H) m86) = true := by kernel_rfl
theorem r87 : ifB (okM m87.H.bl) false (isM (callZ lk1 100000 55 m87.w m87.H) m87) = true := by kernel_rfl
theorem r88 : ifB (okM m88.H.bl) false (isM (callZ lk1 100000 55 m88.w m88.H) m88) = true := by kernel_rfl
theorem r89 : ifB (okM m89.H.bl) false (isM (callZ lk1 100000 55 m89.w m89.H) m89) = true := by kernel_rfl
theorem r90 : ifB (okM m90.H.bl) false (isM (callZ lk1 100000 55 m90.w m90.H) m90) = true := by kernel_rfl
theorem r91 : ifB (okM m91.H.bl) false (isM (callZ lk1 100000 55 m91.w m91.H) m91) = true := by kernel_rfl
theorem r92 : ifB (okM m92.H.bl) false (isM (callZ lk1 100000 55 m92.w m92.H) m92) = true := by kernel_rfl
theorem r93 : ifB (okM m93.H.bl) false (isM (callZ lk1 100000 122 m93.w m93.H) m93) = true := by kernel_rfl
theorem r94 : ifB (okM m94.H.bl) false (isM (callZ lk1 100000 104 m94.w m94.H) m94) = true := by kernel_rfl
theorem r95 : ifB (okM m95.H.bl) false (isM (callZ lk1 100000 54 m95.w m95.H) m95) = true := by kernel_rfl
theorem r96 : ifB (okM m96.H.bl) false (isM (callZ lk1 100000 55 m96.w m96.H) m96) = true := by kernel_rfl
theorem r97 : ifB (okM m97.H.bl) false (isM (callZ lk1 100000 55 m97.w m97.H) m97) = true := by kernel_rfl
theorem r98 : ifB (okM m98.H.bl) false (isM (callZ lk1 100000 55 m98.w m98.H) m98) = true := by kernel_rfl
theorem r99 : ifB (okM m99.H.bl) false (isM (callZ lk1 100000 55 m99.w m99.H) m99) = true := by kernel_rfl
theorem r100 : ifB (okM m100.H.bl) false (isM (callZ lk1 100000 55 m100.w m100.H) m100) = true := by kernel_rfl
theorem r101 : ifB (okM m101.H.bl) false (isM (callZ lk1 100000 55 m101.w m101.H) m101) = true := by kernel_rfl
theorem r102 : ifB (okM m102.H.bl) false (isM (callZ lk1 100000 55 m102.w m102.H) m102) = true := by kernel_rfl
end Ey.Tg
