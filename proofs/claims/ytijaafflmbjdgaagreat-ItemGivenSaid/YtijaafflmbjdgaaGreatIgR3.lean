/- That calls answer as written down: run by the kernel. Printed by memo2.py. -/
import Derived.Test.YtijaafflmbjdgaaGreatIgD
namespace Ey.Ig
set_option maxRecDepth 1000000
theorem r62 : ifB (okM m62.H.bl) false (isM (callZ lk1 100000 54 m62.w m62.H) m62) = true := by kernel_rfl
theorem r63 : ifB (okM m63.H.bl) false (isM (callZ lk1 100000 55 m63.w m63.H) m63) = true := by kernel_rfl
theorem r64 : ifB (okM m64.H.bl) false (isM (callZ lk1 100000 55 m64.w m64.H) m64) = true := by kernel_rfl
theorem r65 : ifB (okM m65.H.bl) false (isM (callZ lk1 100000 55 m65.w m65.H) m65) = true := by kernel_rfl
theorem r66 : ifB (okM m66.H.bl) false (isM (callZ lk1 100000 55 m66.w m66.H) m66) = true := by kernel_rfl
theorem r67 : ifB (okM m67.H.bl) false (isM (callZ lk1 100000 54 m67.w m67.H) m67) = true := by kernel_rfl
theorem r68 : ifB (okM m68.H.bl) false (isM (callZ lk1 100000 55 m68.w m68.H) m68) = true := by kernel_rfl
theorem r69 : ifB (okM m69.H.bl) false (isM (callZ lk1 100000 55 m69.w m69.H) m69) = true := by kernel_rfl
theorem r70 : ifB (okM m70.H.bl) false (isM (callZ lk1 100000 55 m70.w m70.H) m70) = true := by kernel_rfl
theorem r71 : ifB (okM m71.H.bl) false (isM (callZ lk1 100000 92 m71.w m71.H) m71) = true := by kernel_rfl
theorem r72 : ifB (okM m72.H.bl) false (isM (callZ lk1 100000 92 m72.w m72.H) m72) = true := by kernel_rfl
theorem r73 : ifB (okM m73.H.bl) false (isM (callZ lk1 100000 92 m73.w m73.H) m73) = true := by kernel_rfl
theorem r74 : ifB (okM m74.H.bl) false (isM (callZ lk1 100000 92 m74.w m74.H) m74) = true := by kernel_rfl
theorem r75 : ifB (okM m75.H.bl) false (isM (callZ lk1 100000 92 m75.w m75.H) m75) = true := by kernel_rfl
theorem r76 : ifB (okM m76.H.bl) false (isM (callZ lk1 100000 92 m76.w m76.H) m76) = true := by kernel_rfl
theorem r77 : ifB (okM m77.H.bl) false (isM (callZ lk1 100000 92 m77.w m77.H) m77) = true := by kernel_rfl
theorem r78 : ifB (okM m78.H.bl) false (isM (callZ lk1 100000 92 m78.w m78.H) m78) = true := by kernel_rfl
theorem r79 : ifB (okM m79.H.bl) false (isM (callZ lk1 100000 92 m79.w m79.H) m79) = true := by kernel_rfl
theorem r80 : ifB (okM m80.H.bl) false (isM (callZ lk1 100000 92 m80.w m80.H) m80) = true := by kernel_rfl
theorem r81 : ifB (okM m81.H.bl) false (isM (callZ lk1 100000 93 m81.w m81.H) m81) = true := by kernel_rfl
theorem r82 : ifB (okM m82.H.bl) false (isM (callZ lk1 100000 54 m82.w m82.H) m82) = true := by kernel_rfl
theorem r83 : ifB (okM m83.H.bl) false (isM (callZ lk1 100000 54 m83.w m83.H) m83) = true := by kernel_rfl
theorem r84 : ifB (okM m84.H.bl) false (isM (callZ lk1 100000 55 m84.w m84.H) m84) = true := by kernel_rfl
theorem r85 : ifB (okM m85.H.bl) false (isM (callZ lk1 100000 55 m85.w m85.H) m85) = true := by kernel_rfl
theorem r86 : ifB (okM m86.H.bl) false (isM (callZ lk1 100000 55 m86.w m86.H) m86) = true := by kernel_rfl
theorem r87 : ifB (okM m87.H.bl) false (isM (callZ lk1 100000 55 m87.w m87.H) m87) = true := by kernel_rfl
theorem r88 : ifB (okM m88.H.bl) false (isM (callZ lk1 100000 55 m88.w m88.H) m88) = true := by kernel_rfl
theorem r89 : ifB (okM m89.H.bl) false (isM (callZ lk1 100000 55 m89.w m89.H) m89) = true := by kernel_rfl
theorem r90 : ifB (okM m90.H.bl) false (isM (callZ lk1 100000 55 m90.w m90.H) m90) = true := by kernel_rfl
theorem r91 : ifB (okM m91.H.bl) false (isM (callZ lk1 100000 55 m91.w m91.H) m91) = true := by kernel_rfl
theorem r92 : ifB (okM m92.H.bl) false (isM (callZ lk1 100000 55 m92.w m92.H) m92) = true := by kernel_rfl
theorem r93 : ifB (okM m93.H.bl) false (isM (callZ lk1 100000 55 m93.w m93.H) m93) = true := by kernel_rfl
theorem r94 : ifB (okM m94.H.bl) false (isM (callZ lk1 100000 55 m94.w m94.H) m94) = true := by kernel_rfl
theorem r95 : ifB (okM m95.H.bl) false (isM (callZ lk1 100000 55 m95.w m95.H) m95) = true := by kernel_rfl
end Ey.Ig
