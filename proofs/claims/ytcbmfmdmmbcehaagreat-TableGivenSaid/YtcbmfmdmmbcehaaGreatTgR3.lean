/- That calls answer as written down: run by the kernel. Printed by memo2.py. -/
import Derived.Test.YtcbmfmdmmbcehaaGreatTgD
namespace Ey.Tg
set_option maxRecDepth 1000000
theorem r51 : ifB (okM m51.H.bl) false (isM (callZ lk0 100000 177 m51.w m51.H) m51) = true := by kernel_rfl
theorem r52 : ifB (okM m52.H.bl) false (isM (callZ lk1 100000 80 m52.w m52.H) m52) = true := by kernel_rfl
theorem r53 : ifB (okM m53.H.bl) false (isM (callZ lk1 100000 54 m53.w m53.H) m53) = true := by kernel_rfl
theorem r54 : ifB (okM m54.H.bl) false (isM (callZ lk1 100000 54 m54.w m54.H) m54) = true := by kernel_rfl
theorem r55 : ifB (okM m55.H.bl) false (isM (callZ lk1 100000 55 m55.w m55.H) m55) = true := by kernel_rfl
theorem r56 : ifB (okM m56.H.bl) false (isM (callZ lk1 100000 55 m56.w m56.H) m56) = true := by kernel_rfl
theorem r57 : ifB (okM m57.H.bl) false (isM (callZ lk1 100000 55 m57.w m57.H) m57) = true := by kernel_rfl
theorem r58 : ifB (okM m58.H.bl) false (isM (callZ lk1 100000 55 m58.w m58.H) m58) = true := by kernel_rfl
theorem r59 : ifB (okM m59.H.bl) false (isM (callZ lk1 100000 55 m59.w m59.H) m59) = true := by kernel_rfl
theorem r60 : ifB (okM m60.H.bl) false (isM (callZ lk1 100000 80 m60.w m60.H) m60) = true := by kernel_rfl
theorem r61 : ifB (okM m61.H.bl) false (isM (callZ lk1 100000 54 m61.w m61.H) m61) = true := by kernel_rfl
theorem r62 : ifB (okM m62.H.bl) false (isM (callZ lk1 100000 55 m62.w m62.H) m62) = true := by kernel_rfl
theorem r63 : ifB (okM m63.H.bl) false (isM (callZ lk1 100000 55 m63.w m63.H) m63) = true := by kernel_rfl
theorem r64 : ifB (okM m64.H.bl) false (isM (callZ lk1 100000 55 m64.w m64.H) m64) = true := by kernel_rfl
theorem r65 : ifB (okM m65.H.bl) false (isM (callZ lk1 100000 55 m65.w m65.H) m65) = true := by kernel_rfl
theorem r66 : ifB (okM m66.H.bl) false (isM (callZ lk1 100000 55 m66.w m66.H) m66) = true := by kernel_rfl
theorem r67 : ifB (okM m67.H.bl) false (isM (callZ lk1 100000 55 m67.w m67.H) m67) = true := by kernel_rfl
theorem r68 : ifB (okM m68.H.bl) false (isM (callZ lk1 100000 55 m68.w m68.H) m68) = true := by kernel_rfl
theorem r69 : ifB (okM m69.H.bl) false (isM (callZ lk1 100000 96 m69.w m69.H) m69) = true := by kernel_rfl
theorem r70 : ifB (okM m70.H.bl) false (isM (callZ lk1 100000 96 m70.w m70.H) m70) = true := by kernel_rfl
theorem r71 : ifB (okM m71.H.bl) false (isM (callZ lk1 100000 96 m71.w m71.H) m71) = true := by kernel_rfl
theorem r72 : ifB (okM m72.H.bl) false (isM (callZ lk1 100000 96 m72.w m72.H) m72) = true := by kernel_rfl
theorem r73 : ifB (okM m73.H.bl) false (isM (callZ lk1 100000 96 m73.w m73.H) m73) = true := by kernel_rfl
theorem r74 : ifB (okM m74.H.bl) false (isM (callZ lk1 100000 96 m74.w m74.H) m74) = true := by kernel_rfl
theorem r75 : ifB (okM m75.H.bl) false (isM (callZ lk1 100000 96 m75.w m75.H) m75) = true := by kernel_rfl
theorem r76 : ifB (okM m76.H.bl) false (isM (callZ lk1 100000 96 m76.w m76.H) m76) = true := by kernel_rfl
theorem r77 : ifB (okM m77.H.bl) false (isM (callZ lk1 100000 96 m77.w m77.H) m77) = true := by kernel_rfl
end Ey.Tg
