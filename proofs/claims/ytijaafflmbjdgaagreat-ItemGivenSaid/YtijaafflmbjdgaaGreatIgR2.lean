/- That calls answer as written down: run by the kernel. Printed by memo2.py. -/
import Derived.Test.YtijaafflmbjdgaaGreatIgD
namespace Ey.Ig
set_option maxRecDepth 1000000
theorem r34 : ifB (okM m34.H.bl) false (isM (callZ lk0 100000 76 m34.w m34.H) m34) = true := by kernel_rfl
theorem r35 : ifB (okM m35.H.bl) false (isM (callZ lk0 100000 91 m35.w m35.H) m35) = true := by kernel_rfl
theorem r36 : ifB (okM m36.H.bl) false (isM (callZ lk0 100000 50 m36.w m36.H) m36) = true := by kernel_rfl
theorem r37 : ifB (okM m37.H.bl) false (isM (callZ lk0 100000 50 m37.w m37.H) m37) = true := by kernel_rfl
theorem r38 : ifB (okM m38.H.bl) false (isM (callZ lk0 100000 50 m38.w m38.H) m38) = true := by kernel_rfl
theorem r39 : ifB (okM m39.H.bl) false (isM (callZ lk0 100000 50 m39.w m39.H) m39) = true := by kernel_rfl
theorem r40 : ifB (okM m40.H.bl) false (isM (callZ lk0 100000 50 m40.w m40.H) m40) = true := by kernel_rfl
theorem r41 : ifB (okM m41.H.bl) false (isM (callZ lk0 100000 50 m41.w m41.H) m41) = true := by kernel_rfl
theorem r42 : ifB (okM m42.H.bl) false (isM (callZ lk0 100000 50 m42.w m42.H) m42) = true := by kernel_rfl
theorem r43 : ifB (okM m43.H.bl) false (isM (callZ lk0 100000 50 m43.w m43.H) m43) = true := by kernel_rfl
theorem r44 : ifB (okM m44.H.bl) false (isM (callZ lk0 100000 50 m44.w m44.H) m44) = true := by kernel_rfl
theorem r45 : ifB (okM m45.H.bl) false (isM (callZ lk0 100000 50 m45.w m45.H) m45) = true := by kernel_rfl
theorem r46 : ifB (okM m46.H.bl) false (isM (callZ lk0 100000 50 m46.w m46.H) m46) = true := by kernel_rfl
theorem r47 : ifB (okM m47.H.bl) false (isM (callZ lk0 100000 50 m47.w m47.H) m47) = true := by kernel_rfl
theorem r48 : ifB (okM m48.H.bl) false (isM (callZ lk0 100000 50 m48.w m48.H) m48) = true := by kernel_rfl
theorem r49 : ifB (okM m49.H.bl) false (isM (callZ lk1 100000 92 m49.w m49.H) m49) = true := by kernel_rfl
theorem r50 : ifB (okM m50.H.bl) false (isM (callZ lk1 100000 92 m50.w m50.H) m50) = true := by kernel_rfl
theorem r51 : ifB (okM m51.H.bl) false (isM (callZ lk1 100000 92 m51.w m51.H) m51) = true := by kernel_rfl
theorem r52 : ifB (okM m52.H.bl) false (isM (callZ lk1 100000 54 m52.w m52.H) m52) = true := by kernel_rfl
theorem r53 : ifB (okM m53.H.bl) false (isM (callZ lk1 100000 54 m53.w m53.H) m53) = true := by kernel_rfl
theorem r54 : ifB (okM m54.H.bl) false (isM (callZ lk1 100000 55 m54.w m54.H) m54) = true := by kernel_rfl
theorem r55 : ifB (okM m55.H.bl) false (isM (callZ lk1 100000 55 m55.w m55.H) m55) = true := by kernel_rfl
theorem r56 : ifB (okM m56.H.bl) false (isM (callZ lk1 100000 55 m56.w m56.H) m56) = true := by kernel_rfl
theorem r57 : ifB (okM m57.H.bl) false (isM (callZ lk1 100000 55 m57.w m57.H) m57) = true := by kernel_rfl
theorem r58 : ifB (okM m58.H.bl) false (isM (callZ lk1 100000 55 m58.w m58.H) m58) = true := by kernel_rfl
theorem r59 : ifB (okM m59.H.bl) false (isM (callZ lk1 100000 55 m59.w m59.H) m59) = true := by kernel_rfl
theorem r60 : ifB (okM m60.H.bl) false (isM (callZ lk1 100000 117 m60.w m60.H) m60) = true := by kernel_rfl
theorem r61 : ifB (okM m61.H.bl) false (isM (callZ lk1 100000 99 m61.w m61.H) m61) = true := by kernel_rfl
end Ey.Ig
