/- That calls answer as written down: run by the kernel. Printed by memo2.py. -/
import Derived.Test.YtcbmfmdmmbcehaaGreatTgD
namespace Ey.Tg
set_option maxRecDepth 1000000
theorem r18 : ifB (okM m18.H.bl) false (isM (callZ lk0 100000 79 m18.w m18.H) m18) = true := by kernel_rfl
theorem r19 : ifB (okM m19.H.bl) false (isM (callZ lk0 100000 82 m19.w m19.H) m19) = true := by kernel_rfl
theorem r20 : ifB (okM m20.H.bl) false (isM (callZ lk0 100000 79 m20.w m20.H) m20) = true := by kernel_rfl
theorem r21 : ifB (okM m21.H.bl) false (isM (callZ lk0 100000 95 m21.w m21.H) m21) = true := by kernel_rfl
theorem r22 : ifB (okM m22.H.bl) false (isM (callZ lk0 100000 50 m22.w m22.H) m22) = true := by kernel_rfl
end Ey.Tg
