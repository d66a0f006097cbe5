/- That a call answers as written down: run by the kernel. -/
import Derived.Test.YtijaafflmbjdgaaGreatDoorGrS
namespace Ey.Gr
set_option maxRecDepth 1000000
theorem r143 : rQ lkS 106 m143 = true := by kernel_rfl
end Ey.Gr
