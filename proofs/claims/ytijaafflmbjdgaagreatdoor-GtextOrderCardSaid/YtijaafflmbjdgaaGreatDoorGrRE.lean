/- That a call answers as written down: run by the kernel. -/
import Derived.Test.YtijaafflmbjdgaaGreatDoorGrS
namespace Ey.Gr
set_option maxRecDepth 1000000
theorem rE : rQ lk3 108 e0 = true := by kernel_rfl
end Ey.Gr
