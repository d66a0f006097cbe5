/- That calls answer as written down: run by the kernel. Printed by memo2.py. -/
import Derived.Test.YtijaafflmbjdgaaGreatDoorGrD
namespace Ey.Gr
set_option maxRecDepth 1000000
theorem r121 : rQ lk1 66 m121 = true := by kernel_rfl
theorem r122 : rQ lk1 66 m122 = true := by kernel_rfl
theorem r123 : rQ lk1 66 m123 = true := by kernel_rfl
theorem r124 : rQ lk1 66 m124 = true := by kernel_rfl
theorem r125 : rQ lk1 66 m125 = true := by kernel_rfl
theorem r126 : rQ lk1 66 m126 = true := by kernel_rfl
theorem r127 : rQ lk1 66 m127 = true := by kernel_rfl
theorem r128 : rQ lk1 66 m128 = true := by kernel_rfl
theorem r129 : rQ lk1 66 m129 = true := by kernel_rfl
theorem r130 : rQ lk1 66 m130 = true := by kernel_rfl
theorem r131 : rQ lk1 66 m131 = true := by kernel_rfl
theorem r132 : rQ lk1 66 m132 = true := by kernel_rfl
end Ey.Gr
