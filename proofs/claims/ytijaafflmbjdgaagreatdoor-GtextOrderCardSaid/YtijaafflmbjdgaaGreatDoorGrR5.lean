/- That calls answer as written down: run by the kernel. Printed by memo2.py. -/
import Derived.Test.YtijaafflmbjdgaaGreatDoorGrD
namespace Ey.Gr
set_option maxRecDepth 1000000
theorem r103 : rQ lk1 136 m103 = true := by kernel_rfl
theorem r104 : rQ lk1 65 m104 = true := by kernel_rfl
theorem r105 : rQ lk1 65 m105 = true := by kernel_rfl
theorem r106 : rQ lk1 66 m106 = true := by kernel_rfl
theorem r107 : rQ lk1 66 m107 = true := by kernel_rfl
theorem r108 : rQ lk1 66 m108 = true := by kernel_rfl
theorem r109 : rQ lk1 66 m109 = true := by kernel_rfl
theorem r110 : rQ lk1 66 m110 = true := by kernel_rfl
theorem r111 : rQ lk1 66 m111 = true := by kernel_rfl
theorem r112 : rQ lk1 66 m112 = true := by kernel_rfl
theorem r113 : rQ lk1 66 m113 = true := by kernel_rfl
theorem r114 : rQ lk1 66 m114 = true := by kernel_rfl
theorem r115 : rQ lk1 66 m115 = true := by kernel_rfl
theorem r116 : rQ lk1 66 m116 = true := by kernel_rfl
theorem r117 : rQ lk1 66 m117 = true := by kernel_rfl
theorem r118 : rQ lk1 136 m118 = true := by kernel_rfl
theorem r119 : rQ lk1 65 m119 = true := by kernel_rfl
theorem r120 : rQ lk1 66 m120 = true := by kernel_rfl
end Ey.Gr
