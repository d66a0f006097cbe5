/- That calls answer as written down: run by the kernel. Printed by memo2.py. -/
import Derived.Test.YtijaafflmbjdgaaGreatDoorGrD
namespace Ey.Gr
set_option maxRecDepth 1000000
theorem r76 : rQ lk0 107 m76 = true := by kernel_rfl
theorem r77 : rQ lk0 123 m77 = true := by kernel_rfl
theorem r78 : rQ lk0 124 m78 = true := by kernel_rfl
theorem r79 : rQ lk0 66 m79 = true := by kernel_rfl
theorem r80 : rQ lk0 66 m80 = true := by kernel_rfl
theorem r81 : rQ lk0 61 m81 = true := by kernel_rfl
theorem r82 : rQ lk0 61 m82 = true := by kernel_rfl
theorem r83 : rQ lk0 61 m83 = true := by kernel_rfl
theorem r84 : rQ lk0 61 m84 = true := by kernel_rfl
theorem r85 : rQ lk0 61 m85 = true := by kernel_rfl
theorem r86 : rQ lk0 61 m86 = true := by kernel_rfl
theorem r87 : rQ lk0 61 m87 = true := by kernel_rfl
theorem r88 : rQ lk0 61 m88 = true := by kernel_rfl
theorem r89 : rQ lk1 65 m89 = true := by kernel_rfl
end Ey.Gr
