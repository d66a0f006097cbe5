/- That calls answer as written down: run by the kernel. Printed by memo2.py. -/
import Derived.Test.YtijaafflmbjdgaaGreatDoorGrD
namespace Ey.Gr
set_option maxRecDepth 1000000
theorem r35 : rQ lk0 107 m35 = true := by kernel_rfl
theorem r36 : rQ lk0 123 m36 = true := by kernel_rfl
theorem r37 : rQ lk0 123 m37 = true := by kernel_rfl
theorem r38 : rQ lk0 123 m38 = true := by kernel_rfl
theorem r39 : rQ lk0 123 m39 = true := by kernel_rfl
theorem r40 : rQ lk0 123 m40 = true := by kernel_rfl
theorem r41 : rQ lk0 123 m41 = true := by kernel_rfl
theorem r42 : rQ lk0 123 m42 = true := by kernel_rfl
end Ey.Gr
