/- That calls answer as written down: run by the kernel. Printed by memo2.py. -/
import Derived.Test.YtijaafflmbjdgaaGreatDoorGrD
namespace Ey.Gr
set_option maxRecDepth 1000000
theorem r90 : rQ lk1 65 m90 = true := by kernel_rfl
theorem r91 : rQ lk1 66 m91 = true := by kernel_rfl
theorem r92 : rQ lk1 66 m92 = true := by kernel_rfl
theorem r93 : rQ lk1 66 m93 = true := by kernel_rfl
theorem r94 : rQ lk1 66 m94 = true := by kernel_rfl
theorem r95 : rQ lk1 66 m95 = true := by kernel_rfl
theorem r96 : rQ lk1 65 m96 = true := by kernel_rfl
theorem r97 : rQ lk1 66 m97 = true := by kernel_rfl
theorem r98 : rQ lk1 66 m98 = true := by kernel_rfl
theorem r99 : rQ lk1 66 m99 = true := by kernel_rfl
theorem r100 : rQ lk1 66 m100 = true := by kernel_rfl
theorem r101 : rQ lk1 66 m101 = true := by kernel_rfl
theorem r102 : rQ lk1 130 m102 = true := by kernel_rfl
end Ey.Gr
