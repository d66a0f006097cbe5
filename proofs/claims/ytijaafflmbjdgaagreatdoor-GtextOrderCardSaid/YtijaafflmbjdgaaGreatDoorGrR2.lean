/- That calls answer as written down: run by the kernel. Printed by memo2.py. -/
import Derived.Test.YtijaafflmbjdgaaGreatDoorGrD
namespace Ey.Gr
set_option maxRecDepth 1000000
theorem r43 : rQ lk0 123 m43 = true := by kernel_rfl
theorem r44 : rQ lk0 123 m44 = true := by kernel_rfl
theorem r45 : rQ lk0 124 m45 = true := by kernel_rfl
theorem r46 : rQ lk0 61 m46 = true := by kernel_rfl
theorem r47 : rQ lk0 61 m47 = true := by kernel_rfl
theorem r48 : rQ lk0 61 m48 = true := by kernel_rfl
theorem r49 : rQ lk0 61 m49 = true := by kernel_rfl
theorem r50 : rQ lk0 61 m50 = true := by kernel_rfl
theorem r51 : rQ lk0 61 m51 = true := by kernel_rfl
theorem r52 : rQ lk0 61 m52 = true := by kernel_rfl
theorem r53 : rQ lk0 61 m53 = true := by kernel_rfl
theorem r54 : rQ lk0 61 m54 = true := by kernel_rfl
theorem r55 : rQ lk0 61 m55 = true := by kernel_rfl
theorem r56 : rQ lk0 61 m56 = true := by kernel_rfl
theorem r57 : rQ lk0 61 m57 = true := by kernel_rfl
theorem r58 : rQ lk0 165 m58 = true := by kernel_rfl
theorem r59 : rQ lk0 165 m59 = true := by kernel_rfl
theorem r60 : rQ lk0 165 m60 = true := by kernel_rfl
theorem r61 : rQ lk0 165 m61 = true := by kernel_rfl
theorem r62 : rQ lk0 165 m62 = true := by kernel_rfl
theorem r63 : rQ lk0 165 m63 = true := by kernel_rfl
theorem r64 : rQ lk0 165 m64 = true := by kernel_rfl
theorem r65 : rQ lk0 165 m65 = true := by kernel_rfl
theorem r66 : rQ lk0 165 m66 = true := by kernel_rfl
theorem r67 : rQ lk0 165 m67 = true := by kernel_rfl
theorem r68 : rQ lk0 165 m68 = true := by kernel_rfl
theorem r69 : rQ lk0 165 m69 = true := by kernel_rfl
theorem r70 : rQ lk0 165 m70 = true := by kernel_rfl
theorem r71 : rQ lk0 165 m71 = true := by kernel_rfl
theorem r72 : rQ lk0 165 m72 = true := by kernel_rfl
theorem r73 : rQ lk0 165 m73 = true := by kernel_rfl
theorem r74 : rQ lk0 90 m74 = true := by kernel_rfl
theorem r75 : rQ lk0 96 m75 = true := by kernel_rfl
end Ey.Gr
