/- That calls answer as written down: run by the kernel. Printed by memo2.py. -/
import Derived.Test.YtcbmfmdmmbcehaaGreatTtD
namespace Ey.Tt
set_option maxRecDepth 1000000
theorem r44 : rQ lk0 79 m44 = true := by kernel_rfl
theorem r45 : rQ lk0 95 m45 = true := by kernel_rfl
theorem r46 : rQ lk0 108 m46 = true := by kernel_rfl
theorem r47 : rQ lk0 55 m47 = true := by kernel_rfl
theorem r48 : rQ lk0 55 m48 = true := by kernel_rfl
theorem r49 : rQ lk0 50 m49 = true := by kernel_rfl
theorem r50 : rQ lk0 50 m50 = true := by kernel_rfl
theorem r51 : rQ lk0 50 m51 = true := by kernel_rfl
theorem r52 : rQ lk0 50 m52 = true := by kernel_rfl
theorem r53 : rQ lk0 50 m53 = true := by kernel_rfl
theorem r54 : rQ lk0 50 m54 = true := by kernel_rfl
theorem r55 : rQ lk0 50 m55 = true := by kernel_rfl
theorem r56 : rQ lk0 50 m56 = true := by kernel_rfl
theorem r57 : rQ lk1 54 m57 = true := by kernel_rfl
end Ey.Tt
