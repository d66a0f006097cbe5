/- That calls answer as written down: run by the kernel. Printed by memo2.py. -/
import Derived.Test.YtcbmfmdmmbcehaaGreatTtD
namespace Ey.Tt
set_option maxRecDepth 1000000
theorem r58 : rQ lk1 54 m58 = true := by kernel_rfl
theorem r59 : rQ lk1 55 m59 = true := by kernel_rfl
theorem r60 : rQ lk1 55 m60 = true := by kernel_rfl
theorem r61 : rQ lk1 55 m61 = true := by kernel_rfl
theorem r62 : rQ lk1 55 m62 = true := by kernel_rfl
theorem r63 : rQ lk1 55 m63 = true := by kernel_rfl
theorem r64 : rQ lk1 54 m64 = true := by kernel_rfl
theorem r65 : rQ lk1 55 m65 = true := by kernel_rfl
theorem r66 : rQ lk1 55 m66 = true := by kernel_rfl
theorem r67 : rQ lk1 55 m67 = true := by kernel_rfl
theorem r68 : rQ lk1 55 m68 = true := by kernel_rfl
theorem r69 : rQ lk1 55 m69 = true := by kernel_rfl
theorem r70 : rQ lk1 102 m70 = true := by kernel_rfl
theorem r71 : rQ lk1 54 m71 = true := by kernel_rfl
theorem r72 : rQ lk1 54 m72 = true := by kernel_rfl
end Ey.Tt
