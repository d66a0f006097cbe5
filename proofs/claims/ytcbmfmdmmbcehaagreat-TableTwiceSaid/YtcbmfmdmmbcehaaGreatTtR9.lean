/- That calls answer as written down: run by the kernel. Printed by memo2.py. -/
import Derived.Test.YtcbmfmdmmbcehaaGreatTtD
namespace Ey.Tt
set_option maxRecDepth 1000000
theorem r73 : rQ lk1 55 m73 = true := by kernel_rfl
theorem r74 : rQ lk1 55 m74 = true := by kernel_rfl
theorem r75 : rQ lk1 55 m75 = true := by kernel_rfl
theorem r76 : rQ lk1 55 m76 = true := by kernel_rfl
theorem r77 : rQ lk1 55 m77 = true := by kernel_rfl
theorem r78 : rQ lk1 55 m78 = true := by kernel_rfl
theorem r79 : rQ lk1 55 m79 = true := by kernel_rfl
theorem r80 : rQ lk1 55 m80 = true := by kernel_rfl
theorem r81 : rQ lk1 55 m81 = true := by kernel_rfl
theorem r82 : rQ lk1 55 m82 = true := by kernel_rfl
theorem r83 : rQ lk1 55 m83 = true := by kernel_rfl
theorem r84 : rQ lk1 55 m84 = true := by kernel_rfl
theorem r85 : rQ lk1 54 m85 = true := by kernel_rfl
theorem r86 : rQ lk1 55 m86 = true := by kernel_rfl
theorem r87 : rQ lk1 55 m87 = true := by kernel_rfl
theorem r88 : rQ lk1 55 m88 = true := by kernel_rfl
theorem r89 : rQ lk1 55 m89 = true := by kernel_rfl
theorem r90 : rQ lk1 55 m90 = true := by kernel_rfl
theorem r91 : rQ lk1 55 m91 = true := by kernel_rfl
theorem r92 : rQ lk1 55 m92 = true := by kernel_rfl
theorem r93 : rQ lk1 55 m93 = true := by kernel_rfl
theorem r94 : rQ lk1 55 m94 = true := by kernel_rfl
theorem r95 : rQ lk1 55 m95 = true := by kernel_rfl
theorem r96 : rQ lk1 55 m96 = true := by kernel_rfl
theorem r97 : rQ lk1 55 m97 = true := by kernel_rfl
theorem r98 : rQ lk1 55 m98 = true := by kernel_rfl
end Ey.Tt
