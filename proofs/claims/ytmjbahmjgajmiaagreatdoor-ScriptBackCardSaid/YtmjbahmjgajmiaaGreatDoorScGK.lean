/- The law's answer, put together: what the code of the small language answers, by hand, and what happens at the beginning, by the kernel. -/
import Derived.Test.YtmjbahmjgajmiaaGreatDoorScQ0
import Derived.Test.YtmjbahmjgajmiaaGreatDoorScSb
set_option maxRecDepth 100000
namespace Ey.Sc
open Go (IntKind)
theorem begunIs : evC (fun f => afs[f]?) 197 [] heap0 = some (.ret (.bool true) heap0) := by
  obtain ⟨H, h⟩ := tru_ret begunRun
  have h2 := runZ_ret look (w := .nil) (H := ZH.none) trivial h
  have h3 := pure_ret (af := a197) rfl rfl h2
  rw [h3] at h2
  exact h2
theorem fns : Fns (fun f => afs[f]?) := ⟨rfl, rfl, rfl, rfl, rfl, rfl, rfl, rfl, rfl, rfl, rfl, rfl, rfl⟩
theorem backLaw {x0 : AV} (i0 : Imp (.sl false [.int .u8]) x0) : ∃ H', evC (fun f => afs[f]?) 201 [x0] heap0 = some (.ret (.bool true) H') := back_ok fns rfl rfl rfl begunIs rfl i0
end Ey.Sc
