/- The law's answer, put together: what the code of the small language answers, by hand, and what happens at the beginning, by the kernel. -/
import Derived.Test.YtodehankgheooaaDaQ0
import Derived.Test.YtodehankgheooaaDaDz
set_option maxRecDepth 100000
namespace Ey.Da
open Go (IntKind)
theorem begunIs : evC (fun f => afs[f]?) 27 [] heap0 = some (.ret (.bool true) heap0) := by
  obtain ⟨H, h⟩ := tru_ret begunRun
  have h2 := runZ_ret look (w := .nil) (H := ZH.none) trivial h
  have h3 := pure_ret (af := a27) rfl rfl h2
  rw [h3] at h2
  exact h2
theorem fns : Fns (fun f => afs[f]?) := ⟨rfl, rfl, rfl, rfl, rfl, rfl, rfl, rfl, rfl, rfl⟩
theorem anyLaw {D : List AV} (i0 : ImpL shD D) {x1 : AV} (i1 : Imp (.sl false [.int .u8]) x1) :
    ∃ H', evC (fun f => afs[f]?) 47 [.agg D, x1] heap0 = some (.ret (.bool true) H') := any_ok fns begunIs rfl i0 i1
end Ey.Da
