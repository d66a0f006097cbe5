/- The law's answer, put together: what the code of the small language answers, by hand, and what happens at the beginning, by the kernel. -/
import Derived.Test.YtmjbahmjgajmiaaGreatDoorScQ0
import Derived.Test.YtmjbahmjgajmiaaGreatDoorScSl
set_option maxRecDepth 100000
namespace Ey.Sc
open Go (IntKind)
theorem begunIs : evC (fun f => afs[f]?) 197 [] heap0 = some (.ret (.bool true) heap0) := by
  obtain ⟨H, h⟩ := tru_ret begunRun
  have h2 := runZ_ret look (w := .nil) (H := ZH.none) trivial h
  have h3 := pure_ret (af := a197) rfl rfl h2
  rw [h3] at h2
  exact h2
theorem fns : Fns (fun f => afs[f]?) := ⟨rfl, rfl, rfl, rfl, rfl, rfl, rfl, rfl, rfl, rfl, rfl, rfl, rfl⟩
theorem leftLaw {x0 x1 x2 x3 x4 : AV} (i0 : Imp (.int .u8) x0) (i1 : Imp (.int .i64) x1) (i2 : Imp (.int .i64) x2) (i3 : Imp (.sl false [.int .u8]) x3) (i4 : Imp (.sl false [.int .i64]) x4) :
    ∃ H', evC (fun f => afs[f]?) 212 [x0, x1, x2, x3, x4] heap0 = some (.ret (.bool true) H') := left_ok fns begunIs rfl i0 i1 i2 i3 i4
end Ey.Sc
