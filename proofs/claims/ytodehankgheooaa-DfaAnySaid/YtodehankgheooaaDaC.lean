/- The functions' numbers in the program; that each is what the model has. Printed by seat2.py. -/
import Derived.Test.YtodehankgheooaaDaN
import Derived.Test.YtodehankgheooaaRows
namespace Ey.Da
open Go
set_option maxRecDepth 100000
def ids : List Nat := [29, 28, 20, 31, 33, 21, 27, 26, 18, 55, 45, 30, 19, 42, 34, 35, 36, 37, 23, 49, 25, 7, 13, 5, 17, 11, 9, 4, 6, 8, 10, 12, 48, 22, 66, 76, 24, 38, 39, 65, 47, 70, 16, 14, 15, 46, 56, 3, 32, 43, 50, 41, 40, 67, 78, 77, 51, 64, 58, 59, 57, 61, 63, 62, 60]
def tys : List Nat := [9]
noncomputable def cx : Cx := ⟨Go.Proofs.Try.prog, fun f => ids[f]?, fun t => tys[t]?, nodup_inj rfl, glf []⟩
theorem checked : chkSome cx (pureF fun f => afs[f]?) ids afs = true := by kernel_rfl
theorem known : Known cx (fun f => afs[f]?) := known_some rfl checked
end Ey.Da
