/- The functions' numbers in the program; that each is what the model has. Printed by seat2.py. -/
import Derived.Test.YtcgfhnndkhkdgaaGreatDoorGnN
import Derived.Test.YtcgfhnndkhkdgaaGreatDoorRows
namespace Ey.Gn
open Go
set_option maxRecDepth 100000
def ids : List Nat := [91, 87, 57, 79, 109, 110, 138, 139, 66, 140, 141, 116, 94, 153, 24, 56, 29, 11, 22, 53, 54, 27, 50, 52, 26, 58, 55, 28, 51, 25, 106, 107, 108, 78, 84, 152, 134, 117, 92, 144, 93, 154, 6, 9, 111, 15, 59, 39, 21, 83, 82, 88, 64, 37, 33, 60, 62, 61, 35, 34, 63, 36, 32, 10, 12, 13, 14, 7, 137, 114, 81, 85, 97, 72, 46, 102, 90, 89, 38, 19, 49, 48, 76, 20, 31, 65, 67, 40, 5, 8, 16, 17, 18, 45, 4, 124, 123, 44, 142, 143, 23, 115, 112, 30, 77, 80, 113, 104, 105, 118, 98, 99, 100, 86, 73, 47, 68, 41, 42, 43]
def tys : List Nat := [167, 71, 135, 128, 76, 9, 175]
noncomputable def cx : Cx := ⟨Go.Proofs.Tryz.prog, fun f => ids[f]?, fun t => tys[t]?, nodup_inj rfl, glf [(7, [.int .u8 0, .int .u8 1, .int .u8 56, .int .u8 2, .int .u8 57, .int .u8 49, .int .u8 28, .int .u8 3, .int .u8 61, .int .u8 58, .int .u8 42, .int .u8 50, .int .u8 38, .int .u8 29, .int .u8 17, .int .u8 4, .int .u8 62, .int .u8 47, .int .u8 59, .int .u8 36, .int .u8 45, .int .u8 43, .int .u8 51, .int .u8 22, .int .u8 53, .int .u8 39, .int .u8 33, .int .u8 30, .int .u8 24, .int .u8 18, .int .u8 12, .int .u8 5, .int .u8 63, .int .u8 55, .int .u8 48, .int .u8 27, .int .u8 60, .int .u8 41, .int .u8 37, .int .u8 16, .int .u8 46, .int .u8 35, .int .u8 44, .int .u8 21, .int .u8 52, .int .u8 32, .int .u8 23, .int .u8 11, .int .u8 54, .int .u8 26, .int .u8 40, .int .u8 15, .int .u8 34, .int .u8 20, .int .u8 31, .int .u8 10, .int .u8 25, .int .u8 14, .int .u8 19, .int .u8 9, .int .u8 13, .int .u8 8, .int .u8 7, .int .u8 6])]⟩
theorem checked : chkSome cx (pureF fun f => afs[f]?) ids afs = true := by kernel_rfl
theorem known : Known cx (fun f => afs[f]?) := known_some rfl checked
end Ey.Gn
