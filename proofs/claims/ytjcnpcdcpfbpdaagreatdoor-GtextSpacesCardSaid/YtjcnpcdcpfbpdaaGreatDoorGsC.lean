/- The functions' numbers in the program; that each is what the model has. Printed by seat2.py. -/
import Derived.Test.YtjcnpcdcpfbpdaaGreatDoorGsN
import Derived.Test.YtjcnpcdcpfbpdaaGreatDoorRows
namespace Ey.Gs
open Go
set_option maxRecDepth 100000
def ids : List Nat := [172, 162, 110, 154, 208, 209, 241, 242, 123, 243, 244, 212, 175, 259, 60, 109, 65, 23, 58, 106, 107, 63, 103, 105, 62, 111, 108, 64, 104, 61, 205, 206, 207, 153, 159, 258, 239, 213, 173, 247, 174, 260, 20, 54, 94, 27, 112, 75, 57, 158, 157, 163, 117, 73, 69, 113, 115, 114, 71, 70, 116, 72, 68, 22, 24, 25, 26, 11, 240, 210, 156, 160, 178, 129, 90, 201, 165, 164, 74, 44, 102, 101, 151, 56, 67, 122, 124, 84, 10, 17, 41, 42, 43, 89, 8, 220, 219, 88, 245, 246, 59, 211, 95, 66, 152, 155, 96, 203, 204, 214, 179, 180, 181, 161, 148, 100, 125, 85, 86, 87]
def tys : List Nat := [276, 105, 222, 216, 110, 9, 283]
noncomputable def cx : Cx := ⟨Go.Proofs.Tryz.prog, fun f => ids[f]?, fun t => tys[t]?, nodup_inj rfl, glf [(7, [.int .u8 0, .int .u8 1, .int .u8 56, .int .u8 2, .int .u8 57, .int .u8 49, .int .u8 28, .int .u8 3, .int .u8 61, .int .u8 58, .int .u8 42, .int .u8 50, .int .u8 38, .int .u8 29, .int .u8 17, .int .u8 4, .int .u8 62, .int .u8 47, .int .u8 59, .int .u8 36, .int .u8 45, .int .u8 43, .int .u8 51, .int .u8 22, .int .u8 53, .int .u8 39, .int .u8 33, .int .u8 30, .int .u8 24, .int .u8 18, .int .u8 12, .int .u8 5, .int .u8 63, .int .u8 55, .int .u8 48, .int .u8 27, .int .u8 60, .int .u8 41, .int .u8 37, .int .u8 16, .int .u8 46, .int .u8 35, .int .u8 44, .int .u8 21, .int .u8 52, .int .u8 32, .int .u8 23, .int .u8 11, .int .u8 54, .int .u8 26, .int .u8 40, .int .u8 15, .int .u8 34, .int .u8 20, .int .u8 31, .int .u8 10, .int .u8 25, .int .u8 14, .int .u8 19, .int .u8 9, .int .u8 13, .int .u8 8, .int .u8 7, .int .u8 6])]⟩
theorem checked : chkSome cx (pureF fun f => afs[f]?) ids afs = true := by kernel_rfl
theorem known : Known cx (fun f => afs[f]?) := known_some rfl checked
end Ey.Gs
