/- The functions' numbers in the program; that each is what the model has. Printed by seat2.py. -/
import Derived.Test.YtcbmfmdmmbcehaaGreatTtN
import Derived.Test.YtcbmfmdmmbcehaaGreatRows
namespace Ey.Tt
open Go
set_option maxRecDepth 100000
def ids : List Nat := [126, 98, 56, 193, 192, 167, 219, 212, 135, 163, 91, 189, 201, 203, 202, 166, 178, 179, 180, 190, 191, 204, 159, 118, 195, 196, 206, 90, 51, 93, 92, 54, 53, 52, 47, 75, 76, 77, 78, 79, 48, 46, 84, 81, 83, 125, 124, 134, 102, 59, 100, 86, 101, 99, 57, 58, 133, 88, 186, 187, 160, 161, 162, 215, 198, 169, 140, 139, 137, 68, 67, 32, 33, 40, 19, 18, 119, 13, 12, 26, 9, 25, 28, 127, 128, 50, 122, 123, 94, 95, 82, 80, 85, 49, 121, 74, 96, 44, 45, 73, 23, 41, 20, 21, 22, 43, 42, 120, 55, 27, 97, 188, 130, 131, 132, 87, 89, 200, 199, 116, 65, 114, 115, 64, 177, 148, 149, 147, 146, 60, 138, 112, 136, 173, 172, 168, 145, 110, 106, 141, 143, 142, 108, 107, 144, 109, 105, 29, 30, 31, 35, 34, 14, 36, 39, 38, 17, 61, 70, 205, 194, 129, 171, 72, 37, 175, 113, 174, 111, 176, 16, 117, 69, 185, 153, 150, 197, 155, 157, 104, 8, 66, 7, 6, 4, 4, 4, 4, 158, 208, 209, 207, 211, 213, 214, 210, 103, 62, 15, 170, 71, 152, 184, 151, 156, 154]
def tys : List Nat := [9, 249, 53, 188]
noncomputable def cx : Cx := ⟨Go.Proofs.Tryz.prog, fun f => ids[f]?, fun t => tys[t]?, nodup_inj rfl, glf []⟩
theorem checked : chkSome cx (pureF fun f => afs[f]?) ids afs = true := by kernel_rfl
theorem known : Known cx (fun f => afs[f]?) := known_some rfl checked
end Ey.Tt
