/- The functions' numbers in the program; that each is what the model has. Printed by seat2.py. -/
import Derived.Test.YtijaafflmbjdgaaGreatIgN
import Derived.Test.YtijaafflmbjdgaaGreatRows
namespace Ey.Ig
open Go
set_option maxRecDepth 100000
def ids : List Nat := [182, 142, 86, 218, 217, 192, 208, 177, 147, 212, 135, 225, 231, 233, 232, 191, 71, 72, 73, 215, 216, 226, 109, 56, 117, 118, 171, 134, 81, 137, 136, 84, 83, 82, 77, 119, 120, 121, 122, 123, 78, 76, 128, 125, 127, 181, 180, 190, 146, 89, 144, 130, 145, 143, 87, 88, 189, 132, 222, 223, 209, 210, 211, 234, 228, 194, 152, 151, 149, 63, 62, 35, 36, 112, 18, 17, 50, 51, 49, 53, 183, 184, 80, 115, 116, 138, 139, 126, 124, 129, 79, 114, 69, 140, 74, 75, 67, 68, 40, 14, 41, 43, 15, 42, 113, 85, 52, 141, 224, 186, 187, 188, 131, 133, 230, 229, 19, 7, 22, 29, 10, 24, 25, 46, 57, 44, 54, 150, 99, 148, 198, 197, 193, 157, 97, 93, 153, 155, 154, 95, 94, 156, 96, 92, 32, 33, 34, 38, 37, 13, 39, 66, 59, 58, 60, 65, 227, 219, 185, 196, 200, 110, 199, 98, 70, 111, 64, 163, 91, 61, 6, 12, 30, 31, 4, 108, 173, 174, 172, 176, 178, 179, 175, 90, 195, 165, 166, 164, 168, 170, 169, 167]
def tys : List Nat := [9, 248, 158]
noncomputable def cx : Cx := ⟨Go.Proofs.Tryz.prog, fun f => ids[f]?, fun t => tys[t]?, nodup_inj rfl, glf []⟩
theorem checked : chkSome cx (pureF fun f => afs[f]?) ids afs = true := by kernel_rfl
theorem known : Known cx (fun f => afs[f]?) := known_some rfl checked
end Ey.Ig
