/- The functions' numbers in the program; that each is what the model has. Printed by seat.py. -/
import Derived.Test.YtmcgbmkagbchnaaDnA0
import Derived.Test.YtmcgbmkagbchnaaRows
namespace Ey.Dn
open Go
set_option maxRecDepth 100000
def afs : List AFn := [a0, a1, a2, a3, a4, a5, a6, a7, a8, a9, a10, a11, a12, a13, a14, a15, a16, a17, a18, a19, a20, a21, a22, a23, a24, a25, a26, a27, a28, a29, a30, a31, a32, a33, a34, a35, a36, a37, a38, a39, a40, a41, a42, a43, a44, a45]
def ft : FT := (.node 23 (.node 11 (.node 5 (.node 2 (.node 1 (.leaf a0) (.leaf a1)) (.node 1 (.leaf a2) (.node 1 (.leaf a3) (.leaf a4)))) (.node 3 (.node 1 (.leaf a5) (.node 1 (.leaf a6) (.leaf a7))) (.node 1 (.leaf a8) (.node 1 (.leaf a9) (.leaf a10))))) (.node 6 (.node 3 (.node 1 (.leaf a11) (.node 1 (.leaf a12) (.leaf a13))) (.node 1 (.leaf a14) (.node 1 (.leaf a15) (.leaf a16)))) (.node 3 (.node 1 (.leaf a17) (.node 1 (.leaf a18) (.leaf a19))) (.node 1 (.leaf a20) (.node 1 (.leaf a21) (.leaf a22)))))) (.node 11 (.node 5 (.node 2 (.node 1 (.leaf a23) (.leaf a24)) (.node 1 (.leaf a25) (.node 1 (.leaf a26) (.leaf a27)))) (.node 3 (.node 1 (.leaf a28) (.node 1 (.leaf a29) (.leaf a30))) (.node 1 (.leaf a31) (.node 1 (.leaf a32) (.leaf a33))))) (.node 6 (.node 3 (.node 1 (.leaf a34) (.node 1 (.leaf a35) (.leaf a36))) (.node 1 (.leaf a37) (.node 1 (.leaf a38) (.leaf a39)))) (.node 3 (.node 1 (.leaf a40) (.node 1 (.leaf a41) (.leaf a42))) (.node 1 (.leaf a43) (.node 1 (.leaf a44) (.leaf a45)))))))
def ids : List Nat := [42, 41, 29, 44, 46, 30, 40, 39, 27, 67, 60, 43, 28, 57, 33, 34, 35, 36, 25, 51, 38, 12, 20, 10, 26, 17, 14, 9, 16, 19, 24, 32, 47, 37, 53, 54, 63, 77, 62, 80, 23, 21, 22, 61, 68, 7, 45, 58, 52, 56, 55, 48, 50, 49, 76, 70, 71, 69, 73, 75, 74, 72]
def tys : List Nat := [9]
noncomputable def cx : Cx := ⟨Go.Proofs.Try.prog, fun f => ids[f]?, fun t => tys[t]?, nodup_inj rfl⟩
theorem checked : chkSome cx (pureF fun f => afs[f]?) ids afs = true := by kernel_rfl
theorem known : Known cx (fun f => afs[f]?) := known_some rfl checked
theorem look (f : Nat) : ft.look f = afs[f]? := FT.look_eq ft rfl f
end Ey.Dn
