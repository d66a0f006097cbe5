/- What the row says of the program, put together of its limbs. Printed by facts.py. -/
import Derived.Test.YtodehankgheooaaDaAFx0
set_option maxRecDepth 1000000
namespace Go.Proofs.Ytodehankgheooaa.dfaAny
open Go Go.ChangeShapes Go.WideShapes Go.ChangeAt Go.RowKit
theorem both {a b : Bool} (h : a = true) (k : b = true) : (a && b) = true := by rw [h, k]; rfl
theorem facts : joinedFacts Try.prog 3 Try.f3 Rows.dfaAnySpec Rows.dfaAnyRow = true := by
  unfold joinedFacts
  exact (both (both (both (both (both (both (both (both (both (both (both (both (both (both (both (both (both (both (both (both (both (both (both (both (both (both (both (both (both (both (both limb0 limb1) limb2) limb3) limb4) limb5) limb6) limb7) limb8) limb9) limb10) limb11) limb12) limb13) limb14) limb15) limb16) limb17) limb18) limb19) limb20) limb21) limb22) limb23) limb24) limb25) limb26) limb27) limb28) limb29) limb30) limb31)
end Go.Proofs.Ytodehankgheooaa.dfaAny
