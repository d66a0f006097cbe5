/- What the row says of the program, apart: run by the kernel. Printed by fin.py. -/
import Derived.Test.YtijaafflmbjdgaaGreatDoorRows
import Derived.ProofKit
import Derived.OpenShut
set_option maxRecDepth 1000000
namespace Go.Proofs.YtijaafflmbjdgaaGreatDoor.gtextOrder
open Go Go.ChangeShapes Go.WideShapes Go.ChangeAt Go.RowKit
theorem facts : joinedFacts Tryz.prog 4 Tryz.f4 Rows.gtextOrderSpec Rows.gtextOrderRow = true := by kernel_rfl
end Go.Proofs.YtijaafflmbjdgaaGreatDoor.gtextOrder
