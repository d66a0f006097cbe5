/- What the row says of the program, apart: run by the kernel. Printed by fin.py. -/
import Derived.Test.YtcbmfmdmmbcehaaGreatRows
import Derived.ProofKit
import Derived.OpenShut
set_option maxRecDepth 1000000
namespace Go.Proofs.YtcbmfmdmmbcehaaGreat.tableTwice
open Go Go.ChangeShapes Go.WideShapes Go.ChangeAt Go.RowKit
theorem facts : joinedFacts Tryz.prog 4 Tryz.f4 Rows.tableTwiceSpec Rows.tableTwiceRow = true := by kernel_rfl
end Go.Proofs.YtcbmfmdmmbcehaaGreat.tableTwice
