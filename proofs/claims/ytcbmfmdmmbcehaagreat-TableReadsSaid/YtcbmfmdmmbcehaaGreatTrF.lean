/- What the row says of the program, apart: run by the kernel. Printed by fin.py. -/
import Derived.Test.YtcbmfmdmmbcehaaGreatRows
import Derived.ProofKit
import Derived.OpenShut
set_option maxRecDepth 1000000
namespace Go.Proofs.YtcbmfmdmmbcehaaGreat.tableReads
open Go Go.ChangeShapes Go.WideShapes Go.ChangeAt Go.RowKit
theorem facts : joinedFacts Tryz.prog 5 Tryz.f5 Rows.tableReadsSpec Rows.tableReadsRow = true := by kernel_rfl
end Go.Proofs.YtcbmfmdmmbcehaaGreat.tableReads
