/- The walk of the pile of the program. -/
import Derived.Test.YtkmnnnhnajnefaaPile
namespace Go.Proofs.Ytkmnnnhnajnefaa
set_option linter.unusedSimpArgs false
set_option linter.unusedVariables false
set_option maxHeartbeats 1000000
set_option maxRecDepth 100000
open Go.RowKit

end Go.Proofs.Ytkmnnnhnajnefaa
