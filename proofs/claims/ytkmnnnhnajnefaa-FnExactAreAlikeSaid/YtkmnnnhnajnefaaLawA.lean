/- The walks of the laws on seeds, single cards and checksums. -/
import Derived.Test.YtkmnnnhnajnefaaStrA
namespace Go.Proofs.Ytkmnnnhnajnefaa
set_option linter.unusedSimpArgs false
set_option linter.unusedVariables false
set_option maxHeartbeats 1000000
open Go.RowKit

theorem ceq_self (a : C4) : ceq a a = true := (ceq_iff a a).2 rfl

end Go.Proofs.Ytkmnnnhnajnefaa
