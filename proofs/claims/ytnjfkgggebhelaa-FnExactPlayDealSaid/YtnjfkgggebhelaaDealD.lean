/- The walks of the laws on IsDeal, IsStuck, IsOverDeal, DealLines. -/
import Derived.Test.YtnjfkgggebhelaaDealC
import Derived.Deep.RegionHeld3
namespace Go.Proofs.Ytnjfkgggebhelaa
set_option linter.unusedSimpArgs false
set_option linter.unusedVariables false
set_option maxHeartbeats 1000000
set_option maxRecDepth 100000
open Go.RowKit

theorem alloc_sz_of {w w' : World} {o : Obj} (hx : Ex (w.alloc o) w') : (w.alloc o).heap.size = w.heap.size + 1 := by simp
theorem drew_sz (w : World) : w.drew.heap.size = w.heap.size := rfl

end Go.Proofs.Ytnjfkgggebhelaa
