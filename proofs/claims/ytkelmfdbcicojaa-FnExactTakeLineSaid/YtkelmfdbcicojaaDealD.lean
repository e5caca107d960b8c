/- The walks of the laws on IsDeal, IsStuck, IsOverDeal, DealLines. -/
import Derived.Test.YtkelmfdbcicojaaDealC
import Derived.Deep.RegionHeld3
namespace Go.Proofs.Ytkelmfdbcicojaa
set_option linter.unusedSimpArgs false
set_option linter.unusedVariables false
set_option maxHeartbeats 1000000
set_option maxRecDepth 100000
open Go.RowKit

theorem BoxD.newL (w : World) (s n : Int) (p : Option Addr) (l cap : Nat) : BoxD (w.alloc (.cells #[.int .i64 s, .int .i64 n, .slice p l cap] 24)) w.heap.size s n p l cap := ⟨(by first | (simp; done) | (simp [ext_size]; omega)), by go_simp, by go_simp, by go_simp⟩
theorem alloc_sz_of {w w' : World} {o : Obj} (hx : Ex (w.alloc o) w') : (w.alloc o).heap.size = w.heap.size + 1 := by simp
theorem drew_sz (w : World) : w.drew.heap.size = w.heap.size := rfl

end Go.Proofs.Ytkelmfdbcicojaa
