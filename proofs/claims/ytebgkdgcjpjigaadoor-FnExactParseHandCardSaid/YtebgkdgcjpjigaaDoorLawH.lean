/- Helpers for the walks of the laws on slices of cards. -/
import Derived.Test.YtebgkdgcjpjigaaDoorHand2
import Derived.Test.YtebgkdgcjpjigaaDoorSliceW
import Derived.Test.YtebgkdgcjpjigaaDoorRowV
import Derived.Test.YtebgkdgcjpjigaaDoorLawA
namespace Go.Proofs.YtebgkdgcjpjigaaDoor
set_option linter.unusedSimpArgs false
set_option linter.unusedVariables false
set_option maxHeartbeats 1000000
set_option maxRecDepth 100000
open Go.RowKit

theorem below_ex {w0 w w' : World} (h : Below w0.heap.size w0 w) (k : Ex w w') : Below w0.heap.size w0 w' :=
  h.trans ⟨k.below.os, k.below.tape, k.below.output, k.below.size, fun i hi => k.below.block i (Nat.lt_of_lt_of_le hi h.size)⟩
theorem below_apart {lo hi : Nat} {w0 w w' : World} (h : Below w0.heap.size w0 w) (k : Apart lo hi w w') (hl : w0.heap.size ≤ lo) : Below w0.heap.size w0 w' :=
  h.trans (k.below hl h.size)

theorem Box4.new (w : World) (x y z t : Int) : Box4 (w.alloc (.cells #[.int .i64 x, .int .i64 y, .int .i64 z, .int .i64 t] 48)) w.heap.size x y z t := ⟨(by first | (simp; done) | (simp [ext_size]; omega)), by go_simp, by go_simp, by go_simp, by go_simp⟩

theorem szBig {n : Nat} (h : ¬ n ≤ 1048576) : szR n 1048576 = -1 := by unfold szR; rw [if_pos (by omega)]
theorem szSmall {n : Nat} (h : n ≤ 1048576) : szR n 1048576 = 1048576 - n := by unfold szR; rw [if_neg (by omega)]


end Go.Proofs.YtebgkdgcjpjigaaDoor
