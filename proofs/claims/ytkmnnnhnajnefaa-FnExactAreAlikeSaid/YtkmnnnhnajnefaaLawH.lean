/- Helpers for the walks of the laws on slices of cards. -/
import Derived.Test.YtkmnnnhnajnefaaHand2
import Derived.Test.YtkmnnnhnajnefaaSliceW
import Derived.Test.YtkmnnnhnajnefaaRowV
import Derived.Test.YtkmnnnhnajnefaaLawA
namespace Go.Proofs.Ytkmnnnhnajnefaa
set_option linter.unusedSimpArgs false
set_option linter.unusedVariables false
set_option maxHeartbeats 1000000
set_option maxRecDepth 100000
open Go.RowKit

theorem below_ex {w0 w w' : World} (h : Below w0.heap.size w0 w) (k : Ex w w') : Below w0.heap.size w0 w' :=
  h.trans ⟨k.below.os, k.below.tape, k.below.output, k.below.size, fun i hi => k.below.block i (Nat.lt_of_lt_of_le hi h.size)⟩
theorem below_apart {lo hi : Nat} {w0 w w' : World} (h : Below w0.heap.size w0 w) (k : Apart lo hi w w') (hl : w0.heap.size ≤ lo) : Below w0.heap.size w0 w' :=
  h.trans (k.below hl h.size)

theorem toA4S_o (cs : List C4) (p : Option Addr) (cap : Nat) (w : World) (hn : cs.length ≤ 2000000) (hz : Sl w p cs) :
    Calls Try.prog 12 #[.slice p cs.length cap] w fun e w' => ∃ g, e = .returned (.slice (some ⟨g, 0, none⟩) cs.length cs.length) ∧ Ex w w' ∧ Row w.heap.size w'.heap.size w' (some ⟨g, 0, none⟩) cs.length cs := by
  refine (toA4S_c cs p cap w hn hz).mono ?_
  rintro e w' ⟨rfl, x, rfl⟩
  refine ⟨_, rfl, by repeat (first | exact Ex.refl _ | refine Ex.ext ?_ _ | refine Ex.alloc ?_ _ | refine Ex.drew ?_), ?_⟩
  have hh : (ext (w.alloc (.cells (cellsOf cs).toArray 36)) x).heap[w.heap.size]? = some (.cells (cellsOf cs).toArray 36 (0, 0)) := by
    rw [ext_heap _ _ (by simp)]
    show (w.heap.push _)[w.heap.size]? = _
    exact Array.getElem?_push_size
  refine ⟨⟨cellsOf_length cs, Or.inr ⟨w.heap.size, cs.length, (cellsOf cs).toArray, rfl, Nat.le_refl _, hh, Nat.le_refl _, by unfold maxLen; omega, by simp [cellsOf_length], ?_⟩⟩, ?_⟩
  · show (cellsOf cs).take _ = _
    rw [List.take_of_length_le (by rw [cellsOf_length]; omega)]
  · intro a ha
    simp at ha
    subst ha
    rw [ext_size]
    simp
    omega

theorem Box4.new (w : World) (x y z t : Int) : Box4 (w.alloc (.cells #[.int .i64 x, .int .i64 y, .int .i64 z, .int .i64 t] 36)) w.heap.size x y z t := ⟨(by first | (simp; done) | (simp [ext_size]; omega)), by go_simp, by go_simp, by go_simp, by go_simp⟩

theorem szBig {n : Nat} (h : ¬ n ≤ 1048576) : szR n 1048576 = -1 := by unfold szR; rw [if_pos (by omega)]
theorem szSmall {n : Nat} (h : n ≤ 1048576) : szR n 1048576 = 1048576 - n := by unfold szR; rw [if_neg (by omega)]


end Go.Proofs.Ytkmnnnhnajnefaa
