/- The walks of PileOf and CardPlace, and of the laws on them. -/
import Derived.Test.YtebgkdgcjpjigaaDoorPile2
namespace Go.Proofs.YtebgkdgcjpjigaaDoor
set_option linter.unusedSimpArgs false
set_option linter.unusedVariables false
set_option maxHeartbeats 1000000
set_option maxRecDepth 100000
open Go.RowKit

theorem Row.nil (w : World) (lo hi : Nat) : Row lo hi w none 0 [] := ⟨own_nil w lo _ _, fun a e => by cases e⟩
theorem Row.empty (w : World) : Row w.heap.size (w.heap.size + 1) (w.alloc (.cells #[] 48)) (some ⟨w.heap.size, 0, none⟩) 0 [] :=
  ⟨own_empty w _ _, fun a e => by simp at e; subst e; exact Nat.lt_succ_self _⟩

def pileOfR (s : Int) : List C4 := if isSeed s then pileR s else []

theorem pileOfR_len (s : Int) : (pileOfR s).length ≤ 81 := by
  unfold pileOfR; split
  · rw [pileR_length]; omega
  · simp

end Go.Proofs.YtebgkdgcjpjigaaDoor
