/- Deals as arguments of the laws: szDeal, toDeal. -/
import Derived.Test.YtnjfkgggebhelaaDealL
import Derived.Test.YtnjfkgggebhelaaDealP
namespace Go.Proofs.Ytnjfkgggebhelaa
set_option linter.unusedSimpArgs false
set_option linter.unusedVariables false
set_option maxHeartbeats 1000000
set_option maxRecDepth 100000
open Go.RowKit


theorem ext_high {u u' : World} (x : Ext) (h : u'.heap.size = u.heap.size) (k : Nat) (hk : u.heap.size ≤ k) : (ext u' x).heap[k]? = (ext u x).heap[k]? := by
  simp only [ext]
  rw [Array.getElem?_append_right (by omega), Array.getElem?_append_right (by omega), h]
theorem Row.same {lo hi cap : Nat} {w w' : World} {p : Option Addr} {cs : List C4} (h : Row lo hi w p cap cs) (k : ∀ g, lo ≤ g → w'.heap[g]? = w.heap[g]?) : Row lo hi w' p cap cs := by
  refine ⟨⟨h.own.1, ?_⟩, h.top⟩
  rcases h.own.2 with h1 | ⟨g, cap', cur, h1, h2, h3, h4⟩
  · exact Or.inl h1
  · exact Or.inr ⟨g, cap', cur, h1, h2, by rw [k g h2]; exact h3, h4⟩
theorem Row.high {lo hi cap : Nat} {u u' : World} {x : Ext} {p : Option Addr} {cs : List C4} (h : Row lo hi (ext u x) p cap cs) (hs : u'.heap.size = u.heap.size) (hl : u.heap.size ≤ lo) : Row lo hi (ext u' x) p cap cs :=
  h.same fun g hg => ext_high x hs g (by omega)
theorem Row.lens {lo hi cap : Nat} {w : World} {p : Option Addr} {cs : List C4} (h : Row lo hi w p cap cs) : cs.length ≤ cap ∧ cap ≤ maxLen := by
  rcases h.blk with ⟨rfl, rfl, rfl⟩ | ⟨g, cur, rfl, _, _, _, _, h1, h2, _⟩
  · simp
  · exact ⟨h1, h2⟩

end Go.Proofs.Ytnjfkgggebhelaa
