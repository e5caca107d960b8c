/- The walks of NewDeal, of the laws' helpers on deals, and of the law on NewDeal. -/
import Derived.Test.YtdnnjhgkcchcaaaOwn
import Derived.Test.YtdnnjhgkcchcaaaPileL
namespace Go.Proofs.Ytdnnjhgkcchcaaa
set_option linter.unusedSimpArgs false
set_option linter.unusedVariables false
set_option maxHeartbeats 1000000
set_option maxRecDepth 100000
open Go.RowKit

theorem Sl.take {w : World} {p : Option Addr} {cs : List C4} (h : Sl w p cs) (n : Nat) : Sl w p (cs.take n) := fun i hi => by
  have hi' : i < cs.length := by simp at hi; omega
  have := h i hi'
  rw [List.getElem_take]
  exact this

def ndS (s : Int) : Int := if isSeed s then s else 0
def ndN (s : Int) : Int := if isSeed s then 12 else 0
def ndL (s : Int) : List C4 := if isSeed s then (pileR s).take 12 else []
theorem take12 (s : Int) : ((pileR s).take 12).length = 12 := by rw [List.length_take, pileR_length]; rfl
theorem ndL_len (s : Int) : (ndL s).length ≤ 12 := by
  unfold ndL; split
  · rw [take12]; omega
  · simp

theorem Row.keeps {lo hi cap b : Nat} {w w' : World} {p : Option Addr} {cs : List C4} (h : Row lo hi w p cap cs) (k : Keeps b w w') (hb : b < lo) : Row lo hi w' p cap cs := by
  refine ⟨⟨h.own.1, ?_⟩, h.top⟩
  rcases h.own.2 with h1 | ⟨g, cap', cur, h1, h2, h3, h4⟩
  · exact Or.inl h1
  · have hw : g < w.heap.size := (Array.getElem?_eq_some_iff.1 h3).1
    exact Or.inr ⟨g, cap', cur, h1, h2, by rw [k.block g hw (by omega)]; exact h3, h4⟩
theorem ext_alloc_keeps (w : World) (o o' : Obj) (x : Ext) : Keeps w.heap.size (ext (w.alloc o) x) (ext (w.alloc o') x) := by
  refine ⟨rfl, rfl, rfl, by simp [ext_size], fun k hk hne => ?_⟩
  simp only [ext, World.alloc, Array.getElem?_append, Array.size_push, Array.getElem?_push]
  split
  all_goals first | rfl | rw [if_neg hne, if_neg hne]

end Go.Proofs.Ytdnnjhgkcchcaaa
