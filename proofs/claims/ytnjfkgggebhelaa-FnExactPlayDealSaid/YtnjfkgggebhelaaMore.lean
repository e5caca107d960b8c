/- The walks of LayMore, and of the law on it. -/
import Derived.Test.YtnjfkgggebhelaaLayI
import Derived.Test.YtnjfkgggebhelaaDealD
namespace Go.Proofs.Ytnjfkgggebhelaa
set_option linter.unusedSimpArgs false
set_option linter.unusedVariables false
set_option maxHeartbeats 1000000
set_option maxRecDepth 100000
open Go.RowKit

theorem Src.sl {w : World} {p : Option Addr} {n cap : Nat} {cs : List C4} (h : Src w (.slice p n cap) cs) : Sl w p cs := by
  rcases h with ⟨h1, rfl⟩ | ⟨b, off, c, h1, h2⟩
  · exact fun i hi => by simp at hi
  · simp at h1
    rw [h1.1]; exact h2
theorem Row.src {lo hi cap : Nat} {w : World} {p : Option Addr} {cs : List C4} (h : Row lo hi w p cap cs) : Src w (.slice p cs.length cap) cs := by
  rcases h.blk with ⟨rfl, rfl, rfl⟩ | ⟨g, cur, rfl, _⟩
  · exact Or.inl ⟨rfl, rfl⟩
  · exact Or.inr ⟨g, 0, cap, rfl, h.sl⟩
def lmB (s n : Int) (cs : List C4) : Bool := dealB s n cs && (capB cs && !decide (n = 81))
def lmS (s n : Int) (cs : List C4) : Int := if lmB s n cs then s else 0
def lmN (s n : Int) (cs : List C4) : Int := if lmB s n cs then layN n 3 else 0
def lmL (s n : Int) (cs : List C4) : List C4 := if lmB s n cs then layL s n cs 3 else []
theorem lmL_len (s n : Int) (cs : List C4) : (lmL s n cs).length ≤ 1000 := by
  unfold lmL; split
  · rename_i h
    simp only [lmB, Bool.and_eq_true] at h
    have hd := (dealB_ok h.1).lay (show (0 : Int) ≤ 3 by omega)
    have := hd.len
    have := hd.n1
    omega
  · simp

end Go.Proofs.Ytnjfkgggebhelaa
