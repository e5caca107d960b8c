/- The walks of DealStep, and of the law on it. -/
import Derived.Test.YtnjfkgggebhelaaStep
import Derived.Test.YtnjfkgggebhelaaDealD
namespace Go.Proofs.Ytnjfkgggebhelaa
set_option linter.unusedSimpArgs false
set_option linter.unusedVariables false
set_option maxHeartbeats 1000000
set_option maxRecDepth 100000
open Go.RowKit

def dsB (s n : Int) (cs : List C4) : Bool := dealB s n cs && !overB n cs
def dsS (s n : Int) (cs : List C4) : Int := if dsB s n cs then s else 0
def dsN (s n : Int) (cs : List C4) : Int := if dsB s n cs then stepN n cs else 0
def dsL (s n : Int) (cs : List C4) : List C4 := if dsB s n cs then stepL s n cs else []
theorem dsL_len (s n : Int) (cs : List C4) : (dsL s n cs).length ≤ 1000 := by
  unfold dsL; split
  · rename_i h
    simp only [dsB, Bool.and_eq_true] at h
    have hd := (dealB_ok h.1).step
    have := hd.len
    have := hd.n1
    omega
  · simp

end Go.Proofs.Ytnjfkgggebhelaa
