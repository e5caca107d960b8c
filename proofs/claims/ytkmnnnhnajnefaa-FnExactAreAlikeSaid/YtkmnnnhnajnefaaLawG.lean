/- The walks of LinesThrough, SumCards. -/
import Derived.Test.YtkmnnnhnajnefaaPairs
import Derived.Test.YtkmnnnhnajnefaaLawH
import Derived.Deep.RegionHeld3
namespace Go.Proofs.Ytkmnnnhnajnefaa
set_option linter.unusedSimpArgs false
set_option linter.unusedVariables false
set_option maxHeartbeats 1000000
set_option maxRecDepth 100000
open Go.RowKit

theorem handB_ok {cs : List C4} (h : handB cs = true) : (∀ z ∈ cs, Ok z) ∧ cs.length ≤ 27 := by
  have := (handB_iff cs).1 h
  exact ⟨this.1.ok, this.2⟩

def ltB (cs : List C4) (c : C4) : Bool := handB cs && ok c
def ltR (cs : List C4) (c : C4) : Int := if ltB cs c then through cs c else 0

end Go.Proofs.Ytkmnnnhnajnefaa
