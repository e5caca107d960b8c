/- The walks of LinesIn, IsCap, BlockedCards, FreeCards, IsFullCap. -/
import Derived.Test.YtkmnnnhnajnefaaLines
import Derived.Test.YtkmnnnhnajnefaaAnch
namespace Go.Proofs.Ytkmnnnhnajnefaa
set_option linter.unusedSimpArgs false
set_option linter.unusedVariables false
set_option maxHeartbeats 1000000
set_option maxRecDepth 100000
open Go.RowKit

theorem int_eq0 (n : Nat) : ((n : Int) == 0) = decide (n = 0) := by rw [Bool.eq_iff_iff]; simp
def liR (cs : List C4) : List (Nat × Nat × Nat) := if handB cs then linesR cs else []
theorem liR_len (cs : List C4) : (liR cs).length ≤ 1000000 := by
  unfold liR; split
  · rename_i h; exact lines_small (by have := (handB_ok h).2; omega)
  · simp

def icB (cs : List C4) : Bool := handB cs && capB cs

def bcR (cs : List C4) : List Int := if handB cs then sel (outF cs true) 81 else []
theorem bcR_len (cs : List C4) : (bcR cs).length ≤ 81 := by
  unfold bcR; split
  · exact sel_len _ _
  · simp

def fcR (cs : List C4) : List Int := if handB cs then sel (outF cs false) 81 else []
theorem fcR_len (cs : List C4) : (fcR cs).length ≤ 81 := by
  unfold fcR; split
  · exact sel_len _ _
  · simp

def fullB (cs : List C4) : Bool := handB cs && (capB cs && decide ((sel (outF cs false) 81).length = 0))

end Go.Proofs.Ytkmnnnhnajnefaa
