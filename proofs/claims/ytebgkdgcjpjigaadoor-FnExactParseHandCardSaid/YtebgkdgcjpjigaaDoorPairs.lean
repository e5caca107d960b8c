/- The walks of l2Through and pairsFor. -/
import Derived.Test.YtebgkdgcjpjigaaDoorHand2
import Derived.Test.YtebgkdgcjpjigaaDoorPairP
import Derived.Test.YtebgkdgcjpjigaaDoorRowV
namespace Go.Proofs.YtebgkdgcjpjigaaDoor
set_option linter.unusedSimpArgs false
set_option linter.unusedVariables false
set_option maxHeartbeats 1000000
set_option maxRecDepth 100000
open Go.RowKit

def pairVals : List (Nat × Nat) → List Value
  | [] => []
  | (i, j) :: r => .int .i64 i :: .int .i64 j :: pairVals r
theorem pairVals_append (P R : List (Nat × Nat)) : pairVals (P ++ R) = pairVals P ++ pairVals R := by
  induction P with
  | nil => rfl
  | cons q P ih => obtain ⟨i, j⟩ := q; simp [pairVals, ih]
theorem pairVals_length (P : List (Nat × Nat)) : (pairVals P).length = P.length * 2 := by
  induction P with
  | nil => rfl
  | cons q P ih => obtain ⟨i, j⟩ := q; simp [pairVals, ih]; omega

theorem pairCase {z y c : C4} (hz : Ok z) (hy : Ok y) :
    (ceq z c = true ∧ lineB z y c = false) ∨ (ceq z c = false ∧ ceq y c = true ∧ lineB z y c = false) ∨ (ceq z c = false ∧ ceq y c = false ∧ ceq (third z y) c = false ∧ lineB z y c = false) ∨
    (ceq z c = false ∧ ceq y c = false ∧ ceq (third z y) c = true ∧ lineB z y c = true) := by
  have h := lineB_alt c hz hy
  cases h1 : ceq z c <;> cases h2 : ceq y c <;> cases h3 : ceq (third z y) c <;> simp [h1, h2, h3] at h <;> simp [h]

end Go.Proofs.YtebgkdgcjpjigaaDoor
