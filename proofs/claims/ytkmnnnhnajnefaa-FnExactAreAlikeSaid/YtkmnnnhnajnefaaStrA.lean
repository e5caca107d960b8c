/- The walks of the functions on seeds, the order of strings and checksums. -/
import Derived.Test.YtkmnnnhnajnefaaCard3
namespace Go.Proofs.Ytkmnnnhnajnefaa
set_option linter.unusedSimpArgs false
set_option linter.unusedVariables false
set_option maxHeartbeats 1000000
open Go.RowKit

theorem isSeed_bd {s : Int} (h : isSeed s = true) : 0 ≤ s ∧ s ≤ 65535 := (inR_iff _ _ _).1 h
theorem behind_bd (s : Int) : 0 ≤ behind s ∧ behind s ≤ 65535 := by unfold behind; omega
theorem ck_bd (l : List UInt8) : 0 ≤ ck l ∧ ck l ≤ 999978 := by
  rcases List.eq_nil_or_concat l with rfl | ⟨l, c, rfl⟩
  · simp [ck]
  · rw [List.concat_eq_append, ck_snoc]; omega
theorem take_snoc (s : ByteArray) (k : Nat) (h : k < s.size) : s.data.toList.take (k + 1) = s.data.toList.take k ++ [s[k]] := by
  rw [List.take_succ_eq_append_getElem (by simpa using h)]; rfl
theorem take_all (s : ByteArray) : s.data.toList.take s.size = s.data.toList := by
  rw [List.take_of_length_le (by simp)]

def ckOk (s : ByteArray) : Bool := decide (s.size ≤ 4000)
def ckR (s : ByteArray) : Int := if ckOk s then ck s.data.toList else 0
end Go.Proofs.Ytkmnnnhnajnefaa
