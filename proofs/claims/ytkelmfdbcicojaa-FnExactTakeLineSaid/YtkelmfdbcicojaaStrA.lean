/- The walks of the functions on seeds, the order of strings and checksums. -/
import Derived.Test.YtkelmfdbcicojaaCard3
namespace Go.Proofs.Ytkelmfdbcicojaa
set_option linter.unusedSimpArgs false
set_option linter.unusedVariables false
set_option maxHeartbeats 1000000
open Go.RowKit

theorem l4Seed_c (s : Int) (w : World) : Calls Try.prog 105 #[.int .i64 s] w fun e w' => e = .returned (.bool (isSeed s)) ∧ Ex w w' := by
  go_enter Try.func105, Try.ntmps105
  go_wp2_with (go_at_call 83; refine (l1In_c _ _ _ _).mono ?_; rintro e w' ⟨rfl, x, rfl⟩)
  go_ret
  exact ⟨rfl, by repeat (first | exact Ex.refl _ | refine Ex.ext ?_ _ | refine Ex.alloc ?_ _ | refine Ex.drew ?_)⟩
theorem isSeed_c (s : Int) (w : World) : Calls Try.prog 80 #[.int .i64 s] w fun e w' => e = .returned (.bool (isSeed s)) ∧ Ex w w' := by
  go_enter Try.func80, Try.ntmps80
  go_wp2_with (go_at_call 86; refine (within_c _ _ _ _).mono ?_; rintro e w' ⟨rfl, x, rfl⟩)
  go_ret
  exact ⟨rfl, by repeat (first | exact Ex.refl _ | refine Ex.ext ?_ _ | refine Ex.alloc ?_ _ | refine Ex.drew ?_)⟩
theorem isSeed_bd {s : Int} (h : isSeed s = true) : 0 ≤ s ∧ s ≤ 65535 := (inR_iff _ _ _).1 h
theorem behind_bd (s : Int) : 0 ≤ behind s ∧ behind s ≤ 65535 := by unfold behind; omega
theorem l4Behind_c (s : Int) (h0 : 0 ≤ s) (h1 : s ≤ 65535) (w : World) : Calls Try.prog 135 #[.int .i64 s] w fun e w' => e = .returned (.int .i64 (behind s)) ∧ Ex w w' := by
  go_enter Try.func135, Try.ntmps135
  go_wp2
  go_ret
  exact ⟨rfl, by repeat (first | exact Ex.refl _ | refine Ex.ext ?_ _ | refine Ex.alloc ?_ _ | refine Ex.drew ?_)⟩
theorem behind_c (s : Int) (h0 : 0 ≤ s) (h1 : s ≤ 65535) (w : World) : Calls Try.prog 138 #[.int .i64 s] w fun e w' => e = .returned (.int .i64 (behind s)) ∧ Ex w w' := by
  go_enter Try.func138, Try.ntmps138
  go_wp2
  go_ret
  exact ⟨rfl, by repeat (first | exact Ex.refl _ | refine Ex.ext ?_ _ | refine Ex.alloc ?_ _ | refine Ex.drew ?_)⟩
theorem ck_bd (l : List UInt8) : 0 ≤ ck l ∧ ck l ≤ 999978 := by
  rcases List.eq_nil_or_concat l with rfl | ⟨l, c, rfl⟩
  · simp [ck]
  · rw [List.concat_eq_append, ck_snoc]; omega
theorem take_snoc (s : ByteArray) (k : Nat) (h : k < s.size) : s.data.toList.take (k + 1) = s.data.toList.take k ++ [s[k]] := by
  rw [List.take_succ_eq_append_getElem (by simpa using h)]; rfl
theorem take_all (s : ByteArray) : s.data.toList.take s.size = s.data.toList := by
  rw [List.take_of_length_le (by simp)]

def ckOk (s : ByteArray) : Bool := decide (s.size ≤ 4000)
def ckR (s : ByteArray) : Int := if ckOk s then ck s.data.toList else 0
end Go.Proofs.Ytkelmfdbcicojaa
