/- Nineteen counts: how their memory reads. -/
import Derived.Test.YtkmnnnhnajnefaaM16
namespace Go.Proofs.Ytkmnnnhnajnefaa
set_option linter.unusedSimpArgs false
set_option linter.unusedVariables false
set_option maxHeartbeats 1000000
set_option maxRecDepth 100000
open Go.RowKit

/-- The cells of nineteen counts. -/
def ncells (f : Nat → Int) : Array Value := #[.int .i64 (f 0), .int .i64 (f 1), .int .i64 (f 2), .int .i64 (f 3), .int .i64 (f 4), .int .i64 (f 5), .int .i64 (f 6), .int .i64 (f 7), .int .i64 (f 8), .int .i64 (f 9), .int .i64 (f 10), .int .i64 (f 11), .int .i64 (f 12), .int .i64 (f 13), .int .i64 (f 14), .int .i64 (f 15), .int .i64 (f 16), .int .i64 (f 17), .int .i64 (f 18)]
theorem nat19 {j : Nat} (h : j < 19) : j = 0 ∨ j = 1 ∨ j = 2 ∨ j = 3 ∨ j = 4 ∨ j = 5 ∨ j = 6 ∨ j = 7 ∨ j = 8 ∨ j = 9 ∨ j = 10 ∨ j = 11 ∨ j = 12 ∨ j = 13 ∨ j = 14 ∨ j = 15 ∨ j = 16 ∨ j = 17 ∨ j = 18 := by omega
theorem ncells_size (f : Nat → Int) : (ncells f).size = 19 := rfl
@[go_sem] theorem ncells_get (f : Nat → Int) (j : Nat) (h : j < 19) : (ncells f)[j]? = some (.int .i64 (f j)) := by
  rcases nat19 h with rfl | rfl | rfl | rfl | rfl | rfl | rfl | rfl | rfl | rfl | rfl | rfl | rfl | rfl | rfl | rfl | rfl | rfl | rfl <;> rfl
@[go_sem] theorem ncells_set (f : Nat → Int) (j : Nat) (x : Int) (h : j < 19) : (ncells f).setIfInBounds j (.int .i64 x) = ncells (upd f j x) := by
  rcases nat19 h with rfl | rfl | rfl | rfl | rfl | rfl | rfl | rfl | rfl | rfl | rfl | rfl | rfl | rfl | rfl | rfl | rfl | rfl | rfl <;> rfl
theorem ncells_eq {f g : Nat → Int} (h : ∀ j, j < 19 → f j = g j) : ncells f = ncells g := by
  unfold ncells
  rw [h 0 (by omega), h 1 (by omega), h 2 (by omega), h 3 (by omega), h 4 (by omega), h 5 (by omega), h 6 (by omega), h 7 (by omega), h 8 (by omega), h 9 (by omega), h 10 (by omega), h 11 (by omega), h 12 (by omega), h 13 (by omega), h 14 (by omega), h 15 (by omega), h 16 (by omega), h 17 (by omega), h 18 (by omega)]
@[go_sem] theorem ncells_zero : (#[.int .i64 0, .int .i64 0, .int .i64 0, .int .i64 0, .int .i64 0, .int .i64 0, .int .i64 0, .int .i64 0, .int .i64 0, .int .i64 0, .int .i64 0, .int .i64 0, .int .i64 0, .int .i64 0, .int .i64 0, .int .i64 0, .int .i64 0, .int .i64 0, .int .i64 0] : Array Value) = ncells mzero := by unfold ncells; rfl
@[go_sem] theorem ncells_fold (f : Nat → Int) : (#[.int .i64 (f 0), .int .i64 (f 1), .int .i64 (f 2), .int .i64 (f 3), .int .i64 (f 4), .int .i64 (f 5), .int .i64 (f 6), .int .i64 (f 7), .int .i64 (f 8), .int .i64 (f 9), .int .i64 (f 10), .int .i64 (f 11), .int .i64 (f 12), .int .i64 (f 13), .int .i64 (f 14), .int .i64 (f 15), .int .i64 (f 16), .int .i64 (f 17), .int .i64 (f 18)] : Array Value) = ncells f := by unfold ncells; rfl
@[go_sem] theorem ncells_size' (f : Nat → Int) : (ncells f).size = 19 := rfl
theorem ncells_toList (f : Nat → Int) : (ncells f).toList = [.int .i64 (f 0), .int .i64 (f 1), .int .i64 (f 2), .int .i64 (f 3), .int .i64 (f 4), .int .i64 (f 5), .int .i64 (f 6), .int .i64 (f 7), .int .i64 (f 8), .int .i64 (f 9), .int .i64 (f 10), .int .i64 (f 11), .int .i64 (f 12), .int .i64 (f 13), .int .i64 (f 14), .int .i64 (f 15), .int .i64 (f 16), .int .i64 (f 17), .int .i64 (f 18)] := rfl
@[go_sem] theorem ncells_fin (f g : Nat → Int) : ncells (upd (upd (upd (upd (upd (upd (upd (upd (upd (upd (upd (upd (upd (upd (upd (upd (upd (upd (upd g 0 (f 0)) 1 (f 1)) 2 (f 2)) 3 (f 3)) 4 (f 4)) 5 (f 5)) 6 (f 6)) 7 (f 7)) 8 (f 8)) 9 (f 9)) 10 (f 10)) 11 (f 11)) 12 (f 12)) 13 (f 13)) 14 (f 14)) 15 (f 15)) 16 (f 16)) 17 (f 17)) 18 (f 18)) = ncells f := by unfold ncells; rfl
theorem run_store_n {P : Program} (w : World) (b : Nat) (F : Nat → Int) (h : isRow w b 19 = true) : (storeCells ⟨b, 0, none⟩ (ncells F).toList).run P w = .ok () (w.setRow b (ncells F)) := by
  unfold isRow at h
  split at h
  · rename_i A T hb
    rw [run_storeCells_at (P := P) b 0 T (ncells F).toList 0 A w hb (by have := eq_of_beq h; simp [ncells] at this ⊢; omega) (by intro v hv; simp [ncells] at hv; rcases hv with rfl | rfl | rfl | rfl | rfl | rfl | rfl | rfl | rfl | rfl | rfl | rfl | rfl | rfl | rfl | rfl | rfl | rfl | rfl <;> rfl)]
    congr 2
    have hs := eq_of_beq h
    apply Array.ext'
    simp [List.drop_of_length_le, hs, ncells]
  · simp at h
attribute [go_sem] run_store_n
theorem eqA19_same (f : Nat → Int) (w : World) : Calls Try.prog 26 #[.agg (ncells f), .agg (ncells f)] w fun e w' => e = .returned (.bool true) ∧ Ex w w' := by
  go_enter Try.func26, Try.ntmps26
  go_wp2
  go_loopw [5] (fun v wr => ∃ k : Nat, k ≤ 19 ∧ v = .int .i64 k ∧ Ex ((w.alloc (.cells (ncells f) 41)).alloc (.cells (ncells f) 41)) wr) (fun v _ => 19 - (intOf v).toNat)
  case atStart => exact ⟨0, Nat.zero_le _, rfl, Ex.refl _⟩
  case round =>
    obtain ⟨k, hk, rfl, ⟨x, rfl⟩⟩ := hrel
    by_cases hlt : k < 19
    · go_wp2
      go_region
      all_goals go_wp2
      all_goals go_roundw
      case rel => exact ⟨k + 1, by omega, by go_num, by repeat (first | exact Ex.refl _ | refine Ex.ext ?_ _ | refine Ex.alloc ?_ _ | refine Ex.drew ?_)⟩
      case measure => simp [intOf]; omega
    · have : k = 19 := by omega
      subst this
      go_wp2
      go_ret
      exact ⟨rfl, by repeat (first | exact Ex.refl _ | refine Ex.ext ?_ _ | refine Ex.alloc ?_ _ | refine Ex.drew ?_)⟩
end Go.Proofs.Ytkmnnnhnajnefaa
