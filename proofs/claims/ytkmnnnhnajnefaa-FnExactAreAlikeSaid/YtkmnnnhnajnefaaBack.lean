/- MapBack: the walks, and the law on it. -/
import Derived.Test.YtkmnnnhnajnefaaImg
import Derived.Test.YtkmnnnhnajnefaaBox
namespace Go.Proofs.Ytkmnnnhnajnefaa
set_option linter.unusedSimpArgs false
set_option linter.unusedVariables false
set_option maxHeartbeats 4000000
set_option maxRecDepth 100000
open Go.RowKit

@[go_sem] theorem idx3_0 (x0 x1 x2 : Value) (w : World) : (Instr.index 37 (.agg #[x0, x1, x2]) (.int .i64 0)).run Try.prog w = .ok x0 w := by kernel_rfl
@[go_sem] theorem idx3_1 (x0 x1 x2 : Value) (w : World) : (Instr.index 37 (.agg #[x0, x1, x2]) (.int .i64 1)).run Try.prog w = .ok x1 w := by kernel_rfl
@[go_sem] theorem idx3_2 (x0 x1 x2 : Value) (w : World) : (Instr.index 37 (.agg #[x0, x1, x2]) (.int .i64 2)).run Try.prog w = .ok x2 w := by kernel_rfl
attribute [go_sem ↓] idx3_0 idx3_1 idx3_2
/-- The numbers of a map, as it is said with natural ones. -/
def natM (f : Nat → Int) : Nat → Nat := fun j => (f j).toNat
theorem nat_mem {f : Nat → Int} {zs : List Int} (h : permB zs = true) : ∀ z ∈ zs, 0 ≤ z ∧ z < zs.length := by
  intro z hz
  have := (inR_iff _ _ _).1 (((permB_iff zs).1 h).1 z hz)
  omega
theorem map_nat {f : Nat → Int} (h : mapB f = true) : (∀ j, j < 16 → f j = (natM f j : Int)) ∧ (∀ j, j < 4 → natM f j < 4) ∧ (∀ j, 4 ≤ j → j < 16 → natM f j < 3) := by
  simp only [mapB, Bool.and_eq_true] at h
  obtain ⟨h0, h1, h2, h3, h4⟩ := h
  have k0 := nat_mem (f := f) h0
  have k1 := nat_mem (f := f) h1
  have k2 := nat_mem (f := f) h2
  have k3 := nat_mem (f := f) h3
  have k4 := nat_mem (f := f) h4
  simp at k0 k1 k2 k3 k4
  have key : ∀ j, j < 16 → 0 ≤ f j ∧ (j < 4 → f j < 4) ∧ (4 ≤ j → f j < 3) := by
    intro j hj
    rcases nat16 hj with rfl | rfl | rfl | rfl | rfl | rfl | rfl | rfl | rfl | rfl | rfl | rfl | rfl | rfl | rfl | rfl <;> omega
  refine ⟨fun j hj => ?_, fun j hj => ?_, fun j h4 hj => ?_⟩
  · have := (key j hj).1; unfold natM; omega
  · have := key j (by omega); have := this.2.1 hj; unfold natM; omega
  · have := key j hj; have := this.2.2 h4; unfold natM; omega
theorem map_cells {f : Nat → Int} (h : mapB f = true) : mcells f = mcells (fun j => (natM f j : Int)) := mcells_eq (map_nat h).1
theorem mapB_congr {f g : Nat → Int} (h : ∀ j, j < 16 → f j = g j) : mapB f = mapB g := by
  unfold mapB
  rw [h 0 (by omega), h 1 (by omega), h 2 (by omega), h 3 (by omega), h 4 (by omega), h 5 (by omega), h 6 (by omega), h 7 (by omega), h 8 (by omega), h 9 (by omega), h 10 (by omega), h 11 (by omega), h 12 (by omega), h 13 (by omega), h 14 (by omega), h 15 (by omega)]

/-- The map that leads back. -/
def backF (g : Nat → Nat) : Nat → Int := (upd (upd (upd (upd (upd (upd (upd (upd (upd (upd (upd (upd (upd (upd (upd (upd mzero (g 0) 0) (4 + g 0 * 3 + g 4) 0) (4 + g 0 * 3 + g 5) 1) (4 + g 0 * 3 + g 6) 2) (g 1) 1) (4 + g 1 * 3 + g 7) 0) (4 + g 1 * 3 + g 8) 1) (4 + g 1 * 3 + g 9) 2) (g 2) 2) (4 + g 2 * 3 + g 10) 0) (4 + g 2 * 3 + g 11) 1) (4 + g 2 * 3 + g 12) 2) (g 3) 3) (4 + g 3 * 3 + g 13) 0) (4 + g 3 * 3 + g 14) 1) (4 + g 3 * 3 + g 15) 2)
def backR (f : Nat → Int) : Nat → Int := if mapB f then backF (natM f) else mzero
end Go.Proofs.Ytkmnnnhnajnefaa
