/- MapBack: the walks, and the law on it. -/
import Derived.Test.YtkelmfdbcicojaaImg
import Derived.Test.YtkelmfdbcicojaaBox
namespace Go.Proofs.Ytkelmfdbcicojaa
set_option linter.unusedSimpArgs false
set_option linter.unusedVariables false
set_option maxHeartbeats 4000000
set_option maxRecDepth 100000
open Go.RowKit

@[go_sem] theorem idx3_0 (x0 x1 x2 : Value) (w : World) : (Instr.index 33 (.agg #[x0, x1, x2]) (.int .i64 0)).run Try.prog w = .ok x0 w := by kernel_rfl
@[go_sem] theorem idx3_1 (x0 x1 x2 : Value) (w : World) : (Instr.index 33 (.agg #[x0, x1, x2]) (.int .i64 1)).run Try.prog w = .ok x1 w := by kernel_rfl
@[go_sem] theorem idx3_2 (x0 x1 x2 : Value) (w : World) : (Instr.index 33 (.agg #[x0, x1, x2]) (.int .i64 2)).run Try.prog w = .ok x2 w := by kernel_rfl
attribute [go_sem ↓] idx3_0 idx3_1 idx3_2
/-- The numbers of a map, as it is said with natural ones. -/
def natM (f : Nat → Int) : Nat → Nat := fun j => (f j).toNat
theorem nat_mem {f : Nat → Int} {zs : List Int} (h : permB zs = true) : ∀ z ∈ zs, 0 ≤ z ∧ z < zs.length := by
  intro z hz
  have := (inR_iff _ _ _).1 (((permB_iff zs).1 h).1 z hz)
  omega
theorem map_nat {f : Nat → Int} (h : mapB f = true) : (∀ j, j < 16 → f j = (natM f j : Int)) ∧ (∀ j, j < 4 → natM f j < 4) ∧ (∀ j, 4 ≤ j → j < 16 → natM f j < 3) := by
  simp only [mapB, Bool.and_eq_true] at h
  obtain ⟨h0, h1, h2, h3, h4⟩ := h
  have k0 := nat_mem (f := f) h0
  have k1 := nat_mem (f := f) h1
  have k2 := nat_mem (f := f) h2
  have k3 := nat_mem (f := f) h3
  have k4 := nat_mem (f := f) h4
  simp at k0 k1 k2 k3 k4
  have key : ∀ j, j < 16 → 0 ≤ f j ∧ (j < 4 → f j < 4) ∧ (4 ≤ j → f j < 3) := by
    intro j hj
    rcases nat16 hj with rfl | rfl | rfl | rfl | rfl | rfl | rfl | rfl | rfl | rfl | rfl | rfl | rfl | rfl | rfl | rfl <;> omega
  refine ⟨fun j hj => ?_, fun j hj => ?_, fun j h4 hj => ?_⟩
  · have := (key j hj).1; unfold natM; omega
  · have := key j (by omega); have := this.2.1 hj; unfold natM; omega
  · have := key j hj; have := this.2.2 h4; unfold natM; omega
theorem map_cells {f : Nat → Int} (h : mapB f = true) : mcells f = mcells (fun j => (natM f j : Int)) := mcells_eq (map_nat h).1
theorem mapB_congr {f g : Nat → Int} (h : ∀ j, j < 16 → f j = g j) : mapB f = mapB g := by
  unfold mapB
  rw [h 0 (by omega), h 1 (by omega), h 2 (by omega), h 3 (by omega), h 4 (by omega), h 5 (by omega), h 6 (by omega), h 7 (by omega), h 8 (by omega), h 9 (by omega), h 10 (by omega), h 11 (by omega), h 12 (by omega), h 13 (by omega), h 14 (by omega), h 15 (by omega)]

/-- The map that leads back. -/
def backF (g : Nat → Nat) : Nat → Int := (upd (upd (upd (upd (upd (upd (upd (upd (upd (upd (upd (upd (upd (upd (upd (upd mzero (g 0) 0) (4 + g 0 * 3 + g 4) 0) (4 + g 0 * 3 + g 5) 1) (4 + g 0 * 3 + g 6) 2) (g 1) 1) (4 + g 1 * 3 + g 7) 0) (4 + g 1 * 3 + g 8) 1) (4 + g 1 * 3 + g 9) 2) (g 2) 2) (4 + g 2 * 3 + g 10) 0) (4 + g 2 * 3 + g 11) 1) (4 + g 2 * 3 + g 12) 2) (g 3) 3) (4 + g 3 * 3 + g 13) 0) (4 + g 3 * 3 + g 14) 1) (4 + g 3 * 3 + g 15) 2)
def backR (f : Nat → Int) : Nat → Int := if mapB f then backF (natM f) else mzero
theorem specMapBack_no (f : Nat → Int) (hm : mapB f = false) (w : World) :
    Calls Try.prog 54 #[.agg (mcells f)] w fun e w' => e = .returned (.tuple #[.agg (mcells mzero), .bool false]) ∧ Ex w w' := by
  go_enter Try.func54, Try.ntmps54
  go_wp2_with (go_at_call 94; refine (l5Map_c _ _).mono ?_; rw [hm]; rintro e w' ⟨rfl, x, rfl⟩)
  refine bodyPost_ret (v := .tuple #[.agg (mcells mzero), .bool false]) (by simp only [results, Try.results54]; go_simp) rfl ⟨rfl, by repeat (first | with_reducible exact Ex.refl _ | with_reducible refine Ex.ext ?_ _ | with_reducible refine Ex.alloc ?_ _ | with_reducible refine Ex.drew ?_)⟩
theorem specMapBack_w (g : Nat → Nat) (hm : mapB (fun j => (g j : Int)) = true) (ht0 : g 0 < 4) (ht1 : g 1 < 4) (ht2 : g 2 < 4) (ht3 : g 3 < 4) (hv4 : g 4 < 3) (hv5 : g 5 < 3) (hv6 : g 6 < 3) (hv7 : g 7 < 3) (hv8 : g 8 < 3) (hv9 : g 9 < 3) (hv10 : g 10 < 3) (hv11 : g 11 < 3) (hv12 : g 12 < 3) (hv13 : g 13 < 3) (hv14 : g 14 < 3) (hv15 : g 15 < 3) (w : World) :
    Calls Try.prog 54 #[.agg (mcells (fun j => (g j : Int)))] w fun e w' => e = .returned (.tuple #[.agg (mcells (backF g)), .bool true]) ∧ Ex w w' := by
  have Hm := Lib.hid hm
  clear hm
  have b0 : g 0 < 16 := by omega
  have b0_0 : 4 + g 0 * 3 + g 4 < 16 := by omega
  have b0_1 : 4 + g 0 * 3 + g 5 < 16 := by omega
  have b0_2 : 4 + g 0 * 3 + g 6 < 16 := by omega
  have b1 : g 1 < 16 := by omega
  have b1_0 : 4 + g 1 * 3 + g 7 < 16 := by omega
  have b1_1 : 4 + g 1 * 3 + g 8 < 16 := by omega
  have b1_2 : 4 + g 1 * 3 + g 9 < 16 := by omega
  have b2 : g 2 < 16 := by omega
  have b2_0 : 4 + g 2 * 3 + g 10 < 16 := by omega
  have b2_1 : 4 + g 2 * 3 + g 11 < 16 := by omega
  have b2_2 : 4 + g 2 * 3 + g 12 < 16 := by omega
  have b3 : g 3 < 16 := by omega
  have b3_0 : 4 + g 3 * 3 + g 13 < 16 := by omega
  have b3_1 : 4 + g 3 * 3 + g 14 < 16 := by omega
  have b3_2 : 4 + g 3 * 3 + g 15 < 16 := by omega
  go_enter Try.func54, Try.ntmps54
  go_wp2_with (go_at_call 94; refine (l5Map_c _ _).mono ?_; rw [Hm.out]; rintro e w' ⟨rfl, x, rfl⟩)
  refine wp_loop_rounds 5 ?_
  iterate 4 (rw [rounds_succ]; go_wp2; refine wp_loop_rounds 4 ?_; (iterate 3 (rw [rounds_succ]; go_wp2_with (refine region_tail 14 (by kernel_rfl) (by kernel_rfl) ?_; simp only [List.take_succ_cons, List.take_zero, List.drop_succ_cons, List.drop_zero]; (repeat (go_big_quiet_step (fail))); refine wpQuiet_nil ?_; rintro _ ⟨x, rfl⟩))); (rw [rounds_succ]; go_wp2))
  rw [rounds_succ]; go_wp2
  refine bodyPost_ret (v := .tuple #[.agg (mcells (backF g)), .bool true]) ?ee rfl ⟨rfl, by repeat (first | with_reducible exact Ex.refl _ | with_reducible refine Ex.ext ?_ _ | with_reducible refine Ex.alloc ?_ _ | with_reducible refine Ex.drew ?_)⟩
  simp only [results, Try.results54]
  go_simp
  rfl
theorem specMapBack_c (f : Nat → Int) (w : World) : Calls Try.prog 54 #[.agg (mcells f)] w fun e w' => e = .returned (.tuple #[.agg (mcells (backR f)), .bool (mapB f)]) ∧ Ex w w' := by
  cases h : mapB f
  · have hR : backR f = mzero := by simp [backR, h]
    rw [hR]; exact specMapBack_no f h w
  · have hR : backR f = backF (natM f) := by simp [backR, h]
    have k := map_nat h
    rw [hR, map_cells h]
    exact specMapBack_w (natM f) (by rw [← mapB_congr k.1]; exact h) (k.2.1 0 (by omega)) (k.2.1 1 (by omega)) (k.2.1 2 (by omega)) (k.2.1 3 (by omega)) (k.2.2 4 (by omega) (by omega)) (k.2.2 5 (by omega) (by omega)) (k.2.2 6 (by omega) (by omega)) (k.2.2 7 (by omega) (by omega)) (k.2.2 8 (by omega) (by omega)) (k.2.2 9 (by omega) (by omega)) (k.2.2 10 (by omega) (by omega)) (k.2.2 11 (by omega) (by omega)) (k.2.2 12 (by omega) (by omega)) (k.2.2 13 (by omega) (by omega)) (k.2.2 14 (by omega) (by omega)) (k.2.2 15 (by omega) (by omega)) w
theorem implMapBack_no (f : Nat → Int) (hm : mapB f = false) (w : World) :
    Calls Try.prog 55 #[.agg (mcells f)] w fun e w' => e = .returned (.tuple #[.agg (mcells mzero), .bool false]) ∧ Ex w w' := by
  go_enter Try.func55, Try.ntmps55
  go_wp2_with (go_at_call 50; refine (implIsMap_c _ _).mono ?_; rw [hm]; rintro e w' ⟨rfl, x, rfl⟩)
  refine bodyPost_ret (v := .tuple #[.agg (mcells mzero), .bool false]) (by simp only [results, Try.results55]; go_simp) rfl ⟨rfl, by repeat (first | with_reducible exact Ex.refl _ | with_reducible refine Ex.ext ?_ _ | with_reducible refine Ex.alloc ?_ _ | with_reducible refine Ex.drew ?_)⟩
theorem implMapBack_w (g : Nat → Nat) (hm : mapB (fun j => (g j : Int)) = true) (ht0 : g 0 < 4) (ht1 : g 1 < 4) (ht2 : g 2 < 4) (ht3 : g 3 < 4) (hv4 : g 4 < 3) (hv5 : g 5 < 3) (hv6 : g 6 < 3) (hv7 : g 7 < 3) (hv8 : g 8 < 3) (hv9 : g 9 < 3) (hv10 : g 10 < 3) (hv11 : g 11 < 3) (hv12 : g 12 < 3) (hv13 : g 13 < 3) (hv14 : g 14 < 3) (hv15 : g 15 < 3) (w : World) :
    Calls Try.prog 55 #[.agg (mcells (fun j => (g j : Int)))] w fun e w' => e = .returned (.tuple #[.agg (mcells (backF g)), .bool true]) ∧ Ex w w' := by
  have Hm := Lib.hid hm
  clear hm
  have b0 : g 0 < 16 := by omega
  have b0_0 : 4 + g 0 * 3 + g 4 < 16 := by omega
  have b0_1 : 4 + g 0 * 3 + g 5 < 16 := by omega
  have b0_2 : 4 + g 0 * 3 + g 6 < 16 := by omega
  have b1 : g 1 < 16 := by omega
  have b1_0 : 4 + g 1 * 3 + g 7 < 16 := by omega
  have b1_1 : 4 + g 1 * 3 + g 8 < 16 := by omega
  have b1_2 : 4 + g 1 * 3 + g 9 < 16 := by omega
  have b2 : g 2 < 16 := by omega
  have b2_0 : 4 + g 2 * 3 + g 10 < 16 := by omega
  have b2_1 : 4 + g 2 * 3 + g 11 < 16 := by omega
  have b2_2 : 4 + g 2 * 3 + g 12 < 16 := by omega
  have b3 : g 3 < 16 := by omega
  have b3_0 : 4 + g 3 * 3 + g 13 < 16 := by omega
  have b3_1 : 4 + g 3 * 3 + g 14 < 16 := by omega
  have b3_2 : 4 + g 3 * 3 + g 15 < 16 := by omega
  go_enter Try.func55, Try.ntmps55
  go_wp2_with (go_at_call 50; refine (implIsMap_c _ _).mono ?_; rw [Hm.out]; rintro e w' ⟨rfl, x, rfl⟩)
  refine wp_loop_rounds 5 ?_
  iterate 4 (rw [rounds_succ]; go_wp2; refine wp_loop_rounds 4 ?_; (iterate 3 (rw [rounds_succ]; go_wp2_with fail)); (rw [rounds_succ]; go_wp2))
  rw [rounds_succ]; go_wp2
  refine bodyPost_ret (v := .tuple #[.agg (mcells (backF g)), .bool true]) ?ee rfl ⟨rfl, by repeat (first | with_reducible exact Ex.refl _ | with_reducible refine Ex.ext ?_ _ | with_reducible refine Ex.alloc ?_ _ | with_reducible refine Ex.drew ?_)⟩
  simp only [results, Try.results55]
  go_simp
  rfl
theorem implMapBack_c (f : Nat → Int) (w : World) : Calls Try.prog 55 #[.agg (mcells f)] w fun e w' => e = .returned (.tuple #[.agg (mcells (backR f)), .bool (mapB f)]) ∧ Ex w w' := by
  cases h : mapB f
  · have hR : backR f = mzero := by simp [backR, h]
    rw [hR]; exact implMapBack_no f h w
  · have hR : backR f = backF (natM f) := by simp [backR, h]
    have k := map_nat h
    rw [hR, map_cells h]
    exact implMapBack_w (natM f) (by rw [← mapB_congr k.1]; exact h) (k.2.1 0 (by omega)) (k.2.1 1 (by omega)) (k.2.1 2 (by omega)) (k.2.1 3 (by omega)) (k.2.2 4 (by omega) (by omega)) (k.2.2 5 (by omega) (by omega)) (k.2.2 6 (by omega) (by omega)) (k.2.2 7 (by omega) (by omega)) (k.2.2 8 (by omega) (by omega)) (k.2.2 9 (by omega) (by omega)) (k.2.2 10 (by omega) (by omega)) (k.2.2 11 (by omega) (by omega)) (k.2.2 12 (by omega) (by omega)) (k.2.2 13 (by omega) (by omega)) (k.2.2 14 (by omega) (by omega)) (k.2.2 15 (by omega) (by omega)) w

theorem fnExactMapBack_walk (f : Nat → Int) (w : World) : Calls Try.prog 13 #[.agg (mcells f)] w fun e w' => e = .returned (.bool true) ∧ Below w.heap.size w w' := by
  go_enter Try.func13, Try.ntmps13
  go_wp2_with (first | (go_at_call 49; refine (toMap_c _ _).mono ?_; rintro e w' ⟨rfl, x, rfl⟩) | (go_at_call 54; refine (specMapBack_c _ _).mono ?_; rintro e w' ⟨rfl, x, rfl⟩) | (go_at_call 55; refine (implMapBack_c _ _).mono ?_; rintro e w' ⟨rfl, x, rfl⟩) | (go_at_call 47; refine (eqMap_same _ _).mono ?_; rintro e w' ⟨rfl, x, rfl⟩))
  go_ret
  refine ⟨rfl, Ex.below ?_⟩
  exact by repeat (first | with_reducible exact Ex.refl _ | with_reducible refine Ex.ext ?_ _ | with_reducible refine Ex.alloc ?_ _ | with_reducible refine Ex.drew ?_)
end Go.Proofs.Ytkelmfdbcicojaa
