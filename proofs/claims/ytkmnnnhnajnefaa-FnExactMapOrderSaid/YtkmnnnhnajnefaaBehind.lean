/- MapBehind: the walks, and the law on it. -/
import Derived.Test.YtkmnnnhnajnefaaBack
namespace Go.Proofs.Ytkmnnnhnajnefaa
set_option linter.unusedSimpArgs false
set_option linter.unusedVariables false
set_option maxHeartbeats 4000000
set_option maxRecDepth 100000
open Go.RowKit

/-- One map behind another. -/
def behF (g h : Nat → Nat) : Nat → Int := (upd (upd (upd (upd (upd (upd (upd (upd (upd (upd (upd (upd (upd (upd (upd (upd mzero 0 (g (h 0))) 4 (h (4 + g (4 + h 0 * 3)))) 5 (h (4 + g (4 + h 0 * 3 + 1)))) 6 (h (4 + g (4 + h 0 * 3 + 2)))) 1 (g (h 1))) 7 (h (7 + g (4 + h 1 * 3)))) 8 (h (7 + g (4 + h 1 * 3 + 1)))) 9 (h (7 + g (4 + h 1 * 3 + 2)))) 2 (g (h 2))) 10 (h (10 + g (4 + h 2 * 3)))) 11 (h (10 + g (4 + h 2 * 3 + 1)))) 12 (h (10 + g (4 + h 2 * 3 + 2)))) 3 (g (h 3))) 13 (h (13 + g (4 + h 3 * 3)))) 14 (h (13 + g (4 + h 3 * 3 + 1)))) 15 (h (13 + g (4 + h 3 * 3 + 2))))
def behR (f e : Nat → Int) : Nat → Int := if mapB f && mapB e then behF (natM f) (natM e) else mzero
theorem l5Behind_w (g h : Nat → Nat) (hg4 : ∀ j, j < 4 → g j < 4) (hg3 : ∀ j, 4 ≤ j → j < 16 → g j < 3) (hh4 : ∀ j, j < 4 → h j < 4) (hh3 : ∀ j, 4 ≤ j → j < 16 → h j < 3) (w : World) :
    Calls Try.prog 52 #[.agg (mcells (fun j => (g j : Int))), .agg (mcells (fun j => (h j : Int)))] w fun e w' => e = .returned (.agg (mcells (behF g h))) ∧ Ex w w' := by
  have b0 : h 0 < 16 := by have := hh4 0 (by omega); omega
  have c0 : h 0 < 4 := hh4 0 (by omega)
  have a0_0 : 4 + h 0 * 3 < 16 := by have := hh4 0 (by omega); omega
  have g0_0 : g (4 + h 0 * 3) < 3 := hg3 _ (by omega) a0_0
  have d0_0 : 4 + g (4 + h 0 * 3) < 16 := by omega
  have a0_1 : 4 + h 0 * 3 + 1 < 16 := by have := hh4 0 (by omega); omega
  have g0_1 : g (4 + h 0 * 3 + 1) < 3 := hg3 _ (by omega) a0_1
  have d0_1 : 4 + g (4 + h 0 * 3 + 1) < 16 := by omega
  have a0_2 : 4 + h 0 * 3 + 2 < 16 := by have := hh4 0 (by omega); omega
  have g0_2 : g (4 + h 0 * 3 + 2) < 3 := hg3 _ (by omega) a0_2
  have d0_2 : 4 + g (4 + h 0 * 3 + 2) < 16 := by omega
  have b1 : h 1 < 16 := by have := hh4 1 (by omega); omega
  have c1 : h 1 < 4 := hh4 1 (by omega)
  have a1_0 : 4 + h 1 * 3 < 16 := by have := hh4 1 (by omega); omega
  have g1_0 : g (4 + h 1 * 3) < 3 := hg3 _ (by omega) a1_0
  have d1_0 : 7 + g (4 + h 1 * 3) < 16 := by omega
  have a1_1 : 4 + h 1 * 3 + 1 < 16 := by have := hh4 1 (by omega); omega
  have g1_1 : g (4 + h 1 * 3 + 1) < 3 := hg3 _ (by omega) a1_1
  have d1_1 : 7 + g (4 + h 1 * 3 + 1) < 16 := by omega
  have a1_2 : 4 + h 1 * 3 + 2 < 16 := by have := hh4 1 (by omega); omega
  have g1_2 : g (4 + h 1 * 3 + 2) < 3 := hg3 _ (by omega) a1_2
  have d1_2 : 7 + g (4 + h 1 * 3 + 2) < 16 := by omega
  have b2 : h 2 < 16 := by have := hh4 2 (by omega); omega
  have c2 : h 2 < 4 := hh4 2 (by omega)
  have a2_0 : 4 + h 2 * 3 < 16 := by have := hh4 2 (by omega); omega
  have g2_0 : g (4 + h 2 * 3) < 3 := hg3 _ (by omega) a2_0
  have d2_0 : 10 + g (4 + h 2 * 3) < 16 := by omega
  have a2_1 : 4 + h 2 * 3 + 1 < 16 := by have := hh4 2 (by omega); omega
  have g2_1 : g (4 + h 2 * 3 + 1) < 3 := hg3 _ (by omega) a2_1
  have d2_1 : 10 + g (4 + h 2 * 3 + 1) < 16 := by omega
  have a2_2 : 4 + h 2 * 3 + 2 < 16 := by have := hh4 2 (by omega); omega
  have g2_2 : g (4 + h 2 * 3 + 2) < 3 := hg3 _ (by omega) a2_2
  have d2_2 : 10 + g (4 + h 2 * 3 + 2) < 16 := by omega
  have b3 : h 3 < 16 := by have := hh4 3 (by omega); omega
  have c3 : h 3 < 4 := hh4 3 (by omega)
  have a3_0 : 4 + h 3 * 3 < 16 := by have := hh4 3 (by omega); omega
  have g3_0 : g (4 + h 3 * 3) < 3 := hg3 _ (by omega) a3_0
  have d3_0 : 13 + g (4 + h 3 * 3) < 16 := by omega
  have a3_1 : 4 + h 3 * 3 + 1 < 16 := by have := hh4 3 (by omega); omega
  have g3_1 : g (4 + h 3 * 3 + 1) < 3 := hg3 _ (by omega) a3_1
  have d3_1 : 13 + g (4 + h 3 * 3 + 1) < 16 := by omega
  have a3_2 : 4 + h 3 * 3 + 2 < 16 := by have := hh4 3 (by omega); omega
  have g3_2 : g (4 + h 3 * 3 + 2) < 3 := hg3 _ (by omega) a3_2
  have d3_2 : 13 + g (4 + h 3 * 3 + 2) < 16 := by omega
  clear hg4 hg3 hh4 hh3
  go_enter Try.func52, Try.ntmps52
  go_wp2
  refine wp_loop_rounds 5 ?_
  iterate 4 (rw [rounds_succ]; go_wp2; refine wp_loop_rounds 4 ?_; (iterate 3 (rw [rounds_succ]; go_wp2_with (refine region_tail 16 (by kernel_rfl) (by kernel_rfl) ?_; simp only [List.take_succ_cons, List.take_zero, List.drop_succ_cons, List.drop_zero]; (repeat (go_big_quiet_step (fail))); refine wpQuiet_nil ?_; rintro _ ⟨x, rfl⟩))); (rw [rounds_succ]; go_wp2))
  rw [rounds_succ]; go_wp2
  refine bodyPost_ret (v := .agg (mcells (behF g h))) ?ee rfl ⟨rfl, by repeat (first | with_reducible exact Ex.refl _ | with_reducible refine Ex.ext ?_ _ | with_reducible refine Ex.alloc ?_ _ | with_reducible refine Ex.drew ?_)⟩
  simp only [results, Try.results52]
  go_simp
  rfl
theorem implIsMap_r {f : Nat → Int} (w : World) (h : mapB f = true) : Calls Try.prog 49 #[.agg (mcells f)] w fun e w' => e = .returned (.bool true) ∧ Ex w w' := by
  have := implIsMap_c f w; rwa [h] at this
theorem l5Map_r {f : Nat → Int} (w : World) (h : mapB f = true) : Calls Try.prog 45 #[.agg (mcells f)] w fun e w' => e = .returned (.bool true) ∧ Ex w w' := by
  have := l5Map_c f w; rwa [h] at this
theorem l5Map_b {f : Nat → Int} {r : Bool} (w : World) (h : mapB f = r) : Calls Try.prog 45 #[.agg (mcells f)] w fun e w' => e = .returned (.bool r) ∧ Ex w w' := by
  subst h; exact l5Map_c f w
theorem implIsMap_b {f : Nat → Int} {r : Bool} (w : World) (h : mapB f = r) : Calls Try.prog 49 #[.agg (mcells f)] w fun e w' => e = .returned (.bool r) ∧ Ex w w' := by
  subst h; exact implIsMap_c f w
end Go.Proofs.Ytkmnnnhnajnefaa
