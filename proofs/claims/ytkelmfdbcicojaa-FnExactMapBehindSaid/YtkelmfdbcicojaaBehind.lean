/- MapBehind: the walks, and the law on it. -/
import Derived.Test.YtkelmfdbcicojaaBack
namespace Go.Proofs.Ytkelmfdbcicojaa
set_option linter.unusedSimpArgs false
set_option linter.unusedVariables false
set_option maxHeartbeats 4000000
set_option maxRecDepth 100000
open Go.RowKit

/-- One map behind another. -/
def behF (g h : Nat → Nat) : Nat → Int := (upd (upd (upd (upd (upd (upd (upd (upd (upd (upd (upd (upd (upd (upd (upd (upd mzero 0 (g (h 0))) 4 (h (4 + g (4 + h 0 * 3)))) 5 (h (4 + g (4 + h 0 * 3 + 1)))) 6 (h (4 + g (4 + h 0 * 3 + 2)))) 1 (g (h 1))) 7 (h (7 + g (4 + h 1 * 3)))) 8 (h (7 + g (4 + h 1 * 3 + 1)))) 9 (h (7 + g (4 + h 1 * 3 + 2)))) 2 (g (h 2))) 10 (h (10 + g (4 + h 2 * 3)))) 11 (h (10 + g (4 + h 2 * 3 + 1)))) 12 (h (10 + g (4 + h 2 * 3 + 2)))) 3 (g (h 3))) 13 (h (13 + g (4 + h 3 * 3)))) 14 (h (13 + g (4 + h 3 * 3 + 1)))) 15 (h (13 + g (4 + h 3 * 3 + 2))))
def behR (f e : Nat → Int) : Nat → Int := if mapB f && mapB e then behF (natM f) (natM e) else mzero
theorem l5Behind_w (g h : Nat → Nat) (hg4 : ∀ j, j < 4 → g j < 4) (hg3 : ∀ j, 4 ≤ j → j < 16 → g j < 3) (hh4 : ∀ j, j < 4 → h j < 4) (hh3 : ∀ j, 4 ≤ j → j < 16 → h j < 3) (w : World) :
    Calls Try.prog 100 #[.agg (mcells (fun j => (g j : Int))), .agg (mcells (fun j => (h j : Int)))] w fun e w' => e = .returned (.agg (mcells (behF g h))) ∧ Ex w w' := by
  have b0 : h 0 < 16 := by have := hh4 0 (by omega); omega
  have c0 : h 0 < 4 := hh4 0 (by omega)
  have a0_0 : 4 + h 0 * 3 < 16 := by have := hh4 0 (by omega); omega
  have g0_0 : g (4 + h 0 * 3) < 3 := hg3 _ (by omega) a0_0
  have d0_0 : 4 + g (4 + h 0 * 3) < 16 := by omega
  have a0_1 : 4 + h 0 * 3 + 1 < 16 := by have := hh4 0 (by omega); omega
  have g0_1 : g (4 + h 0 * 3 + 1) < 3 := hg3 _ (by omega) a0_1
  have d0_1 : 4 + g (4 + h 0 * 3 + 1) < 16 := by omega
  have a0_2 : 4 + h 0 * 3 + 2 < 16 := by have := hh4 0 (by omega); omega
  have g0_2 : g (4 + h 0 * 3 + 2) < 3 := hg3 _ (by omega) a0_2
  have d0_2 : 4 + g (4 + h 0 * 3 + 2) < 16 := by omega
  have b1 : h 1 < 16 := by have := hh4 1 (by omega); omega
  have c1 : h 1 < 4 := hh4 1 (by omega)
  have a1_0 : 4 + h 1 * 3 < 16 := by have := hh4 1 (by omega); omega
  have g1_0 : g (4 + h 1 * 3) < 3 := hg3 _ (by omega) a1_0
  have d1_0 : 7 + g (4 + h 1 * 3) < 16 := by omega
  have a1_1 : 4 + h 1 * 3 + 1 < 16 := by have := hh4 1 (by omega); omega
  have g1_1 : g (4 + h 1 * 3 + 1) < 3 := hg3 _ (by omega) a1_1
  have d1_1 : 7 + g (4 + h 1 * 3 + 1) < 16 := by omega
  have a1_2 : 4 + h 1 * 3 + 2 < 16 := by have := hh4 1 (by omega); omega
  have g1_2 : g (4 + h 1 * 3 + 2) < 3 := hg3 _ (by omega) a1_2
  have d1_2 : 7 + g (4 + h 1 * 3 + 2) < 16 := by omega
  have b2 : h 2 < 16 := by have := hh4 2 (by omega); omega
  have c2 : h 2 < 4 := hh4 2 (by omega)
  have a2_0 : 4 + h 2 * 3 < 16 := by have := hh4 2 (by omega); omega
  have g2_0 : g (4 + h 2 * 3) < 3 := hg3 _ (by omega) a2_0
  have d2_0 : 10 + g (4 + h 2 * 3) < 16 := by omega
  have a2_1 : 4 + h 2 * 3 + 1 < 16 := by have := hh4 2 (by omega); omega
  have g2_1 : g (4 + h 2 * 3 + 1) < 3 := hg3 _ (by omega) a2_1
  have d2_1 : 10 + g (4 + h 2 * 3 + 1) < 16 := by omega
  have a2_2 : 4 + h 2 * 3 + 2 < 16 := by have := hh4 2 (by omega); omega
  have g2_2 : g (4 + h 2 * 3 + 2) < 3 := hg3 _ (by omega) a2_2
  have d2_2 : 10 + g (4 + h 2 * 3 + 2) < 16 := by omega
  have b3 : h 3 < 16 := by have := hh4 3 (by omega); omega
  have c3 : h 3 < 4 := hh4 3 (by omega)
  have a3_0 : 4 + h 3 * 3 < 16 := by have := hh4 3 (by omega); omega
  have g3_0 : g (4 + h 3 * 3) < 3 := hg3 _ (by omega) a3_0
  have d3_0 : 13 + g (4 + h 3 * 3) < 16 := by omega
  have a3_1 : 4 + h 3 * 3 + 1 < 16 := by have := hh4 3 (by omega); omega
  have g3_1 : g (4 + h 3 * 3 + 1) < 3 := hg3 _ (by omega) a3_1
  have d3_1 : 13 + g (4 + h 3 * 3 + 1) < 16 := by omega
  have a3_2 : 4 + h 3 * 3 + 2 < 16 := by have := hh4 3 (by omega); omega
  have g3_2 : g (4 + h 3 * 3 + 2) < 3 := hg3 _ (by omega) a3_2
  have d3_2 : 13 + g (4 + h 3 * 3 + 2) < 16 := by omega
  clear hg4 hg3 hh4 hh3
  go_enter Try.func100, Try.ntmps100
  go_wp2
  refine wp_loop_rounds 5 ?_
  iterate 4 (rw [rounds_succ]; go_wp2; refine wp_loop_rounds 4 ?_; (iterate 3 (rw [rounds_succ]; go_wp2_with (refine region_tail 16 (by kernel_rfl) (by kernel_rfl) ?_; simp only [List.take_succ_cons, List.take_zero, List.drop_succ_cons, List.drop_zero]; (repeat (go_big_quiet_step (fail))); refine wpQuiet_nil ?_; rintro _ ⟨x, rfl⟩))); (rw [rounds_succ]; go_wp2))
  rw [rounds_succ]; go_wp2
  refine bodyPost_ret (v := .agg (mcells (behF g h))) ?ee rfl ⟨rfl, by repeat (first | with_reducible exact Ex.refl _ | with_reducible refine Ex.ext ?_ _ | with_reducible refine Ex.alloc ?_ _ | with_reducible refine Ex.drew ?_)⟩
  simp only [results, Try.results100]
  go_simp
  rfl
theorem implIsMap_r {f : Nat → Int} (w : World) (h : mapB f = true) : Calls Try.prog 50 #[.agg (mcells f)] w fun e w' => e = .returned (.bool true) ∧ Ex w w' := by
  have := implIsMap_c f w; rwa [h] at this
theorem l5Map_r {f : Nat → Int} (w : World) (h : mapB f = true) : Calls Try.prog 94 #[.agg (mcells f)] w fun e w' => e = .returned (.bool true) ∧ Ex w w' := by
  have := l5Map_c f w; rwa [h] at this
theorem l5Map_b {f : Nat → Int} {r : Bool} (w : World) (h : mapB f = r) : Calls Try.prog 94 #[.agg (mcells f)] w fun e w' => e = .returned (.bool r) ∧ Ex w w' := by
  subst h; exact l5Map_c f w
theorem implIsMap_b {f : Nat → Int} {r : Bool} (w : World) (h : mapB f = r) : Calls Try.prog 50 #[.agg (mcells f)] w fun e w' => e = .returned (.bool r) ∧ Ex w w' := by
  subst h; exact implIsMap_c f w
theorem implMapBehind_w (g h : Nat → Nat) (hm : mapB (fun j => (g j : Int)) = true) (hn : mapB (fun j => (h j : Int)) = true) (hg4 : ∀ j, j < 4 → g j < 4) (hg3 : ∀ j, 4 ≤ j → j < 16 → g j < 3) (hh4 : ∀ j, j < 4 → h j < 4) (hh3 : ∀ j, 4 ≤ j → j < 16 → h j < 3) (w : World) :
    Calls Try.prog 57 #[.agg (mcells (fun j => (g j : Int))), .agg (mcells (fun j => (h j : Int)))] w fun e w' => e = .returned (.tuple #[.agg (mcells (behF g h)), .bool true]) ∧ Ex w w' := by
  have Hm := Lib.hid hm
  have Hn := Lib.hid hn
  clear hm hn
  have b0 : h 0 < 16 := by have := hh4 0 (by omega); omega
  have c0 : h 0 < 4 := hh4 0 (by omega)
  have a0_0 : 4 + h 0 * 3 < 16 := by have := hh4 0 (by omega); omega
  have g0_0 : g (4 + h 0 * 3) < 3 := hg3 _ (by omega) a0_0
  have d0_0 : 4 + g (4 + h 0 * 3) < 16 := by omega
  have a0_1 : 4 + h 0 * 3 + 1 < 16 := by have := hh4 0 (by omega); omega
  have g0_1 : g (4 + h 0 * 3 + 1) < 3 := hg3 _ (by omega) a0_1
  have d0_1 : 4 + g (4 + h 0 * 3 + 1) < 16 := by omega
  have a0_2 : 4 + h 0 * 3 + 2 < 16 := by have := hh4 0 (by omega); omega
  have g0_2 : g (4 + h 0 * 3 + 2) < 3 := hg3 _ (by omega) a0_2
  have d0_2 : 4 + g (4 + h 0 * 3 + 2) < 16 := by omega
  have b1 : h 1 < 16 := by have := hh4 1 (by omega); omega
  have c1 : h 1 < 4 := hh4 1 (by omega)
  have a1_0 : 4 + h 1 * 3 < 16 := by have := hh4 1 (by omega); omega
  have g1_0 : g (4 + h 1 * 3) < 3 := hg3 _ (by omega) a1_0
  have d1_0 : 7 + g (4 + h 1 * 3) < 16 := by omega
  have a1_1 : 4 + h 1 * 3 + 1 < 16 := by have := hh4 1 (by omega); omega
  have g1_1 : g (4 + h 1 * 3 + 1) < 3 := hg3 _ (by omega) a1_1
  have d1_1 : 7 + g (4 + h 1 * 3 + 1) < 16 := by omega
  have a1_2 : 4 + h 1 * 3 + 2 < 16 := by have := hh4 1 (by omega); omega
  have g1_2 : g (4 + h 1 * 3 + 2) < 3 := hg3 _ (by omega) a1_2
  have d1_2 : 7 + g (4 + h 1 * 3 + 2) < 16 := by omega
  have b2 : h 2 < 16 := by have := hh4 2 (by omega); omega
  have c2 : h 2 < 4 := hh4 2 (by omega)
  have a2_0 : 4 + h 2 * 3 < 16 := by have := hh4 2 (by omega); omega
  have g2_0 : g (4 + h 2 * 3) < 3 := hg3 _ (by omega) a2_0
  have d2_0 : 10 + g (4 + h 2 * 3) < 16 := by omega
  have a2_1 : 4 + h 2 * 3 + 1 < 16 := by have := hh4 2 (by omega); omega
  have g2_1 : g (4 + h 2 * 3 + 1) < 3 := hg3 _ (by omega) a2_1
  have d2_1 : 10 + g (4 + h 2 * 3 + 1) < 16 := by omega
  have a2_2 : 4 + h 2 * 3 + 2 < 16 := by have := hh4 2 (by omega); omega
  have g2_2 : g (4 + h 2 * 3 + 2) < 3 := hg3 _ (by omega) a2_2
  have d2_2 : 10 + g (4 + h 2 * 3 + 2) < 16 := by omega
  have b3 : h 3 < 16 := by have := hh4 3 (by omega); omega
  have c3 : h 3 < 4 := hh4 3 (by omega)
  have a3_0 : 4 + h 3 * 3 < 16 := by have := hh4 3 (by omega); omega
  have g3_0 : g (4 + h 3 * 3) < 3 := hg3 _ (by omega) a3_0
  have d3_0 : 13 + g (4 + h 3 * 3) < 16 := by omega
  have a3_1 : 4 + h 3 * 3 + 1 < 16 := by have := hh4 3 (by omega); omega
  have g3_1 : g (4 + h 3 * 3 + 1) < 3 := hg3 _ (by omega) a3_1
  have d3_1 : 13 + g (4 + h 3 * 3 + 1) < 16 := by omega
  have a3_2 : 4 + h 3 * 3 + 2 < 16 := by have := hh4 3 (by omega); omega
  have g3_2 : g (4 + h 3 * 3 + 2) < 3 := hg3 _ (by omega) a3_2
  have d3_2 : 13 + g (4 + h 3 * 3 + 2) < 16 := by omega
  clear hg4 hg3 hh4 hh3
  go_enter Try.func57, Try.ntmps57
  go_wp2_with (go_at_call 50; refine (implIsMap_r _ ?h).mono ?_; (case h => first | exact Hm.out | exact Hn.out); rintro e w' ⟨rfl, x, rfl⟩)
  refine wp_loop_rounds 5 ?_
  iterate 4 (rw [rounds_succ]; go_wp2; refine wp_loop_rounds 4 ?_; (iterate 3 (rw [rounds_succ]; go_wp2_with (refine region_tail 16 (by kernel_rfl) (by kernel_rfl) ?_; simp only [List.take_succ_cons, List.take_zero, List.drop_succ_cons, List.drop_zero]; (repeat (go_big_quiet_step (fail))); refine wpQuiet_nil ?_; rintro _ ⟨x, rfl⟩))); (rw [rounds_succ]; go_wp2))
  rw [rounds_succ]; go_wp2
  refine bodyPost_ret (v := .tuple #[.agg (mcells (behF g h)), .bool true]) ?ee rfl ⟨rfl, by repeat (first | with_reducible exact Ex.refl _ | with_reducible refine Ex.ext ?_ _ | with_reducible refine Ex.alloc ?_ _ | with_reducible refine Ex.drew ?_)⟩
  simp only [results, Try.results57]
  go_simp
  rfl
theorem specMapBehind_no (f e : Nat → Int) (hm : (mapB f && mapB e) = false) (w : World) :
    Calls Try.prog 56 #[.agg (mcells f), .agg (mcells e)] w fun e w' => e = .returned (.tuple #[.agg (mcells mzero), .bool false]) ∧ Ex w w' := by
  cases h1 : mapB f
  · clear hm
    go_enter Try.func56, Try.ntmps56
    go_wp2_with (go_at_call 94; refine (l5Map_c _ _).mono ?_; (rw [h1]); rintro e w' ⟨rfl, x, rfl⟩)
    refine bodyPost_ret (v := .tuple #[.agg (mcells mzero), .bool false]) (by simp only [results, Try.results56]; go_simp) rfl ⟨rfl, by repeat (first | with_reducible exact Ex.refl _ | with_reducible refine Ex.ext ?_ _ | with_reducible refine Ex.alloc ?_ _ | with_reducible refine Ex.drew ?_)⟩
  · have h2 : mapB e = false := by simpa [h1] using hm
    clear hm
    go_enter Try.func56, Try.ntmps56
    go_wp2_with (go_at_call 94; refine (l5Map_c _ _).mono ?_; (first | rw [h1] | rw [h2]); rintro e w' ⟨rfl, x, rfl⟩)
    refine bodyPost_ret (v := .tuple #[.agg (mcells mzero), .bool false]) (by simp only [results, Try.results56]; go_simp) rfl ⟨rfl, by repeat (first | with_reducible exact Ex.refl _ | with_reducible refine Ex.ext ?_ _ | with_reducible refine Ex.alloc ?_ _ | with_reducible refine Ex.drew ?_)⟩
theorem implMapBehind_no (f e : Nat → Int) (hm : (mapB f && mapB e) = false) (w : World) :
    Calls Try.prog 57 #[.agg (mcells f), .agg (mcells e)] w fun e w' => e = .returned (.tuple #[.agg (mcells mzero), .bool false]) ∧ Ex w w' := by
  cases h1 : mapB f
  · clear hm
    go_enter Try.func57, Try.ntmps57
    go_wp2_with (go_at_call 50; refine (implIsMap_c _ _).mono ?_; (rw [h1]); rintro e w' ⟨rfl, x, rfl⟩)
    refine bodyPost_ret (v := .tuple #[.agg (mcells mzero), .bool false]) (by simp only [results, Try.results57]; go_simp) rfl ⟨rfl, by repeat (first | with_reducible exact Ex.refl _ | with_reducible refine Ex.ext ?_ _ | with_reducible refine Ex.alloc ?_ _ | with_reducible refine Ex.drew ?_)⟩
  · have h2 : mapB e = false := by simpa [h1] using hm
    clear hm
    go_enter Try.func57, Try.ntmps57
    go_wp2_with (go_at_call 50; refine (implIsMap_c _ _).mono ?_; (first | rw [h1] | rw [h2]); rintro e w' ⟨rfl, x, rfl⟩)
    refine bodyPost_ret (v := .tuple #[.agg (mcells mzero), .bool false]) (by simp only [results, Try.results57]; go_simp) rfl ⟨rfl, by repeat (first | with_reducible exact Ex.refl _ | with_reducible refine Ex.ext ?_ _ | with_reducible refine Ex.alloc ?_ _ | with_reducible refine Ex.drew ?_)⟩
theorem specMapBehind_c (f e : Nat → Int) (w : World) : Calls Try.prog 56 #[.agg (mcells f), .agg (mcells e)] w fun en w' => en = .returned (.tuple #[.agg (mcells (behR f e)), .bool (mapB f && mapB e)]) ∧ Ex w w' := by
  cases h : mapB f && mapB e
  · have hR : behR f e = mzero := by simp [behR, h]
    rw [hR]; exact specMapBehind_no f e h w
  · have hR : behR f e = behF (natM f) (natM e) := by simp [behR, h]
    rw [Bool.and_eq_true] at h
    have k := map_nat h.1
    have l := map_nat h.2
    rw [hR, map_cells h.1, map_cells h.2]
    have H1 := Lib.hid (show mapB (fun j => (natM f j : Int)) = true by rw [← mapB_congr k.1]; exact h.1)
    have H2 := Lib.hid (show mapB (fun j => (natM e j : Int)) = true by rw [← mapB_congr l.1]; exact h.2)
    have HW := Lib.hid (l5Behind_w (natM f) (natM e) k.2.1 k.2.2 l.2.1 l.2.2)
    clear k l h hR
    generalize natM f = g at *
    generalize natM e = h at *
    go_enter Try.func56, Try.ntmps56
    go_wp2_with (first | (go_at_call 94; refine (l5Map_r _ ?h).mono ?_; (case h => first | exact H1.out | exact H2.out); rintro e w' ⟨rfl, x, rfl⟩) | (go_at_call 100; refine (HW.out _).mono ?_; rintro e w' ⟨rfl, x, rfl⟩))
    refine bodyPost_ret (v := .tuple #[.agg (mcells (behF g h)), .bool true]) (by simp only [results, Try.results56]; go_simp) rfl ⟨rfl, by repeat (first | with_reducible exact Ex.refl _ | with_reducible refine Ex.ext ?_ _ | with_reducible refine Ex.alloc ?_ _ | with_reducible refine Ex.drew ?_)⟩
theorem implMapBehind_c (f e : Nat → Int) (w : World) : Calls Try.prog 57 #[.agg (mcells f), .agg (mcells e)] w fun en w' => en = .returned (.tuple #[.agg (mcells (behR f e)), .bool (mapB f && mapB e)]) ∧ Ex w w' := by
  cases h : mapB f && mapB e
  · have hR : behR f e = mzero := by simp [behR, h]
    rw [hR]; exact implMapBehind_no f e h w
  · have hR : behR f e = behF (natM f) (natM e) := by simp [behR, h]
    rw [Bool.and_eq_true] at h
    have k := map_nat h.1
    have l := map_nat h.2
    rw [hR, map_cells h.1, map_cells h.2]
    exact implMapBehind_w (natM f) (natM e) (by rw [← mapB_congr k.1]; exact h.1) (by rw [← mapB_congr l.1]; exact h.2) k.2.1 k.2.2 l.2.1 l.2.2 w

theorem fnExactMapBehind_walk (a b : Nat → Int) (w : World) : Calls Try.prog 14 #[.agg (mcells a), .agg (mcells b)] w fun e w' => e = .returned (.bool true) ∧ Below w.heap.size w w' := by
  go_enter Try.func14, Try.ntmps14
  go_wp2
  (apply region_box (aF := _) [0,1,2,3,4,5,6,7,10] 8 9 5 34 15 55 (mcells mzero) (mcells (behR a b)) (by kernel_rfl) (by kernel_rfl) rfl rfl (by kernel_rfl) (fun ρ w => ?_) (fun x0 => ?_) (fun ρ w1 x2 h1 h2 => ?_) (fun x1 x2 n hn => ?_); rotate_left; (simp only [opAt_lit, List.getD_cons_zero, List.getD_cons_succ]; go_simp); (simp only [opAt_lit, List.map_cons, List.map_nil, List.getD_cons_zero, List.getD_cons_succ]; (repeat (go_big_quiet_step (first | (go_at_call 49; exact (toMap_c _ _).mono (by rintro e w' ⟨rfl, y, rfl⟩; exact ⟨rfl, by simp only [ext_ext, Ext.app_assoc]; exact ⟨_, rfl⟩⟩)) | (go_at_call 56; exact (specMapBehind_c _ _ _).mono (by rintro e w' ⟨rfl, y, rfl⟩; exact ⟨rfl, by simp only [ext_ext, Ext.app_assoc]; exact ⟨_, rfl⟩⟩))))); exact rfl); (simp only [opAt_lit, List.getD_cons_zero, List.getD_cons_succ]; go_simp); simp only [Act.put, List.setIfInBounds_toArray, List.set_cons_zero, List.set_cons_succ]; (simp [go_sem] at hn); subst hn)
  go_wp2
  (apply region_box (aF := _) [0,1,2,3,4,5,6,7,10] 8 9 7 34 23 55 (mcells mzero) (mcells (behR a b)) (by kernel_rfl) (by kernel_rfl) rfl rfl (by kernel_rfl) (fun ρ w => ?_) (fun x0 => ?_) (fun ρ w1 x2 h1 h2 => ?_) (fun x1 x2 n hn => ?_); rotate_left; (simp only [opAt_lit, List.getD_cons_zero, List.getD_cons_succ]; go_simp); (simp only [opAt_lit, List.map_cons, List.map_nil, List.getD_cons_zero, List.getD_cons_succ]; (repeat (go_big_quiet_step (first | (go_at_call 49; exact (toMap_c _ _).mono (by rintro e w' ⟨rfl, y, rfl⟩; exact ⟨rfl, by simp only [ext_ext, Ext.app_assoc]; exact ⟨_, rfl⟩⟩)) | (go_at_call 57; exact (implMapBehind_c _ _ _).mono (by rintro e w' ⟨rfl, y, rfl⟩; exact ⟨rfl, by simp only [ext_ext, Ext.app_assoc]; exact ⟨_, rfl⟩⟩))))); exact rfl); (simp only [opAt_lit, List.getD_cons_zero, List.getD_cons_succ]; go_simp); simp only [Act.put, List.setIfInBounds_toArray, List.set_cons_zero, List.set_cons_succ]; (simp [go_sem] at hn); subst hn)
  go_wp2_with (go_at_call 47; refine (eqMap_same _ _).mono ?_; rintro e w' ⟨rfl, x, rfl⟩)
  go_ret
  refine ⟨rfl, Ex.below ?_⟩
  exact by repeat (first | with_reducible exact Ex.refl _ | with_reducible refine Ex.ext ?_ _ | with_reducible refine Ex.alloc ?_ _ | with_reducible refine Ex.drew ?_)
end Go.Proofs.Ytkelmfdbcicojaa
