/- The walks of ShiftTo and of the law on it. -/
import Derived.Test.YtkelmfdbcicojaaM16
import Derived.Test.YtkelmfdbcicojaaBox
namespace Go.Proofs.Ytkelmfdbcicojaa
set_option linter.unusedSimpArgs false
set_option linter.unusedVariables false
set_option maxHeartbeats 1000000
set_option maxRecDepth 100000
open Go.RowKit

/-- The map that adds what leads from a card to another one. -/
def shF (a b : C4) : Nat → Int
  | 0 => 0 | 1 => 1 | 2 => 2 | 3 => 3
  | 4 => (3 + b.a - a.a) % 3 | 5 => (4 + b.a - a.a) % 3 | 6 => (5 + b.a - a.a) % 3
  | 7 => (3 + b.b - a.b) % 3 | 8 => (4 + b.b - a.b) % 3 | 9 => (5 + b.b - a.b) % 3
  | 10 => (3 + b.c - a.c) % 3 | 11 => (4 + b.c - a.c) % 3 | 12 => (5 + b.c - a.c) % 3
  | 13 => (3 + b.d - a.d) % 3 | 14 => (4 + b.d - a.d) % 3 | 15 => (5 + b.d - a.d) % 3
  | _ => 0
def shR (a b : C4) : Nat → Int := if differB a b then shF a b else mzero
theorem l2Card_r {c : C4} {r : Bool} {w : World} (h : ok c = r) : Calls Try.prog 91 #[.agg #[.int .i64 c.a, .int .i64 c.b, .int .i64 c.c, .int .i64 c.d]] w fun e w' => e = .returned (.bool r) ∧ Ex w w' := by
  subst h; exact l2Card_c c w

theorem specShiftTo_no (a b : C4) (w : World) (hd : differB a b = false) : Calls Try.prog 44 #[.agg #[.int .i64 a.a, .int .i64 a.b, .int .i64 a.c, .int .i64 a.d], .agg #[.int .i64 b.a, .int .i64 b.b, .int .i64 b.c, .int .i64 b.d]] w fun e w' => e = .returned (.tuple #[.agg (mcells (shR a b)), .bool (differB a b)]) ∧ Ex w w' := by
  have hR : shR a b = mzero := by simp [shR, hd]
  rw [hR, hd]
  clear hR
  cases ha : ok a
  · clear hd
    go_enter Try.func44, Try.ntmps44
    go_wp2_with (go_at_call 91; refine (l2Card_r (by assumption)).mono ?_; rintro e w' ⟨rfl, x, rfl⟩)
    refine bodyPost_ret (v := .tuple #[.agg (mcells mzero), .bool false]) (by simp only [results, Try.results44]; go_simp) rfl ⟨rfl, by repeat (first | with_reducible exact Ex.refl _ | with_reducible refine Ex.ext ?_ _ | with_reducible refine Ex.alloc ?_ _ | with_reducible refine Ex.drew ?_)⟩
  · have hb : ok b = false := by simpa [differB, ha] using hd
    clear hd
    go_enter Try.func44, Try.ntmps44
    go_wp2_with (go_at_call 91; refine (l2Card_r (by assumption)).mono ?_; rintro e w' ⟨rfl, x, rfl⟩)
    refine bodyPost_ret (v := .tuple #[.agg (mcells mzero), .bool false]) (by simp only [results, Try.results44]; go_simp) rfl ⟨rfl, by repeat (first | with_reducible exact Ex.refl _ | with_reducible refine Ex.ext ?_ _ | with_reducible refine Ex.alloc ?_ _ | with_reducible refine Ex.drew ?_)⟩
theorem specShiftTo_yes (a b : C4) (w : World) (ha : ok a = true) (hb : ok b = true) : Calls Try.prog 44 #[.agg #[.int .i64 a.a, .int .i64 a.b, .int .i64 a.c, .int .i64 a.d], .agg #[.int .i64 b.a, .int .i64 b.b, .int .i64 b.c, .int .i64 b.d]] w fun e w' => e = .returned (.tuple #[.agg (mcells (shF a b)), .bool true]) ∧ Ex w w' := by
  obtain ⟨a1, a2, a3, a4, a5, a6, a7, a8⟩ := (ok_iff _).1 ha
  obtain ⟨b1, b2, b3, b4, b5, b6, b7, b8⟩ := (ok_iff _).1 hb
  go_enter Try.func44, Try.ntmps44
  go_wp2_with (go_at_call 91; refine (l2Card_r (by assumption)).mono ?_; rintro e w' ⟨rfl, x, rfl⟩)
  clear ha hb
  refine wp_loop_rounds 5 ?_
  iterate 4 (rw [rounds_succ]; go_wp2; refine wp_loop_rounds 4 ?_; (iterate 3 (rw [rounds_succ]; go_wp2_with (refine region_tail 16 (by kernel_rfl) (by kernel_rfl) ?_; simp only [List.take_succ_cons, List.take_zero, List.drop_succ_cons, List.drop_zero]; (repeat (go_big_quiet_step (fail))); refine wpQuiet_nil ?_; rintro _ ⟨x, rfl⟩))); (rw [rounds_succ]; go_wp2))
  rw [rounds_succ]; go_wp2
  refine bodyPost_ret (v := .tuple #[.agg (mcells (shF a b)), .bool true]) ?ee rfl ⟨rfl, by repeat (first | with_reducible exact Ex.refl _ | with_reducible refine Ex.ext ?_ _ | with_reducible refine Ex.alloc ?_ _ | with_reducible refine Ex.drew ?_)⟩
  simp only [results, Try.results44]
  go_simp
  exact mcells_eq (fun j hj => by rcases nat16 hj with rfl | rfl | rfl | rfl | rfl | rfl | rfl | rfl | rfl | rfl | rfl | rfl | rfl | rfl | rfl | rfl <;> rfl)
theorem specShiftTo_c (a b : C4) (w : World) : Calls Try.prog 44 #[.agg #[.int .i64 a.a, .int .i64 a.b, .int .i64 a.c, .int .i64 a.d], .agg #[.int .i64 b.a, .int .i64 b.b, .int .i64 b.c, .int .i64 b.d]] w fun e w' => e = .returned (.tuple #[.agg (mcells (shR a b)), .bool (differB a b)]) ∧ Ex w w' := by
  cases hd : differB a b
  · have := specShiftTo_no a b w hd; rwa [hd] at this
  · simp only [differB, Bool.and_eq_true] at hd
    have h : shR a b = shF a b := by simp [shR, differB, hd]
    rw [h]
    exact specShiftTo_yes a b w hd.1 hd.2
theorem implShiftTo_no (a b : C4) (w : World) (hd : differB a b = false) : Calls Try.prog 46 #[.agg #[.int .i64 a.a, .int .i64 a.b, .int .i64 a.c, .int .i64 a.d], .agg #[.int .i64 b.a, .int .i64 b.b, .int .i64 b.c, .int .i64 b.d]] w fun e w' => e = .returned (.tuple #[.agg (mcells (shR a b)), .bool (differB a b)]) ∧ Ex w w' := by
  have hR : shR a b = mzero := by simp [shR, hd]
  rw [hR, hd]
  clear hR
  go_enter Try.func46, Try.ntmps46
  go_wp2_with (go_at_call 92; refine (areCards2 a b _ _ (by simp)).mono ?_; rw [hd]; rintro e w' ⟨rfl, x, rfl⟩)
  refine bodyPost_ret (v := .tuple #[.agg (mcells mzero), .bool false]) (by simp only [results, Try.results46]; go_simp) rfl ⟨rfl, by repeat (first | with_reducible exact Ex.refl _ | with_reducible refine Ex.ext ?_ _ | with_reducible refine Ex.alloc ?_ _ | with_reducible refine Ex.drew ?_)⟩
theorem implShiftTo_yes (a b : C4) (w : World) (hd : differB a b = true) : Calls Try.prog 46 #[.agg #[.int .i64 a.a, .int .i64 a.b, .int .i64 a.c, .int .i64 a.d], .agg #[.int .i64 b.a, .int .i64 b.b, .int .i64 b.c, .int .i64 b.d]] w fun e w' => e = .returned (.tuple #[.agg (mcells (shF a b)), .bool true]) ∧ Ex w w' := by
  have hd2 := hd
  simp only [differB, Bool.and_eq_true] at hd2
  obtain ⟨a1, a2, a3, a4, a5, a6, a7, a8⟩ := (ok_iff _).1 hd2.1
  obtain ⟨b1, b2, b3, b4, b5, b6, b7, b8⟩ := (ok_iff _).1 hd2.2
  clear hd2
  have Hd := Lib.hid hd
  clear hd
  go_enter Try.func46, Try.ntmps46
  go_wp2_with (go_at_call 92; refine (areCards2 a b _ _ (by simp)).mono ?_; rw [Hd.out]; rintro e w' ⟨rfl, x, rfl⟩)
  refine wp_loop_rounds 5 ?_
  iterate 4 (rw [rounds_succ]; go_wp2; refine wp_loop_rounds 4 ?_; (iterate 3 (rw [rounds_succ]; go_wp2_with (refine region_tail 16 (by kernel_rfl) (by kernel_rfl) ?_; simp only [List.take_succ_cons, List.take_zero, List.drop_succ_cons, List.drop_zero]; (repeat (go_big_quiet_step (fail))); refine wpQuiet_nil ?_; rintro _ ⟨x, rfl⟩))); (rw [rounds_succ]; go_wp2))
  rw [rounds_succ]; go_wp2
  refine bodyPost_ret (v := .tuple #[.agg (mcells (shF a b)), .bool true]) ?ee rfl ⟨rfl, by repeat (first | with_reducible exact Ex.refl _ | with_reducible refine Ex.ext ?_ _ | with_reducible refine Ex.alloc ?_ _ | with_reducible refine Ex.drew ?_)⟩
  simp only [results, Try.results46]
  go_simp
  exact mcells_eq (fun j hj => by rcases nat16 hj with rfl | rfl | rfl | rfl | rfl | rfl | rfl | rfl | rfl | rfl | rfl | rfl | rfl | rfl | rfl | rfl <;> simp [upd, shF] <;> omega)
theorem implShiftTo_c (a b : C4) (w : World) : Calls Try.prog 46 #[.agg #[.int .i64 a.a, .int .i64 a.b, .int .i64 a.c, .int .i64 a.d], .agg #[.int .i64 b.a, .int .i64 b.b, .int .i64 b.c, .int .i64 b.d]] w fun e w' => e = .returned (.tuple #[.agg (mcells (shR a b)), .bool (differB a b)]) ∧ Ex w w' := by
  cases hd : differB a b
  · have := implShiftTo_no a b w hd; rwa [hd] at this
  · have h : shR a b = shF a b := by simp [shR, hd]
    rw [h]
    exact implShiftTo_yes a b w hd

theorem fnExactShiftTo_walk (a b : C4) (w : World) : Calls Try.prog 10 #[.agg #[.int .i64 a.a, .int .i64 a.b, .int .i64 a.c, .int .i64 a.d], .agg #[.int .i64 b.a, .int .i64 b.b, .int .i64 b.c, .int .i64 b.d]] w fun e w' => e = .returned (.bool true) ∧ Below w.heap.size w w' := by
  go_enter Try.func10, Try.ntmps10
  go_wp2
  (apply region_box (aF := _) [0,1,2,3,4,5,6,7,10] 8 9 5 34 15 55 (mcells mzero) (mcells (shR a b)) (by kernel_rfl) (by kernel_rfl) rfl rfl (by kernel_rfl) (fun ρ w => ?_) (fun x0 => ?_) (fun ρ w1 x2 h1 h2 => ?_) (fun x1 x2 n hn => ?_); rotate_left; (simp only [opAt_lit, List.getD_cons_zero, List.getD_cons_succ]; go_simp); (simp only [opAt_lit, List.map_cons, List.map_nil, List.getD_cons_zero, List.getD_cons_succ]; (repeat (go_big_quiet_step (first | (go_at_call 45; exact (toA4_c _ _).mono (by rintro e w' ⟨rfl, y, rfl⟩; first | exact ⟨rfl, _, ext_ext _ _⟩ | exact ⟨rfl, _, by rw [ext_ext, Ext.app_assoc]⟩ | exact ⟨rfl, _, by rw [ext_ext, Ext.app_assoc, Ext.app_assoc]⟩ | exact ⟨rfl, _, by rw [ext_ext, Ext.app_assoc, Ext.app_assoc, Ext.app_assoc]⟩)) | (go_at_call 44; exact (specShiftTo_c _ _ _).mono (by rintro e w' ⟨rfl, y, rfl⟩; first | exact ⟨rfl, _, ext_ext _ _⟩ | exact ⟨rfl, _, by rw [ext_ext, Ext.app_assoc]⟩ | exact ⟨rfl, _, by rw [ext_ext, Ext.app_assoc, Ext.app_assoc]⟩ | exact ⟨rfl, _, by rw [ext_ext, Ext.app_assoc, Ext.app_assoc, Ext.app_assoc]⟩))))); exact rfl); (simp only [opAt_lit, List.getD_cons_zero, List.getD_cons_succ]; go_simp); simp only [Act.put, List.setIfInBounds_toArray, List.set_cons_zero, List.set_cons_succ]; (simp [go_sem] at hn); subst hn)
  go_wp2
  (apply region_box (aF := _) [0,1,2,3,4,5,6,7,10] 8 9 7 34 23 55 (mcells mzero) (mcells (shR a b)) (by kernel_rfl) (by kernel_rfl) rfl rfl (by kernel_rfl) (fun ρ w => ?_) (fun x0 => ?_) (fun ρ w1 x2 h1 h2 => ?_) (fun x1 x2 n hn => ?_); rotate_left; (simp only [opAt_lit, List.getD_cons_zero, List.getD_cons_succ]; go_simp); (simp only [opAt_lit, List.map_cons, List.map_nil, List.getD_cons_zero, List.getD_cons_succ]; (repeat (go_big_quiet_step (first | (go_at_call 45; exact (toA4_c _ _).mono (by rintro e w' ⟨rfl, y, rfl⟩; first | exact ⟨rfl, _, ext_ext _ _⟩ | exact ⟨rfl, _, by rw [ext_ext, Ext.app_assoc]⟩ | exact ⟨rfl, _, by rw [ext_ext, Ext.app_assoc, Ext.app_assoc]⟩ | exact ⟨rfl, _, by rw [ext_ext, Ext.app_assoc, Ext.app_assoc, Ext.app_assoc]⟩)) | (go_at_call 46; exact (implShiftTo_c _ _ _).mono (by rintro e w' ⟨rfl, y, rfl⟩; first | exact ⟨rfl, _, ext_ext _ _⟩ | exact ⟨rfl, _, by rw [ext_ext, Ext.app_assoc]⟩ | exact ⟨rfl, _, by rw [ext_ext, Ext.app_assoc, Ext.app_assoc]⟩ | exact ⟨rfl, _, by rw [ext_ext, Ext.app_assoc, Ext.app_assoc, Ext.app_assoc]⟩))))); exact rfl); (simp only [opAt_lit, List.getD_cons_zero, List.getD_cons_succ]; go_simp); simp only [Act.put, List.setIfInBounds_toArray, List.set_cons_zero, List.set_cons_succ]; (simp [go_sem] at hn); subst hn)
  go_wp2_with (go_at_call 47; refine (eqMap_same _ _).mono ?_; rintro e w' ⟨rfl, x, rfl⟩)
  go_ret
  refine ⟨rfl, Ex.below ?_⟩
  exact by repeat (first | with_reducible exact Ex.refl _ | with_reducible refine Ex.ext ?_ _ | with_reducible refine Ex.alloc ?_ _ | with_reducible refine Ex.drew ?_)
end Go.Proofs.Ytkelmfdbcicojaa
