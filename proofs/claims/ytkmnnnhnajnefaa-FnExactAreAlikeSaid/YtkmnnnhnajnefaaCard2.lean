/- The walks of the exported functions on single cards, and of those that they call. -/
import Derived.Test.YtkmnnnhnajnefaaCard
namespace Go.Proofs.Ytkmnnnhnajnefaa
set_option linter.unusedSimpArgs false
set_option linter.unusedVariables false
set_option maxHeartbeats 1000000
open Go.RowKit

theorem l2Line_c (a b c : C4) (ha : Ok a) (hb : Ok b) (w : World) : Calls Try.prog 83 #[.agg #[.int .i64 a.a, .int .i64 a.b, .int .i64 a.c, .int .i64 a.d], .agg #[.int .i64 b.a, .int .i64 b.b, .int .i64 b.c, .int .i64 b.d], .agg #[.int .i64 c.a, .int .i64 c.b, .int .i64 c.c, .int .i64 c.d]] w fun e w' => e = .returned (.bool (lineB a b c)) ∧ Ex w w' := by
  by_cases h : ceq a b = true
  · go_enter Try.func83, Try.ntmps83
    go_wp2_with (refine region_quiet (by kernel_rfl) (by kernel_rfl) ?_; (repeat (go_big_quiet_step (fail))); refine wpQuiet_nil ?_; rintro _ ⟨x, rfl⟩)
    go_ret
    exact ⟨by simp [lineB, h], by repeat (first | exact Ex.refl _ | refine Ex.ext ?_ _ | refine Ex.alloc ?_ _ | refine Ex.drew ?_)⟩
  · have h : ceq a b = false := by simpa using h
    go_enter Try.func83, Try.ntmps83
    go_wp2_with (refine region_quiet (by kernel_rfl) (by kernel_rfl) ?_; (repeat (go_big_quiet_step ((go_at_call 95; exact (l2Third_c a b ha hb _).mono (by rintro e w' ⟨rfl, y, rfl⟩; exact ⟨rfl, _, ext_ext _ _⟩))))); refine wpQuiet_nil ?_; rintro _ ⟨x, rfl⟩)
    go_ret
    exact ⟨by simp [lineB, h], by repeat (first | exact Ex.refl _ | refine Ex.ext ?_ _ | refine Ex.alloc ?_ _ | refine Ex.drew ?_)⟩

-- laws
theorem toA4_c (c : C4) (w : World) : Calls Try.prog 37 #[.agg #[.int .i64 c.a, .int .i64 c.b, .int .i64 c.c, .int .i64 c.d]] w fun e w' => e = .returned (.agg #[.int .i64 c.a, .int .i64 c.b, .int .i64 c.c, .int .i64 c.d]) ∧ Ex w w' := by
  go_enter Try.func37, Try.ntmps37
  go_wp2
  refine wp_loop_rounds 5 ?_
  iterate 5 (all_goals (try rw [rounds_succ]); go_wp2_with (refine region_tail 5 (by kernel_rfl) (by kernel_rfl) ?_; simp only [List.take_succ_cons, List.take_zero, List.drop_succ_cons, List.drop_zero]; (repeat (go_big_quiet_step (fail))); refine wpQuiet_nil ?_; rintro _ ⟨x, rfl⟩))
  refine bodyPost_ret (v := .agg #[.int .i64 c.a, .int .i64 c.b, .int .i64 c.c, .int .i64 c.d]) (by simp only [results, Try.results37]; go_simp) rfl ⟨rfl, by repeat (first | exact Ex.refl _ | refine Ex.ext ?_ _ | refine Ex.alloc ?_ _ | refine Ex.drew ?_)⟩

theorem eqA4_c (a b : C4) (w : World) : Calls Try.prog 42 #[.agg #[.int .i64 a.a, .int .i64 a.b, .int .i64 a.c, .int .i64 a.d], .agg #[.int .i64 b.a, .int .i64 b.b, .int .i64 b.c, .int .i64 b.d]] w fun e w' => e = .returned (.bool (ceq a b)) ∧ Ex w w' := by
  go_enter Try.func42, Try.ntmps42
  go_wp2
  refine wp_loop_rounds 5 ?_
  iterate 5 (all_goals (try rw [rounds_succ]); go_wp2_with (refine region_quiet (by kernel_rfl) (by kernel_rfl) ?_; (repeat (go_big_quiet_step (fail))); refine wpQuiet_nil ?_; rintro _ ⟨x, rfl⟩))
  all_goals
    go_ret
    exact ⟨(by (try simp only [Bool.not_eq_true', Bool.not_eq_false', bne_eq_false_iff_eq, bne_iff_ne] at *); simp [ceq, *]), by repeat (first | exact Ex.refl _ | refine Ex.ext ?_ _ | refine Ex.alloc ?_ _ | refine Ex.drew ?_)⟩
end Go.Proofs.Ytkmnnnhnajnefaa
