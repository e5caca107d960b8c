/- The walks of the exported functions on single cards, and of those that they call. -/
import Derived.Test.YtebgkdgcjpjigaaDoorCard
namespace Go.Proofs.YtebgkdgcjpjigaaDoor
set_option linter.unusedSimpArgs false
set_option linter.unusedVariables false
set_option maxHeartbeats 1000000
open Go.RowKit

-- laws
theorem eqA4_c (a b : C4) (w : World) : Calls Tryd.prog 40 #[.agg #[.int .i64 a.a, .int .i64 a.b, .int .i64 a.c, .int .i64 a.d], .agg #[.int .i64 b.a, .int .i64 b.b, .int .i64 b.c, .int .i64 b.d]] w fun e w' => e = .returned (.bool (ceq a b)) ∧ Ex w w' := by
  go_enter Tryd.func40, Tryd.ntmps40
  go_wp2
  refine wp_loop_rounds 5 ?_
  iterate 5 (all_goals (try rw [rounds_succ]); go_wp2_with (refine region_quiet (by kernel_rfl) (by kernel_rfl) ?_; (repeat (go_big_quiet_step (fail))); refine wpQuiet_nil ?_; rintro _ ⟨x, rfl⟩))
  all_goals
    go_ret
    exact ⟨(by (try simp only [Bool.not_eq_true', Bool.not_eq_false', bne_eq_false_iff_eq, bne_iff_ne] at *); simp [ceq, *]), by repeat (first | exact Ex.refl _ | refine Ex.ext ?_ _ | refine Ex.alloc ?_ _ | refine Ex.drew ?_)⟩
end Go.Proofs.YtebgkdgcjpjigaaDoor
