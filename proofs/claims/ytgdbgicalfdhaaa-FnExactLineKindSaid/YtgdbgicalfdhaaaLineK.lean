/- The walks of LineKind. -/
import Derived.Test.YtgdbgicalfdhaaaLawA
import Derived.Test.YtgdbgicalfdhaaaCard3
namespace Go.Proofs.Ytgdbgicalfdhaaa
set_option linter.unusedSimpArgs false
set_option linter.unusedVariables false
set_option maxHeartbeats 1000000
open Go.RowKit

theorem specLineKind_c (a b c : C4) (w : World) : Calls Try.prog 15 #[.agg #[.int .i64 a.a, .int .i64 a.b, .int .i64 a.c, .int .i64 a.d], .agg #[.int .i64 b.a, .int .i64 b.b, .int .i64 b.c, .int .i64 b.d], .agg #[.int .i64 c.a, .int .i64 c.b, .int .i64 c.c, .int .i64 c.d]] w fun e w' => e = .returned (.tuple #[.int .i64 (kindR a b c), .bool (kindB a b c)]) ∧ Ex w w' := by
  cases ha : ok a
  all_goals cases hb : ok b
  all_goals cases hc : ok c
  all_goals cases hl : lineB a b c
  all_goals
    go_enter Try.func15, Try.ntmps15
    go_wp2_with (first | (go_at_call 55; refine (l2Card_c _ _).mono ?_; rintro e w' ⟨rfl, x, rfl⟩) | (go_at_call 56; refine (l2Line_c _ _ _ ((ok_iff _).1 ha) ((ok_iff _).1 hb) _).mono ?_; rintro e w' ⟨rfl, x, rfl⟩) | (go_at_call 57; refine (l2Differ_c _ _ _).mono ?_; rintro e w' ⟨rfl, x, rfl⟩))
    go_ret2
    exact ⟨by simp [kindR, kindB, *], by repeat (first | exact Ex.refl _ | refine Ex.ext ?_ _ | refine Ex.alloc ?_ _ | refine Ex.drew ?_)⟩

theorem implLineKind_c (a b c : C4) (w : World) : Calls Try.prog 17 #[.agg #[.int .i64 a.a, .int .i64 a.b, .int .i64 a.c, .int .i64 a.d], .agg #[.int .i64 b.a, .int .i64 b.b, .int .i64 b.c, .int .i64 b.d], .agg #[.int .i64 c.a, .int .i64 c.b, .int .i64 c.c, .int .i64 c.d]] w fun e w' => e = .returned (.tuple #[.int .i64 (kindR a b c), .bool (kindB a b c)]) ∧ Ex w w' := by
  by_cases h : lineOk a b c = true
  · have h1 := h
    simp only [lineOk, Bool.and_eq_true] at h1
    obtain ⟨⟨ha, hb⟩, hc⟩ := h1
    cases hl : lineB a b c
    all_goals
      go_enter Try.func17, Try.ntmps17
      go_wp2_with (first | (go_at_call 58; refine (areCards3 a b c _ _ (by simp)).mono ?_; rintro e w' ⟨rfl, x, rfl⟩) | (go_at_call 59; refine (isLine_c _ _ _ ((ok_iff _).1 ha) ((ok_iff _).1 hb) _).mono ?_; rintro e w' ⟨rfl, x, rfl⟩) | (go_at_call 60; refine (differ_c _ _ _).mono ?_; rintro e w' ⟨rfl, x, rfl⟩))
      go_ret2
      exact ⟨by simp [kindR, kindB, *], by repeat (first | exact Ex.refl _ | refine Ex.ext ?_ _ | refine Ex.alloc ?_ _ | refine Ex.drew ?_)⟩
  · have h : lineOk a b c = false := by simpa using h
    go_enter Try.func17, Try.ntmps17
    go_wp2_with (first | (go_at_call 58; refine (areCards3 a b c _ _ (by simp)).mono ?_; rintro e w' ⟨rfl, x, rfl⟩))
    go_ret2
    exact ⟨by simp [kindR, kindB, show (ok a && ok b && ok c) = false from h], by repeat (first | exact Ex.refl _ | refine Ex.ext ?_ _ | refine Ex.alloc ?_ _ | refine Ex.drew ?_)⟩

theorem fnExactLineKind_walk (a b c : C4) (w : World) : Calls Try.prog 3 #[.agg #[.int .i64 a.a, .int .i64 a.b, .int .i64 a.c, .int .i64 a.d], .agg #[.int .i64 b.a, .int .i64 b.b, .int .i64 b.c, .int .i64 b.d], .agg #[.int .i64 c.a, .int .i64 c.b, .int .i64 c.c, .int .i64 c.d]] w fun e w' => e = .returned (.bool true) ∧ Below w.heap.size w w' := by
  go_enter Try.func3, Try.ntmps3
  go_wp2_with (first | (refine region_quiet (by kernel_rfl) (by kernel_rfl) ?_; (repeat (go_big_quiet_step ((first | (go_at_call 16; exact (toA4_c _ _).mono (by rintro e w' ⟨rfl, y, rfl⟩; first | exact ⟨rfl, _, ext_ext _ _⟩ | exact ⟨rfl, _, by rw [ext_ext, Ext.app_assoc]⟩ | exact ⟨rfl, _, by rw [ext_ext, Ext.app_assoc, Ext.app_assoc]⟩ | exact ⟨rfl, _, by rw [ext_ext, Ext.app_assoc, Ext.app_assoc, Ext.app_assoc]⟩)) | (go_at_call 15; exact (specLineKind_c _ _ _ _).mono (by rintro e w' ⟨rfl, y, rfl⟩; first | exact ⟨rfl, _, ext_ext _ _⟩ | exact ⟨rfl, _, by rw [ext_ext, Ext.app_assoc]⟩ | exact ⟨rfl, _, by rw [ext_ext, Ext.app_assoc, Ext.app_assoc]⟩ | exact ⟨rfl, _, by rw [ext_ext, Ext.app_assoc, Ext.app_assoc, Ext.app_assoc]⟩)) | (go_at_call 17; exact (implLineKind_c _ _ _ _).mono (by rintro e w' ⟨rfl, y, rfl⟩; first | exact ⟨rfl, _, ext_ext _ _⟩ | exact ⟨rfl, _, by rw [ext_ext, Ext.app_assoc]⟩ | exact ⟨rfl, _, by rw [ext_ext, Ext.app_assoc, Ext.app_assoc]⟩ | exact ⟨rfl, _, by rw [ext_ext, Ext.app_assoc, Ext.app_assoc, Ext.app_assoc]⟩)))))); refine wpQuiet_nil ?_; rintro _ ⟨x, rfl⟩))
  go_ret
  refine ⟨rfl, Ex.below ?_⟩
  exact by repeat (first | exact Ex.refl _ | refine Ex.ext ?_ _ | refine Ex.alloc ?_ _ | refine Ex.drew ?_)
end Go.Proofs.Ytgdbgicalfdhaaa
