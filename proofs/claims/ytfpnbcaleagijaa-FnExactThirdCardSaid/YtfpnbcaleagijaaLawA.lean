/- The walks of the laws on seeds, single cards and checksums. -/
import Derived.Test.YtfpnbcaleagijaaStrA
namespace Go.Proofs.Ytfpnbcaleagijaa
set_option linter.unusedSimpArgs false
set_option linter.unusedVariables false
set_option maxHeartbeats 1000000
open Go.RowKit

theorem ceq_self (a : C4) : ceq a a = true := (ceq_iff a a).2 rfl

theorem fnExactConstants_walk (w : World) : Calls Try.prog 3 #[] w fun e w' => e = .returned (.bool true) ∧ Below w.heap.size w w' := by
  go_enter Try.func3, Try.ntmps3
  go_wp2
  go_ret
  refine ⟨rfl, Ex.below ?_⟩
  exact by repeat (first | exact Ex.refl _ | refine Ex.ext ?_ _ | refine Ex.alloc ?_ _ | refine Ex.drew ?_)

theorem fnExactLessString_walk (a : ByteArray) (ha : a.size ≤ maxLen) (b : ByteArray) (hb : b.size ≤ maxLen) (w : World) : Calls Try.prog 4 #[.string a, .string b] w fun e w' => e = .returned (.bool true) ∧ Below w.heap.size w w' := by
  unfold maxLen at ha hb
  by_cases h1 : a.size ≤ 1048576 <;> by_cases h2 : b.size ≤ 1048576
  all_goals
    go_enter Try.func4, Try.ntmps4
    go_wp2_with (first | (go_at_call 15; refine (specLess_c _ _ _).mono ?_; rintro e w' ⟨rfl, x, rfl⟩) | (go_at_call 16; refine (implLess_c _ _ _).mono ?_; rintro e w' ⟨rfl, x, rfl⟩))
    go_ret
    refine ⟨rfl, Ex.below ?_⟩
    exact by repeat (first | exact Ex.refl _ | refine Ex.ext ?_ _ | refine Ex.alloc ?_ _ | refine Ex.drew ?_)

theorem fnExactNextSeed_walk (s : Int) (hs : (Lit.int .i64 s).wf = true) (w : World) : Calls Try.prog 5 #[.int .i64 s] w fun e w' => e = .returned (.bool true) ∧ Below w.heap.size w w' := by
  clear hs
  go_enter Try.func5, Try.ntmps5
  go_wp2_with (first | (go_at_call 17; refine (specNextSeed_c _ _).mono ?_; rintro e w' ⟨rfl, x, rfl⟩) | (go_at_call 18; refine (implNextSeed_c _ _).mono ?_; rintro e w' ⟨rfl, x, rfl⟩))
  go_ret
  refine ⟨rfl, Ex.below ?_⟩
  exact by repeat (first | exact Ex.refl _ | refine Ex.ext ?_ _ | refine Ex.alloc ?_ _ | refine Ex.drew ?_)

theorem fnExactCardAt_walk (s : Int) (hs : (Lit.int .i64 s).wf = true) (w : World) : Calls Try.prog 6 #[.int .i64 s] w fun e w' => e = .returned (.bool true) ∧ Below w.heap.size w w' := by
  clear hs
  have hc := ceq_self (atR s)
  go_enter Try.func6, Try.ntmps6
  go_wp2_with (first | (go_at_call 19; refine (specCardAt_c _ _).mono ?_; rintro e w' ⟨rfl, x, rfl⟩) | (go_at_call 20; refine (implCardAt_c _ _).mono ?_; rintro e w' ⟨rfl, x, rfl⟩) | (go_at_call 21; refine (eqA4_c _ _ _).mono ?_; rintro e w' ⟨rfl, x, rfl⟩))
  go_ret
  refine ⟨rfl, Ex.below ?_⟩
  exact by repeat (first | exact Ex.refl _ | refine Ex.ext ?_ _ | refine Ex.alloc ?_ _ | refine Ex.drew ?_)

theorem fnExactChecksum_walk (a : ByteArray) (ha : a.size ≤ maxLen) (w : World) : Calls Try.prog 7 #[.string a] w fun e w' => e = .returned (.bool true) ∧ Below w.heap.size w w' := by
  unfold maxLen at ha
  by_cases h1 : a.size ≤ 1048576
  all_goals
    go_enter Try.func7, Try.ntmps7
    go_wp2_with (first | (go_at_call 22; refine (specChecksum_c _ (by omega) _).mono ?_; rintro e w' ⟨rfl, x, rfl⟩) | (go_at_call 23; refine (implChecksum_c _ (by omega) _).mono ?_; rintro e w' ⟨rfl, x, rfl⟩))
    go_ret
    refine ⟨rfl, Ex.below ?_⟩
    exact by repeat (first | exact Ex.refl _ | refine Ex.ext ?_ _ | refine Ex.alloc ?_ _ | refine Ex.drew ?_)

theorem fnExactIsCard_walk (c : C4) (w : World) : Calls Try.prog 8 #[.agg #[.int .i64 c.a, .int .i64 c.b, .int .i64 c.c, .int .i64 c.d]] w fun e w' => e = .returned (.bool true) ∧ Below w.heap.size w w' := by
  go_enter Try.func8, Try.ntmps8
  go_wp2_with (first | (go_at_call 25; refine (toA4_c _ _).mono ?_; rintro e w' ⟨rfl, x, rfl⟩) | (go_at_call 24; refine (specIsCard_c _ _).mono ?_; rintro e w' ⟨rfl, x, rfl⟩) | (go_at_call 26; refine (implIsCard_c _ _).mono ?_; rintro e w' ⟨rfl, x, rfl⟩))
  go_ret
  refine ⟨rfl, Ex.below ?_⟩
  exact by repeat (first | exact Ex.refl _ | refine Ex.ext ?_ _ | refine Ex.alloc ?_ _ | refine Ex.drew ?_)

theorem fnExactCardNumber_walk (c : C4) (w : World) : Calls Try.prog 9 #[.agg #[.int .i64 c.a, .int .i64 c.b, .int .i64 c.c, .int .i64 c.d]] w fun e w' => e = .returned (.bool true) ∧ Below w.heap.size w w' := by
  go_enter Try.func9, Try.ntmps9
  go_wp2_with (first | (go_at_call 25; refine (toA4_c _ _).mono ?_; rintro e w' ⟨rfl, x, rfl⟩) | (go_at_call 27; refine (specCardNumber_c _ _).mono ?_; rintro e w' ⟨rfl, x, rfl⟩) | (go_at_call 28; refine (implCardNumber_c _ _).mono ?_; rintro e w' ⟨rfl, x, rfl⟩))
  go_ret
  refine ⟨rfl, Ex.below ?_⟩
  exact by repeat (first | exact Ex.refl _ | refine Ex.ext ?_ _ | refine Ex.alloc ?_ _ | refine Ex.drew ?_)
theorem fnExactIsLine_walk (a b c : C4) (w : World) : Calls Try.prog 11 #[.agg #[.int .i64 a.a, .int .i64 a.b, .int .i64 a.c, .int .i64 a.d], .agg #[.int .i64 b.a, .int .i64 b.b, .int .i64 b.c, .int .i64 b.d], .agg #[.int .i64 c.a, .int .i64 c.b, .int .i64 c.c, .int .i64 c.d]] w fun e w' => e = .returned (.bool true) ∧ Below w.heap.size w w' := by
  go_enter Try.func11, Try.ntmps11
  go_wp2_with (first | (refine region_quiet (by kernel_rfl) (by kernel_rfl) ?_; (repeat (go_big_quiet_step ((first | (go_at_call 25; exact (toA4_c _ _).mono (by rintro e w' ⟨rfl, y, rfl⟩; first | exact ⟨rfl, _, ext_ext _ _⟩ | exact ⟨rfl, _, by rw [ext_ext, Ext.app_assoc]⟩ | exact ⟨rfl, _, by rw [ext_ext, Ext.app_assoc, Ext.app_assoc]⟩ | exact ⟨rfl, _, by rw [ext_ext, Ext.app_assoc, Ext.app_assoc, Ext.app_assoc]⟩)) | (go_at_call 36; exact (specIsLine_c _ _ _ _).mono (by rintro e w' ⟨rfl, y, rfl⟩; first | exact ⟨rfl, _, ext_ext _ _⟩ | exact ⟨rfl, _, by rw [ext_ext, Ext.app_assoc]⟩ | exact ⟨rfl, _, by rw [ext_ext, Ext.app_assoc, Ext.app_assoc]⟩ | exact ⟨rfl, _, by rw [ext_ext, Ext.app_assoc, Ext.app_assoc, Ext.app_assoc]⟩)) | (go_at_call 37; exact (implIsLine_c _ _ _ _).mono (by rintro e w' ⟨rfl, y, rfl⟩; first | exact ⟨rfl, _, ext_ext _ _⟩ | exact ⟨rfl, _, by rw [ext_ext, Ext.app_assoc]⟩ | exact ⟨rfl, _, by rw [ext_ext, Ext.app_assoc, Ext.app_assoc]⟩ | exact ⟨rfl, _, by rw [ext_ext, Ext.app_assoc, Ext.app_assoc, Ext.app_assoc]⟩)))))); refine wpQuiet_nil ?_; rintro _ ⟨x, rfl⟩))
  go_ret
  refine ⟨rfl, Ex.below ?_⟩
  exact by repeat (first | exact Ex.refl _ | refine Ex.ext ?_ _ | refine Ex.alloc ?_ _ | refine Ex.drew ?_)

theorem fnExactDifferIn_walk (a b : C4) (w : World) : Calls Try.prog 12 #[.agg #[.int .i64 a.a, .int .i64 a.b, .int .i64 a.c, .int .i64 a.d], .agg #[.int .i64 b.a, .int .i64 b.b, .int .i64 b.c, .int .i64 b.d]] w fun e w' => e = .returned (.bool true) ∧ Below w.heap.size w w' := by
  go_enter Try.func12, Try.ntmps12
  go_wp2_with (first | (refine region_quiet (by kernel_rfl) (by kernel_rfl) ?_; (repeat (go_big_quiet_step ((first | (go_at_call 25; exact (toA4_c _ _).mono (by rintro e w' ⟨rfl, y, rfl⟩; first | exact ⟨rfl, _, ext_ext _ _⟩ | exact ⟨rfl, _, by rw [ext_ext, Ext.app_assoc]⟩ | exact ⟨rfl, _, by rw [ext_ext, Ext.app_assoc, Ext.app_assoc]⟩ | exact ⟨rfl, _, by rw [ext_ext, Ext.app_assoc, Ext.app_assoc, Ext.app_assoc]⟩)) | (go_at_call 38; exact (specDifferIn_c _ _ _).mono (by rintro e w' ⟨rfl, y, rfl⟩; first | exact ⟨rfl, _, ext_ext _ _⟩ | exact ⟨rfl, _, by rw [ext_ext, Ext.app_assoc]⟩ | exact ⟨rfl, _, by rw [ext_ext, Ext.app_assoc, Ext.app_assoc]⟩ | exact ⟨rfl, _, by rw [ext_ext, Ext.app_assoc, Ext.app_assoc, Ext.app_assoc]⟩)) | (go_at_call 39; exact (implDifferIn_c _ _ _).mono (by rintro e w' ⟨rfl, y, rfl⟩; first | exact ⟨rfl, _, ext_ext _ _⟩ | exact ⟨rfl, _, by rw [ext_ext, Ext.app_assoc]⟩ | exact ⟨rfl, _, by rw [ext_ext, Ext.app_assoc, Ext.app_assoc]⟩ | exact ⟨rfl, _, by rw [ext_ext, Ext.app_assoc, Ext.app_assoc, Ext.app_assoc]⟩)))))); refine wpQuiet_nil ?_; rintro _ ⟨x, rfl⟩))
  go_ret
  refine ⟨rfl, Ex.below ?_⟩
  exact by repeat (first | exact Ex.refl _ | refine Ex.ext ?_ _ | refine Ex.alloc ?_ _ | refine Ex.drew ?_)

end Go.Proofs.Ytfpnbcaleagijaa
