/- The walk of the law on the third card. -/
import Derived.Test.YtfpnbcaleagijaaLawA
import Derived.Test.YtfpnbcaleagijaaBox
namespace Go.Proofs.Ytfpnbcaleagijaa
set_option linter.unusedSimpArgs false
set_option linter.unusedVariables false
set_option maxHeartbeats 1000000
open Go.RowKit

theorem fnExactThirdCard_walk (a b : C4) (w : World) : Calls Try.prog 13 #[.agg #[.int .i64 a.a, .int .i64 a.b, .int .i64 a.c, .int .i64 a.d], .agg #[.int .i64 b.a, .int .i64 b.b, .int .i64 b.c, .int .i64 b.d]] w fun e w' => e = .returned (.bool true) ∧ Below w.heap.size w w' := by
  have hc : ceq (thirdR a b) (thirdR a b) = true := (ceq_iff _ _).2 rfl
  go_enter Try.func13, Try.ntmps13
  go_wp2
  (apply region_box (aF := _) [0,1,2,3,4,5,6,7,10] 8 9 5 34 15 27 #[.int .i64 0, .int .i64 0, .int .i64 0, .int .i64 0] #[.int .i64 (thirdR a b).a, .int .i64 (thirdR a b).b, .int .i64 (thirdR a b).c, .int .i64 (thirdR a b).d] (by kernel_rfl) (by kernel_rfl) rfl rfl (by kernel_rfl) (fun ρ w => ?_) (fun x0 => ?_) (fun ρ w1 x2 h1 h2 => ?_) (fun x1 x2 n hn => ?_); rotate_left; (simp only [opAt_lit, List.getD_cons_zero, List.getD_cons_succ]; go_simp); (simp only [opAt_lit, List.map_cons, List.map_nil, List.getD_cons_zero, List.getD_cons_succ]; (repeat (go_big_quiet_step (first | (go_at_call 25; exact (toA4_c _ _).mono (by rintro e w' ⟨rfl, y, rfl⟩; first | exact ⟨rfl, _, ext_ext _ _⟩ | exact ⟨rfl, _, by rw [ext_ext, Ext.app_assoc]⟩ | exact ⟨rfl, _, by rw [ext_ext, Ext.app_assoc, Ext.app_assoc]⟩ | exact ⟨rfl, _, by rw [ext_ext, Ext.app_assoc, Ext.app_assoc, Ext.app_assoc]⟩)) | (go_at_call 40; exact (specThirdCard_c _ _ _).mono (by rintro e w' ⟨rfl, y, rfl⟩; first | exact ⟨rfl, _, ext_ext _ _⟩ | exact ⟨rfl, _, by rw [ext_ext, Ext.app_assoc]⟩ | exact ⟨rfl, _, by rw [ext_ext, Ext.app_assoc, Ext.app_assoc]⟩ | exact ⟨rfl, _, by rw [ext_ext, Ext.app_assoc, Ext.app_assoc, Ext.app_assoc]⟩))))); exact rfl); (simp only [opAt_lit, List.getD_cons_zero, List.getD_cons_succ]; go_simp); simp only [Act.put, List.setIfInBounds_toArray, List.set_cons_zero, List.set_cons_succ]; (simp [go_sem] at hn); subst hn)
  go_wp2
  (apply region_box (aF := _) [0,1,2,3,4,5,6,7,10] 8 9 7 34 23 27 #[.int .i64 0, .int .i64 0, .int .i64 0, .int .i64 0] #[.int .i64 (thirdR a b).a, .int .i64 (thirdR a b).b, .int .i64 (thirdR a b).c, .int .i64 (thirdR a b).d] (by kernel_rfl) (by kernel_rfl) rfl rfl (by kernel_rfl) (fun ρ w => ?_) (fun x0 => ?_) (fun ρ w1 x2 h1 h2 => ?_) (fun x1 x2 n hn => ?_); rotate_left; (simp only [opAt_lit, List.getD_cons_zero, List.getD_cons_succ]; go_simp); (simp only [opAt_lit, List.map_cons, List.map_nil, List.getD_cons_zero, List.getD_cons_succ]; (repeat (go_big_quiet_step (first | (go_at_call 25; exact (toA4_c _ _).mono (by rintro e w' ⟨rfl, y, rfl⟩; first | exact ⟨rfl, _, ext_ext _ _⟩ | exact ⟨rfl, _, by rw [ext_ext, Ext.app_assoc]⟩ | exact ⟨rfl, _, by rw [ext_ext, Ext.app_assoc, Ext.app_assoc]⟩ | exact ⟨rfl, _, by rw [ext_ext, Ext.app_assoc, Ext.app_assoc, Ext.app_assoc]⟩)) | (go_at_call 41; exact (implThirdCard_c _ _ _).mono (by rintro e w' ⟨rfl, y, rfl⟩; first | exact ⟨rfl, _, ext_ext _ _⟩ | exact ⟨rfl, _, by rw [ext_ext, Ext.app_assoc]⟩ | exact ⟨rfl, _, by rw [ext_ext, Ext.app_assoc, Ext.app_assoc]⟩ | exact ⟨rfl, _, by rw [ext_ext, Ext.app_assoc, Ext.app_assoc, Ext.app_assoc]⟩))))); exact rfl); (simp only [opAt_lit, List.getD_cons_zero, List.getD_cons_succ]; go_simp); simp only [Act.put, List.setIfInBounds_toArray, List.set_cons_zero, List.set_cons_succ]; (simp [go_sem] at hn); subst hn)
  go_wp2_with (go_at_call 21; refine (eqA4_c _ _ _).mono ?_; rintro e w' ⟨rfl, x, rfl⟩)
  go_ret
  refine ⟨rfl, Ex.below ?_⟩
  exact by repeat (first | exact Ex.refl _ | refine Ex.ext ?_ _ | refine Ex.alloc ?_ _ | refine Ex.drew ?_)
end Go.Proofs.Ytfpnbcaleagijaa
