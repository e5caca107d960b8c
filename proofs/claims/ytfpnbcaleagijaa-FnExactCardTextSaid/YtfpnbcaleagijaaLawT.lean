/- The walk of the law on the text of a card. -/
import Derived.Test.YtfpnbcaleagijaaText
import Derived.Test.YtfpnbcaleagijaaCard2
namespace Go.Proofs.Ytfpnbcaleagijaa
set_option linter.unusedSimpArgs false
set_option linter.unusedVariables false
set_option maxHeartbeats 1000000
open Go.RowKit

def textR (c : C4) : ByteArray := if ok c then ⟨(textC c).toArray⟩ else ⟨#[]⟩

theorem specCardText_c (c : C4) (w : World) : Calls Try.prog 42 #[.agg #[.int .i64 c.a, .int .i64 c.b, .int .i64 c.c, .int .i64 c.d]] w fun e w' => e = .returned (.tuple #[.string (textR c), .bool (ok c)]) ∧ Ex w w' := by
  cases h : ok c
  · go_enter Try.func42, Try.ntmps42
    go_wp2_with (first | (go_at_call 54; refine (l2Card_c _ _).mono ?_; rintro e w' ⟨rfl, x, rfl⟩))
    go_ret2
    exact ⟨by simp [textR, h], by repeat (first | exact Ex.refl _ | refine Ex.ext ?_ _ | refine Ex.alloc ?_ _ | refine Ex.drew ?_)⟩
  · go_enter Try.func42, Try.ntmps42
    go_wp2_with (first | (go_at_call 54; refine (l2Card_c _ _).mono ?_; rintro e w' ⟨rfl, x, rfl⟩) | (go_at_call 72; refine (l2Text_c _ ((ok_iff _).1 h) _).mono ?_; rintro e w' ⟨rfl, x, rfl⟩))
    go_ret2
    exact ⟨by simp [textR, h], by repeat (first | exact Ex.refl _ | refine Ex.ext ?_ _ | refine Ex.alloc ?_ _ | refine Ex.drew ?_)⟩
theorem implCardText_c (c : C4) (w : World) : Calls Try.prog 43 #[.agg #[.int .i64 c.a, .int .i64 c.b, .int .i64 c.c, .int .i64 c.d]] w fun e w' => e = .returned (.tuple #[.string (textR c), .bool (ok c)]) ∧ Ex w w' := by
  cases h : ok c
  · go_enter Try.func43, Try.ntmps43
    go_wp2_with (first | (go_at_call 26; refine (implIsCard_c _ _).mono ?_; rintro e w' ⟨rfl, x, rfl⟩))
    go_ret2
    exact ⟨by simp [textR, h], by repeat (first | exact Ex.refl _ | refine Ex.ext ?_ _ | refine Ex.alloc ?_ _ | refine Ex.drew ?_)⟩
  · go_enter Try.func43, Try.ntmps43
    go_wp2_with (first | (go_at_call 26; refine (implIsCard_c _ _).mono ?_; rintro e w' ⟨rfl, x, rfl⟩) | (go_at_call 73; refine (cardText_c _ ((ok_iff _).1 h) _).mono ?_; rintro e w' ⟨rfl, x, rfl⟩))
    go_ret2
    exact ⟨by simp [textR, h], by repeat (first | exact Ex.refl _ | refine Ex.ext ?_ _ | refine Ex.alloc ?_ _ | refine Ex.drew ?_)⟩

theorem fnExactCardText_walk (c : C4) (w : World) : Calls Try.prog 14 #[.agg #[.int .i64 c.a, .int .i64 c.b, .int .i64 c.c, .int .i64 c.d]] w fun e w' => e = .returned (.bool true) ∧ Below w.heap.size w w' := by
  go_enter Try.func14, Try.ntmps14
  go_wp2_with (first | (go_at_call 25; refine (toA4_c _ _).mono ?_; rintro e w' ⟨rfl, x, rfl⟩) | (go_at_call 42; refine (specCardText_c _ _).mono ?_; rintro e w' ⟨rfl, x, rfl⟩) | (go_at_call 43; refine (implCardText_c _ _).mono ?_; rintro e w' ⟨rfl, x, rfl⟩))
  go_ret
  refine ⟨rfl, Ex.below ?_⟩
  exact by repeat (first | exact Ex.refl _ | refine Ex.ext ?_ _ | refine Ex.alloc ?_ _ | refine Ex.drew ?_)
end Go.Proofs.Ytfpnbcaleagijaa
