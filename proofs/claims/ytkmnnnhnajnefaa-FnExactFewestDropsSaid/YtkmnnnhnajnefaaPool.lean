/- The walks of l3Pool and isPool. -/
import Derived.Test.YtkmnnnhnajnefaaCount
namespace Go.Proofs.Ytkmnnnhnajnefaa
set_option linter.unusedSimpArgs false
set_option linter.unusedVariables false
set_option maxHeartbeats 1000000
set_option maxRecDepth 100000
open Go.RowKit

theorem gc_le {cs : List C4} : (((cs.length : Nat) : Int) ≤ 15) ↔ cs.length ≤ 15 := by omega
theorem l3Pool_c (cs : List C4) (p : Option Addr) (cap : Nat) (w : World) (hn : cs.length ≤ 1000000000000) (hz : Sl w p cs) :
    Calls Try.prog 34 #[.slice p cs.length cap] w fun e w' => e = .returned (.bool (gcB cs)) ∧ Ex w w' := by
  have Hz := Lib.hid hz
  clear hz
  cases h1 : handB cs
  · have hR : gcB cs = false := by simp [gcB, h1]
    rw [hR]
    clear hR
    go_enter Try.func34, Try.ntmps34
    go_wp2_with (first | (go_at_call 61; refine (l2Hand_c _ _ _ _ hn (Hz.out.ex (by repeat (first | exact Ex.refl _ | refine Ex.ext ?_ _ | refine Ex.alloc ?_ _ | refine Ex.drew ?_)))).mono ?_; rintro e w' ⟨rfl, x, rfl⟩; rw [h1]))
    go_ret
    exact ⟨rfl, by repeat (first | exact Ex.refl _ | refine Ex.ext ?_ _ | refine Ex.alloc ?_ _ | refine Ex.drew ?_)⟩
  · have hR : gcB cs = decide (cs.length ≤ 15) := by simp [gcB, h1]
    rw [hR]
    clear hR
    go_enter Try.func34, Try.ntmps34
    go_wp2_with (first | (go_at_call 61; refine (l2Hand_c _ _ _ _ hn (Hz.out.ex (by repeat (first | exact Ex.refl _ | refine Ex.ext ?_ _ | refine Ex.alloc ?_ _ | refine Ex.drew ?_)))).mono ?_; rintro e w' ⟨rfl, x, rfl⟩; rw [h1]))
    go_ret
    exact ⟨ret_bool (decide_eq_decide.2 gc_le), by repeat (first | exact Ex.refl _ | refine Ex.ext ?_ _ | refine Ex.alloc ?_ _ | refine Ex.drew ?_)⟩
theorem isPool_c (cs : List C4) (p : Option Addr) (cap : Nat) (w : World) (hn : cs.length ≤ 1000000000000) (hz : Sl w p cs) :
    Calls Try.prog 38 #[.slice p cs.length cap] w fun e w' => e = .returned (.bool (gcB cs)) ∧ Ex w w' := by
  have Hz := Lib.hid hz
  clear hz
  cases h1 : handB cs
  · have hR : gcB cs = false := by simp [gcB, h1]
    rw [hR]
    clear hR
    go_enter Try.func38, Try.ntmps38
    go_wp2_with (first | (go_at_call 65; refine (implIsHand_c _ _ _ _ hn (Hz.out.ex (by repeat (first | exact Ex.refl _ | refine Ex.ext ?_ _ | refine Ex.alloc ?_ _ | refine Ex.drew ?_)))).mono ?_; rintro e w' ⟨rfl, x, rfl⟩; rw [h1]))
    go_ret
    exact ⟨rfl, by repeat (first | exact Ex.refl _ | refine Ex.ext ?_ _ | refine Ex.alloc ?_ _ | refine Ex.drew ?_)⟩
  · have hR : gcB cs = decide (cs.length ≤ 15) := by simp [gcB, h1]
    rw [hR]
    clear hR
    go_enter Try.func38, Try.ntmps38
    go_wp2_with (first | (go_at_call 65; refine (implIsHand_c _ _ _ _ hn (Hz.out.ex (by repeat (first | exact Ex.refl _ | refine Ex.ext ?_ _ | refine Ex.alloc ?_ _ | refine Ex.drew ?_)))).mono ?_; rintro e w' ⟨rfl, x, rfl⟩; rw [h1]))
    go_ret
    exact ⟨ret_bool (decide_eq_decide.2 gc_le), by repeat (first | exact Ex.refl _ | refine Ex.ext ?_ _ | refine Ex.alloc ?_ _ | refine Ex.drew ?_)⟩
end Go.Proofs.Ytkmnnnhnajnefaa
