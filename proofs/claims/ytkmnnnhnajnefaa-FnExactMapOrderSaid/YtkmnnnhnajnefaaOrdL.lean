/- The law on MapOrder: the walk. -/
import Derived.Test.YtkmnnnhnajnefaaOrdS
namespace Go.Proofs.Ytkmnnnhnajnefaa
set_option linter.unusedSimpArgs false
set_option linter.unusedVariables false
set_option maxHeartbeats 1000000
set_option maxRecDepth 100000
open Go.RowKit

theorem specMapOrder_c (f : Nat → Int) (w : World) : Calls Try.prog 27 #[.agg (mcells f)] w fun e w' => e = .returned (.tuple #[.int .i64 (moR f), .bool (mapB f)]) ∧ Ex w w' :=
  specMapOrder_g rfl (fun w => l5Map_c f w) (fun hm k w => by
    have h := nowM_ok (MapN.of hm) k
    have e := MapN.of hm
    have q := l5Behind_w (natM (nowM f k)) (natM f) h.tr h.va e.tr e.va w
    rw [← mcells_eq h.nat, ← mcells_eq e.nat] at q
    exact q) w
theorem implMapOrder_c (f : Nat → Int) (w : World) : Calls Try.prog 28 #[.agg (mcells f)] w fun e w' => e = .returned (.tuple #[.int .i64 (moR f), .bool (mapB f)]) ∧ Ex w w' := by
  have h := implMapOrder_g (f := f) rfl (fun w => implIsMap_c f w) (fun hm c w hc => orbit_c hm hc w) w
  have e : (if mapB f = true then (ordI f 81 : Int) else 0) = moR f := by
    unfold moR
    split
    · rename_i hm; rw [ordI_eq hm]
    · rfl
  rw [e] at h
  exact h
theorem fnExactMapOrder_walk (f : Nat → Int) (w : World) : Calls Try.prog 7 #[.agg (mcells f)] w fun e w' => e = .returned (.bool true) ∧ Below w.heap.size w w' := by
  have HS := Lib.hid (fun w => specMapOrder_c f w)
  have HI := Lib.hid (fun w => implMapOrder_c f w)
  generalize moR f = g at *
  generalize mapB f = b at *
  go_enter Try.func7, Try.ntmps7
  go_wp2_with (first | (go_at_call 24; refine (toMap_c _ _).mono ?_; rintro e w' ⟨rfl, x, rfl⟩) | (go_at_call 27; refine (HS.out _).mono ?_; rintro e w' ⟨rfl, x, rfl⟩) | (go_at_call 28; refine (HI.out _).mono ?_; rintro e w' ⟨rfl, x, rfl⟩))
  go_ret
  refine ⟨rfl, Ex.below ?_⟩
  exact by repeat (first | with_reducible exact Ex.refl _ | with_reducible refine Ex.ext ?_ _ | with_reducible refine Ex.alloc ?_ _ | with_reducible refine Ex.drew ?_)
end Go.Proofs.Ytkmnnnhnajnefaa
