/- The law on CycleCounts: the walk. -/
import Derived.Test.YtkmnnnhnajnefaaCyc
namespace Go.Proofs.Ytkmnnnhnajnefaa
set_option linter.unusedSimpArgs false
set_option linter.unusedVariables false
set_option maxHeartbeats 1000000
set_option maxRecDepth 100000
open Go.RowKit

theorem specCycleCounts_c (f : Nat → Int) (w : World) : Calls Try.prog 23 #[.agg (mcells f)] w fun e w' => e = .returned (.tuple #[.agg (ncells (cycR f)), .bool (mapB f)]) ∧ Ex w w' :=
  specCycleCounts_g rfl (fun w => l5Map_c f w) (fun hm c w hc => l5Orbit_c hm hc w) w
theorem implCycleCounts_c (f : Nat → Int) (w : World) : Calls Try.prog 25 #[.agg (mcells f)] w fun e w' => e = .returned (.tuple #[.agg (ncells (cycR f)), .bool (mapB f)]) ∧ Ex w w' :=
  implCycleCounts_g rfl (fun w => implIsMap_c f w) (fun hm c w hc => orbit_c hm hc w) w
theorem fnExactCycleCounts_walk (f : Nat → Int) (w : World) : Calls Try.prog 6 #[.agg (mcells f)] w fun e w' => e = .returned (.bool true) ∧ Below w.heap.size w w' := by
  have HS := Lib.hid (fun w => specCycleCounts_c f w)
  have HI := Lib.hid (fun w => implCycleCounts_c f w)
  generalize cycR f = g at *
  generalize mapB f = b at *
  go_enter Try.func6, Try.ntmps6
  go_wp2_with (first | (go_at_call 24; refine (toMap_c _ _).mono ?_; rintro e w' ⟨rfl, x, rfl⟩) | (go_at_call 23; refine (HS.out _).mono ?_; rintro e w' ⟨rfl, x, rfl⟩) | (go_at_call 25; refine (HI.out _).mono ?_; rintro e w' ⟨rfl, x, rfl⟩) | (go_at_call 26; refine (eqA19_same _ _).mono ?_; rintro e w' ⟨rfl, x, rfl⟩))
  go_ret
  refine ⟨rfl, Ex.below ?_⟩
  exact by repeat (first | with_reducible exact Ex.refl _ | with_reducible refine Ex.ext ?_ _ | with_reducible refine Ex.alloc ?_ _ | with_reducible refine Ex.drew ?_)
end Go.Proofs.Ytkmnnnhnajnefaa
