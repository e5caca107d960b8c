/- The image of a card: the walks. -/
import Derived.Test.YtkmnnnhnajnefaaMapB
namespace Go.Proofs.Ytkmnnnhnajnefaa
set_option linter.unusedSimpArgs false
set_option linter.unusedVariables false
set_option maxHeartbeats 1000000
set_option maxRecDepth 100000
open Go.RowKit

/-- Trait number 't' of a card. -/
def trt (c : C4) (t : Nat) : Int := match t with | 0 => c.a | 1 => c.b | 2 => c.c | _ => c.d
/-- The cells of a card. -/
def ccells (c : C4) : Array Value := #[.int .i64 c.a, .int .i64 c.b, .int .i64 c.c, .int .i64 c.d]
@[go_sem] theorem ccells_get (c : C4) (t : Nat) (h : t < 4) : (ccells c)[t]? = some (.int .i64 (trt c t)) := by
  have h' : t = 0 ∨ t = 1 ∨ t = 2 ∨ t = 3 := by omega
  rcases h' with rfl | rfl | rfl | rfl <;> rfl
@[go_sem] theorem ccells_size (c : C4) : (ccells c).size = 4 := rfl

theorem l5Card_w (f : Nat → Int) (c : C4) (t0 t1 t2 t3 v0 v1 v2 v3 : Nat) (ht0 : f 0 = t0) (ht1 : f 1 = t1) (ht2 : f 2 = t2) (ht3 : f 3 = t3) (h0 : t0 < 4) (h1 : t1 < 4) (h2 : t2 < 4) (h3 : t3 < 4)
    (hv0 : trt c t0 = v0) (hv1 : trt c t1 = v1) (hv2 : trt c t2 = v2) (hv3 : trt c t3 = v3) (k0 : v0 < 3) (k1 : v1 < 3) (k2 : v2 < 3) (k3 : v3 < 3) (w : World) :
    Calls Try.prog 70 #[.agg (mcells f), .agg (ccells c)] w fun e w' => e = .returned (.agg #[.int .i64 (f (4 + v0)), .int .i64 (f (7 + v1)), .int .i64 (f (10 + v2)), .int .i64 (f (13 + v3))]) ∧ Ex w w' := by
  have m0 := mcells_get f (4 + v0) (by omega)
  have m1 := mcells_get f (7 + v1) (by omega)
  have m2 := mcells_get f (10 + v2) (by omega)
  have m3 := mcells_get f (13 + v3) (by omega)
  go_enter Try.func70, Try.ntmps70
  go_wp2
  refine wp_loop_rounds 5 ?_
  iterate 4 (rw [rounds_succ]; go_wp2_with (refine region_tail 13 (by kernel_rfl) (by kernel_rfl) ?_; simp only [List.take_succ_cons, List.take_zero, List.drop_succ_cons, List.drop_zero]; (repeat (go_big_quiet_step (fail))); refine wpQuiet_nil ?_; rintro _ ⟨x, rfl⟩))
  rw [rounds_succ]; go_wp2
  refine bodyPost_ret (v := .agg #[.int .i64 (f (4 + v0)), .int .i64 (f (7 + v1)), .int .i64 (f (10 + v2)), .int .i64 (f (13 + v3))]) ?ee rfl ⟨rfl, by repeat (first | with_reducible exact Ex.refl _ | with_reducible refine Ex.ext ?_ _ | with_reducible refine Ex.alloc ?_ _ | with_reducible refine Ex.drew ?_)⟩
  simp only [results, Try.results70]
  go_simp
end Go.Proofs.Ytkmnnnhnajnefaa
