/- MapCard: the walks, and the law on it. -/
import Derived.Test.YtkmnnnhnajnefaaBack
import Derived.Test.YtkmnnnhnajnefaaBox
namespace Go.Proofs.Ytkmnnnhnajnefaa
set_option linter.unusedSimpArgs false
set_option linter.unusedVariables false
set_option maxHeartbeats 4000000
set_option maxRecDepth 100000
open Go.RowKit

theorem image_w (f : Nat → Int) (c : C4) (t0 t1 t2 t3 v0 v1 v2 v3 : Nat) (ht0 : f 0 = t0) (ht1 : f 1 = t1) (ht2 : f 2 = t2) (ht3 : f 3 = t3) (h0 : t0 < 4) (h1 : t1 < 4) (h2 : t2 < 4) (h3 : t3 < 4)
    (hv0 : trt c t0 = v0) (hv1 : trt c t1 = v1) (hv2 : trt c t2 = v2) (hv3 : trt c t3 = v3) (k0 : v0 < 3) (k1 : v1 < 3) (k2 : v2 < 3) (k3 : v3 < 3) (w : World) :
    Calls Try.prog 59 #[.agg (mcells f), .agg (ccells c)] w fun e w' => e = .returned (.agg #[.int .i64 (f (4 + v0)), .int .i64 (f (7 + v1)), .int .i64 (f (10 + v2)), .int .i64 (f (13 + v3))]) ∧ Ex w w' := by
  have m0 := mcells_get f (4 + v0) (by omega)
  have m1 := mcells_get f (7 + v1) (by omega)
  have m2 := mcells_get f (10 + v2) (by omega)
  have m3 := mcells_get f (13 + v3) (by omega)
  go_enter Try.func59, Try.ntmps59
  go_wp2
  refine wp_loop_rounds 5 ?_
  iterate 4 (rw [rounds_succ]; go_wp2_with (refine region_tail 13 (by kernel_rfl) (by kernel_rfl) ?_; simp only [List.take_succ_cons, List.take_zero, List.drop_succ_cons, List.drop_zero]; (repeat (go_big_quiet_step (fail))); refine wpQuiet_nil ?_; rintro _ ⟨x, rfl⟩))
  rw [rounds_succ]; go_wp2
  refine bodyPost_ret (v := .agg #[.int .i64 (f (4 + v0)), .int .i64 (f (7 + v1)), .int .i64 (f (10 + v2)), .int .i64 (f (13 + v3))]) ?ee rfl ⟨rfl, by repeat (first | with_reducible exact Ex.refl _ | with_reducible refine Ex.ext ?_ _ | with_reducible refine Ex.alloc ?_ _ | with_reducible refine Ex.drew ?_)⟩
  simp only [results, Try.results59]
  go_simp

/-- The image of a card. -/
def img (f : Nat → Int) (c : C4) : C4 := ⟨f (4 + (trt c (natM f 0)).toNat), f (7 + (trt c (natM f 1)).toNat), f (10 + (trt c (natM f 2)).toNat), f (13 + (trt c (natM f 3)).toNat)⟩
theorem trt_ok {c : C4} (h : Ok c) (i : Nat) : 0 ≤ trt c i ∧ trt c i ≤ 2 := by
  obtain ⟨h1, h2, h3, h4, h5, h6, h7, h8⟩ := h
  unfold trt
  split <;> omega
theorem ok_img {f : Nat → Int} {c : C4} (hm : mapB f = true) (hc : Ok c) : Ok (img f c) := by
  have k := map_nat hm
  have key : ∀ j, 4 ≤ j → j < 16 → 0 ≤ f j ∧ f j ≤ 2 := fun j h1 h2 => by
    have e := k.1 j h2
    have b := k.2.2 j h1 h2
    omega
  have t0 := trt_ok hc (natM f 0)
  have t1 := trt_ok hc (natM f 1)
  have t2 := trt_ok hc (natM f 2)
  have t3 := trt_ok hc (natM f 3)
  have a := key (4 + (trt c (natM f 0)).toNat) (by omega) (by omega)
  have b := key (7 + (trt c (natM f 1)).toNat) (by omega) (by omega)
  have d := key (10 + (trt c (natM f 2)).toNat) (by omega) (by omega)
  have e := key (13 + (trt c (natM f 3)).toNat) (by omega) (by omega)
  exact ⟨a.1, a.2, b.1, b.2, d.1, d.2, e.1, e.2⟩
theorem l5Card_c {f : Nat → Int} {c : C4} (hm : mapB f = true) (hc : Ok c) (w : World) : Calls Try.prog 70 #[.agg (mcells f), .agg #[.int .i64 c.a, .int .i64 c.b, .int .i64 c.c, .int .i64 c.d]] w fun e w' => e = .returned (.agg #[.int .i64 (img f c).a, .int .i64 (img f c).b, .int .i64 (img f c).c, .int .i64 (img f c).d]) ∧ Ex w w' := by
  have k := map_nat hm
  have n : ∀ t, trt c t = ((trt c t).toNat : Int) ∧ (trt c t).toNat < 3 := fun t => by have := trt_ok hc t; omega
  exact l5Card_w f c _ _ _ _ _ _ _ _ (k.1 0 (by omega)) (k.1 1 (by omega)) (k.1 2 (by omega)) (k.1 3 (by omega)) (k.2.1 0 (by omega)) (k.2.1 1 (by omega)) (k.2.1 2 (by omega)) (k.2.1 3 (by omega)) (n _).1 (n _).1 (n _).1 (n _).1 (n _).2 (n _).2 (n _).2 (n _).2 w
theorem image_c {f : Nat → Int} {c : C4} (hm : mapB f = true) (hc : Ok c) (w : World) : Calls Try.prog 59 #[.agg (mcells f), .agg #[.int .i64 c.a, .int .i64 c.b, .int .i64 c.c, .int .i64 c.d]] w fun e w' => e = .returned (.agg #[.int .i64 (img f c).a, .int .i64 (img f c).b, .int .i64 (img f c).c, .int .i64 (img f c).d]) ∧ Ex w w' := by
  have k := map_nat hm
  have n : ∀ t, trt c t = ((trt c t).toNat : Int) ∧ (trt c t).toNat < 3 := fun t => by have := trt_ok hc t; omega
  exact image_w f c _ _ _ _ _ _ _ _ (k.1 0 (by omega)) (k.1 1 (by omega)) (k.1 2 (by omega)) (k.1 3 (by omega)) (k.2.1 0 (by omega)) (k.2.1 1 (by omega)) (k.2.1 2 (by omega)) (k.2.1 3 (by omega)) (n _).1 (n _).1 (n _).1 (n _).1 (n _).2 (n _).2 (n _).2 (n _).2 w
def mcB (f : Nat → Int) (c : C4) : Bool := mapB f && ok c
def mcR (f : Nat → Int) (c : C4) : C4 := if mcB f c then img f c else zero4
end Go.Proofs.Ytkmnnnhnajnefaa
