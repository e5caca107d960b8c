/- slices.Grow and slices.Concat at slices of cards. -/
import Derived.Test.YtkelmfdbcicojaaLay
import Derived.Lib.AppendZeros
namespace Go.Proofs.Ytkelmfdbcicojaa
set_option linter.unusedSimpArgs false
set_option linter.unusedVariables false
set_option maxHeartbeats 1000000
set_option maxRecDepth 100000
open Go.RowKit

theorem grow_c (n : Nat) (w : World) (hn : n ≤ 1000) :
    Calls Try.prog 140 #[.slice none 0 0, .int .i64 n] w fun e w' => ∃ p cap, e = .returned (.slice p 0 cap) ∧ Ex w w' ∧ w'.ownsRow w.heap.size 52 4 (.slice p 0 cap) 0 [] ∧ (p = none → n = 0) := by
  by_cases h0 : 0 < n
  · obtain ⟨i, z, hi, hz, hsize, hby, hzs⟩ := rowC4.info
    have hrun := fun ty => Lib.run_append_nil_zeros (P := Try.prog) w 22 3 ty 52 i z .i64 .i64 rowC4.under Try.underlying3 hi hz n h0 (by omega) (by omega) (by rw [hby]; omega)
    have hge := grownCap_ge w n 0 52
    have hle := grownCap_le_maxLen w n 0 52 (by unfold maxLen; omega)
    have hAs : (Builtin.zeroCells z.cells n ++ Builtin.zeroCells z.cells (grownCap w n 0 52 - n)).size = grownCap w n 0 52 * 4 := by
      simp only [Array.size_append, size_zeroCells, hzs]
      rw [← Nat.add_mul]
      congr 1
      omega
    generalize Builtin.zeroCells z.cells n ++ Builtin.zeroCells z.cells (grownCap w n 0 52 - n) = A at *
    generalize grownCap w n 0 52 = cap at *
    have Hrun := Lib.hid hrun
    have HA := Lib.hid hAs
    have h0' : (0 : Int) < (n : Int) := by omega
    clear hrun hAs hi hz hzs hsize hby
    go_enter Try.func140, Try.ntmps140
    go_wp2_with (at_builtin; refine Lib.wpList_append_run _ rfl _ _ _ _ rfl _ _ rfl rfl _ _ (Hrun.out _) ?_)
    go_ret
    exact ⟨some ⟨w.heap.size, 0, none⟩, cap, rfl, by repeat (first | exact Ex.refl _ | refine Ex.ext ?_ _ | refine Ex.alloc ?_ _ | refine Ex.drew ?_), ⟨by simp, Or.inr ⟨w.heap.size, cap, A, rfl, Nat.le_refl _, heap_alloc_new _ _, Nat.zero_le _, hle, HA.out, by simp⟩⟩, fun e => by cases e⟩
  · have : n = 0 := by omega
    subst this
    go_enter Try.func140, Try.ntmps140
    go_wp2
    go_ret
    exact ⟨none, 0, rfl, by repeat (first | exact Ex.refl _ | refine Ex.ext ?_ _ | refine Ex.alloc ?_ _ | refine Ex.drew ?_), own_nil _ _ _ _, by simp⟩

theorem concat_c (cs ds : List C4) (n m : Nat) (p q : Option Addr) (c1 c2 b : Nat) (w : World) (hn : n ≤ 200) (hm : m ≤ 200) (hlc : cs.length = n) (hld : ds.length = m) (hb : b < w.heap.size) (h0 : w.cell? ⟨b, 0, none⟩ = some (.slice p n c1)) (h1 : w.cell? ⟨b, 1, none⟩ = some (.slice q m c2)) (hc : Src w (.slice p n c1) cs) (hd : Src w (.slice q m c2) ds) :
    Calls Try.prog 113 #[.slice (some ⟨b, 0, none⟩) 2 2] w fun e w' => ∃ r cap, e = .returned (.slice r (n + m) cap) ∧ Ex w w' ∧ Row w.heap.size w'.heap.size w' r cap (cs ++ ds) := by
  have h00 := Lib.hid h0
  have h11 := Lib.hid h1
  have Hc := Lib.hid hc
  have Hd := Lib.hid hd
  clear hc hd
  go_enter Try.func113, Try.ntmps113
  go_wp2
  refine wp_loop_rounds 3 ?_
  iterate 3 (all_goals (try rw [rounds_succ]); go_wp2_with (first | (go_at_call 140; refine (grow_c (n + m) _ (by omega)).mono ?_; rintro e w1 ⟨p1, cp1, rfl, hx, hown, hnil⟩; have g0 := (hx.below.cell hb).trans h0; have g1 := (hx.below.cell hb).trans h1; have hbl := Nat.lt_of_lt_of_le hb hx.below.size)))
  clear h0 h1
  refine wp_loop_rounds 3 ?_
  iterate 3 (all_goals (try rw [rounds_succ]); go_wp2_with (first | (at_builtin; refine list_apps (W0 := w) rfl hx rfl _ _ rfl (.slice p1 0 cp1) 0 [] rfl hown n cs hlc (Hc.out.ex hx) (by omega) ?_; intro p2 cp2 w2 hown2 hp2 hnn2 hx2; simp only [Nat.zero_add, List.nil_append] at hown2 hnn2 ⊢; have g0 := (hx2.below.cell hb).trans h00.out; have g1 := (hx2.below.cell hb).trans h11.out; have hbl := Nat.lt_of_lt_of_le hb hx2.below.size) |
    (at_builtin; refine list_apps (W0 := w) rfl hx2 rfl _ _ rfl (.slice p2 n cp2) n cs rfl hown2 m ds hld (Hd.out.ex hx2) (by omega) ?_; intro p3 cp3 w3 hown3 hp3 hnn3 hx3; have g0 := (hx3.below.cell hb).trans h00.out; have g1 := (hx3.below.cell hb).trans h11.out; have hbl := Nat.lt_of_lt_of_le hb hx3.below.size)))
  go_ret
  exact ⟨p3, cp3, rfl, hx3, ⟨by rw [List.length_append, hlc, hld]; exact hown3, hp3⟩⟩
end Go.Proofs.Ytkelmfdbcicojaa
