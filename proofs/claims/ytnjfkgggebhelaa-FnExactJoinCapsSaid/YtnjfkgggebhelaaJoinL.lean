/- The law on JoinCaps: its walk. -/
import Derived.Test.YtnjfkgggebhelaaJoin
import Derived.Test.YtnjfkgggebhelaaLawG
namespace Go.Proofs.Ytnjfkgggebhelaa
set_option linter.unusedSimpArgs false
set_option linter.unusedVariables false
set_option maxHeartbeats 1000000
set_option maxRecDepth 100000
open Go.RowKit

structure SlAt (w0 : World) (p : Option Addr) (n : Nat) (cs : List C4) : Prop where
  len : cs.length = n
  bd : n ≤ 2000000
  sl : Sl w0 p cs
theorem toA4S_q {w0 w : World} {p : Option Addr} {n cap : Nat} {cs : List C4} (h : SlAt w0 p n cs) (hB : Below w0.heap.size w0 w) :
    Calls Try.prog 14 #[.slice p n cap] w fun e w' => ∃ g, e = .returned (.slice (some ⟨g, 0, none⟩) n n) ∧ Ex w w' ∧ Row w.heap.size w'.heap.size w' (some ⟨g, 0, none⟩) n cs := by
  obtain ⟨rfl, hn, hz⟩ := h
  exact toA4S_o cs p cap w hn (hz.below hB)

theorem fnExactJoinCaps_walk (w : World) (p : Option Addr) (cs : List C4) (cap : Nat) (hl : cs.length ≤ maxLen) (hz : Sl w p cs) (q : Option Addr) (ds : List C4) (cap2 : Nat) (hl2 : ds.length ≤ maxLen) (hy : Sl w q ds) : Calls Try.prog 5 #[.slice p cs.length cap, .slice q ds.length cap2] w fun e w' => e = .returned (.bool true) ∧ Below w.heap.size w w' := by
  unfold maxLen at hl hl2
  have hB := Below.refl w.heap.size w
  by_cases hs : cs.length ≤ 1048576
  · by_cases hs2 : (cs.length : Int) + ds.length ≤ 1048576
    · have e1 : szR cs.length 1048576 = 1048576 - cs.length := by unfold szR; rw [if_neg (by omega)]
      have e2 : szR ds.length (1048576 - cs.length) = 1048576 - cs.length - ds.length := by unfold szR; rw [if_neg (by omega)]
      have h3 : ¬ ((1048576 : Int) - cs.length < 0) := by omega
      have h4 : ¬ ((1048576 : Int) - cs.length - ds.length < 0) := by omega
      have hk0 : ¬ ((1 : Int) + 4 * cs.length + 4 * ds.length < 0) := by omega
      have hlen := jcR_len cs ds
      have hzq : SlAt w p cs.length cs := ⟨rfl, by omega, hz⟩
      have hyq : SlAt w q ds.length ds := ⟨rfl, by omega, hy⟩
      clear hz hy
      go_enter Try.func5, Try.ntmps5
      go_wp2_with (first | (go_at_call 12; refine (sz_c _ _ _ _ (by omega) (by omega) (by omega) _).mono ?_; rintro e w1 ⟨rfl, hx⟩; rw [e1]; have hB := below_ex hB hx; have hs1 := Lib.hid hx.below.size; clear hx) |
        (go_at_call 12; refine (sz_c _ _ _ _ (by omega) (by omega) (by omega) _).mono ?_; rintro e w2 ⟨rfl, hx⟩; rw [e2]; have hB := below_ex hB hx; have hs2 := Lib.hid hx.below.size; clear hx))
      go_wp2_with (first | (go_at_call 14; refine (toA4S_q (by assumption) hB).mono ?_; rintro e w3 ⟨gra, rfl, hx, ra⟩; have _ck : Row _ _ _ _ _ cs := ra; have hB := below_ex hB hx; have hs3 := Lib.hid hx.below.size; clear hx) |
        (go_at_call 14; refine (toA4S_q (by assumption) hB).mono ?_; rintro e w4 ⟨grb, rfl, hx, rb⟩; have ra := ra.ex hx; have hB := below_ex hB hx; have hs4 := Lib.hid hx.below.size; clear hx))
      go_wp2_with (go_at_call 22; refine (specJoinCaps_c _ _ _ _ _ _ _ (by omega) (by omega) ra.sl rb.sl).mono ?_; rintro e w5 ⟨qw, cw, rfl, hx, rw0⟩; have hB := below_ex hB hx; have hs5 := Lib.hid hx.below.size; clear hx)
      go_wp2_with (first | (go_at_call 14; refine (toA4S_q (by assumption) hB).mono ?_; rintro e w6 ⟨grx, rfl, hx, rx⟩; have _ck : Row _ _ _ _ _ cs := rx; have rw0 := rw0.ex hx; have hB := below_ex hB hx; have hs6 := Lib.hid hx.below.size; clear hx) |
        (go_at_call 14; refine (toA4S_q (by assumption) hB).mono ?_; rintro e w7 ⟨grx2, rfl, hx, rx2⟩; have rw0 := rw0.ex hx; have rx := rx.ex hx; have hB := below_ex hB hx; have hs7 := Lib.hid hx.below.size; clear hx))
      go_wp2_with (go_at_call 23; refine (implJoinCaps_c _ _ _ _ _ _ _ (by omega) (by omega) rx.sl rx2.sl).mono ?_; rintro e w8 ⟨qg, cg, rfl, hx, rg⟩; have rw0 := rw0.ex hx; have rx := rx.ex hx; have rx2 := rx2.ex hx; have hB := below_ex hB hx; have hs8 := Lib.hid hx.below.size; clear hx)
      go_wp2_with (go_at_call 16; refine (eqA4S_c _ _ _ _ _ _ _ (by omega) (by omega) rg.sl rw0.sl).mono ?_; rintro e w9 ⟨rfl, hx⟩; have rw0 := rw0.ex hx; have rx := rx.ex hx; have rx2 := rx2.ex hx; have rg := rg.ex hx; have hB := below_ex hB hx; have hs9 := Lib.hid hx.below.size; clear hx)
      go_wp2_with (go_at_call 14; refine (toA4S_q (by assumption) hB).mono ?_; rintro e w10 ⟨gry, rfl, hx, ry⟩; have rw0 := rw0.ex hx; have rx := rx.ex hx; have rx2 := rx2.ex hx; have rg := rg.ex hx; have hB := below_ex hB hx; have hs10 := Lib.hid hx.below.size; clear hx)
      go_wp2_with (go_at_call 16; refine (eqA4S_c _ _ _ _ _ _ _ (by omega) (by omega) rx.sl ry.sl).mono ?_; rintro e w11 ⟨rfl, hx⟩; have rw0 := rw0.ex hx; have rx := rx.ex hx; have rx2 := rx2.ex hx; have rg := rg.ex hx; have ry := ry.ex hx; have hB := below_ex hB hx; have hs11 := Lib.hid hx.below.size; clear hx)
      go_wp2_with (go_at_call 14; refine (toA4S_q (by assumption) hB).mono ?_; rintro e w12 ⟨gry2, rfl, hx, ry2⟩; have rw0 := rw0.ex hx; have rx := rx.ex hx; have rx2 := rx2.ex hx; have rg := rg.ex hx; have hB := below_ex hB hx; have hs12 := Lib.hid hx.below.size; clear hx)
      go_wp2_with (go_at_call 16; refine (eqA4S_c _ _ _ _ _ _ _ (by omega) (by omega) rx2.sl ry2.sl).mono ?_; rintro e w13 ⟨rfl, hx⟩; have rw0 := rw0.ex hx; have rx := rx.ex hx; have rx2 := rx2.ex hx; have rg := rg.ex hx; have ry2 := ry2.ex hx; have hB := below_ex hB hx; have hs13 := Lib.hid hx.below.size; clear hx)
      go_wp2_with (first | (go_at_call 17; refine (markA4S_c _ _ _ _ _ _ _ (by omega) (by omega) (by omega) (by assumption)).mono ?_; rintro e w14 ⟨rfl, rx, ha⟩; have _ck : Row _ _ _ (some ⟨grx, 0, none⟩) _ _ := rx; have rw0 := ha.row rw0 (Or.inl (by have := hs1.out; have := hs2.out; have := hs3.out; have := hs4.out; have := hs5.out; have := hs6.out; have := hs7.out; have := hs8.out; have := hs9.out; have := hs10.out; have := hs11.out; have := hs12.out; have := hs13.out; omega)); have rx2 := ha.row rx2 (Or.inr (by have := hs1.out; have := hs2.out; have := hs3.out; have := hs4.out; have := hs5.out; have := hs6.out; have := hs7.out; have := hs8.out; have := hs9.out; have := hs10.out; have := hs11.out; have := hs12.out; have := hs13.out; omega)); have rg := ha.row rg (Or.inr (by have := hs1.out; have := hs2.out; have := hs3.out; have := hs4.out; have := hs5.out; have := hs6.out; have := hs7.out; have := hs8.out; have := hs9.out; have := hs10.out; have := hs11.out; have := hs12.out; have := hs13.out; omega)); have hB := below_apart hB ha (by have := hs1.out; have := hs2.out; have := hs3.out; have := hs4.out; have := hs5.out; have := hs6.out; have := hs7.out; have := hs8.out; have := hs9.out; have := hs10.out; have := hs11.out; have := hs12.out; have := hs13.out; omega); have hs14 := Lib.hid ha.size; clear ha) |
        (go_at_call 17; refine (markA4S_c _ _ _ _ _ _ _ (by omega) (by omega) (by omega) (by assumption)).mono ?_; rintro e w15 ⟨rfl, rx2, ha⟩; have rw0 := ha.row rw0 (Or.inl (by have := hs1.out; have := hs2.out; have := hs3.out; have := hs4.out; have := hs5.out; have := hs6.out; have := hs7.out; have := hs8.out; have := hs9.out; have := hs10.out; have := hs11.out; have := hs12.out; have := hs13.out; have := hs14.out; omega)); have rg := ha.row rg (Or.inr (by have := hs1.out; have := hs2.out; have := hs3.out; have := hs4.out; have := hs5.out; have := hs6.out; have := hs7.out; have := hs8.out; have := hs9.out; have := hs10.out; have := hs11.out; have := hs12.out; have := hs13.out; have := hs14.out; omega)); have hB := below_apart hB ha (by have := hs1.out; have := hs2.out; have := hs3.out; have := hs4.out; have := hs5.out; have := hs6.out; have := hs7.out; have := hs8.out; have := hs9.out; have := hs10.out; have := hs11.out; have := hs12.out; have := hs13.out; have := hs14.out; omega); have hs15 := Lib.hid ha.size; clear ha))
      go_wp2_with (go_at_call 16; refine (eqA4S_c _ _ _ _ _ _ _ (by omega) (by omega) rg.sl rw0.sl).mono ?_; rintro e w16 ⟨rfl, hx⟩; have rw0 := rw0.ex hx; have rg := rg.ex hx; have hB := below_ex hB hx; have hs16 := Lib.hid hx.below.size; clear hx)
      go_wp2_with (go_at_call 17; refine (markA4S_c _ _ _ _ _ _ _ (by omega) (by omega) (by omega) rg).mono ?_; rintro e w17 ⟨rfl, rg, ha⟩; have rw0 := ha.row rw0 (Or.inl (by have := hs1.out; have := hs2.out; have := hs3.out; have := hs4.out; have := hs5.out; have := hs6.out; have := hs7.out; have := hs8.out; have := hs9.out; have := hs10.out; have := hs11.out; have := hs12.out; have := hs13.out; have := hs14.out; have := hs15.out; have := hs16.out; omega)); have hB := below_apart hB ha (by have := hs1.out; have := hs2.out; have := hs3.out; have := hs4.out; have := hs5.out; have := hs6.out; have := hs7.out; have := hs8.out; have := hs9.out; have := hs10.out; have := hs11.out; have := hs12.out; have := hs13.out; have := hs14.out; have := hs15.out; have := hs16.out; omega); have hs17 := Lib.hid ha.size; clear ha)
      go_wp2_with (go_at_call 18; refine (heldA4S_c _ _ _ _ _ (by omega) (by omega) (by omega) rg.sl).mono ?_; rintro e w18 ⟨rfl, hx⟩; have rw0 := rw0.ex hx; have rg := rg.ex hx; have hB := below_ex hB hx; have hs18 := Lib.hid hx.below.size; clear hx)
      go_wp2_with (first | (go_at_call 14; refine (toA4S_q (by assumption) hB).mono ?_; rintro e w19 ⟨grz, rfl, hx, rz⟩; have _ck : Row _ _ _ _ _ cs := rz; have rw0 := rw0.ex hx; have rg := rg.ex hx; have hB := below_ex hB hx; have hs19 := Lib.hid hx.below.size; clear hx) |
        (go_at_call 14; refine (toA4S_q (by assumption) hB).mono ?_; rintro e w20 ⟨grz2, rfl, hx, rz2⟩; have rw0 := rw0.ex hx; have rg := rg.ex hx; have rz := rz.ex hx; have hB := below_ex hB hx; have hs20 := Lib.hid hx.below.size; clear hx))
      go_wp2_with (go_at_call 23; refine (implJoinCaps_c _ _ _ _ _ _ _ (by omega) (by omega) rz.sl rz2.sl).mono ?_; rintro e w21 ⟨qh, ch, rfl, hx, rh⟩; have rw0 := rw0.ex hx; have rg := rg.ex hx; have hB := below_ex hB hx; have hs21 := Lib.hid hx.below.size; clear hx)
      go_wp2_with (go_at_call 16; refine (eqA4S_c _ _ _ _ _ _ _ (by omega) (by omega) rh.sl rw0.sl).mono ?_; rintro e w22 ⟨rfl, hx⟩; have rw0 := rw0.ex hx; have rg := rg.ex hx; have rh := rh.ex hx; have hB := below_ex hB hx; have hs22 := Lib.hid hx.below.size; clear hx)
      go_wp2_with (go_at_call 18; refine (heldA4S_c _ _ _ _ _ (by omega) (by omega) (by omega) rg.sl).mono ?_; rintro e w23 ⟨rfl, hx⟩; have rg := rg.ex hx; have hB := below_ex hB hx; have hs23 := Lib.hid hx.below.size; clear hx)
      go_ret
      exact ⟨rfl, hB⟩
    · have e1 : szR cs.length 1048576 = 1048576 - cs.length := by unfold szR; rw [if_neg (by omega)]
      have e2 : szR ds.length (1048576 - cs.length) = -1 := by unfold szR; rw [if_pos (by omega)]
      have h3 : ¬ ((1048576 : Int) - cs.length < 0) := by omega
      go_enter Try.func5, Try.ntmps5
      go_wp2_with (first | (go_at_call 12; refine (sz_c _ _ _ _ (by omega) (by omega) (by omega) _).mono ?_; rintro e w1 ⟨rfl, hx⟩; rw [e1]; have hB := below_ex hB hx; clear hx) |
        (go_at_call 12; refine (sz_c _ _ _ _ (by omega) (by omega) (by omega) _).mono ?_; rintro e w2 ⟨rfl, hx⟩; rw [e2]; have hB := below_ex hB hx; clear hx))
      go_ret
      exact ⟨rfl, hB⟩
  · go_enter Try.func5, Try.ntmps5
    go_wp2_with (go_at_call 12; refine (sz_c _ _ _ _ (by omega) (by omega) (by omega) _).mono ?_; rintro e w1 ⟨rfl, hx⟩; rw [szBig hs]; have hB := below_ex hB hx; clear hx)
    go_ret
    exact ⟨rfl, hB⟩
end Go.Proofs.Ytnjfkgggebhelaa
