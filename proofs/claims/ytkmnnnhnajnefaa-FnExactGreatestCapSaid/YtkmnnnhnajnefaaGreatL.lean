/- The law on GreatestCap: the walk. -/
import Derived.Test.YtkmnnnhnajnefaaGreat
namespace Go.Proofs.Ytkmnnnhnajnefaa
set_option linter.unusedSimpArgs false
set_option linter.unusedVariables false
set_option maxHeartbeats 1000000
set_option maxRecDepth 100000
open Go.RowKit

theorem fnExactGreatestCap_walk (w : World) (p : Option Addr) (cs : List C4) (cap : Nat) (hl : cs.length ≤ maxLen) (hz : Sl w p cs) : Calls Try.prog 4 #[.slice p cs.length cap] w fun e w' => e = .returned (.bool true) ∧ Below w.heap.size w w' := by
  unfold maxLen at hl
  have hB := Below.refl w.heap.size w
  by_cases hs : cs.length ≤ 1048576
  · go_enter Try.func4, Try.ntmps4
    go_wp2_with (go_at_call 10; refine (sz_c _ _ _ _ (by omega) (by omega) (by omega) _).mono ?_; rintro e w1 ⟨rfl, hx⟩; rw [szSmall hs]; have hB := below_ex hB hx; have hs1 := Lib.hid hx.below.size; clear hx)
    have h3 : ¬ ((1048576 : Int) - cs.length < 0) := by omega
    have hlen := gcI_len cs
    go_wp2_with (go_at_call 12; refine (toA4S_o _ _ _ _ (by omega) (hz.below hB)).mono ?_; rintro e w2 ⟨gra, rfl, hx, ra⟩; have hB := below_ex hB hx; have hs2 := Lib.hid hx.below.size; clear hx)
    go_wp2_with (go_at_call 15; refine (specGreatestCap_c _ _ _ _ (by omega) ra.sl).mono ?_; rintro e w3 ⟨qw, cw, rfl, hx, rw0⟩; have hB := below_ex hB hx; have hs3 := Lib.hid hx.below.size; clear hx)
    go_wp2_with (go_at_call 12; refine (toA4S_o _ _ _ _ (by omega) (hz.below hB)).mono ?_; rintro e w4 ⟨grx, rfl, hx, rx⟩; have rw0 := rw0.ex hx; have hB := below_ex hB hx; have hs4 := Lib.hid hx.below.size; clear hx)
    go_wp2_with (go_at_call 16; refine (implGreatestCap_c _ _ _ _ (by omega) rx.sl).mono ?_; rintro e w5 ⟨qg, cg, rfl, hx, rg⟩; have rw0 := rw0.ex hx; have rx := rx.ex hx; have hB := below_ex hB hx; have hs5 := Lib.hid hx.below.size; clear hx)
    go_wp2_with (go_at_call 17; refine (eqIntS_c _ _ _ _ _ _ _ (by omega) (by omega) rg.sl rw0.sl).mono ?_; rintro e w6 ⟨rfl, hx⟩; have rw0 := rw0.ex hx; have rx := rx.ex hx; have rg := rg.ex hx; have hB := below_ex hB hx; have hs6 := Lib.hid hx.below.size; clear hx)
    go_wp2_with (go_at_call 12; refine (toA4S_o _ _ _ _ (by omega) (hz.below hB)).mono ?_; rintro e w7 ⟨gry, rfl, hx, ry⟩; have rw0 := rw0.ex hx; have rx := rx.ex hx; have rg := rg.ex hx; have hB := below_ex hB hx; have hs7 := Lib.hid hx.below.size; clear hx)
    go_wp2_with (go_at_call 14; refine (eqA4S_c _ _ _ _ _ _ _ (by omega) (by omega) rx.sl ry.sl).mono ?_; rintro e w8 ⟨rfl, hx⟩; have rw0 := rw0.ex hx; have rx := rx.ex hx; have rg := rg.ex hx; have ry := ry.ex hx; have hB := below_ex hB hx; have hs8 := Lib.hid hx.below.size; clear hx)
    go_wp2_with (go_at_call 18; refine (markA4S_c _ _ _ _ _ _ _ (by omega) (by omega) (by omega) rx).mono ?_; rintro e w9 ⟨rfl, rx, ha⟩; have rw0 := ha.rowI rw0 (Or.inl (by have := hs1.out; have := hs2.out; have := hs3.out; have := hs4.out; have := hs5.out; have := hs6.out; have := hs7.out; have := hs8.out; omega)); have rg := ha.rowI rg (Or.inr (by have := hs1.out; have := hs2.out; have := hs3.out; have := hs4.out; have := hs5.out; have := hs6.out; have := hs7.out; have := hs8.out; omega)); have hB := below_apart hB ha (by have := hs1.out; have := hs2.out; have := hs3.out; have := hs4.out; have := hs5.out; have := hs6.out; have := hs7.out; have := hs8.out; omega); have hs9 := Lib.hid ha.size; clear ha)
    go_wp2_with (go_at_call 17; refine (eqIntS_c _ _ _ _ _ _ _ (by omega) (by omega) rg.sl rw0.sl).mono ?_; rintro e w10 ⟨rfl, hx⟩; have rw0 := rw0.ex hx; have rg := rg.ex hx; have hB := below_ex hB hx; have hs10 := Lib.hid hx.below.size; clear hx)
    go_wp2_with (go_at_call 19; refine (markIntS_c _ _ _ _ _ _ _ (by omega) (by omega) (by omega) rg).mono ?_; rintro e w11 ⟨rfl, rg, ha⟩; have rw0 := ha.rowI rw0 (Or.inl (by have := hs1.out; have := hs2.out; have := hs3.out; have := hs4.out; have := hs5.out; have := hs6.out; have := hs7.out; have := hs8.out; have := hs9.out; have := hs10.out; omega)); have hB := below_apart hB ha (by have := hs1.out; have := hs2.out; have := hs3.out; have := hs4.out; have := hs5.out; have := hs6.out; have := hs7.out; have := hs8.out; have := hs9.out; have := hs10.out; omega); have hs11 := Lib.hid ha.size; clear ha)
    go_wp2_with (go_at_call 20; refine (heldIntS_c _ _ _ _ _ (by omega) (by omega) (by omega) rg.sl).mono ?_; rintro e w12 ⟨rfl, hx⟩; have rw0 := rw0.ex hx; have rg := rg.ex hx; have hB := below_ex hB hx; have hs12 := Lib.hid hx.below.size; clear hx)
    go_wp2_with (go_at_call 12; refine (toA4S_o _ _ _ _ (by omega) (hz.below hB)).mono ?_; rintro e w13 ⟨grz, rfl, hx, rz⟩; have rw0 := rw0.ex hx; have rg := rg.ex hx; have hB := below_ex hB hx; have hs13 := Lib.hid hx.below.size; clear hx)
    go_wp2_with (go_at_call 16; refine (implGreatestCap_c _ _ _ _ (by omega) rz.sl).mono ?_; rintro e w14 ⟨qh, ch, rfl, hx, rh⟩; have rw0 := rw0.ex hx; have rg := rg.ex hx; have hB := below_ex hB hx; have hs14 := Lib.hid hx.below.size; clear hx)
    go_wp2_with (go_at_call 17; refine (eqIntS_c _ _ _ _ _ _ _ (by omega) (by omega) rh.sl rw0.sl).mono ?_; rintro e w15 ⟨rfl, hx⟩; have rw0 := rw0.ex hx; have rg := rg.ex hx; have rh := rh.ex hx; have hB := below_ex hB hx; have hs15 := Lib.hid hx.below.size; clear hx)
    go_wp2_with (go_at_call 20; refine (heldIntS_c _ _ _ _ _ (by omega) (by omega) (by omega) rg.sl).mono ?_; rintro e w16 ⟨rfl, hx⟩; have rg := rg.ex hx; have hB := below_ex hB hx; have hs16 := Lib.hid hx.below.size; clear hx)
    go_ret
    exact ⟨rfl, hB⟩
  · go_enter Try.func4, Try.ntmps4
    go_wp2_with (go_at_call 10; refine (sz_c _ _ _ _ (by omega) (by omega) (by omega) _).mono ?_; rintro e w1 ⟨rfl, hx⟩; rw [szBig hs]; have hB := below_ex hB hx; clear hx)
    go_ret
    exact ⟨rfl, hB⟩
end Go.Proofs.Ytkmnnnhnajnefaa
