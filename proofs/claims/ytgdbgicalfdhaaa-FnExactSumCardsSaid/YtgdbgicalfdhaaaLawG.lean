/- The walks of LinesThrough, SumCards. -/
import Derived.Test.YtgdbgicalfdhaaaPairs
import Derived.Test.YtgdbgicalfdhaaaLawH
import Derived.Deep.RegionHeld3
namespace Go.Proofs.Ytgdbgicalfdhaaa
set_option linter.unusedSimpArgs false
set_option linter.unusedVariables false
set_option maxHeartbeats 1000000
set_option maxRecDepth 100000
open Go.RowKit

theorem handB_ok {cs : List C4} (h : handB cs = true) : (∀ z ∈ cs, Ok z) ∧ cs.length ≤ 27 := by
  have := (handB_iff cs).1 h
  exact ⟨this.1.ok, this.2⟩

def ltB (cs : List C4) (c : C4) : Bool := handB cs && ok c
def ltR (cs : List C4) (c : C4) : Int := if ltB cs c then through cs c else 0

theorem specLinesThrough_c (cs : List C4) (c : C4) (p : Option Addr) (cap : Nat) (w : World) (hn : cs.length ≤ 1000000000000) (hz : Sl w p cs) :
    Calls Try.prog 42 #[.slice p cs.length cap, .agg #[.int .i64 c.a, .int .i64 c.b, .int .i64 c.c, .int .i64 c.d]] w fun e w' => e = .returned (.tuple #[.int .i64 (ltR cs c), .bool (ltB cs c)]) ∧ Ex w w' := by
  have Hz := Lib.hid hz
  clear hz
  cases h : handB cs
  · go_enter Try.func42, Try.ntmps42
    go_wp2_with (go_at_call 65; refine (l2Hand_c _ _ _ _ hn (Hz.out.ex (by repeat (first | exact Ex.refl _ | refine Ex.ext ?_ _ | refine Ex.alloc ?_ _ | refine Ex.drew ?_)))).mono ?_; rintro e w' ⟨rfl, x, rfl⟩; rw [h])
    go_ret2
    exact ⟨by simp [ltR, ltB, h], by repeat (first | exact Ex.refl _ | refine Ex.ext ?_ _ | refine Ex.alloc ?_ _ | refine Ex.drew ?_)⟩
  · have Hh := Lib.hid (handB_ok h)
    cases hc : ok c
    all_goals
      go_enter Try.func42, Try.ntmps42
      go_wp2_with (first | (go_at_call 65; refine (l2Hand_c _ _ _ _ hn (Hz.out.ex (by repeat (first | exact Ex.refl _ | refine Ex.ext ?_ _ | refine Ex.alloc ?_ _ | refine Ex.drew ?_)))).mono ?_; rintro e w' ⟨rfl, x, rfl⟩; rw [h]) | (go_at_call 55; refine (l2Card_c _ _).mono ?_; rintro e w' ⟨rfl, x, rfl⟩; rw [hc]) |
        (go_at_call 84; refine (l2Through_c _ _ _ _ _ (by have := Hh.out.2; omega) Hh.out.1 (Hz.out.ex (by repeat (first | exact Ex.refl _ | refine Ex.ext ?_ _ | refine Ex.alloc ?_ _ | refine Ex.drew ?_)))).mono ?_; rintro e w' ⟨rfl, x, rfl⟩))
      go_ret2
      exact ⟨by simp [ltR, ltB, h, hc], by repeat (first | exact Ex.refl _ | refine Ex.ext ?_ _ | refine Ex.alloc ?_ _ | refine Ex.drew ?_)⟩

theorem implLinesThrough_c (cs : List C4) (c : C4) (p : Option Addr) (cap : Nat) (w : World) (hn : cs.length ≤ 1000000000000) (hz : Sl w p cs) :
    Calls Try.prog 43 #[.slice p cs.length cap, .agg #[.int .i64 c.a, .int .i64 c.b, .int .i64 c.c, .int .i64 c.d]] w fun e w' => e = .returned (.tuple #[.int .i64 (ltR cs c), .bool (ltB cs c)]) ∧ Ex w w' := by
  have Hz := Lib.hid hz
  clear hz
  cases h : handB cs
  · go_enter Try.func43, Try.ntmps43
    go_wp2_with (go_at_call 28; refine (implIsHand_c _ _ _ _ hn (Hz.out.ex (by repeat (first | exact Ex.refl _ | refine Ex.ext ?_ _ | refine Ex.alloc ?_ _ | refine Ex.drew ?_)))).mono ?_; rintro e w' ⟨rfl, x, rfl⟩; rw [h])
    go_ret2
    exact ⟨by simp [ltR, ltB, h], by repeat (first | exact Ex.refl _ | refine Ex.ext ?_ _ | refine Ex.alloc ?_ _ | refine Ex.drew ?_)⟩
  · have Hh := Lib.hid (handB_ok h)
    cases hc : ok c
    · go_enter Try.func43, Try.ntmps43
      go_wp2_with (first | (go_at_call 28; refine (implIsHand_c _ _ _ _ hn (Hz.out.ex (by repeat (first | exact Ex.refl _ | refine Ex.ext ?_ _ | refine Ex.alloc ?_ _ | refine Ex.drew ?_)))).mono ?_; rintro e w' ⟨rfl, x, rfl⟩; rw [h]) | (go_at_call 76; refine (implIsCard_c _ _).mono ?_; rintro e w' ⟨rfl, x, rfl⟩; rw [hc]))
      go_ret2
      exact ⟨by simp [ltR, ltB, h, hc], by repeat (first | exact Ex.refl _ | refine Ex.ext ?_ _ | refine Ex.alloc ?_ _ | refine Ex.drew ?_)⟩
    · go_enter Try.func43, Try.ntmps43
      go_wp2_with (first | (go_at_call 28; refine (implIsHand_c _ _ _ _ hn (Hz.out.ex (by repeat (first | exact Ex.refl _ | refine Ex.ext ?_ _ | refine Ex.alloc ?_ _ | refine Ex.drew ?_)))).mono ?_; rintro e w' ⟨rfl, x, rfl⟩; rw [h]) | (go_at_call 76; refine (implIsCard_c _ _).mono ?_; rintro e w' ⟨rfl, x, rfl⟩; rw [hc]) |
        (go_at_call 85; refine (pairsFor_c _ _ _ _ _ (by have := Hh.out.2; omega) Hh.out.1 (Hz.out.ex (by repeat (first | exact Ex.refl _ | refine Ex.ext ?_ _ | refine Ex.alloc ?_ _ | refine Ex.drew ?_)))).mono ?_; rintro e w' ⟨g, cap', rfl, ⟨x, rfl⟩, _⟩))
      go_ret2
      exact ⟨by simp [ltR, ltB, h, hc], by repeat (first | exact Ex.refl _ | refine Ex.ext ?_ _ | refine Ex.alloc ?_ _ | refine Ex.drew ?_)⟩

theorem fnExactLinesThrough_walk (w : World) (p : Option Addr) (cs : List C4) (cap : Nat) (hl : cs.length ≤ maxLen) (hz : Sl w p cs) (c : C4) : Calls Try.prog 11 #[.slice p cs.length cap, .agg #[.int .i64 c.a, .int .i64 c.b, .int .i64 c.c, .int .i64 c.d]] w fun e w' => e = .returned (.bool true) ∧ Below w.heap.size w w' := by
  unfold maxLen at hl
  have hB : Below w.heap.size w (w.alloc (.cells #[.int .i64 c.a, .int .i64 c.b, .int .i64 c.c, .int .i64 c.d] 22)) := Ex.below (by exact by repeat (first | exact Ex.refl _ | refine Ex.ext ?_ _ | refine Ex.alloc ?_ _ | refine Ex.drew ?_))
  have hb : Box4 (w.alloc (.cells #[.int .i64 c.a, .int .i64 c.b, .int .i64 c.c, .int .i64 c.d] 22)) w.heap.size c.a c.b c.c c.d := ⟨(by first | (simp; done) | (simp [ext_size]; omega)), by go_simp, by go_simp, by go_simp, by go_simp⟩
  have hz : Sl (w.alloc (.cells #[.int .i64 c.a, .int .i64 c.b, .int .i64 c.c, .int .i64 c.d] 22)) p cs := hz.alloc _
  by_cases hs : cs.length ≤ 1048576
  · have h3 : ¬ ((1048576 : Int) - cs.length < 0) := by omega
    go_enter Try.func11, Try.ntmps11
    go_wp2_with (go_at_call 23; refine (sz_c _ _ _ _ (by omega) (by omega) (by omega) _).mono ?_; rintro e w1 ⟨rfl, hx⟩; rw [szSmall hs]; have hz := hz.ex hx; have hb := hb.ex hx; have hB := below_ex hB hx; clear hx)
    go_region_held3 (fun w' => w'.cell? ⟨w.heap.size, 0, none⟩ = some (.int .i64 c.a) ∧ w'.cell? ⟨w.heap.size, 1, none⟩ = some (.int .i64 c.b) ∧ w'.cell? ⟨w.heap.size, 2, none⟩ = some (.int .i64 c.c) ∧ w'.cell? ⟨w.heap.size, 3, none⟩ = some (.int .i64 c.d))
      (first | exact ⟨hb.c0, hb.c1, hb.c2, hb.c3⟩ | exact ⟨(hb.ex ((Ex.refl _).drew)).c0, (hb.ex ((Ex.refl _).drew)).c1, (hb.ex ((Ex.refl _).drew)).c2, (hb.ex ((Ex.refl _).drew)).c3⟩)
      (first | (go_at_call 25; refine (toA4S_o _ _ _ _ (by omega) hz.drew).mono ?_; rintro e w2 ⟨g, rfl, hx, hr⟩; have hz := hz.drew.ex hx; have hb := (hb.ex ((Ex.refl _).drew)).ex hx; have hB := below_ex (below_ex hB ((Ex.refl _).drew)) hx; clear hx) |
        (go_at_call 16; refine (toA4_c _ _).mono ?_; rintro e w3 ⟨rfl, hx⟩; have hz := hz.ex hx; have hb := hb.ex hx; have hr := hr.ex hx; have hB := below_ex hB hx; clear hx) |
        (go_at_call 42; refine (specLinesThrough_c _ _ _ _ _ (by omega) hr.sl).mono ?_; rintro e w4 ⟨rfl, hx⟩; have hz := hz.ex hx; have hb := hb.ex hx; have hB := below_ex hB hx; clear hx hr))
    go_wp2_with (go_at_call 25; refine (toA4S_o _ _ _ _ (by omega) hz).mono ?_; rintro e wN ⟨g1, rfl, hx, hr1⟩; have hz := hz.ex hx; have hb := hb.ex hx; have hB := below_ex hB hx; clear hx; obtain ⟨hb0, hb1, hb2, hb3, hb4⟩ := hb)
    go_wp2_with (first | (go_at_call 16; refine (toA4_c _ _).mono ?_; rintro e w3 ⟨rfl, hx⟩; have hz := hz.ex hx; have hr1 := hr1.ex hx; have hB := below_ex hB hx; clear hx) |
        (go_at_call 43; refine (implLinesThrough_c _ _ _ _ _ (by omega) hr1.sl).mono ?_; rintro e w4 ⟨rfl, hx⟩; have hz := hz.ex hx; have hr1 := hr1.ex hx; have hB := below_ex hB hx; clear hx))
    go_wp2_with (go_at_call 25; refine (toA4S_o _ _ _ _ (by omega) hz).mono ?_; rintro e wN ⟨g2, rfl, hx, hr2⟩; have hr1 := hr1.ex hx; have hB := below_ex hB hx; clear hx)
    go_wp2_with (go_at_call 20; refine (eqA4S_c _ _ _ _ _ _ _ (by omega) (by omega) hr1.sl hr2.sl).mono ?_; rintro e wN ⟨rfl, hx⟩; have hB := below_ex hB hx; clear hx)
    go_ret
    exact ⟨rfl, hB⟩
  · go_enter Try.func11, Try.ntmps11
    go_wp2_with (go_at_call 23; refine (sz_c _ _ _ _ (by omega) (by omega) (by omega) _).mono ?_; rintro e w1 ⟨rfl, hx⟩; rw [szBig hs]; have hB := below_ex hB hx; clear hx)
    go_ret
    exact ⟨rfl, hB⟩
end Go.Proofs.Ytgdbgicalfdhaaa
