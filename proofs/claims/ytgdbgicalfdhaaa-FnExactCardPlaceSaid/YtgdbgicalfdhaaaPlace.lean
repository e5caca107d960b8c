/- The walks of CardPlace, and of the law on it. -/
import Derived.Test.YtgdbgicalfdhaaaPileL
namespace Go.Proofs.Ytgdbgicalfdhaaa
set_option linter.unusedSimpArgs false
set_option linter.unusedVariables false
set_option maxHeartbeats 1000000
set_option maxRecDepth 100000
open Go.RowKit

def cpB (s : Int) (c : C4) : Bool := isSeed s && ok c
def cpR (s : Int) (c : C4) : Int := if cpB s c then placeR (pileR s) c else 0


theorem specCardPlace_c (s : Int) (c : C4) (w : World) : Calls Try.prog 32 #[.int .i64 s, .agg #[.int .i64 c.a, .int .i64 c.b, .int .i64 c.c, .int .i64 c.d]] w fun e w' => e = .returned (.tuple #[.int .i64 (cpR s c), .bool (cpB s c)]) ∧ Ex w w' := by
  cases h : isSeed s
  · go_enter Try.func32, Try.ntmps32
    go_wp2_with (go_at_call 61; refine (l4Seed_c _ _).mono ?_; rintro e w' ⟨rfl, x, rfl⟩; rw [h])
    go_ret2
    exact ⟨by simp [cpR, cpB, h], by repeat (first | exact Ex.refl _ | refine Ex.ext ?_ _ | refine Ex.alloc ?_ _ | refine Ex.drew ?_)⟩
  · have hb := isSeed_bd h
    cases hc : ok c
    · go_enter Try.func32, Try.ntmps32
      go_wp2_with (first | (go_at_call 61; refine (l4Seed_c _ _).mono ?_; rintro e w' ⟨rfl, x, rfl⟩; rw [h]) | (go_at_call 55; refine (l2Card_c _ _).mono ?_; rintro e w' ⟨rfl, x, rfl⟩; rw [hc]))
      go_ret2
      exact ⟨by simp [cpR, cpB, h, hc], by repeat (first | exact Ex.refl _ | refine Ex.ext ?_ _ | refine Ex.alloc ?_ _ | refine Ex.drew ?_)⟩
    · have hbx := Box4.new w c.a c.b c.c c.d
      have hex : Ex w (w.alloc (.cells #[.int .i64 c.a, .int .i64 c.b, .int .i64 c.c, .int .i64 c.d] 22)) := by repeat (first | exact Ex.refl _ | refine Ex.ext ?_ _ | refine Ex.alloc ?_ _ | refine Ex.drew ?_)
      go_enter Try.func32, Try.ntmps32
      go_wp2_with (first | (go_at_call 61; refine (l4Seed_c _ _).mono ?_; rintro e w1 ⟨rfl, hx⟩; rw [h]; have hbx := hbx.ex hx; have hex := hex.trans hx; obtain ⟨b0, b1, b2, b3, b4⟩ := id hbx; clear hx) |
        (go_at_call 55; refine (l2Card_c _ _).mono ?_; rintro e w2 ⟨rfl, hx⟩; rw [hc]; have hbx := hbx.ex hx; have hex := hex.trans hx; clear hx b0 b1 b2 b3 b4))
      go_region_held3 (fun w' => w'.cell? ⟨w.heap.size, 0, none⟩ = some (.int .i64 c.a) ∧ w'.cell? ⟨w.heap.size, 1, none⟩ = some (.int .i64 c.b) ∧ w'.cell? ⟨w.heap.size, 2, none⟩ = some (.int .i64 c.c) ∧ w'.cell? ⟨w.heap.size, 3, none⟩ = some (.int .i64 c.d))
        (first | exact ⟨hbx.c0, hbx.c1, hbx.c2, hbx.c3⟩ | exact ⟨(hbx.ex ((Ex.refl _).drew)).c0, (hbx.ex ((Ex.refl _).drew)).c1, (hbx.ex ((Ex.refl _).drew)).c2, (hbx.ex ((Ex.refl _).drew)).c3⟩)
        (first | (go_at_call 62; refine (l4Pile_c _ hb.1 hb.2 _).mono ?_; rintro e w3 ⟨g, cap, rfl, hx, hr⟩; have hbx := (hbx.ex ((Ex.refl _).drew)).ex hx; have hex := (hex.trans ((Ex.refl _).drew)).trans hx; clear hx; have hr := hr.row (pileR_length s).symm; rw [← pileR_length s]) |
              (go_at_call 79; refine (l2Place_c _ _ _ _ _ (by rw [pileR_length]; omega) hr.sl).mono ?_; rintro e w4 ⟨rfl, hx⟩; have hbx := hbx.ex hx; have hex := hex.trans hx; clear hx))
      go_wp2
      go_ret2
      exact ⟨by simp [cpR, cpB, h, hc], hex⟩

theorem implCardPlace_c (s : Int) (c : C4) (w : World) : Calls Try.prog 33 #[.int .i64 s, .agg #[.int .i64 c.a, .int .i64 c.b, .int .i64 c.c, .int .i64 c.d]] w fun e w' => e = .returned (.tuple #[.int .i64 (cpR s c), .bool (cpB s c)]) ∧ Ex w w' := by
  cases h : isSeed s
  · go_enter Try.func33, Try.ntmps33
    go_wp2_with (go_at_call 63; refine (isSeed_c _ _).mono ?_; rintro e w' ⟨rfl, x, rfl⟩; rw [h])
    go_ret2
    exact ⟨by simp [cpR, cpB, h], by repeat (first | exact Ex.refl _ | refine Ex.ext ?_ _ | refine Ex.alloc ?_ _ | refine Ex.drew ?_)⟩
  · have hb := isSeed_bd h
    cases hc : ok c
    · go_enter Try.func33, Try.ntmps33
      go_wp2_with (first | (go_at_call 63; refine (isSeed_c _ _).mono ?_; rintro e w' ⟨rfl, x, rfl⟩; rw [h]) | (go_at_call 76; refine (implIsCard_c _ _).mono ?_; rintro e w' ⟨rfl, x, rfl⟩; rw [hc]))
      go_ret2
      exact ⟨by simp [cpR, cpB, h, hc], by repeat (first | exact Ex.refl _ | refine Ex.ext ?_ _ | refine Ex.alloc ?_ _ | refine Ex.drew ?_)⟩
    · have hbx := Box4.new w c.a c.b c.c c.d
      have hex : Ex w (w.alloc (.cells #[.int .i64 c.a, .int .i64 c.b, .int .i64 c.c, .int .i64 c.d] 22)) := by repeat (first | exact Ex.refl _ | refine Ex.ext ?_ _ | refine Ex.alloc ?_ _ | refine Ex.drew ?_)
      go_enter Try.func33, Try.ntmps33
      go_wp2_with (first | (go_at_call 63; refine (isSeed_c _ _).mono ?_; rintro e w1 ⟨rfl, hx⟩; rw [h]; have hbx := hbx.ex hx; have hex := hex.trans hx; obtain ⟨b0, b1, b2, b3, b4⟩ := id hbx; clear hx) |
        (go_at_call 76; refine (implIsCard_c _ _).mono ?_; rintro e w2 ⟨rfl, hx⟩; rw [hc]; have hbx := hbx.ex hx; have hex := hex.trans hx; clear hx b0 b1 b2 b3 b4))
      go_region_held3 (fun w' => w'.cell? ⟨w.heap.size, 0, none⟩ = some (.int .i64 c.a) ∧ w'.cell? ⟨w.heap.size, 1, none⟩ = some (.int .i64 c.b) ∧ w'.cell? ⟨w.heap.size, 2, none⟩ = some (.int .i64 c.c) ∧ w'.cell? ⟨w.heap.size, 3, none⟩ = some (.int .i64 c.d))
        (first | exact ⟨hbx.c0, hbx.c1, hbx.c2, hbx.c3⟩ | exact ⟨(hbx.ex ((Ex.refl _).drew)).c0, (hbx.ex ((Ex.refl _).drew)).c1, (hbx.ex ((Ex.refl _).drew)).c2, (hbx.ex ((Ex.refl _).drew)).c3⟩)
        (first | (go_at_call 64; refine (pile_c _ hb.1 hb.2 _).mono ?_; rintro e w3 ⟨g, cap, rfl, hx, hr⟩; have hbx := (hbx.ex ((Ex.refl _).drew)).ex hx; have hex := (hex.trans ((Ex.refl _).drew)).trans hx; clear hx; have hr := hr.row (pileR_length s).symm; rw [← pileR_length s]) |
              (go_at_call 80; refine (index_c _ _ _ _ _ (by rw [pileR_length]; omega) hr.sl).mono ?_; rintro e w4 ⟨rfl, hx⟩; have hbx := hbx.ex hx; have hex := hex.trans hx; clear hx))
      go_wp2
      go_ret2
      exact ⟨by simp [cpR, cpB, h, hc], hex⟩

theorem fnExactCardPlace_walk (s : Int) (hs : (Lit.int .i64 s).wf = true) (c : C4) (w : World) : Calls Try.prog 8 #[.int .i64 s, .agg #[.int .i64 c.a, .int .i64 c.b, .int .i64 c.c, .int .i64 c.d]] w fun e w' => e = .returned (.bool true) ∧ Below w.heap.size w w' := by
  clear hs
  go_enter Try.func8, Try.ntmps8
  go_wp2_with (first | (go_at_call 16; refine (toA4_c _ _).mono ?_; rintro e w' ⟨rfl, x, rfl⟩) | (go_at_call 32; refine (specCardPlace_c _ _ _).mono ?_; rintro e w' ⟨rfl, x, rfl⟩) | (go_at_call 33; refine (implCardPlace_c _ _ _).mono ?_; rintro e w' ⟨rfl, x, rfl⟩))
  go_ret
  refine ⟨rfl, Ex.below ?_⟩
  exact by repeat (first | exact Ex.refl _ | refine Ex.ext ?_ _ | refine Ex.alloc ?_ _ | refine Ex.drew ?_)
end Go.Proofs.Ytgdbgicalfdhaaa
