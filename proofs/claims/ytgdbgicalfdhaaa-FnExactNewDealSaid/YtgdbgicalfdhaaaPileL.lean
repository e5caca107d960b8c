/- The walks of PileOf and CardPlace, and of the laws on them. -/
import Derived.Test.YtgdbgicalfdhaaaPile2
namespace Go.Proofs.Ytgdbgicalfdhaaa
set_option linter.unusedSimpArgs false
set_option linter.unusedVariables false
set_option maxHeartbeats 1000000
set_option maxRecDepth 100000
open Go.RowKit

theorem Row.nil (w : World) (lo hi : Nat) : Row lo hi w none 0 [] := ⟨own_nil w lo _ _, fun a e => by cases e⟩
theorem Row.empty (w : World) : Row w.heap.size (w.heap.size + 1) (w.alloc (.cells #[] 22)) (some ⟨w.heap.size, 0, none⟩) 0 [] :=
  ⟨own_empty w _ _, fun a e => by simp at e; subst e; exact Nat.lt_succ_self _⟩

def pileOfR (s : Int) : List C4 := if isSeed s then pileR s else []

theorem specPileOf_c (s : Int) (w : World) : Calls Try.prog 18 #[.int .i64 s] w fun e w' => ∃ p cap, e = .returned (.tuple #[.slice p (pileOfR s).length cap, .bool (isSeed s)]) ∧ Ex w w' ∧ Row w.heap.size w'.heap.size w' p cap (pileOfR s) := by
  cases h : isSeed s
  · go_enter Try.func18, Try.ntmps18
    go_wp2_with (go_at_call 61; refine (l4Seed_c _ _).mono ?_; rintro e w' ⟨rfl, x, rfl⟩; rw [h])
    go_ret2
    refine ⟨some ⟨w.heap.size + x.sz, 0, none⟩, 0, by simp [pileOfR, h], by repeat (first | exact Ex.refl _ | refine Ex.ext ?_ _ | refine Ex.alloc ?_ _ | refine Ex.drew ?_), ?_⟩
    simp only [pileOfR, h]
    have hre := Row.empty (ext w x)
    rw [ext_size] at hre
    exact hre.mono (by omega) (by simp [ext_size])
  · have hb := isSeed_bd h
    go_enter Try.func18, Try.ntmps18
    go_wp2_with (first | (go_at_call 61; refine (l4Seed_c _ _).mono ?_; rintro e w' ⟨rfl, x, rfl⟩; rw [h]) | (go_at_call 62; refine (l4Pile_c _ hb.1 hb.2 _).mono ?_; rintro e w1 ⟨g, cap, rfl, hx, hr⟩))
    go_ret2
    refine ⟨some ⟨g, 0, none⟩, cap, by simp [pileOfR, h, pileR_length], (show Ex w w1 from (by repeat (first | exact Ex.refl _ | assumption | refine Ex.ext ?_ _ | refine Ex.alloc ?_ _ | refine Ex.drew ?_ | refine Ex.trans ?_ (by assumption)))), ?_⟩
    simp only [pileOfR, h]
    exact ((hr.low (by rw [ext_size]; omega)).row (pileR_length s).symm)

theorem implPileOf_c (s : Int) (w : World) : Calls Try.prog 19 #[.int .i64 s] w fun e w' => ∃ p cap, e = .returned (.tuple #[.slice p (pileOfR s).length cap, .bool (isSeed s)]) ∧ Ex w w' ∧ Row w.heap.size w'.heap.size w' p cap (pileOfR s) := by
  cases h : isSeed s
  · go_enter Try.func19, Try.ntmps19
    go_wp2_with (go_at_call 63; refine (isSeed_c _ _).mono ?_; rintro e w' ⟨rfl, x, rfl⟩; rw [h])
    go_ret2
    refine ⟨none, 0, by simp [pileOfR, h], by repeat (first | exact Ex.refl _ | refine Ex.ext ?_ _ | refine Ex.alloc ?_ _ | refine Ex.drew ?_), ?_⟩
    simp only [pileOfR, h]
    exact Row.nil _ _ _
  · have hb := isSeed_bd h
    go_enter Try.func19, Try.ntmps19
    go_wp2_with (first | (go_at_call 63; refine (isSeed_c _ _).mono ?_; rintro e w' ⟨rfl, x, rfl⟩; rw [h]) | (go_at_call 64; refine (pile_c _ hb.1 hb.2 _).mono ?_; rintro e w1 ⟨g, cap, rfl, hx, hr⟩))
    go_ret2
    refine ⟨some ⟨g, 0, none⟩, cap, by simp [pileOfR, h, pileR_length], (show Ex w w1 from (by repeat (first | exact Ex.refl _ | assumption | refine Ex.ext ?_ _ | refine Ex.alloc ?_ _ | refine Ex.drew ?_ | refine Ex.trans ?_ (by assumption)))), ?_⟩
    simp only [pileOfR, h]
    exact ((hr.low (by rw [ext_size]; omega)).row (pileR_length s).symm)

theorem pileOfR_len (s : Int) : (pileOfR s).length ≤ 81 := by
  unfold pileOfR; split
  · rw [pileR_length]; omega
  · simp

theorem fnExactPileOf_walk (s : Int) (hs : (Lit.int .i64 s).wf = true) (w : World) : Calls Try.prog 4 #[.int .i64 s] w fun e w' => e = .returned (.bool true) ∧ Below w.heap.size w w' := by
  clear hs
  have hlen := pileOfR_len s
  go_enter Try.func4, Try.ntmps4
  go_wp2_with (go_at_call 18; refine (specPileOf_c _ _).mono ?_; rintro e w1 ⟨p, cap, rfl, hx1, hr⟩)
  go_wp2_with (go_at_call 19; refine (implPileOf_c _ _).mono ?_; rintro e w2 ⟨p1, cap1, rfl, hx2, hr1⟩; have hr := hr.ex hx2)
  go_wp2_with (go_at_call 20; refine (eqA4S_c _ _ _ _ _ _ _ (by omega) (by omega) hr1.sl hr.sl).mono ?_; rintro e w3 ⟨rfl, hx3⟩; have hr := hr.ex hx3; have hr1 := hr1.ex hx3)
  go_wp2_with (go_at_call 21; refine (markA4S_c _ _ _ _ _ _ _ (by omega) (by omega) (by omega) hr1).mono ?_; rintro e w4 ⟨rfl, hr1, ha⟩; have hr := ha.row hr (Or.inl (Nat.le_refl _)))
  go_wp2_with (go_at_call 22; refine (heldA4S_c _ _ _ _ _ (by omega) (by omega) (by omega) hr1.sl).mono ?_; rintro e w5 ⟨rfl, hx5⟩; have hr := hr.ex hx5; have hr1 := hr1.ex hx5)
  go_wp2_with (go_at_call 19; refine (implPileOf_c _ _).mono ?_; rintro e w6 ⟨p2, cap2, rfl, hx6, hr2⟩; have hr := hr.ex hx6; have hr1 := hr1.ex hx6)
  go_wp2_with (go_at_call 20; refine (eqA4S_c _ _ _ _ _ _ _ (by omega) (by omega) hr2.sl hr.sl).mono ?_; rintro e w7 ⟨rfl, hx7⟩; have hr1 := hr1.ex hx7)
  go_wp2_with (go_at_call 22; refine (heldA4S_c _ _ _ _ _ (by omega) (by omega) (by omega) hr1.sl).mono ?_; rintro e w8 ⟨rfl, hx8⟩)
  go_ret
  refine ⟨rfl, ?_⟩
  have h3 : Ex w w3 := (by repeat (first | exact Ex.refl _ | assumption | refine Ex.ext ?_ _ | refine Ex.alloc ?_ _ | refine Ex.drew ?_ | refine Ex.trans ?_ (by assumption)))
  have h8 : Ex w4 w8 := (by repeat (first | exact Ex.refl _ | assumption | refine Ex.ext ?_ _ | refine Ex.alloc ?_ _ | refine Ex.drew ?_ | refine Ex.trans ?_ (by assumption)))
  exact below_ex (below_apart h3.below ha hx1.below.size) h8
end Go.Proofs.Ytgdbgicalfdhaaa
