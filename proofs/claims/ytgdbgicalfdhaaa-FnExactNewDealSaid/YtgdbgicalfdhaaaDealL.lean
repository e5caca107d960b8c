/- The walk of the law on NewDeal. -/
import Derived.Test.YtgdbgicalfdhaaaDeal2
namespace Go.Proofs.Ytgdbgicalfdhaaa
set_option linter.unusedSimpArgs false
set_option linter.unusedVariables false
set_option maxHeartbeats 1000000
set_option maxRecDepth 100000
open Go.RowKit


/-- A box that holds a deal. -/
structure BoxD (w : World) (b : Nat) (s n : Int) (p : Option Addr) (l cap : Nat) : Prop where
  lt : b < w.heap.size
  c0 : w.cell? ⟨b, 0, none⟩ = some (.int .i64 s)
  c1 : w.cell? ⟨b, 1, none⟩ = some (.int .i64 n)
  c2 : w.cell? ⟨b, 2, none⟩ = some (.slice p l cap)
theorem BoxD.new (w : World) (s n : Int) (p : Option Addr) (l cap : Nat) : BoxD (w.alloc (.cells #[.int .i64 s, .int .i64 n, .slice p l cap] 47)) w.heap.size s n p l cap := ⟨(by first | (simp; done) | (simp [ext_size]; omega)), by go_simp, by go_simp, by go_simp⟩
theorem BoxD.same {w w' : World} {b : Nat} {s n : Int} {p : Option Addr} {l cap : Nat} (h : BoxD w b s n p l cap) (hs : w.heap.size ≤ w'.heap.size) (hb : w'.heap[b]? = w.heap[b]?) : BoxD w' b s n p l cap := by
  have e : ∀ i, w'.cell? ⟨b, i, none⟩ = w.cell? ⟨b, i, none⟩ := fun i => by simp only [World.cell?]; rw [hb]
  exact ⟨Nat.lt_of_lt_of_le h.lt hs, by rw [e]; exact h.c0, by rw [e]; exact h.c1, by rw [e]; exact h.c2⟩
theorem BoxD.ex {w w' : World} {b : Nat} {s n : Int} {p : Option Addr} {l cap : Nat} (h : BoxD w b s n p l cap) (k : Ex w w') : BoxD w' b s n p l cap := h.same k.below.size (k.below.block b h.lt)
theorem BoxD.apart {w w' : World} {b lo hi : Nat} {s n : Int} {p : Option Addr} {l cap : Nat} (h : BoxD w b s n p l cap) (k : Apart lo hi w w') (hb : b < lo ∨ hi ≤ b) : BoxD w' b s n p l cap := h.same k.size (k.same b h.lt hb)

theorem fnExactNewDeal_walk (s : Int) (hs : (Lit.int .i64 s).wf = true) (w : World) : Calls Try.prog 9 #[.int .i64 s] w fun e w' => e = .returned (.bool true) ∧ Below w.heap.size w w' := by
  clear hs
  have hlen := ndL_len s
  go_enter Try.func9, Try.ntmps9
  go_wp2_with (go_at_call 34; refine (specNewDeal_c _ _).mono ?_; rintro e w1 ⟨p, cap, rfl, hx1, hr⟩)
  go_wp2_with (go_at_call 35; refine (implNewDeal_c _ _).mono ?_; rintro e w2 ⟨p1, cap1, rfl, hx2, hr1⟩; have hr := (hr.ex ((Ex.refl _).alloc _)).ex hx2; have hb1 := (BoxD.new w1 _ _ _ _ _).ex hx2; obtain ⟨a0, a1, a2, a3⟩ := id hb1)
  go_wp2_with (go_at_call 36; refine (eqDeal_c _ _ _ _ _ _ _ _ _ (by omega) (by omega) (hr1.sl.alloc _) (hr.sl.alloc _)).mono ?_; rintro e w3 ⟨rfl, hx3⟩; have hr := (hr.ex ((Ex.refl _).alloc _)).ex hx3; have hr1 := (hr1.ex ((Ex.refl _).alloc _)).ex hx3; have hb1 := (hb1.ex ((Ex.refl _).alloc _)).ex hx3; have hb2 := (BoxD.new w2 _ _ _ _ _).ex hx3; clear a0 a1 a2 a3; obtain ⟨a0, a1, a2, a3⟩ := id hb1; obtain ⟨b0, b1, b2, b3⟩ := id hb2)
  have hlo : (w1.alloc (.cells #[.int .i64 (ndS s), .int .i64 (ndN s), .slice p (ndL s).length cap] 47)).heap.size = w1.heap.size + 1 := by simp
  go_wp2_with (go_at_call 37; refine (markDeal_c _ _ _ _ _ _ _ _ _ (by omega) (by omega) (by omega) hr1).mono ?_; rintro e w4 ⟨rfl, hr1, ha⟩; have hr := ha.row hr (Or.inl (by rw [hlo]; omega)); have hb1 := hb1.apart ha (Or.inl (by rw [hlo]; omega)); have hb2 := hb2.apart ha (Or.inr (Nat.le_refl _)); clear a0 a1 a2 a3 b0 b1 b2 b3; obtain ⟨a0, a1, a2, a3⟩ := id hb1; obtain ⟨b0, b1, b2, b3⟩ := id hb2)
  go_wp2_with (go_at_call 38; refine (heldDeal_c _ _ _ _ _ _ _ (by omega) (by omega) (by omega) hr1.sl).mono ?_; rintro e w5 ⟨rfl, hx5⟩; have hr := hr.ex hx5; have hr1 := hr1.ex hx5; have hb1 := hb1.ex hx5; have hb2 := hb2.ex hx5; clear a0 a1 a2 a3 b0 b1 b2 b3; obtain ⟨a0, a1, a2, a3⟩ := id hb1; obtain ⟨b0, b1, b2, b3⟩ := id hb2)
  go_wp2_with (go_at_call 35; refine (implNewDeal_c _ _).mono ?_; rintro e w6 ⟨p2, cap2, rfl, hx6, hr2⟩; have hr := hr.ex hx6; have hr1 := hr1.ex hx6; have hb1 := hb1.ex hx6; have hb2 := hb2.ex hx6; clear a0 a1 a2 a3 b0 b1 b2 b3; obtain ⟨a0, a1, a2, a3⟩ := id hb1; obtain ⟨b0, b1, b2, b3⟩ := id hb2)
  go_wp2_with (go_at_call 36; refine (eqDeal_c _ _ _ _ _ _ _ _ _ (by omega) (by omega) (hr2.sl.alloc _) (hr.sl.alloc _)).mono ?_; rintro e w7 ⟨rfl, hx7⟩; have hr1 := (hr1.ex ((Ex.refl _).alloc _)).ex hx7; have hb2 := (hb2.ex ((Ex.refl _).alloc _)).ex hx7; clear a0 a1 a2 a3 b0 b1 b2 b3; obtain ⟨b0, b1, b2, b3⟩ := id hb2)
  go_wp2_with (go_at_call 38; refine (heldDeal_c _ _ _ _ _ _ _ (by omega) (by omega) (by omega) hr1.sl).mono ?_; rintro e w8 ⟨rfl, hx8⟩)
  go_ret
  refine ⟨rfl, ?_⟩
  have h3 : Ex w w3 := (by repeat (first | exact Ex.refl _ | assumption | refine Ex.ext ?_ _ | refine Ex.alloc ?_ _ | refine Ex.drew ?_ | refine Ex.trans ?_ (by assumption)))
  have h8 : Ex w4 w8 := (by repeat (first | exact Ex.refl _ | assumption | refine Ex.ext ?_ _ | refine Ex.alloc ?_ _ | refine Ex.drew ?_ | refine Ex.trans ?_ (by assumption)))
  exact below_ex (below_apart h3.below ha (by rw [hlo]; have := hx1.below.size; omega)) h8
end Go.Proofs.Ytgdbgicalfdhaaa
