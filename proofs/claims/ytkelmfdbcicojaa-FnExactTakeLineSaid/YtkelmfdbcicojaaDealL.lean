/- The walk of the law on NewDeal. -/
import Derived.Test.YtkelmfdbcicojaaDeal2
namespace Go.Proofs.Ytkelmfdbcicojaa
set_option linter.unusedSimpArgs false
set_option linter.unusedVariables false
set_option maxHeartbeats 1000000
set_option maxRecDepth 100000
open Go.RowKit


/-- A box that holds a deal. -/
structure BoxD (w : World) (b : Nat) (s n : Int) (p : Option Addr) (l cap : Nat) : Prop where
  lt : b < w.heap.size
  c0 : w.cell? ⟨b, 0, none⟩ = some (.int .i64 s)
  c1 : w.cell? ⟨b, 1, none⟩ = some (.int .i64 n)
  c2 : w.cell? ⟨b, 2, none⟩ = some (.slice p l cap)
theorem BoxD.new (w : World) (s n : Int) (p : Option Addr) (l cap : Nat) : BoxD (w.alloc (.cells #[.int .i64 s, .int .i64 n, .slice p l cap] 26)) w.heap.size s n p l cap := ⟨(by first | (simp; done) | (simp [ext_size]; omega)), by go_simp, by go_simp, by go_simp⟩
theorem BoxD.same {w w' : World} {b : Nat} {s n : Int} {p : Option Addr} {l cap : Nat} (h : BoxD w b s n p l cap) (hs : w.heap.size ≤ w'.heap.size) (hb : w'.heap[b]? = w.heap[b]?) : BoxD w' b s n p l cap := by
  have e : ∀ i, w'.cell? ⟨b, i, none⟩ = w.cell? ⟨b, i, none⟩ := fun i => by simp only [World.cell?]; rw [hb]
  exact ⟨Nat.lt_of_lt_of_le h.lt hs, by rw [e]; exact h.c0, by rw [e]; exact h.c1, by rw [e]; exact h.c2⟩
theorem BoxD.ex {w w' : World} {b : Nat} {s n : Int} {p : Option Addr} {l cap : Nat} (h : BoxD w b s n p l cap) (k : Ex w w') : BoxD w' b s n p l cap := h.same k.below.size (k.below.block b h.lt)
theorem BoxD.apart {w w' : World} {b lo hi : Nat} {s n : Int} {p : Option Addr} {l cap : Nat} (h : BoxD w b s n p l cap) (k : Apart lo hi w w') (hb : b < lo ∨ hi ≤ b) : BoxD w' b s n p l cap := h.same k.size (k.same b h.lt hb)

end Go.Proofs.Ytkelmfdbcicojaa
