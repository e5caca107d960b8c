/- The walks of l2Lines, l4Lines and linesIn. -/
import Derived.Test.YtkmnnnhnajnefaaLinesP
import Derived.Test.YtkmnnnhnajnefaaRowZ
import Derived.Deep.WholeRow
namespace Go.Proofs.Ytkmnnnhnajnefaa
set_option linter.unusedSimpArgs false
set_option linter.unusedVariables false
set_option maxHeartbeats 1000000
set_option maxRecDepth 100000
open Go.RowKit

theorem tri3 (k j : Nat) {m : Int} (h : 0 ≤ m) : intVals (triInts [(k, j, m.toNat)]) = [.int .i64 k, .int .i64 j, .int .i64 m] := by
  simp only [triInts, intVals, List.map_cons, List.map_nil]
  rw [Int.toNat_of_nonneg h]

/-- The box of the places: at a card's number stands its place, and one. -/
structure BoxP (w : World) (b : Nat) (cs : List C4) : Prop where
  lt : b < w.heap.size
  at_ : ∀ n : Nat, n < 81 → w.cell? ⟨b, n, none⟩ = some (.int .i64 (placeR cs (Go.Proofs.Ytkmnnnhnajnefaa.at_ (n : Int)) + 1))
theorem BoxP.keeps {w w' : World} {b g : Nat} {cs : List C4} (h : BoxP w b cs) (k : Keeps g w w') (hb : b ≠ g) : BoxP w' b cs := by
  have e : ∀ i, w'.cell? ⟨b, i, none⟩ = w.cell? ⟨b, i, none⟩ := fun i => by simp only [World.cell?]; rw [k.block b h.lt hb]
  exact ⟨Nat.lt_of_lt_of_le h.lt k.size, fun n hn => by rw [e]; exact h.at_ n hn⟩
theorem BoxP.ex {w w' : World} {b : Nat} {cs : List C4} (h : BoxP w b cs) (k : Ex w w') : BoxP w' b cs := h.keeps (k.keeps w.heap.size) (by have := h.lt; omega)

theorem places_set {A : Array Value} {cs : List C4} {k nz : Nat} {z : C4} (hz : Ok z) (hzn : num z = nz) (hk : k < cs.length) (hn : cs.Nodup) (e : cs[k] = z) (hs : A.size = 81)
    (h : ∀ n : Nat, n < 81 → A[n]? = some (.int .i64 (placeR (cs.take k) (at_ (n : Int)) + 1))) :
    ∀ n : Nat, n < 81 → (A.setIfInBounds nz (.int .i64 ((k : Int) + 1)))[n]? = some (.int .i64 (placeR (cs.take (k + 1)) (at_ (n : Int)) + 1)) := by
  intro n hn81
  have hnd : (cs.take k).Nodup := List.Nodup.sublist (List.take_sublist _ _) hn
  have hnot : z ∉ cs.take k := fun hm => by
    obtain ⟨i, hi, e'⟩ := List.getElem_of_mem hm
    simp at hi
    rw [List.getElem_take] at e'
    have := nodup_at hn i k (by omega) hk (by rw [e', e])
    omega
  rw [List.take_succ_eq_append_getElem hk, e, place_snoc hnot hnd, Array.getElem?_setIfInBounds]
  by_cases hnn : nz = n
  · subst hnn
    rw [if_pos rfl, if_pos (by omega), if_pos]
    · simp; omega
    · rw [← hzn, at_num hz]
  · rw [if_neg hnn, if_neg, h n hn81]
    intro e2
    apply hnn
    have := num_at (n := (n : Int))
    rw [← e2, hzn] at this
    omega

theorem number_n (c : C4) (n : Nat) (h : Ok c) (hn : num c = n) (w : World) : Calls Try.prog 73 #[.agg #[.int .i64 c.a, .int .i64 c.b, .int .i64 c.c, .int .i64 c.d]] w fun e w' => e = .returned (.int .i64 n) ∧ Ex w w' := by
  rw [← hn]; exact number_c c h w

end Go.Proofs.Ytkmnnnhnajnefaa
