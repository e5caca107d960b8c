/- A slice of strings among the arguments of a row, opened. -/
import Derived.Test.YtnjfkgggebhelaaStrS
import Derived.Test.YtnjfkgggebhelaaRow
import Derived.SliceStrings
namespace Go.Proofs.Ytnjfkgggebhelaa
set_option linter.unusedSimpArgs false
set_option linter.unusedVariables false
set_option maxRecDepth 100000
open Go.Deep
open Go.ChangeShapes Go.WideShapes Go.ChangeAt Go.RowKit

section
variable {H : Type} {enc : TypeId × Value → H} {w : World} {base : Nat} {spare : Nat → Bool} {held : Bool} {fuel : Nat}
theorem cellsStr : Try.prog.cellsOf 9 = 1 := by kernel_rfl
theorem open_strs {r : Reach} {v : Value} {d : DataW H} {ps : List MemPlace} (hv : Value.okWide Try.prog w r base 37 v) (h : DataW.Trod enc Try.prog w 0 spare held 37 v d ps) :
    ∃ (p : Option Addr) (xs : List ByteArray) (cap : Nat), v = .slice p xs.length cap ∧ (xs.length ≤ maxLen ∧ ∀ x ∈ xs, x.size ≤ maxLen) ∧ SlS w p xs := by
  obtain ⟨a, len, cap, rfl⟩ := okWide_slice Try.underlying37 hv
  obtain ⟨fuel, h⟩ := h
  rcases open_strings Try.underlying37 Try.underlying9 cellsStr h with ⟨hcs, _⟩ | ⟨a, len, cap, ss, hcs, _, hl, hm, hmm, _, hx, hsz⟩
  · simp [Value.cells] at hcs
    obtain ⟨rfl, rfl, rfl⟩ := hcs
    exact ⟨none, [], 0, rfl, by simp, fun i hi => by simp at hi⟩
  · simp [Value.cells] at hcs
    obtain ⟨rfl, rfl, rfl⟩ := hcs
    have hle : len ≤ ss.length := by rw [hmm]; split <;> omega
    have htl : (ss.take len).length = len := by rw [List.length_take]; omega
    refine ⟨some a, ss.take len, cap, by rw [htl], ⟨by omega, fun x hx' => hsz x (List.mem_of_mem_take hx')⟩, fun i hi => ?_⟩
    have hil : i < ss.length := by omega
    have e0 := hx i hil
    obtain ⟨b, o, s⟩ := a
    have hs : s = none := by
      cases s with
      | none => rfl
      | some s =>
        exfalso
        have e1 := hx 0 (by omega)
        simp only [Addr.add, if_pos rfl, World.cell?] at e1
        clear e0 hx h hmm hv hsz
        simp at e1
        split at e1 <;> simp_all
    subst hs
    rw [add_none] at e0
    refine ⟨b, o, rfl, World.block_lt_of_cell? w _ e0, ?_⟩
    rw [e0, List.getElem_take]
    simp [hil]
end
end Go.Proofs.Ytnjfkgggebhelaa
