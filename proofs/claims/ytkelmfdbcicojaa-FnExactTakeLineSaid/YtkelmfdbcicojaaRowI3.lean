/- Three numbers among the arguments of a row, opened. -/
import Derived.Test.YtkelmfdbcicojaaRowD
namespace Go.Proofs.Ytkelmfdbcicojaa
set_option linter.unusedSimpArgs false
set_option linter.unusedVariables false
set_option maxRecDepth 100000
open Go.ChangeShapes Go.WideShapes Go.ChangeAt Go.RowKit Go.Deep

theorem cellsI3 : Try.prog.cellsOf 33 = 3 := by kernel_rfl
section
variable {H : Type} {enc : TypeId × Value → H} {w : World} {base : Nat} {spare : Nat → Bool} {held : Bool} {fuel : Nat}
theorem open_i3 {r : Reach} {v : Value} {d : DataW H} {ps : List MemPlace} (hv : Value.okWide Try.prog w r base 33 v) (h : DataW.Trod enc Try.prog w 0 spare held 33 v d ps) :
    ∃ x y z : Int, v = .agg #[.int .i64 x, .int .i64 y, .int .i64 z] := by
  simp only [Value.okWide, Try.underlying33] at hv
  obtain ⟨cs, rfl, _, _⟩ := hv
  obtain ⟨fuel, h⟩ := h
  obtain ⟨xs, m, rfl, _, hl, hx, hf⟩ := DataW.trod_array Try.underlying33 h
  rw [cellsI3] at hl
  rw [cellsInt] at hf
  obtain ⟨cs⟩ := cs
  simp only [Value.cells] at hl hf
  match cs, hl, xs, hx with
  | [v0, v1, v2], _, [x0, x1, x2], _ =>
    obtain ⟨a, e0, _, _⟩ := DataW.trod_int Try.underlying3 (hf 0 (by omega))
    obtain ⟨b, e1, _, _⟩ := DataW.trod_int Try.underlying3 (hf 1 (by omega))
    obtain ⟨c, e2, _, _⟩ := DataW.trod_int Try.underlying3 (hf 2 (by omega))
    simp at e0 e1 e2
    exact ⟨a, b, c, by rw [e0, e1, e2]⟩
end
end Go.Proofs.Ytkelmfdbcicojaa
