/- How a map that is an argument of a law reads. -/
import Derived.Test.YtkmnnnhnajnefaaRow
import Derived.Test.YtkmnnnhnajnefaaM16
namespace Go.Proofs.Ytkmnnnhnajnefaa
set_option linter.unusedSimpArgs false
set_option linter.unusedVariables false
set_option maxRecDepth 100000
open Go.ChangeShapes Go.WideShapes Go.ChangeAt Go.RowKit Go.Deep

theorem cellsMap : Try.prog.cellsOf 40 = 16 := by kernel_rfl
theorem cellsA3 : Try.prog.cellsOf 37 = 3 := by kernel_rfl
theorem cellsA34 : Try.prog.cellsOf 38 = 12 := by kernel_rfl

section
variable {H : Type} {enc : TypeId × Value → H} {w : World} {base : Nat} {spare : Nat → Bool} {held : Bool} {fuel : Nat}
theorem open_a3 {cs : List Value} {x : DataW H × List MemPlace} (h : DataW.trod enc Try.prog w base spare held fuel 37 cs = some x) :
    ∃ a b c : Int, cs = [.int .i64 a, .int .i64 b, .int .i64 c] := by
  obtain ⟨xs, m, rfl, rfl, hl, hx, hf⟩ := DataW.trod_array Try.underlying37 h
  rw [cellsA3] at hl
  rw [cellsInt] at hf
  match cs, hl, xs, hx with
  | [v0, v1, v2], _, [x0, x1, x2], _ =>
    obtain ⟨a, e0, _, _⟩ := DataW.trod_int Try.underlying3 (hf 0 (by omega))
    obtain ⟨b, e1, _, _⟩ := DataW.trod_int Try.underlying3 (hf 1 (by omega))
    obtain ⟨c, e2, _, _⟩ := DataW.trod_int Try.underlying3 (hf 2 (by omega))
    simp at e0 e1 e2
    exact ⟨a, b, c, by rw [e0, e1, e2]⟩
theorem open_a34 {u0 u1 u2 u3 u4 u5 u6 u7 u8 u9 u10 u11 : Value} {x : DataW H × List MemPlace} (h : DataW.trod enc Try.prog w base spare held fuel 38 [u0, u1, u2, u3, u4, u5, u6, u7, u8, u9, u10, u11] = some x) :
    ∃ a0 a1 a2 a3 a4 a5 a6 a7 a8 a9 a10 a11 : Int, u0 = .int .i64 a0 ∧ u1 = .int .i64 a1 ∧ u2 = .int .i64 a2 ∧ u3 = .int .i64 a3 ∧ u4 = .int .i64 a4 ∧ u5 = .int .i64 a5 ∧ u6 = .int .i64 a6 ∧ u7 = .int .i64 a7 ∧ u8 = .int .i64 a8 ∧ u9 = .int .i64 a9 ∧ u10 = .int .i64 a10 ∧ u11 = .int .i64 a11 := by
  obtain ⟨xs, m, rfl, rfl, hl, hx, hf⟩ := DataW.trod_array Try.underlying38 h
  rw [cellsA3] at hf
  match xs, hx with
  | [x0, x1, x2, x3], _ =>
    obtain ⟨a0, a1, a2, e0⟩ := open_a3 (hf 0 (by omega))
    obtain ⟨a3, a4, a5, e1⟩ := open_a3 (hf 1 (by omega))
    obtain ⟨a6, a7, a8, e2⟩ := open_a3 (hf 2 (by omega))
    obtain ⟨a9, a10, a11, e3⟩ := open_a3 (hf 3 (by omega))
    simp at e0 e1 e2 e3
    exact ⟨a0, a1, a2, a3, a4, a5, a6, a7, a8, a9, a10, a11, e0.1, e0.2.1, e0.2.2, e1.1, e1.2.1, e1.2.2, e2.1, e2.2.1, e2.2.2, e3.1, e3.2.1, e3.2.2⟩
theorem open_map16 {r : Reach} {v : Value} {d : DataW H} {ps : List MemPlace} (hv : Value.okWide Try.prog w r base 40 v) (h : DataW.Trod enc Try.prog w 0 spare held 40 v d ps) :
    ∃ f : Nat → Int, v = .agg (mcells f) := by
  obtain ⟨vs, rfl, hsz⟩ := okWide_struct Try.underlying40 hv
  rw [cellsMap] at hsz
  obtain ⟨fuel, h⟩ := h
  obtain ⟨y0, y1, n, _, hl, t0, t1⟩ := trod_struct2 Try.underlying40 h
  obtain ⟨vs⟩ := vs
  simp only [Value.cells] at t0 t1
  match vs, hsz with
  | [v0, v1, v2, v3, v4, v5, v6, v7, v8, v9, v10, v11, v12, v13, v14, v15], _ =>
    simp only [cellsC4, cellsA34] at t0 t1
    obtain ⟨c, hc⟩ := open_c4 t0
    simp only [List.drop_succ_cons, List.drop_zero, List.take_succ_cons, List.take_zero, List.cons.injEq, and_true] at hc t1
    obtain ⟨a0, a1, a2, a3, a4, a5, a6, a7, a8, a9, a10, a11, e0, e1, e2, e3, e4, e5, e6, e7, e8, e9, e10, e11⟩ := open_a34 t1
    obtain ⟨rfl, rfl, rfl, rfl⟩ := hc
    subst e0 e1 e2 e3 e4 e5 e6 e7 e8 e9 e10 e11
    exact ⟨fun i => [c.a, c.b, c.c, c.d, a0, a1, a2, a3, a4, a5, a6, a7, a8, a9, a10, a11].getD i 0, rfl⟩
end
end Go.Proofs.Ytkmnnnhnajnefaa
