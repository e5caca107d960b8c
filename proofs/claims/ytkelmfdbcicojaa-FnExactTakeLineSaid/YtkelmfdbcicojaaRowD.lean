/- How a deal that is an argument of a law reads. -/
import Derived.Test.YtkelmfdbcicojaaRow
import Derived.Deep.Strs
namespace Go.Proofs.Ytkelmfdbcicojaa
set_option linter.unusedSimpArgs false
set_option linter.unusedVariables false
set_option maxRecDepth 100000
open Go.ChangeShapes Go.WideShapes Go.ChangeAt Go.RowKit Go.Deep

theorem cellsSl : Try.prog.cellsOf 22 = 1 := by kernel_rfl
theorem cellsDeal : Try.prog.cellsOf 24 = 3 := by kernel_rfl

section
variable {H : Type} {enc : TypeId × Value → H} {w : World} {base : Nat} {spare : Nat → Bool} {held : Bool} {fuel : Nat}
theorem open_cards_t {cs0 : List Value} {x : DataW H × List MemPlace} (h : DataW.trod enc Try.prog w base spare held fuel 22 cs0 = some x) :
    ∃ (p : Option Addr) (cs : List C4) (cap : Nat), cs0 = [.slice p cs.length cap] ∧ cs.length ≤ maxLen ∧ Sl w p cs := by
  rcases open_slice Try.underlying22 h with ⟨hcs, _⟩ | ⟨a, len, cap, m, n, D, Pl, hcs, _, hl, hm, hmm, _, hx⟩
  · exact ⟨none, [], 0, hcs, by simp, fun i hi => by simp at hi⟩
  · have hle : len ≤ m := by rw [hmm]; split <;> omega
    obtain ⟨l, hl', hp⟩ := choose_list (α := C4) (p := fun i c => ∃ b o, some a = some ⟨b, o, none⟩ ∧ b < w.heap.size ∧
        w.cell? ⟨b, o + i * 4, none⟩ = some (.int .i64 c.a) ∧ w.cell? ⟨b, o + i * 4 + 1, none⟩ = some (.int .i64 c.b) ∧
        w.cell? ⟨b, o + i * 4 + 2, none⟩ = some (.int .i64 c.c) ∧ w.cell? ⟨b, o + i * 4 + 3, none⟩ = some (.int .i64 c.d)) len (fun i hi => by
      obtain ⟨cs', h1, h2⟩ := hx i (by omega)
      obtain ⟨c, rfl⟩ := open_c4 h2
      obtain ⟨_, _, h3⟩ := World.cells?_some h1
      have h3 := fun i (hi : i < 4) => h3 i (by rw [cellsC4]; exact hi)
      have e0 := h3 0 (by omega)
      have e1 := h3 1 (by omega)
      have e2 := h3 2 (by omega)
      have e3 := h3 3 (by omega)
      obtain ⟨b, o, s⟩ := a
      have hs : s = none := by
        cases s with
        | none => rfl
        | some s =>
          exfalso
          have := hx 0 (by omega)
          obtain ⟨cs', h1, h2⟩ := this
          obtain ⟨c', rfl⟩ := open_c4 h2
          obtain ⟨_, _, h3⟩ := World.cells?_some h1
          have e0 := h3 0 (by rw [cellsC4]; omega)
          simp [Addr.add, World.cell?] at e0
          split at e0 <;> simp_all
      subst hs
      simp only [add_none] at e0 e1 e2 e3
      rw [cellsC4] at e0 e1 e2 e3
      exact ⟨c, b, o, rfl, World.block_lt_of_cell? w _ e0, e0, e1, e2, e3⟩)
    subst hl'
    exact ⟨some a, l, cap, hcs, by omega, hp⟩

theorem open_deal {r : Reach} {v : Value} {d : DataW H} {ps : List MemPlace} (hv : Value.okWide Try.prog w r base 24 v) (h : DataW.Trod enc Try.prog w 0 spare held 24 v d ps) :
    ∃ (s n : Int) (p : Option Addr) (cs : List C4) (cap : Nat), v = .agg #[.int .i64 s, .int .i64 n, .slice p cs.length cap] ∧ cs.length ≤ maxLen ∧ Sl w p cs := by
  obtain ⟨vs, rfl, hsz⟩ := okWide_struct Try.underlying24 hv
  rw [cellsDeal] at hsz
  obtain ⟨fuel, h⟩ := h
  obtain ⟨y0, y1, y2, n, _, hl, t0, t1, t2⟩ := trod_struct3 Try.underlying24 h
  obtain ⟨vs⟩ := vs
  simp only [Value.cells] at t0 t1 t2
  match vs, hsz with
  | [v0, v1, v2], _ =>
    simp only [cellsInt, cellsSl] at t0 t1 t2
    obtain ⟨a, e0, _, _⟩ := DataW.trod_int Try.underlying3 t0
    obtain ⟨b, e1, _, _⟩ := DataW.trod_int Try.underlying3 t1
    obtain ⟨p, cs, cap, e2, h1, h2⟩ := open_cards_t t2
    simp at e0 e1 e2
    subst e0; subst e1; subst e2
    exact ⟨a, b, p, cs, cap, rfl, h1, h2⟩
end
end Go.Proofs.Ytkelmfdbcicojaa
