/- How the arguments of the laws read, and back. -/
import Derived.Test.YtkmnnnhnajnefaaCard
import Derived.ProofKit
import Derived.OpenShut
import Derived.ShutString
import Derived.ChangeOld
import Derived.Below
import Derived.Deep.Slices
namespace Go.Proofs.Ytkmnnnhnajnefaa
set_option linter.unusedSimpArgs false
set_option linter.unusedVariables false
set_option maxRecDepth 100000
open Go.ChangeShapes Go.WideShapes Go.ChangeAt Go.RowKit Go.Deep
open Go.ChangeMaps (open_string shut_string)

theorem own : ownKnob Try.prog.godebug = none := by kernel_rfl
theorem laidOut : laidOutB Try.prog = true := by kernel_rfl
theorem cellsInt : Try.prog.cellsOf 3 = 1 := by kernel_rfl
theorem cellsC4 : Try.prog.cellsOf 36 = 4 := by kernel_rfl

theorem add_none (b o n : Nat) : (⟨b, o, none⟩ : Addr).add n = ⟨b, o + n, none⟩ := by
  unfold Addr.add; split <;> simp_all

section
variable {H : Type} {enc : TypeId × Value → H} {w : World} {base : Nat} {spare : Nat → Bool} {held : Bool} {fuel : Nat}

theorem open_c4 {cs : List Value} {x : DataW H × List MemPlace} (h : DataW.trod enc Try.prog w base spare held fuel 36 cs = some x) :
    ∃ c : C4, cs = [.int .i64 c.a, .int .i64 c.b, .int .i64 c.c, .int .i64 c.d] := by
  obtain ⟨xs, m, rfl, rfl, hl, hx, hf⟩ := DataW.trod_array Try.underlying36 h
  rw [cellsC4] at hl
  rw [cellsInt] at hf
  match cs, hl, xs, hx with
  | [v0, v1, v2, v3], _, [x0, x1, x2, x3], _ =>
    obtain ⟨a, e0, _, _⟩ := DataW.trod_int Try.underlying3 (hf 0 (by omega))
    obtain ⟨b, e1, _, _⟩ := DataW.trod_int Try.underlying3 (hf 1 (by omega))
    obtain ⟨c, e2, _, _⟩ := DataW.trod_int Try.underlying3 (hf 2 (by omega))
    obtain ⟨d, e3, _, _⟩ := DataW.trod_int Try.underlying3 (hf 3 (by omega))
    simp at e0 e1 e2 e3
    exact ⟨⟨a, b, c, d⟩, by rw [e0, e1, e2, e3]⟩

theorem open_card {r : Reach} {v : Value} {d : DataW H} {ps : List MemPlace} (hv : Value.okWide Try.prog w r base 36 v) (h : DataW.Trod enc Try.prog w 0 spare held 36 v d ps) :
    ∃ c : C4, v = .agg #[.int .i64 c.a, .int .i64 c.b, .int .i64 c.c, .int .i64 c.d] := by
  simp only [Value.okWide, Try.underlying36] at hv
  obtain ⟨cs, rfl, _, _⟩ := hv
  obtain ⟨fuel, h⟩ := h
  obtain ⟨c, hc⟩ := open_c4 h
  obtain ⟨cs⟩ := cs
  simp only [Value.cells] at hc
  exact ⟨c, by rw [hc]⟩

theorem choose_list {α : Type} {p : Nat → α → Prop} : ∀ n : Nat, (∀ i, i < n → ∃ x, p i x) → ∃ l : List α, l.length = n ∧ ∀ i (h : i < l.length), p i l[i] := by
  intro n
  induction n with
  | zero => intro _; exact ⟨[], rfl, fun i h => by simp at h⟩
  | succ n ih =>
    intro h
    obtain ⟨l, hl, hp⟩ := ih fun i hi => h i (by omega)
    obtain ⟨x, hx⟩ := h n (by omega)
    refine ⟨l ++ [x], by simp [hl], fun i hi => ?_⟩
    by_cases hin : i < l.length
    · rw [List.getElem_append_left hin]; exact hp i hin
    · have : i = n := by simp at hi; omega
      subst this
      rw [List.getElem_append_right (by omega)]
      simpa [hl] using hx

theorem open_cards {r : Reach} {v : Value} {d : DataW H} {ps : List MemPlace} (hv : Value.okWide Try.prog w r base 22 v) (h : DataW.Trod enc Try.prog w 0 spare held 22 v d ps) :
    ∃ (p : Option Addr) (cs : List C4) (cap : Nat), v = .slice p cs.length cap ∧ cs.length ≤ maxLen ∧ Sl w p cs := by
  obtain ⟨a, len, cap, rfl⟩ := okWide_slice Try.underlying22 hv
  obtain ⟨fuel, h⟩ := h
  rcases open_slice Try.underlying22 h with ⟨hcs, _⟩ | ⟨a, len, cap, m, n, D, Pl, hcs, _, hl, hm, hmm, _, hx⟩
  · simp [Value.cells] at hcs
    obtain ⟨rfl, rfl, rfl⟩ := hcs
    exact ⟨none, [], 0, rfl, by simp, fun i hi => by simp at hi⟩
  · simp [Value.cells] at hcs
    obtain ⟨rfl, rfl, rfl⟩ := hcs
    have hle : len ≤ m := by rw [hmm]; split <;> omega
    obtain ⟨l, hl', hp⟩ := choose_list (α := C4) (p := fun i c => ∃ b o, some a = some ⟨b, o, none⟩ ∧ b < w.heap.size ∧
        w.cell? ⟨b, o + i * 4, none⟩ = some (.int .i64 c.a) ∧ w.cell? ⟨b, o + i * 4 + 1, none⟩ = some (.int .i64 c.b) ∧
        w.cell? ⟨b, o + i * 4 + 2, none⟩ = some (.int .i64 c.c) ∧ w.cell? ⟨b, o + i * 4 + 3, none⟩ = some (.int .i64 c.d)) len (fun i hi => by
      obtain ⟨cs', h1, h2⟩ := hx i (by omega)
      obtain ⟨c, rfl⟩ := open_c4 h2
      obtain ⟨_, _, h3⟩ := World.cells?_some h1
      have h3 := fun i (hi : i < 4) => h3 i (by rw [cellsC4]; exact hi)
      have e0 := h3 0 (by omega)
      have e1 := h3 1 (by omega)
      have e2 := h3 2 (by omega)
      have e3 := h3 3 (by omega)
      obtain ⟨b, o, s⟩ := a
      have hs : s = none := by
        cases s with
        | none => rfl
        | some s =>
          exfalso
          have := hx 0 (by omega)
          obtain ⟨cs', h1, h2⟩ := this
          obtain ⟨c', rfl⟩ := open_c4 h2
          obtain ⟨_, _, h3⟩ := World.cells?_some h1
          have e0 := h3 0 (by rw [cellsC4]; omega)
          simp [Addr.add, World.cell?] at e0
          split at e0 <;> simp_all
      subst hs
      simp only [add_none] at e0 e1 e2 e3
      rw [cellsC4] at e0 e1 e2 e3
      exact ⟨c, b, o, rfl, World.block_lt_of_cell? w _ e0, e0, e1, e2, e3⟩)
    subst hl'
    exact ⟨some a, l, cap, rfl, by omega, hp⟩
end
end Go.Proofs.Ytkmnnnhnajnefaa
