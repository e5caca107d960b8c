/- Plain words on hands. -/
import Derived.Test.YtkmnnnhnajnefaaPure
namespace Go.Proofs.Ytkmnnnhnajnefaa

/-- Does the list go on well at place 'i'? -/
def goodAt (cs : List C4) (i : Nat) : Bool := match cs[i]? with
  | some c => ok c && (match i with | 0 => true | j + 1 => match cs[j]? with | some b => decide (num b < num c) | none => true)
  | none => true

/-- Is the list a hand? -/
def handB (cs : List C4) : Bool := (List.range cs.length).all (goodAt cs) && decide (cs.length ≤ 27)

theorem goodAt_zero {cs : List C4} {c : C4} (h : cs[0]? = some c) : goodAt cs 0 = ok c := by simp [goodAt, h]
theorem goodAt_succ {cs : List C4} {b c : C4} {j : Nat} (h : cs[j + 1]? = some c) (h' : cs[j]? = some b) : goodAt cs (j + 1) = (ok c && decide (num b < num c)) := by simp [goodAt, h, h']

/-- All cards, ascending. -/
structure Asc (cs : List C4) : Prop where
  ok : ∀ c ∈ cs, Ok c
  asc : cs.Pairwise fun a b => num a < num b

theorem asc_of_good : ∀ (cs : List C4), (∀ i, i < cs.length → goodAt cs i = true) → Asc cs := by
  intro cs h
  have hok : ∀ c ∈ cs, Ok c := by
    intro c hc
    obtain ⟨i, hi, rfl⟩ := List.getElem_of_mem hc
    have := h i hi
    cases i with
    | zero => rw [goodAt_zero (List.getElem?_eq_getElem hi)] at this; exact (ok_iff _).1 this
    | succ j =>
      rw [goodAt_succ (List.getElem?_eq_getElem hi) (List.getElem?_eq_getElem (by omega))] at this
      simp only [Bool.and_eq_true] at this
      exact (ok_iff _).1 this.1
  refine ⟨hok, ?_⟩
  have step : ∀ i (hi : i + 1 < cs.length), num cs[i] < num cs[i + 1] := by
    intro i hi
    have := h (i + 1) hi
    rw [goodAt_succ (List.getElem?_eq_getElem hi) (List.getElem?_eq_getElem (by omega))] at this
    simp only [Bool.and_eq_true, decide_eq_true_eq] at this
    exact this.2
  rw [List.pairwise_iff_getElem]
  intro i j hi hj hij
  induction j with
  | zero => omega
  | succ j ih =>
    by_cases h1 : i = j
    · subst h1; exact step i hj
    · exact Int.lt_trans (ih (by omega) (by omega)) (step j hj)

theorem handB_iff (cs : List C4) : handB cs = true ↔ Asc cs ∧ cs.length ≤ 27 := by
  simp only [handB, Bool.and_eq_true, List.all_eq_true, List.mem_range, decide_eq_true_eq]
  constructor
  · rintro ⟨h1, h2⟩; exact ⟨asc_of_good cs h1, h2⟩
  · rintro ⟨⟨h1, h2⟩, h3⟩
    refine ⟨fun i hi => ?_, h3⟩
    rw [List.pairwise_iff_getElem] at h2
    cases i with
    | zero => rw [goodAt_zero (List.getElem?_eq_getElem hi)]; exact (ok_iff _).2 (h1 _ (List.getElem_mem hi))
    | succ j =>
      rw [goodAt_succ (List.getElem?_eq_getElem hi) (List.getElem?_eq_getElem (by omega))]
      simp only [Bool.and_eq_true, decide_eq_true_eq]
      exact ⟨(ok_iff _).2 (h1 _ (List.getElem_mem hi)), h2 j (j + 1) (by omega) hi (by omega)⟩

theorem Asc.nodup {cs : List C4} (h : Asc cs) : cs.Nodup := by
  have := h.asc
  exact this.imp fun {a b} hab e => by subst e; omega
end Go.Proofs.Ytkmnnnhnajnefaa
