/- Plain words on the pairs of a list that make a line with a card. -/
import Derived.Test.YtkmnnnhnajnefaaPure
namespace Go.Proofs.Ytkmnnnhnajnefaa

def rowPairs (a c : C4) (i : Nat) : List C4 → Nat → List (Nat × Nat)
  | [], _ => []
  | b :: bs, j => (if lineB a b c then [(i, j)] else []) ++ rowPairs a c i bs (j + 1)
def pairsOf (c : C4) : List C4 → Nat → List (Nat × Nat)
  | [], _ => []
  | a :: as, i => rowPairs a c i as (i + 1) ++ pairsOf c as (i + 1)
/-- How many lines there are of a card and two of the list. -/
def through (cs : List C4) (c : C4) : Nat := (pairsOf c cs 0).length

theorem rowPairs_len (a c : C4) (i : Nat) (bs : List C4) : ∀ j, (rowPairs a c i bs j).length ≤ bs.length := by
  induction bs with
  | nil => intro j; simp [rowPairs]
  | cons b bs ih =>
    intro j
    have := ih (j + 1)
    simp only [rowPairs, List.length_append, List.length_cons]
    split <;> simp <;> omega
theorem pairsOf_len (c : C4) (as : List C4) : ∀ i, (pairsOf c as i).length ≤ as.length * as.length := by
  induction as with
  | nil => intro i; simp [pairsOf]
  | cons a as ih =>
    intro i
    have h1 := ih (i + 1)
    have h2 := rowPairs_len a c i as (i + 1)
    simp only [pairsOf, List.length_append, List.length_cons, Nat.add_mul, Nat.mul_add, Nat.one_mul, Nat.mul_one]
    omega
theorem pairs_small {c : C4} {cs : List C4} (h : cs.length ≤ 1000) : (pairsOf c cs 0).length ≤ 1000000 := by
  have := pairsOf_len c cs 0
  have h2 := Nat.mul_le_mul h h
  omega

theorem lineB_alt {a b : C4} (c : C4) (ha : Ok a) (hb : Ok b) : lineB a b c = (!ceq a c && (!ceq b c && ceq (third a b) c)) := by
  obtain ⟨h1, h2, h3, h4, h5, h6, h7, h8⟩ := ha
  obtain ⟨k1, k2, k3, k4, k5, k6, k7, k8⟩ := hb
  have key : ceq (third a b) c = true → (a = b ↔ (a = c ∨ b = c)) := by
    intro h
    have h := (ceq_iff _ _).1 h
    subst h
    obtain ⟨a1, a2, a3, a4⟩ := a
    obtain ⟨b1, b2, b3, b4⟩ := b
    simp only [third, C4.mk.injEq] at *
    constructor
    · rintro ⟨e1, e2, e3, e4⟩
      subst e1; subst e2; subst e3; subst e4
      left; refine ⟨?_, ?_, ?_, ?_⟩ <;> omega
    · rintro (⟨e1, e2, e3, e4⟩ | ⟨e1, e2, e3, e4⟩)
      · refine ⟨?_, ?_, ?_, ?_⟩ <;> omega
      · refine ⟨?_, ?_, ?_, ?_⟩ <;> omega
  unfold lineB
  cases h : ceq (third a b) c
  · simp
  · have := key h
    simp only [Bool.and_true]
    rw [Bool.eq_iff_iff]
    simp only [Bool.not_eq_true', Bool.and_eq_true, ceq_false]
    rw [← not_or, ← this]

/-- The cells of pairs. -/
def pairCells : List (Nat × Nat) → List (Int × Int) := List.map fun p => ((p.1 : Int), (p.2 : Int))
end Go.Proofs.Ytkmnnnhnajnefaa
