/- What a region leaves, told in the words of a few letters: what follows is walked once. -/
import Derived.Test.YtkelmfdbcicojaaLib
import Derived.Deep.RegionHeld3
namespace Go.Proofs.Ytkelmfdbcicojaa
open Go
/-- An act with some temporaries set. -/
def puts (a : Act) (l : List (Nat × Value)) : Act := l.foldl (fun a p => a.put (some p.1) p.2) a
theorem puts_nil (a : Act) : puts a [] = a := rfl
theorem puts_cons (a : Act) (n : Nat) (v : Value) (l : List (Nat × Value)) : puts a ((n, v) :: l) = puts (a.put (some n) v) l := rfl
theorem region_post {P : Program} {α : Type} {c : Code} {a : Act} {w : World} {Q : Exit → Act → World → Prop} (V : α → List (Nat × Value)) (Φ : α → World → Prop)
    (h1 : c.wp P (fun e a' w' => e = .normal ∧ ∃ x, a' = puts a (V x) ∧ Φ x w') a w) (h2 : ∀ x w', Φ x w' → Q .normal (puts a (V x)) w') : c.wp P Q a w :=
  Code.wp_mono (fun e a' w' ⟨he, x, ha, hx⟩ => by subst he; subst ha; exact h2 x w' hx) h1
end Go.Proofs.Ytkelmfdbcicojaa
