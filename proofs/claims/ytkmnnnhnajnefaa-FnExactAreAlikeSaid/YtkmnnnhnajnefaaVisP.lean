/- Plain words on the places that a search for caps visits, in order. -/
import Derived.Test.YtkmnnnhnajnefaaCapsP
namespace Go.Proofs.Ytkmnnnhnajnefaa
set_option linter.unusedSimpArgs false
set_option linter.unusedVariables false

/-- The places that are visited behind some, in order. -/
def vis (cs : List C4) : Nat → List Nat → Nat → List (List Nat)
  | 0, _, _ => []
  | d + 1, P, i => (if mayT cs P i then (P ++ [i]) :: vis cs d (P ++ [i]) (i + 1) else []) ++ vis cs d P (i + 1)

/-- Visits in order. -/
def runV {σ : Type} (f : List Nat → σ → σ) : List (List Nat) → σ → σ
  | [], s => s
  | Q :: V, s => runV f V (f Q s)
theorem runV_append {σ : Type} (f : List Nat → σ → σ) (U V : List (List Nat)) : ∀ s, runV f (U ++ V) s = runV f V (runV f U s) := by
  induction U with
  | nil => intro s; rfl
  | cons x U ih => intro s; exact ih _

/-- Who is counted. -/
def cntF (n : Int) (P : List Nat) (s : Nat) : Nat := if ((P.length : Nat) : Int) = n then s + 1 else s
theorem cntF_fold (cs : List C4) (n : Nat) : ∀ d P i s, runV (cntF n) (vis cs d P i) s = s + cntL cs n d P i := by
  intro d
  induction d with
  | zero => intro P i s; simp [vis, cntL, runV]
  | succ d ih =>
    intro P i s
    rw [vis, cntL, runV_append]
    cases hm : mayT cs P i
    · simp only [Bool.false_eq_true, if_false, runV, ih]; omega
    · simp only [if_true, runV, ih]
      have e : cntF n (P ++ [i]) s = s + (if P.length + 1 = n then 1 else 0) := by
        unfold cntF
        have : (((P ++ [i]).length : Nat) : Int) = (n : Int) ↔ P.length + 1 = n := by simp; omega
        by_cases h : P.length + 1 = n
        · rw [if_pos (this.2 h), if_pos h]
        · rw [if_neg (fun q => h (this.1 q)), if_neg h]; rfl
      rw [e]; omega

/-- The longer of two, the elder where they are equal. -/
def bestF (P best : List Nat) : List Nat := if best.length < P.length then P else best
theorem bestF_yes {P b : List Nat} (h : b.length < P.length) : bestF P b = P := by unfold bestF; rw [if_pos h]
theorem bestF_ge (P b : List Nat) : b.length ≤ (bestF P b).length := by unfold bestF; split <;> omega
theorem best_ge (V : List (List Nat)) : ∀ b : List Nat, b.length ≤ (runV bestF V b).length := by
  induction V with
  | nil => intro b; exact Nat.le_refl _
  | cons x V ih => intro b; exact Nat.le_trans (bestF_ge x b) (ih _)
theorem best_from (V : List (List Nat)) : ∀ a b : List Nat, a.length ≤ b.length → runV bestF V b = bestF (runV bestF V a) b := by
  induction V with
  | nil => intro a b h; show b = bestF a b; unfold bestF; rw [if_neg (by omega)]
  | cons x V ih =>
    intro a b h
    show runV bestF V (bestF x b) = bestF (runV bestF V (bestF x a)) b
    by_cases h1 : b.length < x.length
    · have e1 : bestF x b = x := by simp [bestF, h1]
      have e2 : bestF x a = x := by simp [bestF, show a.length < x.length by omega]
      rw [e1, e2, bestF_yes (Nat.lt_of_lt_of_le h1 (best_ge V x))]
    · have e1 : bestF x b = b := by simp [bestF, h1]
      rw [e1]
      by_cases h2 : a.length < x.length
      · have e2 : bestF x a = x := by simp [bestF, h2]
        rw [e2]
        exact ih x b (by omega)
      · have e2 : bestF x a = a := by simp [bestF, h2]
        rw [e2]
        exact ih a b h
theorem best_none (V : List (List Nat)) (b : List Nat) (h : ∀ Q ∈ V, Q.length ≤ b.length) : runV bestF V b = b := by
  induction V with
  | nil => rfl
  | cons x V ih =>
    have e : bestF x b = b := by
      have := h x (by simp)
      simp [bestF]; omega
    rw [runV, e]
    exact ih fun Q hQ => h Q (by simp [hQ])
theorem vis_len (cs : List C4) : ∀ d P i, ∀ Q ∈ vis cs d P i, Q.length ≤ P.length + d := by
  intro d
  induction d with
  | zero => intro P i Q hQ; simp [vis] at hQ
  | succ d ih =>
    intro P i Q hQ
    rw [vis, List.mem_append] at hQ
    rcases hQ with hQ | hQ
    · split at hQ
      · rcases List.mem_cons.1 hQ with rfl | hQ
        · simp <;> omega
        · have := ih _ _ Q hQ
          simp at this <;> omega
      · simp at hQ
    · have := ih _ _ Q hQ
      omega
theorem vis_lt (cs : List C4) : ∀ d P i, (∀ x ∈ P, x < cs.length) → i + d = cs.length → ∀ Q ∈ vis cs d P i, ∀ x ∈ Q, x < cs.length := by
  intro d
  induction d with
  | zero => intro P i _ _ Q hQ; simp [vis] at hQ
  | succ d ih =>
    intro P i hP hi Q hQ
    have hP' : ∀ x ∈ P ++ [i], x < cs.length := fun x hx => by
      simp at hx
      rcases hx with hx | rfl
      · exact hP x hx
      · omega
    rw [vis, List.mem_append] at hQ
    rcases hQ with hQ | hQ
    · split at hQ
      · rcases List.mem_cons.1 hQ with rfl | hQ
        · exact hP'
        · exact ih _ _ hP' (by omega) Q hQ
      · simp at hQ
    · exact ih _ _ hP (by omega) Q hQ

/-- The search of the reference: the loop with what is best as yet. -/
def srch (cs : List C4) : Nat → List Nat → Nat → List Nat → List Nat
  | 0, _, _, best => best
  | d + 1, P, i, best => if P.length + (d + 1) ≤ best.length then best else srch cs d P (i + 1) (if mayT cs P i then bestF (srch cs d (P ++ [i]) (i + 1) (P ++ [i])) best else best)
theorem srch_eq (cs : List C4) : ∀ d P i best, P.length ≤ best.length → srch cs d P i best = runV bestF (vis cs d P i) best := by
  intro d
  induction d with
  | zero => intro P i best _; rfl
  | succ d ih =>
    intro P i best hb
    rw [srch]
    by_cases hlt : P.length + (d + 1) ≤ best.length
    · rw [if_pos hlt, best_none _ _ fun Q hQ => Nat.le_trans (vis_len cs _ _ _ Q hQ) hlt]
    · rw [if_neg hlt, vis, runV_append]
      have hQ := ih (P ++ [i]) (i + 1) (P ++ [i]) (Nat.le_refl _)
      cases hm : mayT cs P i
      · exact ih P (i + 1) best hb
      · simp only [if_true]
        rw [hQ]
        have key : runV bestF ((P ++ [i]) :: vis cs d (P ++ [i]) (i + 1)) best = bestF (runV bestF (vis cs d (P ++ [i]) (i + 1)) (P ++ [i])) best := by
          show runV bestF (vis cs d (P ++ [i]) (i + 1)) (bestF (P ++ [i]) best) = _
          have hge := best_ge (vis cs d (P ++ [i]) (i + 1)) (P ++ [i])
          by_cases h1 : best.length < (P ++ [i]).length
          · have e : bestF (P ++ [i]) best = P ++ [i] := by simp only [bestF, h1, if_true]
            rw [e, bestF_yes (Nat.lt_of_lt_of_le h1 hge)]
          · have e : bestF (P ++ [i]) best = best := by simp only [bestF, h1, if_false]
            rw [e]
            exact best_from _ _ _ (by omega)
        rw [key]
        exact ih P (i + 1) _ (Nat.le_trans hb (bestF_ge _ _))

def gcB (cs : List C4) : Bool := handB cs && decide (cs.length ≤ 15)
/-- The first greatest cap. -/
def gcL (cs : List C4) : List Nat := srch cs cs.length [] 0 []
theorem gcL_len (cs : List C4) : (gcL cs).length ≤ cs.length := by
  rw [gcL, srch_eq _ _ _ _ _ (Nat.le_refl _)]
  have : ∀ (V : List (List Nat)) (b : List Nat) (m : Nat), b.length ≤ m → (∀ Q ∈ V, Q.length ≤ m) → (runV bestF V b).length ≤ m := by
    intro V
    induction V with
    | nil => intro b m hb _; exact hb
    | cons x V ih =>
      intro b m hb h
      refine ih _ m ?_ fun Q hQ => h Q (by simp [hQ])
      unfold bestF
      split
      · exact h x (by simp)
      · exact hb
  refine this _ _ _ (by simp) fun Q hQ => ?_
  have := vis_len cs _ _ _ Q hQ
  simpa using this
def gcR (cs : List C4) : List Nat := if gcB cs then gcL cs else []
theorem gcR_len (cs : List C4) : (gcR cs).length ≤ 15 := by
  unfold gcR gcB
  split
  · rename_i h
    simp at h
    have := gcL_len cs
    omega
  · simp
end Go.Proofs.Ytkmnnnhnajnefaa
