/- Plain words on maps of cards: each map, taken at most 18 times, leads each card back to itself. -/
import Derived.Test.YtkmnnnhnajnefaaPure
namespace Go.Proofs.Ytkmnnnhnajnefaa
set_option linter.unusedSimpArgs false
set_option linter.unusedVariables false

/-- 'f', taken 'n' times. -/
def itr {α : Type} (f : α → α) : Nat → α → α
  | 0, x => x
  | n + 1, x => f (itr f n x)
theorem itr_add {α : Type} (f : α → α) (m n : Nat) (x : α) : itr f (m + n) x = itr f m (itr f n x) := by
  induction m with
  | zero => rw [Nat.zero_add]; rfl
  | succ m ih => rw [Nat.succ_add]; show f _ = f _; rw [ih]
theorem itr_mul {α : Type} (f : α → α) (m n : Nat) (x : α) : itr f (m * n) x = itr (itr f m) n x := by
  induction n with
  | zero => rfl
  | succ n ih => rw [Nat.mul_succ, Nat.add_comm, itr_add, ih]; rfl

def mk3 (a b c : Fin 3) : Fin 3 → Fin 3 := fun x => if x = 0 then a else if x = 1 then b else c
theorem mk3_eq (V : Fin 3 → Fin 3) : V = mk3 (V 0) (V 1) (V 2) := by
  funext x
  have : x = 0 ∨ x = 1 ∨ x = 2 := by revert x; decide
  rcases this with rfl | rfl | rfl <;> rfl
def mk4 (a b c d : Fin 4) : Fin 4 → Fin 4 := fun x => if x = 0 then a else if x = 1 then b else if x = 2 then c else d
theorem mk4_eq (T : Fin 4 → Fin 4) : T = mk4 (T 0) (T 1) (T 2) (T 3) := by
  funext x
  have : x = 0 ∨ x = 1 ∨ x = 2 ∨ x = 3 := by revert x; decide
  rcases this with rfl | rfl | rfl | rfl <;> rfl
/-- No two have the same image. -/
def Inj {α β : Type} (f : α → β) : Prop := ∀ x y, f x = f y → x = y
theorem perm3_six {V : Fin 3 → Fin 3} (h : Inj V) : ∀ x, itr V 6 x = x := by
  have h1 : V 0 ≠ V 1 := fun e => absurd (h _ _ e) (by decide)
  have h2 : V 0 ≠ V 2 := fun e => absurd (h _ _ e) (by decide)
  have h3 : V 1 ≠ V 2 := fun e => absurd (h _ _ e) (by decide)
  rw [mk3_eq V]
  generalize V 0 = a at *
  generalize V 1 = b at *
  generalize V 2 = c at *
  revert a b c
  decide
theorem perm3_two {V : Fin 3 → Fin 3} (h : Inj V) : (∀ x, itr V 2 x = x) ∨ (∀ x, itr V 3 x = x) := by
  have h1 : V 0 ≠ V 1 := fun e => absurd (h _ _ e) (by decide)
  have h2 : V 0 ≠ V 2 := fun e => absurd (h _ _ e) (by decide)
  have h3 : V 1 ≠ V 2 := fun e => absurd (h _ _ e) (by decide)
  rw [mk3_eq V]
  generalize V 0 = a at *
  generalize V 1 = b at *
  generalize V 2 = c at *
  revert a b c
  decide
set_option maxRecDepth 100000 in
theorem perm4_all : ∀ a b c d : Fin 4, a ≠ b → a ≠ c → a ≠ d → b ≠ c → b ≠ d → c ≠ d →
    (∀ i, mk4 a b c d (mk4 a b c d i) = i) ∨ (∀ i, mk4 a b c d (mk4 a b c d (mk4 a b c d i)) = i) ∨ (∀ i, mk4 a b c d (mk4 a b c d (mk4 a b c d (mk4 a b c d i))) = i ∧ (i = 0 ∨ i = mk4 a b c d 0 ∨ i = mk4 a b c d (mk4 a b c d 0) ∨ i = mk4 a b c d (mk4 a b c d (mk4 a b c d 0)))) := by
  decide
theorem perm4_kinds {T : Fin 4 → Fin 4} (h : Inj T) : (∀ i, T (T i) = i) ∨ (∀ i, T (T (T i)) = i) ∨ (∀ i, T (T (T (T i))) = i ∧ (i = 0 ∨ i = T 0 ∨ i = T (T 0) ∨ i = T (T (T 0)))) := by
  have key := perm4_all (T 0) (T 1) (T 2) (T 3) (fun e => absurd (h _ _ e) (by decide)) (fun e => absurd (h _ _ e) (by decide)) (fun e => absurd (h _ _ e) (by decide)) (fun e => absurd (h _ _ e) (by decide)) (fun e => absurd (h _ _ e) (by decide)) (fun e => absurd (h _ _ e) (by decide))
  rw [← mk4_eq T] at key
  exact key

/-- The image of a card under a map, in numbers. -/
def imF (T : Fin 4 → Fin 4) (V : Fin 4 → Fin 3 → Fin 3) (c : Fin 4 → Fin 3) : Fin 4 → Fin 3 := fun i => V i (c (T i))
theorem itr_parts {G : (Fin 4 → Fin 3) → (Fin 4 → Fin 3)} {W : Fin 4 → Fin 3 → Fin 3} (h : ∀ c i, G c i = W i (c i)) (k : Nat) : ∀ c i, itr G k c i = itr (W i) k (c i) := by
  induction k with
  | zero => intro c i; rfl
  | succ k ih => intro c i; show G (itr G k c) i = W i (itr (W i) k (c i)); rw [h, ih]
theorem inj_comp {α β γ : Type} {f : β → γ} {g : α → β} (hf : Inj f) (hg : Inj g) : Inj (fun x => f (g x)) := fun x y e => hg _ _ (hf _ _ e)
theorem back18 {T : Fin 4 → Fin 4} {V : Fin 4 → Fin 3 → Fin 3} (hT : Inj T) (hV : ∀ i, Inj (V i)) : ∃ n, 1 ≤ n ∧ n ≤ 18 ∧ ∀ c, itr (imF T V) n c = c := by
  rcases perm4_kinds hT with h | h | h
  · refine ⟨2 * 6, by omega, by omega, fun c => ?_⟩
    rw [itr_mul]
    funext i
    have hG : ∀ c i, itr (imF T V) 2 c i = (fun i x => V i (V (T i) x)) i (c i) := fun c i => by
      show V i (V (T i) (c (T (T i)))) = _
      rw [h]
    rw [itr_parts (W := fun i x => V i (V (T i) x)) hG]
    exact perm3_six (inj_comp (hV i) (hV (T i))) _
  · refine ⟨3 * 6, by omega, by omega, fun c => ?_⟩
    rw [itr_mul]
    funext i
    have hG : ∀ c i, itr (imF T V) 3 c i = (fun i x => V i (V (T i) (V (T (T i)) x))) i (c i) := fun c i => by
      show V i (V (T i) (V (T (T i)) (c (T (T (T i)))))) = _
      rw [h]
    rw [itr_parts (W := fun i x => V i (V (T i) (V (T (T i)) x))) hG]
    exact perm3_six (inj_comp (hV i) (inj_comp (hV (T i)) (hV (T (T i))))) _
  · have hG : ∀ c i, itr (imF T V) 4 c i = (fun i x => V i (V (T i) (V (T (T i)) (V (T (T (T i))) x)))) i (c i) := fun c i => by
      show V i (V (T i) (V (T (T i)) (V (T (T (T i))) (c (T (T (T (T i)))))))) = _
      rw [(h i).1]
    have hconj : ∀ k i x, V i (itr ((fun i x => V i (V (T i) (V (T (T i)) (V (T (T (T i))) x)))) (T i)) k x) = itr ((fun i x => V i (V (T i) (V (T (T i)) (V (T (T (T i))) x)))) i) k (V i x) := by
      intro k
      induction k with
      | zero => intro i x; rfl
      | succ k ih =>
        intro i x
        show V i (V (T i) (V (T (T i)) (V (T (T (T i))) (V (T (T (T (T i)))) (itr _ k x))))) = V i (V (T i) (V (T (T i)) (V (T (T (T i))) (itr _ k (V i x)))))
        rw [(h i).1, ih]
    have hnext : ∀ k i, (∀ x, itr ((fun i x => V i (V (T i) (V (T (T i)) (V (T (T (T i))) x)))) i) k x = x) → ∀ x, itr ((fun i x => V i (V (T i) (V (T (T i)) (V (T (T (T i))) x)))) (T i)) k x = x := fun k i hk x => hV i _ _ (by rw [hconj, hk])
    have hall : ∀ k, (∀ x, itr ((fun i x => V i (V (T i) (V (T (T i)) (V (T (T (T i))) x)))) 0) k x = x) → ∀ i x, itr ((fun i x => V i (V (T i) (V (T (T i)) (V (T (T (T i))) x)))) i) k x = x := fun k h0 i => by
      have h1 := hnext k 0 h0
      have h2 := hnext k _ h1
      have h3 := hnext k _ h2
      rcases (h i).2 with e | e | e | e
      · rw [e]; exact h0
      · rw [e]; exact h1
      · rw [e]; exact h2
      · rw [e]; exact h3
    rcases perm3_two (inj_comp (hV 0) (inj_comp (hV (T 0)) (inj_comp (hV (T (T 0))) (hV (T (T (T 0))))))) with h2 | h3
    · refine ⟨4 * 2, by omega, by omega, fun c => ?_⟩
      rw [itr_mul]
      funext i
      rw [itr_parts (W := fun i x => V i (V (T i) (V (T (T i)) (V (T (T (T i))) x)))) hG]
      exact hall 2 h2 i _
    · refine ⟨4 * 3, by omega, by omega, fun c => ?_⟩
      rw [itr_mul]
      funext i
      rw [itr_parts (W := fun i x => V i (V (T i) (V (T (T i)) (V (T (T (T i))) x)))) hG]
      exact hall 3 h3 i _

/-- The first number from 'k' on of which 'p' is true, at most so many beyond it. -/
def ordN (p : Nat → Bool) : Nat → Nat → Nat
  | 0, k => k
  | d + 1, k => if p k then k else ordN p d (k + 1)
theorem ordN_ok (p : Nat → Bool) : ∀ d k, (∃ n, k ≤ n ∧ n ≤ k + d ∧ p n = true) → p (ordN p d k) = true ∧ k ≤ ordN p d k ∧ ordN p d k ≤ k + d ∧ ∀ j, k ≤ j → p j = true → ordN p d k ≤ j := by
  intro d
  induction d with
  | zero =>
    rintro k ⟨n, h1, h2, h3⟩
    have : n = k := by omega
    subst this
    exact ⟨h3, Nat.le_refl _, Nat.le_refl _, fun j hj _ => hj⟩
  | succ d ih =>
    rintro k ⟨n, h1, h2, h3⟩
    rw [ordN]
    by_cases hp : p k = true
    · rw [if_pos hp]
      exact ⟨hp, Nat.le_refl _, by omega, fun j hj _ => hj⟩
    · rw [if_neg hp]
      have hne : n ≠ k := fun e => hp (e ▸ h3)
      obtain ⟨a, b, c, e⟩ := ih (k + 1) ⟨n, by omega, by omega, h3⟩
      refine ⟨a, by omega, by omega, fun j hj hpj => e j ?_ hpj⟩
      have : j ≠ k := fun q => hp (q ▸ hpj)
      omega
end Go.Proofs.Ytkmnnnhnajnefaa
