/- Plain words on the search for caps. -/
import Derived.Test.YtkmnnnhnajnefaaGreedy
namespace Go.Proofs.Ytkmnnnhnajnefaa
set_option linter.unusedSimpArgs false
set_option linter.unusedVariables false

def rowFree (a z : C4) : List C4 → Bool
  | [] => true
  | b :: bs => !ceq (third a b) z && rowFree a z bs
/-- Does no pair of the list have this third card? -/
def freeT (z : C4) : List C4 → Bool
  | [] => true
  | a :: bs => rowFree a z bs && freeT z bs
theorem rowFree_iff (a z : C4) (bs : List C4) : rowFree a z bs = true ↔ ∀ b ∈ bs, third a b ≠ z := by
  induction bs with
  | nil => simp [rowFree]
  | cons b bs ih => simp [rowFree, ih, ceq_false]
theorem rowPairs_nil_iff (a z : C4) (i : Nat) (bs : List C4) (h : a ∉ bs) : ∀ j, rowPairs a z i bs j = [] ↔ rowFree a z bs = true := by
  induction bs with
  | nil => intro j; simp [rowPairs, rowFree]
  | cons b bs ih =>
    intro j
    simp at h
    rw [rowPairs, rowFree, List.append_eq_nil_iff, ih h.2 (j + 1), Bool.and_eq_true]
    have hl : lineB a b z = ceq (third a b) z := by simp [lineB, (ceq_false a b).2 h.1]
    rw [hl]
    cases ceq (third a b) z <;> simp
theorem pairs_nil_iff (z : C4) (T : List C4) (hn : T.Nodup) : ∀ i, pairsOf z T i = [] ↔ freeT z T = true := by
  induction T with
  | nil => intro i; simp [pairsOf, freeT]
  | cons a bs ih =>
    intro i
    have hn' := List.nodup_cons.1 hn
    rw [pairsOf, freeT, List.append_eq_nil_iff, ih hn'.2 (i + 1), Bool.and_eq_true, rowPairs_nil_iff a z i bs hn'.1]
theorem free_iff (z : C4) (T : List C4) (hn : T.Nodup) : freeT z T = decide (through T z = 0) := by
  rw [Bool.eq_iff_iff, ← pairs_nil_iff z T hn 0, decide_eq_true_iff, through]
  exact List.length_eq_zero_iff.symm

/-- May the card at place 'i' be taken? -/
def mayT (cs : List C4) (P : List Nat) (i : Nat) : Bool := decide (through (pick cs P) (cs.getD i noCard) = 0)
/-- Places that rise, all below 'i'. -/
structure Rising (cs : List C4) (P : List Nat) (i : Nat) : Prop where
  lt : ∀ x ∈ P, x < i
  nodup : P.Nodup
theorem Rising.snoc {cs : List C4} {P : List Nat} {i : Nat} (h : Rising cs P i) : Rising cs (P ++ [i]) (i + 1) := by
  refine ⟨fun x hx => ?_, ?_⟩
  · simp at hx
    rcases hx with hx | rfl
    · have := h.lt x hx; omega
    · omega
  · rw [List.nodup_append]
    refine ⟨h.nodup, by simp, fun a ha b hb => ?_⟩
    simp at hb
    subst hb
    have := h.lt a ha
    omega
theorem Rising.next {cs : List C4} {P : List Nat} {i : Nat} (h : Rising cs P i) : Rising cs P (i + 1) := ⟨fun x hx => by have := h.lt x hx; omega, h.nodup⟩
theorem pick_nodup {cs : List C4} {P : List Nat} (hP : P.Nodup) (hlt : ∀ x ∈ P, x < cs.length) (hn : cs.Nodup) : (pick cs P).Nodup := by
  induction P with
  | nil => simp [pick]
  | cons p P ih =>
    have hp := List.nodup_cons.1 hP
    have hpl := hlt p (by simp)
    have h2 := ih hp.2 (fun x hx => hlt x (by simp [hx]))
    simp only [pick, List.map_cons, List.nodup_cons]
    refine ⟨fun hm => ?_, h2⟩
    simp only [List.mem_map] at hm
    obtain ⟨q, hq, e⟩ := hm
    have hql := hlt q (by simp [hq])
    rw [List.getD_eq_getElem?_getD, List.getD_eq_getElem?_getD, List.getElem?_eq_getElem hql, List.getElem?_eq_getElem hpl] at e
    have := nodup_at hn q p hql hpl (by simpa using e)
    subst this
    exact hp.1 hq
theorem may_free {cs : List C4} {P : List Nat} {i : Nat} (hn : cs.Nodup) (h : Rising cs P i) (hi : i < cs.length) : freeT cs[i] (pick cs P) = mayT cs P i := by
  rw [free_iff _ _ (pick_nodup h.nodup (fun x hx => by have := h.lt x hx; omega) hn), mayT, List.getD_eq_getElem?_getD, List.getElem?_eq_getElem hi]; rfl

/-- How many caps of 'n' cards are found behind some places, from 'i' on; 'd' places are left. -/
def cntL (cs : List C4) (n : Nat) : Nat → List Nat → Nat → Nat
  | 0, _, _ => 0
  | d + 1, P, i => (if mayT cs P i then (if P.length + 1 = n then 1 else 0) + cntL cs n d (P ++ [i]) (i + 1) else 0) + cntL cs n d P (i + 1)
def cntS (cs : List C4) : Nat → Nat → List Nat → Nat → Nat
  | _, 0, _, _ => 1
  | 0, _ + 1, _, _ => 0
  | d + 1, m + 1, P, i => (if mayT cs P i then cntS cs d m (P ++ [i]) (i + 1) else 0) + cntS cs d (m + 1) P (i + 1)
theorem cntL_none (cs : List C4) (n : Nat) : ∀ d P i, n ≤ P.length → cntL cs n d P i = 0 := by
  intro d
  induction d with
  | zero => intro P i _; rfl
  | succ d ih =>
    intro P i h
    rw [cntL, ih (P ++ [i]) (i + 1) (by simp; omega), ih P (i + 1) h]
    split
    · rw [if_neg (by omega)]
    · rfl
theorem cnt_eq (cs : List C4) (n : Nat) : ∀ d P i, P.length ≤ n → (if P.length = n then 1 else 0) + cntL cs n d P i = cntS cs d (n - P.length) P i := by
  intro d
  induction d with
  | zero =>
    intro P i h
    by_cases he : P.length = n
    · rw [if_pos he, he, Nat.sub_self]; simp [cntL, cntS]
    · obtain ⟨m, hm⟩ : ∃ m, n - P.length = m + 1 := ⟨n - P.length - 1, by omega⟩
      rw [if_neg he, hm]; simp [cntL, cntS]
  | succ d ih =>
    intro P i h
    by_cases he : P.length = n
    · rw [if_pos he, cntL_none cs n _ P i (by omega), he, Nat.sub_self]; simp [cntS]
    · obtain ⟨m, hm⟩ : ∃ m, n - P.length = m + 1 := ⟨n - P.length - 1, by omega⟩
      have h1 := ih (P ++ [i]) (i + 1) (by simp; omega)
      have h2 := ih P (i + 1) h
      rw [if_neg he, hm] at h2
      rw [if_neg he, hm, cntL, cntS]
      have hl : (P ++ [i]).length = P.length + 1 := by simp
      rw [hl, show n - (P.length + 1) = m by omega] at h1
      rw [← h1]
      omega
theorem cntL_small (cs : List C4) (n : Nat) : ∀ d P i, cntL cs n d P i + 1 ≤ 2 ^ d := by
  intro d
  induction d with
  | zero => intro P i; simp [cntL]
  | succ d ih =>
    intro P i
    have h1 := ih (P ++ [i]) (i + 1)
    have h2 := ih P (i + 1)
    rw [cntL, Nat.pow_succ]
    split <;> (try split) <;> omega
theorem cntS_small (cs : List C4) : ∀ d m P i, cntS cs d m P i ≤ 2 ^ d := by
  intro d
  induction d with
  | zero => intro m P i; cases m <;> simp [cntS]
  | succ d ih =>
    intro m P i
    cases m with
    | zero => simp [cntS]; exact Nat.one_le_two_pow
    | succ m =>
      have h1 := ih m (P ++ [i]) (i + 1)
      have h2 := ih (m + 1) P (i + 1)
      rw [cntS, Nat.pow_succ]
      split <;> omega
def ccB (cs : List C4) (n : Int) : Bool := handB cs && (decide (cs.length ≤ 15) && inR n 0 15)
def ccR (cs : List C4) (n : Int) : Int := if ccB cs n then (cntS cs cs.length n.toNat [] 0 : Int) else 0
end Go.Proofs.Ytkmnnnhnajnefaa
