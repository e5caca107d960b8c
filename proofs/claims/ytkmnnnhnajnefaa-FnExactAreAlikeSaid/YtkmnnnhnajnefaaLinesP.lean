/- Plain words on the lines of a list of cards. -/
import Derived.Test.YtkmnnnhnajnefaaHand2
import Derived.Test.YtkmnnnhnajnefaaLawG
namespace Go.Proofs.Ytkmnnnhnajnefaa
set_option linter.unusedSimpArgs false
set_option linter.unusedVariables false

def rowLines (cs : List C4) (a : C4) (i : Nat) : List C4 → Nat → List (Nat × Nat × Nat)
  | [], _ => []
  | b :: bs, j => (if (j : Int) < placeR cs (third a b) then [(i, j, (placeR cs (third a b)).toNat)] else []) ++ rowLines cs a i bs (j + 1)
def linesOf (cs : List C4) : List C4 → Nat → List (Nat × Nat × Nat)
  | [], _ => []
  | a :: ds, i => rowLines cs a i ds (i + 1) ++ linesOf cs ds (i + 1)
/-- The lines of a list of different cards. -/
def linesR (cs : List C4) : List (Nat × Nat × Nat) := linesOf cs cs 0

theorem rowLines_len (cs : List C4) (a : C4) (i : Nat) (bs : List C4) : ∀ j, (rowLines cs a i bs j).length ≤ bs.length := by
  induction bs with
  | nil => intro j; simp [rowLines]
  | cons b bs ih =>
    intro j
    have := ih (j + 1)
    simp only [rowLines, List.length_append, List.length_cons]
    split <;> simp <;> omega
theorem linesOf_len (cs ds : List C4) : ∀ i, (linesOf cs ds i).length ≤ ds.length * ds.length := by
  induction ds with
  | nil => intro i; simp [linesOf]
  | cons a ds ih =>
    intro i
    have h1 := ih (i + 1)
    have h2 := rowLines_len cs a i ds (i + 1)
    simp only [linesOf, List.length_append, List.length_cons, Nat.add_mul, Nat.mul_add, Nat.one_mul, Nat.mul_one]
    omega
theorem lines_small {cs : List C4} (h : cs.length ≤ 1000) : (linesR cs).length ≤ 1000000 := by
  have := linesOf_len cs cs 0
  have h2 := Nat.mul_le_mul h h
  unfold linesR
  omega

theorem firstNot_get (cs : List C4) (t : C4) : ∀ (n : Int) (k : Nat) (h : k < cs.length), cs.Nodup → cs[k] = t → firstNot (fun z => !ceq z t) cs n = n + k := by
  induction cs with
  | nil => intro n k h; simp at h
  | cons c cs ih =>
    intro n k h hn e
    have hn' := List.nodup_cons.1 hn
    cases k with
    | zero =>
      simp at e
      subst e
      rw [firstNot_no (by simp [(ceq_iff c c).2 rfl])]
      simp
    | succ k =>
      simp at e h
      have hne : c ≠ t := fun e' => hn'.1 (by rw [e', ← e]; exact List.getElem_mem h)
      rw [firstNot_yes (by simp [(ceq_false c t).2 hne]), ih (n + 1) k h hn'.2 e]
      omega
theorem firstNot_none (cs : List C4) (t : C4) : ∀ (n : Int), t ∉ cs → firstNot (fun z => !ceq z t) cs n = -1 := by
  induction cs with
  | nil => intro n _; rfl
  | cons c cs ih =>
    intro n h
    simp at h
    rw [firstNot_yes (by simp [(ceq_false c t).2 (Ne.symm h.1)]), ih (n + 1) h.2]
theorem place_get {cs : List C4} {t : C4} {k : Nat} (h : k < cs.length) (hn : cs.Nodup) (e : cs[k] = t) : placeR cs t = k := by
  unfold placeR; rw [firstNot_get cs t 0 k h hn e]; omega
theorem place_none {cs : List C4} {t : C4} (h : t ∉ cs) : placeR cs t = -1 := firstNot_none cs t 0 h
theorem place_lt {cs : List C4} (t : C4) (hn : cs.Nodup) : -1 ≤ placeR cs t ∧ placeR cs t < cs.length := by
  by_cases h : t ∈ cs
  · obtain ⟨k, hk, e⟩ := List.getElem_of_mem h
    rw [place_get hk hn e]; omega
  · rw [place_none h]; omega

/-- The place of each card, by its number. -/
theorem place_snoc {cs : List C4} {z t : C4} (hz : z ∉ cs) (hn : cs.Nodup) : placeR (cs ++ [z]) t = if z = t then (cs.length : Int) else placeR cs t := by
  have hn2 : (cs ++ [z]).Nodup := by
    rw [List.nodup_append]
    refine ⟨hn, by simp, ?_⟩
    intro a ha b hb e
    simp at hb
    subst hb; subst e; exact hz ha
  split
  · rename_i e
    rw [place_get (k := cs.length) (by simp) hn2 (by simp [e])]
  · rename_i e
    by_cases h : t ∈ cs
    · obtain ⟨k, hk, e'⟩ := List.getElem_of_mem h
      rw [place_get hk hn e', place_get (k := k) (by simp; omega) hn2 (by rw [List.getElem_append_left hk]; exact e')]
    · rw [place_none h, place_none (by simp [h]; exact fun e' => e e'.symm)]

/-- The lines with two cards whose third one stands behind. -/
def deepLines (a b : C4) (i j : Nat) : List C4 → Nat → List (Nat × Nat × Nat)
  | [], _ => []
  | c :: cs, m => (if lineB a b c then [(i, j, m)] else []) ++ deepLines a b i j cs (m + 1)
theorem deep_none {a b : C4} {i j : Nat} (s : List C4) : ∀ m, third a b ∉ s → deepLines a b i j s m = [] := by
  induction s with
  | nil => intro m _; rfl
  | cons c s ih =>
    intro m h
    simp at h
    rw [deepLines, ih _ h.2, if_neg]
    · rfl
    · simp [lineB, (ceq_false (third a b) c).2 h.1]
theorem deep_one {a b : C4} {i j : Nat} (hab : a ≠ b) (s : List C4) : ∀ m p (h : p < s.length), s.Nodup → s[p] = third a b → deepLines a b i j s m = [(i, j, m + p)] := by
  induction s with
  | nil => intro m p h; simp at h
  | cons c s ih =>
    intro m p h hn e
    have hn' := List.nodup_cons.1 hn
    cases p with
    | zero =>
      simp at e
      rw [deepLines, deep_none _ _ (by rw [← e]; exact hn'.1), if_pos]
      · rfl
      · simp [lineB, (ceq_false a b).2 hab, (ceq_iff (third a b) c).2 e.symm]
    | succ p =>
      simp at e h
      have hne : third a b ≠ c := fun e' => hn'.1 (by rw [← e', ← e]; exact List.getElem_mem h)
      rw [deepLines, ih (m + 1) p h hn'.2 e, if_neg]
      · simp; omega
      · simp [lineB, (ceq_false (third a b) c).2 hne]
theorem nodup_at {cs : List C4} (hn : cs.Nodup) (i j : Nat) (hi : i < cs.length) (hj : j < cs.length) (e : cs[i] = cs[j]) : i = j := by
  have h := List.pairwise_iff_getElem.1 hn
  by_cases h1 : i < j
  · exact absurd e (h i j hi hj h1)
  · by_cases h2 : j < i
    · exact absurd e.symm (h j i hj hi h2)
    · omega
theorem deep_eq {cs : List C4} (hn : cs.Nodup) {i j : Nat} (hij : i < j) (hj : j < cs.length) : deepLines (cs[i]'(by omega)) cs[j] i j (cs.drop (j + 1)) (j + 1) =
    if (j : Int) < placeR cs (third (cs[i]'(by omega)) cs[j]) then [(i, j, (placeR cs (third (cs[i]'(by omega)) cs[j])).toNat)] else [] := by
  have hab : cs[i]'(by omega) ≠ cs[j] := fun e => by
    have := (nodup_at hn) i j (by omega) hj e
    omega
  generalize ht : third (cs[i]'(by omega)) cs[j] = t
  by_cases h : t ∈ cs.drop (j + 1)
  · obtain ⟨p, hp, e⟩ := List.getElem_of_mem h
    have e' : cs[j + 1 + p]'(by simp at hp; omega) = t := by rw [← e, List.getElem_drop]
    rw [place_get _ hn e', if_pos (by omega), deep_one hab _ _ p hp (List.Nodup.sublist (List.drop_sublist _ _) hn) (by rw [ht]; exact e)]
    simp; omega
  · rw [deep_none _ _ (by rw [ht]; exact h), if_neg]
    by_cases h2 : t ∈ cs
    · obtain ⟨k, hk, e⟩ := List.getElem_of_mem h2
      rw [place_get hk hn e]
      intro hlt
      apply h
      rw [List.mem_iff_getElem]
      exact ⟨k - (j + 1), by simp; omega, by rw [List.getElem_drop, ← e]; congr 1; omega⟩
    · rw [place_none h2]; omega

/-- The cells of triples. -/
def triInts : List (Nat × Nat × Nat) → List Int
  | [] => []
  | (i, j, k) :: r => (i : Int) :: (j : Int) :: (k : Int) :: triInts r
theorem triInts_append (P R : List (Nat × Nat × Nat)) : triInts (P ++ R) = triInts P ++ triInts R := by
  induction P with
  | nil => rfl
  | cons q P ih => obtain ⟨i, j, k⟩ := q; simp [triInts, ih]
theorem triInts_length (P : List (Nat × Nat × Nat)) : (triInts P).length = P.length * 3 := by
  induction P with
  | nil => rfl
  | cons q P ih => obtain ⟨i, j, k⟩ := q; simp [triInts, ih]; omega
/-- Has a list of different cards no line? -/
def capB (cs : List C4) : Bool := decide ((linesR cs).length = 0)
end Go.Proofs.Ytkmnnnhnajnefaa
