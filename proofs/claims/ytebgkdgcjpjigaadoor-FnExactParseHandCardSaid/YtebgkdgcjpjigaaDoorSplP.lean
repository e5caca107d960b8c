/- Splitting as the library does it is splitting as the reference does it. -/
import Derived.Test.YtebgkdgcjpjigaaDoorVerP
namespace Go.Proofs.YtebgkdgcjpjigaaDoor
set_option linter.unusedSimpArgs false
set_option linter.unusedVariables false

theorem spL_none (c : UInt8) : ∀ l cur, c ∉ l → spL c l cur = [cur ++ l] := by
  intro l
  induction l with
  | nil => intro cur _; simp [spL]
  | cons b l ih =>
    intro cur h
    have h1 : ¬ b = c := fun e => h (by simp [e])
    rw [spL, if_neg h1, ih _ (fun e => h (by simp [e]))]
    simp
theorem spL_hit (c : UInt8) : ∀ i l cur, l[i]? = some c → (∀ j, j < i → l[j]? ≠ some c) → spL c l cur = (cur ++ l.take i) :: spL c (l.drop (i + 1)) [] := by
  intro i
  induction i with
  | zero =>
    intro l cur h _
    cases l with
    | nil => simp at h
    | cons b l =>
      simp at h
      rw [spL, if_pos h]
      simp
  | succ i ih =>
    intro l cur h hn
    cases l with
    | nil => simp at h
    | cons b l =>
      have hb : ¬ b = c := fun e => hn 0 (by omega) (by simp [e])
      rw [spL, if_neg hb, ih l (cur ++ [b]) (by simpa using h) (fun j hj => by simpa using hn (j + 1) (by omega))]
      simp
theorem occ_one (l : List UInt8) (c : UInt8) (j : Nat) : Lib.occAt l [c] j = true ↔ l[j]? = some c := by
  unfold Lib.occAt
  cases h : l.drop j with
  | nil =>
    have : l.length ≤ j := List.drop_eq_nil_iff.1 h
    simp [List.getElem?_eq_none this]
  | cons b r =>
    have hb : l[j]? = some b := by
      have := congrArg List.head? h
      rwa [List.head?_drop] at this
    rw [hb]
    simp [List.isPrefixOf]
    exact eq_comm
theorem index_one (l : List UInt8) (c : UInt8) : (Lib.index l [c] = -1 ∧ c ∉ l) ∨ ∃ i : Nat, Lib.index l [c] = i ∧ l[i]? = some c ∧ ∀ j, j < i → l[j]? ≠ some c := by
  rcases Lib.index_spec l [c] with ⟨h1, h2⟩ | ⟨i, h1, h2, h3, h4⟩
  · refine Or.inl ⟨h1, fun hm => ?_⟩
    obtain ⟨j, hj⟩ := List.getElem?_of_mem hm
    have hlt : j < l.length := (List.getElem?_eq_some_iff.1 hj).1
    have := h2 j (by omega)
    rw [(occ_one l c j).2 hj] at this
    simp at this
  · refine Or.inr ⟨i, h1, (occ_one l c i).1 h3, fun j hj e => ?_⟩
    have := h4 j hj
    rw [(occ_one l c j).2 e] at this
    simp at this
theorem splitB_spL (c : UInt8) : ∀ (k : Nat) (s : ByteArray), Lib.countB s ⟨#[c]⟩ = k → (Lib.splitB ⟨#[c]⟩ 0 k s).map (·.data.toList) = spL c s.data.toList [] := by
  intro k
  induction k with
  | zero =>
    intro s hk
    rcases index_one s.data.toList c with ⟨h1, h2⟩ | ⟨i, h1, h2, h3⟩
    · rw [Lib.splitB_zero, spL_none c _ _ h2]; simp
    · exfalso
      have := Lib.countB_hit s ⟨#[c]⟩ i (Nat.le_refl 1) h1
      omega
  | succ k ih =>
    intro s hk
    rcases index_one s.data.toList c with ⟨h1, h2⟩ | ⟨i, h1, h2, h3⟩
    · exfalso
      have := Lib.countB_miss s ⟨#[c]⟩ h1
      omega
    · have hc := Lib.countB_hit s ⟨#[c]⟩ i (Nat.le_refl 1) h1
      rw [Lib.splitB_hit _ _ _ _ i h1, List.map_cons, ih _ (by omega), spL_hit c i _ _ h2 h3, Lib.extract_from_zero, Lib.extract_to_end]
      rfl
theorem split_same (s : ByteArray) (c : UInt8) : Lib.splitB ⟨#[c]⟩ 0 (Lib.countB s ⟨#[c]⟩) s = spI s c s.size 0 0 := by
  have h1 := splitB_spL c _ s rfl
  have h2 := spI_data s c s.size 0 0 (by omega) (Nat.le_refl _)
  simp at h2
  rw [← h2] at h1
  have inj : ∀ (a b : List ByteArray), a.map (·.data.toList) = b.map (·.data.toList) → a = b := by
    intro a
    induction a with
    | nil => intro b h; cases b with
      | nil => rfl
      | cons x b => simp at h
    | cons x a ih => intro b h; cases b with
      | nil => simp at h
      | cons y b =>
        simp only [List.map_cons, List.cons.injEq] at h
        rw [bytes_eq h.1, ih b h.2]
  exact inj _ _ h1
theorem split_len (s : ByteArray) (c : UInt8) : Lib.countB s ⟨#[c]⟩ + 1 = (spI s c s.size 0 0).length := by
  rw [← split_same, Lib.splitB_all ⟨#[c]⟩ (Nat.le_refl 1) 0 _ s rfl]
end Go.Proofs.YtebgkdgcjpjigaaDoor
