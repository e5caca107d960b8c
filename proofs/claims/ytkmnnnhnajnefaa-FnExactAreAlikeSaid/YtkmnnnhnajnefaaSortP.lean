/- Cards in order, each once: the plain words. -/
import Derived.Test.YtkmnnnhnajnefaaPure
import Derived.Lib.SlicesCompact
namespace Go.Proofs.Ytkmnnnhnajnefaa
set_option linter.unusedSimpArgs false
set_option linter.unusedVariables false

instance : Inhabited C4 := ⟨⟨0, 0, 0, 0⟩⟩
def Srt (l : List C4) : Prop := l.Pairwise fun a b => num a < num b
/-- One card more, at its place, once. -/
def putC : List C4 → C4 → List C4
  | [], c => [c]
  | h :: t, c => if num h < num c then h :: putC t c else if h = c then h :: t else c :: h :: t
/-- All cards of a list in order, each once. -/
def sortU (cs : List C4) : List C4 := cs.foldl putC []
theorem mem_putC (x c : C4) : ∀ l : List C4, x ∈ putC l c ↔ x ∈ l ∨ x = c
  | [] => by simp [putC]
  | h :: t => by
    unfold putC
    split
    · simp [mem_putC x c t, or_assoc]
    · split
      · rename_i e; subst e; simp; intro e; exact Or.inl e
      · simp only [List.mem_cons]; constructor
        · rintro (h1 | h1 | h1)
          · exact Or.inr h1
          · exact Or.inl (Or.inl h1)
          · exact Or.inl (Or.inr h1)
        · rintro ((h1 | h1) | h1)
          · exact Or.inr (Or.inl h1)
          · exact Or.inr (Or.inr h1)
          · exact Or.inl h1
theorem putC_srt {c : C4} (hc : Ok c) : ∀ {l : List C4}, Srt l → (∀ z ∈ l, Ok z) → Srt (putC l c)
  | [], _, _ => by simp [putC, Srt]
  | h :: t, hs, ho => by
    obtain ⟨h1, h2⟩ := List.pairwise_cons.1 hs
    unfold putC
    split
    · rename_i hlt
      refine List.pairwise_cons.2 ⟨fun z hz => ?_, putC_srt hc h2 (fun z hz => ho z (List.mem_cons_of_mem _ hz))⟩
      rcases (mem_putC z c t).1 hz with h3 | rfl
      · exact h1 z h3
      · exact hlt
    · rename_i hnl
      split
      · exact hs
      · rename_i hne
        have hlt : num c < num h := by
          have : num c ≠ num h := fun e => hne (num_inj (ho h (List.mem_cons_self)) hc e.symm)
          omega
        refine List.pairwise_cons.2 ⟨fun z hz => ?_, hs⟩
        rcases List.mem_cons.1 hz with rfl | hz
        · exact hlt
        · have := h1 z hz; omega
theorem foldl_srt : ∀ (cs l : List C4), (∀ z ∈ cs, Ok z) → Srt l → (∀ z ∈ l, Ok z) → Srt (cs.foldl putC l) ∧ ∀ x, x ∈ cs.foldl putC l ↔ x ∈ l ∨ x ∈ cs
  | [], l, _, hs, _ => ⟨hs, fun x => by simp⟩
  | c :: cs, l, hc, hs, ho => by
    have h1 := putC_srt (hc c List.mem_cons_self) hs ho
    have h2 : ∀ z ∈ putC l c, Ok z := fun z hz => by
      rcases (mem_putC z c l).1 hz with h | rfl
      · exact ho z h
      · exact hc _ List.mem_cons_self
    obtain ⟨k1, k2⟩ := foldl_srt cs (putC l c) (fun z hz => hc z (List.mem_cons_of_mem _ hz)) h1 h2
    refine ⟨k1, fun x => ?_⟩
    rw [List.foldl_cons, k2, mem_putC, List.mem_cons, or_assoc]
theorem sortU_srt {cs : List C4} (h : ∀ z ∈ cs, Ok z) : Srt (sortU cs) := (foldl_srt cs [] h List.Pairwise.nil (by simp)).1
theorem mem_sortU {cs : List C4} (h : ∀ z ∈ cs, Ok z) (x : C4) : x ∈ sortU cs ↔ x ∈ cs := by
  rw [sortU, (foldl_srt cs [] h List.Pairwise.nil (by simp)).2]; simp
theorem srt_unique : ∀ {a b : List C4}, Srt a → Srt b → (∀ x, x ∈ a ↔ x ∈ b) → a = b
  | [], [], _, _, _ => rfl
  | [], y :: b, _, _, h => by have := (h y).2 List.mem_cons_self; simp at this
  | x :: a, [], _, _, h => by have := (h x).1 List.mem_cons_self; simp at this
  | x :: a, y :: b, ha, hb, h => by
    obtain ⟨a1, a2⟩ := List.pairwise_cons.1 ha
    obtain ⟨b1, b2⟩ := List.pairwise_cons.1 hb
    have e : x = y := by
      have h1 := (h x).1 List.mem_cons_self
      have h2 := (h y).2 List.mem_cons_self
      rcases List.mem_cons.1 h1 with e | h1
      · exact e
      · rcases List.mem_cons.1 h2 with e | h2
        · exact e.symm
        · have := a1 y h2; have := b1 x h1; omega
    subst e
    congr 1
    refine srt_unique a2 b2 fun z => ?_
    constructor
    · intro hz
      rcases List.mem_cons.1 ((h z).1 (List.mem_cons_of_mem _ hz)) with rfl | h1
      · have := a1 z hz; omega
      · exact h1
    · intro hz
      rcases List.mem_cons.1 ((h z).2 (List.mem_cons_of_mem _ hz)) with rfl | h1
      · have := b1 z hz; omega
      · exact h1

theorem bang {ds : List C4} {j : Nat} (h : j < ds.length) : ds.toArray[j]! = ds[j] := by simp [h]
theorem compact_srt {ds : List C4} (hs : ds.Pairwise fun a b => num a ≤ num b) (ho : ∀ z ∈ ds, Ok z) : Srt (Lib.compact ds) ∧ ∀ x, x ∈ Lib.compact ds ↔ x ∈ ds := by
  rw [List.pairwise_iff_getElem] at hs
  constructor
  · unfold Srt Lib.compact Lib.compactUpTo
    rw [List.pairwise_map]
    have h1 : ((List.range ds.length).filter (Lib.keeps ds.toArray)).Pairwise (· < ·) := List.pairwise_lt_range.filter _
    refine List.Pairwise.imp_of_mem ?_ h1
    intro i j hi hj hij
    simp only [List.mem_filter, List.mem_range] at hi hj
    have hi1 := hi.1
    have hj1 := hj.1
    rw [bang hi.1, bang hj.1]
    have hk := hj.2
    unfold Lib.keeps at hk
    simp only [decide_eq_true_iff] at hk
    rcases hk with h0 | hk
    · omega
    · rw [bang hj.1, bang (show j - 1 < ds.length by omega)] at hk
      have hne : num ds[j] ≠ num (ds[j - 1]'(by omega)) := fun e => hk (num_inj (ho _ (List.getElem_mem _)) (ho _ (List.getElem_mem _)) e)
      have h2 := hs (j - 1) j (by omega) hj1 (by omega)
      have h3 : num ds[i] ≤ num (ds[j - 1]'(by omega)) := by
        by_cases e : i = j - 1
        · subst e; exact Int.le_refl _
        · exact hs i (j - 1) hi1 (by omega) (by omega)
      omega
  · intro x
    unfold Lib.compact Lib.compactUpTo
    simp only [List.mem_map, List.mem_filter, List.mem_range]
    constructor
    · rintro ⟨j, ⟨hj, _⟩, rfl⟩
      rw [bang hj]; exact List.getElem_mem _
    · intro hx
      obtain ⟨i, hi, rfl⟩ := List.getElem_of_mem hx
      clear hx
      induction i with
      | zero => exact ⟨0, ⟨hi, by simp [Lib.keeps]⟩, bang hi⟩
      | succ i ih =>
        by_cases e : ds[i + 1] = ds[i]
        · rw [e]; exact ih (by omega)
        · refine ⟨i + 1, ⟨hi, ?_⟩, bang hi⟩
          unfold Lib.keeps
          rw [decide_eq_true_iff, bang hi, Nat.add_sub_cancel, bang (by omega)]
          exact Or.inr e
theorem sorted_eq {cs ds : List C4} (ho : ∀ z ∈ cs, Ok z) (hp : ds.Perm cs) (hs : ds.Pairwise fun a b => num a ≤ num b) : Lib.compact ds = sortU cs := by
  have h := compact_srt hs (fun z hz => ho z (hp.mem_iff.1 hz))
  refine srt_unique h.1 (sortU_srt ho) fun x => ?_
  rw [h.2, mem_sortU ho, hp.mem_iff]
theorem sortU_len_le {cs ds : List C4} (ho : ∀ z ∈ cs, Ok z) (hp : ds.Perm cs) (hs : ds.Pairwise fun a b => num a ≤ num b) : (sortU cs).length ≤ cs.length := by
  rw [← sorted_eq ho hp hs, ← hp.length_eq]
  unfold Lib.compact Lib.compactUpTo
  rw [List.length_map]
  exact Nat.le_trans (List.length_filter_le _ _) (by simp)

/-- What a row of cards holds while it is made compact: what is kept of the first ones, then what lay there. -/
def kept (ds : List C4) (m : Nat) : List C4 := Lib.compactUpTo ds.toArray m
def half (ds : List C4) (m : Nat) : List C4 := kept ds m ++ ds.drop (kept ds m).length
theorem kept_le (ds : List C4) (m : Nat) : (kept ds m).length ≤ m := by
  unfold kept Lib.compactUpTo
  rw [List.length_map]
  exact Nat.le_trans (List.length_filter_le _ _) (by simp)
theorem half_length {ds : List C4} {m : Nat} (h : m ≤ ds.length) : (half ds m).length = ds.length := by
  have := kept_le ds m
  simp only [half, List.length_append, List.length_drop]; omega
theorem half_get {ds : List C4} {m j : Nat} (h : (kept ds m).length ≤ j) (hj : j < ds.length) (hj' : j < (half ds m).length) : (half ds m)[j] = ds[j] := by
  simp only [half]
  rw [List.getElem_append_right h, List.getElem_drop]
  congr 1; omega
theorem kept_all {ds : List C4} {m : Nat} (hm : m ≤ ds.length) (h : ∀ j, j < m → Lib.keeps ds.toArray j = true) : kept ds m = ds.take m := by
  unfold kept
  rw [Lib.compactUpTo_all _ _ h]
  apply List.ext_getElem
  · simp; omega
  · intro i h1 h2
    simp at h1 h2
    simp [show i < ds.length by omega]
theorem kept_yes {ds : List C4} {m : Nat} (hm : m < ds.length) (h0 : 0 < m) (h : ds[m] ≠ ds[m - 1]'(by omega)) : kept ds (m + 1) = kept ds m ++ [ds[m]] := by
  unfold kept
  rw [Lib.compactUpTo_succ, if_pos, bang hm]
  exact Lib.keeps_pos (by rw [bang hm, bang (by omega)]; exact h)
theorem kept_no {ds : List C4} {m : Nat} (hm : m < ds.length) (h0 : 0 < m) (h : ds[m] = ds[m - 1]'(by omega)) : kept ds (m + 1) = kept ds m := by
  unfold kept
  rw [Lib.compactUpTo_succ, if_neg, List.append_nil]
  rw [Lib.keeps_neg h0 (by rw [bang hm, bang (by omega)]; exact h)]
  simp
theorem half_yes {ds : List C4} {m : Nat} (hm : m < ds.length) (h0 : 0 < m) (h : ds[m] ≠ ds[m - 1]'(by omega)) : half ds (m + 1) = (half ds m).set (kept ds m).length ds[m] := by
  have hk := kept_le ds m
  unfold half
  rw [kept_yes hm h0 h]
  apply List.ext_getElem
  · simp; omega
  · intro i h1 h2
    rw [List.getElem_set]
    by_cases e : (kept ds m).length = i
    · subst e
      rw [if_pos rfl, List.getElem_append_left (by simp)]
      simp
    · rw [if_neg e]
      by_cases hl : i < (kept ds m).length
      · rw [List.getElem_append_left (by simp; omega), List.getElem_append_left hl, List.getElem_append_left hl]
      · rw [List.getElem_append_right (by simp; omega), List.getElem_append_right (by omega)]
        simp only [List.getElem_drop, List.length_append, List.length_cons, List.length_nil]
        congr 1; omega
end Go.Proofs.Ytkmnnnhnajnefaa
