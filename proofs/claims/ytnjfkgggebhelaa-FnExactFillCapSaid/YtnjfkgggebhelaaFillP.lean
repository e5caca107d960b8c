/- Plain words on filling a cap. -/
import Derived.Test.YtnjfkgggebhelaaSortL
import Derived.Test.YtnjfkgggebhelaaAnch
namespace Go.Proofs.Ytnjfkgggebhelaa
set_option linter.unusedSimpArgs false
set_option linter.unusedVariables false

theorem lineB_comm (a b c : C4) : lineB a b c = lineB b a c := by
  unfold lineB
  rw [third_comm a b]
  congr 2
  rw [Bool.eq_iff_iff, ceq_iff, ceq_iff]
  exact eq_comm
theorem rowPairs_nil (a c : C4) (i : Nat) : ∀ (bs : List C4) (j : Nat), rowPairs a c i bs j = [] ↔ ∀ b ∈ bs, lineB a b c = false
  | [], j => by simp [rowPairs]
  | b :: bs, j => by
    simp only [rowPairs, List.append_eq_nil_iff, rowPairs_nil a c i bs (j + 1), List.mem_cons, forall_eq_or_imp]
    cases lineB a b c <;> simp
theorem pairsOf_nil (c : C4) : ∀ (cs : List C4) (i : Nat), pairsOf c cs i = [] ↔ cs.Pairwise fun a b => lineB a b c = false
  | [], i => by simp [pairsOf]
  | a :: cs, i => by
    simp only [pairsOf, List.append_eq_nil_iff, rowPairs_nil, pairsOf_nil c cs (i + 1), List.pairwise_cons]
theorem through_zero (cs : List C4) (c : C4) : (decide (0 < through cs c) == false) = true ↔ cs.Pairwise fun a b => lineB a b c = false := by
  rw [← pairsOf_nil c cs 0, beq_iff_eq, decide_eq_false_iff_not, Nat.not_lt, Nat.le_zero, through, List.length_eq_zero_iff]
theorem outF_iff (cs : List C4) (n : Nat) : outF cs false n = true ↔ at_ (n : Int) ∉ cs ∧ cs.Pairwise fun a b => lineB a b (at_ (n : Int)) = false := by
  unfold outF
  rw [Bool.and_eq_true, through_zero]
  simp [hasB]
theorem outF_perm {cs ds : List C4} (h : cs.Perm ds) (n : Nat) : outF cs false n = outF ds false n := by
  rw [Bool.eq_iff_iff, outF_iff, outF_iff, h.mem_iff, List.Perm.pairwise_iff (fun {x y} e => by rw [lineB_comm]; exact e) h]
theorem outF_mono {cs : List C4} {x : C4} {n : Nat} (h : outF cs false n = false) : outF (cs ++ [x]) false n = false := by
  rw [← Bool.not_eq_true, outF_iff] at h ⊢
  rintro ⟨h1, h2⟩
  exact h ⟨fun e => h1 (List.mem_append_left _ e), (List.pairwise_append.1 h2).1⟩
/-- One card more, if it is free. -/
def fillStep (L : List C4) (n : Nat) : List C4 := if outF L false n = true then L ++ [at_ (n : Int)] else L
def fillTo (cs : List C4) (n : Nat) : List C4 := (List.range n).foldl fillStep cs
theorem fillTo_zero (cs : List C4) : fillTo cs 0 = cs := rfl
theorem fillTo_succ (cs : List C4) (n : Nat) : fillTo cs (n + 1) = fillStep (fillTo cs n) n := by simp [fillTo, List.range_succ]
theorem fillTo_yes {cs : List C4} {n : Nat} (h : outF (fillTo cs n) false n = true) : fillTo cs (n + 1) = fillTo cs n ++ [at_ (n : Int)] := by rw [fillTo_succ, fillStep, if_pos h]
theorem fillTo_no {cs : List C4} {n : Nat} (h : outF (fillTo cs n) false n = false) : fillTo cs (n + 1) = fillTo cs n := by rw [fillTo_succ, fillStep, if_neg (by rw [h]; simp)]
theorem fillTo_len (cs : List C4) (n : Nat) : (fillTo cs n).length ≤ cs.length + n := by
  induction n with
  | zero => simp [fillTo]
  | succ n ih =>
    rw [fillTo_succ, fillStep]
    split
    · simp; omega
    · omega
theorem fillTo_ok {cs : List C4} (h : ∀ z ∈ cs, Ok z) : ∀ n, n ≤ 81 → ∀ z ∈ fillTo cs n, Ok z
  | 0, _ => h
  | n + 1, hn => fun z hz => by
    rw [fillTo_succ, fillStep] at hz
    split at hz
    · rcases List.mem_append.1 hz with e | e
      · exact fillTo_ok h n (by omega) z e
      · rw [List.mem_singleton.1 e]; exact ok_at (by omega) (by omega)
    · exact fillTo_ok h n (by omega) z hz
theorem fillTo_nodup {cs : List C4} (h : cs.Nodup) : ∀ n, (fillTo cs n).Nodup
  | 0 => h
  | n + 1 => by
    rw [fillTo_succ, fillStep]
    split
    · rename_i e
      rw [outF_iff] at e
      rw [List.nodup_append]
      refine ⟨fillTo_nodup h n, by simp, ?_⟩
      intro a ha b hb
      rw [List.mem_singleton.1 hb]
      intro e2
      subst e2
      exact e.1 ha
    · exact fillTo_nodup h n
theorem fillTo_not (cs : List C4) : ∀ k j, j < k → outF (fillTo cs k) false j = false
  | 0, j, h => by omega
  | k + 1, j, h => by
    by_cases e : j = k
    · subst e
      by_cases hf : outF (fillTo cs j) false j = true
      · rw [fillTo_yes hf, ← Bool.not_eq_true, outF_iff]
        rintro ⟨h1, _⟩
        exact h1 (by simp)
      · have hf : outF (fillTo cs j) false j = false := by simpa using hf
        rw [fillTo_no hf]; exact hf
    · have ih := fillTo_not cs k j (by omega)
      rw [fillTo_succ, fillStep]
      split
      · exact outF_mono ih
      · exact ih
theorem fillTo_skip {cs : List C4} {k : Nat} : ∀ d, (∀ j, k ≤ j → j < k + d → outF (fillTo cs k) false j = false) → fillTo cs (k + d) = fillTo cs k
  | 0, _ => rfl
  | d + 1, h => by
    have ih := fillTo_skip d (fun j h1 h2 => h j h1 (by omega))
    rw [← Nat.add_assoc, fillTo_no (by rw [ih]; exact h (k + d) (by omega) (by omega)), ih]
theorem sortU_perm {L : List C4} (ho : ∀ z ∈ L, Ok z) (hn : L.Nodup) : (sortU L).Perm L := by
  rw [List.perm_ext_iff_of_nodup _ hn]
  · exact fun a => mem_sortU ho a
  · exact List.Pairwise.imp (fun {a b} (hab : num a < num b) e => by subst e; omega) (sortU_srt ho)
theorem sel_mem (f : Nat → Bool) (n : Nat) (x : Int) : x ∈ sel f n ↔ ∃ i : Nat, i < n ∧ f i = true ∧ x = i := by
  unfold sel
  simp only [List.mem_map, List.mem_filter, List.mem_range]
  constructor
  · rintro ⟨i, ⟨h1, h2⟩, rfl⟩; exact ⟨i, h1, h2, rfl⟩
  · rintro ⟨i, h1, h2, rfl⟩; exact ⟨i, ⟨h1, h2⟩, rfl⟩
theorem sel_nil {f : Nat → Bool} {n : Nat} (h : sel f n = []) : ∀ j, j < n → f j = false := by
  intro j hj
  rw [← Bool.not_eq_true]
  intro hf
  have : (j : Int) ∈ sel f n := (sel_mem f n j).2 ⟨j, hj, hf, rfl⟩
  rw [h] at this; simp at this
theorem sel_sorted (f : Nat → Bool) (n : Nat) : (sel f n).Pairwise (· < ·) := by
  unfold sel
  rw [List.pairwise_map]
  refine List.Pairwise.imp ?_ (List.pairwise_lt_range.filter f)
  intro a b h
  omega
theorem sel_head {f : Nat → Bool} {n : Nat} {x : Int} {rest : List Int} (h : sel f n = x :: rest) : ∃ m : Nat, x = m ∧ m < n ∧ f m = true ∧ ∀ j, j < m → f j = false := by
  obtain ⟨m, hm, hf, rfl⟩ := (sel_mem f n x).1 (by rw [h]; simp)
  refine ⟨m, rfl, hm, hf, fun j hj => ?_⟩
  rw [← Bool.not_eq_true]
  intro hj2
  have h1 : (j : Int) ∈ sel f n := (sel_mem f n j).2 ⟨j, by omega, hj2, rfl⟩
  have h2 := sel_sorted f n
  rw [h] at h1 h2
  rcases List.mem_cons.1 h1 with e | e
  · omega
  · have := (List.pairwise_cons.1 h2).1 j e
    omega
/-- What the reference does: the first free card, till there is none. -/
theorem fill_next {cs : List C4} {k : Nat} {x : Int} {rest : List Int} (ho : ∀ z ∈ cs, Ok z) (hn : cs.Nodup) (hk : k ≤ 81) (h : sel (outF (sortU (fillTo cs k)) false) 81 = x :: rest) :
    ∃ m : Nat, x = m ∧ k ≤ m ∧ m < 81 ∧ fillTo cs (m + 1) = fillTo cs k ++ [at_ x] := by
  obtain ⟨m, rfl, hm, hf, hj⟩ := sel_head h
  have hp := sortU_perm (fillTo_ok ho k hk) (fillTo_nodup hn k)
  rw [outF_perm hp] at hf
  have hkm : k ≤ m := by
    rw [← Nat.not_lt]
    intro e
    have := fillTo_not cs k m e
    rw [hf] at this; cases this
  refine ⟨m, rfl, hkm, hm, ?_⟩
  obtain ⟨d, rfl⟩ : ∃ d, m = k + d := ⟨m - k, by omega⟩
  have hs := fillTo_skip (cs := cs) (k := k) d (fun j h1 h2 => by have := hj j (by omega); rwa [outF_perm hp] at this)
  rw [fillTo_yes (by rw [hs]; exact hf), hs]
theorem fill_end {cs : List C4} {k : Nat} (ho : ∀ z ∈ cs, Ok z) (hn : cs.Nodup) (hk : k ≤ 81) (h : sel (outF (sortU (fillTo cs k)) false) 81 = []) : fillTo cs 81 = fillTo cs k := by
  have hp := sortU_perm (fillTo_ok ho k hk) (fillTo_nodup hn k)
  obtain ⟨d, hd⟩ : ∃ d, 81 = k + d := ⟨81 - k, by omega⟩
  rw [hd]
  refine fillTo_skip d fun j h1 h2 => ?_
  have := sel_nil h j (by omega)
  rwa [outF_perm hp] at this
end Go.Proofs.Ytnjfkgggebhelaa
