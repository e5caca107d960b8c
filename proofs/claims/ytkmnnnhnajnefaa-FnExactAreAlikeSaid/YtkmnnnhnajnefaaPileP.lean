/- Plain words on piles. -/
import Derived.Test.YtkmnnnhnajnefaaPure
namespace Go.Proofs.Ytkmnnnhnajnefaa

/-- Two elements changed for each other. -/
def swapL (l : List C4) (i k : Nat) : List C4 := (l.set i (l.getD k ⟨0, 0, 0, 0⟩)).set k (l.getD i ⟨0, 0, 0, 0⟩)
@[simp] theorem swapL_length (l : List C4) (i k : Nat) : (swapL l i k).length = l.length := by simp [swapL]
/-- The place with which place 'i' is changed, behind seed 's'. -/
def swapAt (s : Int) (i : Nat) : Nat := (s / 8 % ((i : Int) + 1)).toNat
theorem swapAt_le (s : Int) (i : Nat) : swapAt s i ≤ i := by
  unfold swapAt
  have h1 := Int.emod_nonneg (s / 8) (show (i : Int) + 1 ≠ 0 by omega)
  have h2 := Int.emod_lt_of_pos (s / 8) (show (0 : Int) < (i : Int) + 1 by omega)
  omega
def shuffle : Nat → Int → List C4 → List C4
  | 0, _, l => l
  | i + 1, s, l => shuffle i (behind s) (swapL l (i + 1) (swapAt (behind s) (i + 1)))
/-- The first cards. -/
def firstCards (n : Nat) : List C4 := (List.range n).map fun (k : Nat) => at_ (k : Int)
def pileR (s : Int) : List C4 := shuffle 80 s (firstCards 81)

theorem shuffle_length (i : Nat) : ∀ (s : Int) (l : List C4), (shuffle i s l).length = l.length := by
  induction i with
  | zero => intro s l; rfl
  | succ i ih => intro s l; rw [shuffle, ih]; simp
theorem pileR_length (s : Int) : (pileR s).length = 81 := by
  rw [pileR, shuffle_length]; simp [firstCards]
theorem firstCards_succ (n : Nat) : firstCards (n + 1) = firstCards n ++ [at_ n] := by
  simp [firstCards, List.range_succ]
@[simp] theorem firstCards_length (n : Nat) : (firstCards n).length = n := by simp [firstCards]

theorem swapL_perm (l : List C4) (i k : Nat) (hi : i < l.length) (hk : k < l.length) : (swapL l i k).Perm l := by
  unfold swapL
  rw [show l.getD i ⟨0, 0, 0, 0⟩ = l[i] by simp [List.getD, hi], show l.getD k ⟨0, 0, 0, 0⟩ = l[k] by simp [List.getD, hk]]
  exact List.set_set_perm hi hk
theorem shuffle_perm (i : Nat) : ∀ (s : Int) (l : List C4), i < l.length → (shuffle i s l).Perm l := by
  induction i with
  | zero => intro s l _; exact List.Perm.refl _
  | succ i ih =>
    intro s l hl
    rw [shuffle]
    have hs := swapAt_le (behind s) (i + 1)
    exact (ih _ _ (by simp; omega)).trans (swapL_perm l _ _ hl (by omega))
theorem pileR_perm (s : Int) : (pileR s).Perm (firstCards 81) := shuffle_perm 80 s _ (by simp)
theorem firstCards_nodup (n : Nat) : (firstCards n).Nodup := by
  unfold firstCards List.Nodup
  rw [List.pairwise_map]
  refine (List.nodup_range (n := n)).imp fun {a b} hab h => hab ?_
  have := congrArg num h
  rw [num_at, num_at] at this
  omega
theorem pileR_nodup (s : Int) : (pileR s).Nodup := (pileR_perm s).nodup_iff.2 (firstCards_nodup 81)
theorem firstCards_ok {n : Nat} (h : n ≤ 81) : ∀ c ∈ firstCards n, Ok c := by
  intro c hc
  simp only [firstCards, List.mem_map, List.mem_range] at hc
  obtain ⟨k, hk, rfl⟩ := hc
  exact ok_at (by omega) (by omega)
theorem pileR_ok (s : Int) : ∀ c ∈ pileR s, Ok c := fun c hc => firstCards_ok (Nat.le_refl _) c ((pileR_perm s).mem_iff.1 hc)
end Go.Proofs.Ytkmnnnhnajnefaa
