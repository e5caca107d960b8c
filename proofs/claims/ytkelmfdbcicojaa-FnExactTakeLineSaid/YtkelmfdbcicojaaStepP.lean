/- Plain words on the steps of a deal. -/
import Derived.Test.YtkelmfdbcicojaaDealP
namespace Go.Proofs.Ytkelmfdbcicojaa
set_option linter.unusedSimpArgs false
set_option linter.unusedVariables false

theorem mem_rowLines (cs : List C4) (a : C4) (i : Nat) (bs : List C4) : ∀ (j : Nat) (x : Nat × Nat × Nat), x ∈ rowLines cs a i bs j ↔ ∃ (p : Nat) (h : p < bs.length), ((j + p : Nat) : Int) < placeR cs (third a bs[p]) ∧ x = (i, j + p, (placeR cs (third a bs[p])).toNat) := by
  induction bs with
  | nil => intro j x; simp [rowLines]
  | cons b bs ih =>
    intro j x
    rw [rowLines, List.mem_append, ih (j + 1) x]
    constructor
    · rintro (h | ⟨p, h, h1, h2⟩)
      · split at h
        · rename_i hlt
          simp at h
          exact ⟨0, by simp, by simpa using hlt, by simpa using h⟩
        · simp at h
      · exact ⟨p + 1, by simpa using h, by simpa [Nat.add_assoc, Nat.add_comm 1 p] using h1, by simpa [Nat.add_assoc, Nat.add_comm 1 p] using h2⟩
    · rintro ⟨p, h, h1, h2⟩
      cases p with
      | zero =>
        left
        simp at h1 h2
        rw [if_pos h1]; simp [h2]
      | succ p =>
        right
        exact ⟨p, by simpa using h, by simpa [Nat.add_assoc, Nat.add_comm 1 p] using h1, by simpa [Nat.add_assoc, Nat.add_comm 1 p] using h2⟩
theorem mem_linesOf (cs ds : List C4) : ∀ (i : Nat) (x : Nat × Nat × Nat), x ∈ linesOf cs ds i ↔ ∃ (q : Nat) (h : q < ds.length), x ∈ rowLines cs ds[q] (i + q) (ds.drop (q + 1)) (i + q + 1) := by
  induction ds with
  | nil => intro i x; simp [linesOf]
  | cons d ds ih =>
    intro i x
    rw [linesOf, List.mem_append, ih (i + 1) x]
    constructor
    · rintro (h | ⟨q, h, h1⟩)
      · exact ⟨0, by simp, by simpa using h⟩
      · exact ⟨q + 1, by simpa using h, by simpa [Nat.add_assoc, Nat.add_comm 1 q] using h1⟩
    · rintro ⟨q, h, h1⟩
      cases q with
      | zero => left; simpa using h1
      | succ q => right; exact ⟨q, by simpa using h, by simpa [Nat.add_assoc, Nat.add_comm 1 q] using h1⟩
/-- Which triples are lines? -/
theorem mem_linesR {cs : List C4} (hn : cs.Nodup) (i j k : Nat) : (i, j, k) ∈ linesR cs ↔ ∃ (h1 : i < j) (h2 : j < k) (h3 : k < cs.length), lineB cs[i] cs[j] cs[k] = true := by
  unfold linesR
  rw [mem_linesOf]
  constructor
  · rintro ⟨q, hq, hm⟩
    rw [mem_rowLines] at hm
    obtain ⟨p, hp, h1, h2⟩ := hm
    simp only [Prod.mk.injEq] at h2
    obtain ⟨e1, e2, e3⟩ := h2
    simp at hp
    have hj : q + 1 + p < cs.length := by omega
    rw [List.getElem_drop] at h1 e3
    have hlt := (place_lt (third cs[q] cs[q + 1 + p]) hn).2
    have hk0 : third cs[q] cs[q + 1 + p] ∈ cs := by
      apply Classical.byContradiction
      intro hc
      rw [place_none hc] at h1
      omega
    obtain ⟨m, hm, e⟩ := List.getElem_of_mem hk0
    rw [place_get hm hn e] at h1 e3
    have : i = q := by omega
    subst this
    have : j = i + 1 + p := by omega
    subst this
    have : k = m := by omega
    subst this
    refine ⟨by omega, by omega, hm, ?_⟩
    have hab : cs[i] ≠ cs[i + 1 + p] := fun e => by have := nodup_at hn i (i + 1 + p) hq hj e; omega
    simp only [lineB, (ceq_false _ _).2 hab, Bool.not_false, Bool.true_and]
    exact (ceq_iff _ _).2 e.symm
  · rintro ⟨h1, h2, h3, hl⟩
    refine ⟨i, by omega, ?_⟩
    rw [mem_rowLines]
    refine ⟨j - (i + 1), by simp; omega, ?_⟩
    have e0 : (cs.drop (i + 1))[j - (i + 1)]'(by simp; omega) = cs[j] := by rw [List.getElem_drop]; congr 1; omega
    simp only [lineB, Bool.and_eq_true] at hl
    have e := (ceq_iff _ _).1 hl.2
    rw [e0, e, place_get h3 hn rfl]
    refine ⟨by omega, ?_⟩
    simp only [Prod.mk.injEq]
    omega

def layN (n k : Int) : Int := if 81 < n + k then 81 else n + k
def layL (s n : Int) (cs : List C4) (k : Int) : List C4 := cs ++ ((pileR s).take (layN n k).toNat).drop n.toNat
theorem layN_bd {n k : Int} (h0 : 0 ≤ n) (h1 : n ≤ 81) (hk : 0 ≤ k) : n ≤ layN n k ∧ layN n k ≤ 81 := by
  unfold layN; split <;> omega
theorem layL_len {s n : Int} {cs : List C4} {k : Int} (h0 : 0 ≤ n) (h1 : n ≤ 81) (hk : 0 ≤ k) : ((layL s n cs k).length : Int) = cs.length + (layN n k - n) := by
  have hb := layN_bd h0 h1 hk
  have hp := pileR_length s
  simp only [layL, List.length_append, List.length_drop, List.length_take]
  omega
/-- A deal, less some cards, goes on being one. -/
theorem DealOk.sub {s n : Int} {cs ds : List C4} (h : DealOk s n cs) (hs : ds.Sublist cs) : DealOk s n ds :=
  ⟨h.s0, h.s1, h.n0, h.n1, h.nodup.sublist hs, fun c hc => h.mem c (hs.subset hc), by have := h.len; have := hs.length_le; omega, fun c hc => h.ok c (hs.subset hc)⟩
theorem DealOk.lay {s n : Int} {cs : List C4} (h : DealOk s n cs) {k : Int} (hk : 0 ≤ k) : DealOk s (layN n k) (layL s n cs k) := by
  have hb := layN_bd h.n0 h.n1 hk
  have hP := pileR_nodup s
  have hPn : ((pileR s).take (layN n k).toNat).Nodup := hP.sublist (List.take_sublist _ _)
  have hsplit : (pileR s).take (layN n k).toNat = (pileR s).take n.toNat ++ ((pileR s).take (layN n k).toNat).drop n.toNat := by
    have e : ((pileR s).take (layN n k).toNat).take n.toNat = (pileR s).take n.toNat := by rw [List.take_take]; congr 1; omega
    rw [← e, List.take_append_drop]
  rw [hsplit, List.nodup_append] at hPn
  have hmem : ∀ c ∈ layL s n cs k, c ∈ (pileR s).take (layN n k).toNat := by
    intro c hc
    simp only [layL, List.mem_append] at hc
    rcases hc with hc | hc
    · rw [hsplit]; exact List.mem_append_left _ (h.mem c hc)
    · exact List.mem_of_mem_drop hc
  refine ⟨h.s0, h.s1, by have := h.n0; omega, hb.2, ?_, hmem, ?_, fun c hc => pileR_ok s c (List.mem_of_mem_take (hmem c hc))⟩
  · simp only [layL]
    rw [List.nodup_append]
    exact ⟨h.nodup, hPn.2.1, fun a ha b hb' => hPn.2.2 a (h.mem a ha) b hb'⟩
  · have := layL_len (s := s) (cs := cs) h.n0 h.n1 hk
    have := h.len
    omega

/-- The cards whose places do not pass. -/
def skipFrom (f : Nat → Bool) : List C4 → Nat → List C4
  | [], _ => []
  | c :: cs, m => (if f m then [] else [c]) ++ skipFrom f cs (m + 1)
theorem skip_sub (f : Nat → Bool) (cs : List C4) : ∀ m, (skipFrom f cs m).Sublist cs := by
  induction cs with
  | nil => intro m; exact List.Sublist.refl _
  | cons c cs ih =>
    intro m
    rw [skipFrom]
    split
    · exact (ih (m + 1)).cons c
    · exact (ih (m + 1)).cons_cons c
theorem skip_lt (f : Nat → Bool) (cs : List C4) : ∀ (m p : Nat), p < cs.length → f (m + p) = true → (skipFrom f cs m).length < cs.length := by
  induction cs with
  | nil => intro m p h; simp at h
  | cons c cs ih =>
    intro m p hp hf
    rw [skipFrom]
    have hle := (skip_sub f cs (m + 1)).length_le
    cases p with
    | zero => simp at hf; simp [hf]; omega
    | succ p =>
      have := ih (m + 1) p (by simpa using hp) (by rw [← hf]; congr 1; omega)
      split <;> simp <;> omega
def inLine (i j k : Nat) (m : Nat) : Bool := m == i || m == j || m == k
def takeC (cs : List C4) (i j k : Nat) : List C4 := skipFrom (inLine i j k) cs 0
def takeK (cs : List C4) : Int := if 12 - (cs.length : Int) < 0 then 0 else 12 - (cs.length : Int)
theorem takeK_bd (cs : List C4) : 0 ≤ takeK cs ∧ takeK cs ≤ 12 := by
  unfold takeK; split <;> omega
def takN (n : Int) (cs : List C4) (i j k : Nat) : Int := layN n (takeK (takeC cs i j k))
def takL (s n : Int) (cs : List C4) (i j k : Nat) : List C4 := layL s n (takeC cs i j k) (takeK (takeC cs i j k))
theorem DealOk.take {s n : Int} {cs : List C4} (h : DealOk s n cs) (i j k : Nat) : DealOk s (takN n cs i j k) (takL s n cs i j k) :=
  (h.sub (skip_sub _ _ _)).lay (takeK_bd _).1
def stepN (n : Int) (cs : List C4) : Int := match linesR cs with | [] => layN n 3 | (i, j, k) :: _ => takN n cs i j k
def stepL (s n : Int) (cs : List C4) : List C4 := match linesR cs with | [] => layL s n cs 3 | (i, j, k) :: _ => takL s n cs i j k
theorem DealOk.step {s n : Int} {cs : List C4} (h : DealOk s n cs) : DealOk s (stepN n cs) (stepL s n cs) := by
  unfold stepN stepL
  cases linesR cs with
  | nil => exact h.lay (by omega)
  | cons l ls => obtain ⟨i, j, k⟩ := l; exact h.take i j k
/-- What a step makes less. -/
def left (n : Int) (cs : List C4) : Nat := (2 * (81 - n) + cs.length).toNat
theorem left_step {s n : Int} {cs : List C4} (h : DealOk s n cs) (ho : ¬ (n = 81 ∧ linesR cs = [])) : left (stepN n cs) (stepL s n cs) < left n cs := by
  have h0 := h.n0
  have h1 := h.n1
  unfold stepN stepL
  cases hl : linesR cs with
  | nil =>
    have hn : n ≠ 81 := fun e => ho ⟨e, hl⟩
    have hb := layN_bd h0 h1 (show (0 : Int) ≤ 3 by omega)
    have hc := layL_len (s := s) (cs := cs) h0 h1 (show (0 : Int) ≤ 3 by omega)
    have hlt : n < layN n 3 := by unfold layN; split <;> omega
    simp only [left]
    omega
  | cons l ls =>
    obtain ⟨i, j, k⟩ := l
    have hm : (i, j, k) ∈ linesR cs := by rw [hl]; simp
    obtain ⟨g1, g2, g3, _⟩ := (mem_linesR h.nodup i j k).1 hm
    have hs := skip_lt (inLine i j k) cs 0 i (by omega) (by simp [inLine])
    have hk := (takeK_bd (takeC cs i j k)).1
    have hb := layN_bd h0 h1 hk
    have hc := layL_len (s := s) (cs := takeC cs i j k) h0 h1 hk
    simp only [left, takN, takL]
    have : (takeC cs i j k).length < cs.length := hs
    omega
def overP (n : Int) (cs : List C4) : Bool := decide (n = 81 ∧ linesR cs = [])
/-- How many cards lie there in the deals behind. -/
def sizesP (s : Int) : Nat → Int → List C4 → List Int
  | 0, _, _ => []
  | f + 1, n, cs => if overP n cs then [] else ((stepL s n cs).length : Int) :: sizesP s f (stepN n cs) (stepL s n cs)
end Go.Proofs.Ytkelmfdbcicojaa
