/- Plain words on the reading of a hand. -/
import Derived.Test.YtebgkdgcjpjigaaDoorSplP
import Derived.Test.YtebgkdgcjpjigaaDoorHandP
import Derived.Test.YtebgkdgcjpjigaaDoorHand
namespace Go.Proofs.YtebgkdgcjpjigaaDoor
set_option linter.unusedSimpArgs false
set_option linter.unusedVariables false

/-- The card that four bytes spell. -/
def cc (s : ByteArray) : C4 := ⟨(s[0]!.toNat : Int) - 48, (s[1]!.toNat : Int) - 48, (s[2]!.toNat : Int) - 48, (s[3]!.toNat : Int) - 48⟩
def rdB (s : ByteArray) : Bool := decide (s.size = 4) && ok (cc s)
def gd (b : UInt8) : Bool := decide (48 ≤ b.toNat) && decide (b.toNat ≤ 50)
theorem gd_in (b : UInt8) : inR ((b.toNat : Int) - 48) 0 2 = gd b := by
  unfold inR gd
  rw [Bool.eq_iff_iff]
  simp only [Bool.and_eq_true, decide_eq_true_iff]
  omega
theorem ok_cc (s : ByteArray) : ok (cc s) = (gd s[0]! && gd s[1]! && gd s[2]! && gd s[3]!) := by
  unfold ok cc
  simp only [gd_in]
theorem rdB_long {s : ByteArray} (h : s.size ≠ 4) : rdB s = false := by simp [rdB, h]
theorem rdB_four {s : ByteArray} (h : s.size = 4) : rdB s = ok (cc s) := by simp [rdB, h]
def phP (s : ByteArray) : List ByteArray := spI s 32 s.size 0 0
def phB (s : ByteArray) : Bool := if s.size = 0 then true else (phP s).all rdB && handB ((phP s).map cc)
def phL (s : ByteArray) : List C4 := if s.size = 0 then [] else if phB s then (phP s).map cc else []
def lens (l : List ByteArray) : Nat := (l.map fun x => x.size + 1).sum
theorem spI_lens (s : ByteArray) (c : UInt8) : ∀ d a i, a ≤ i → i + d = s.size → lens (spI s c d a i) = s.size + 1 - a := by
  intro d
  induction d with
  | zero =>
    intro a i h1 h2
    simp [spI, lens, ByteArray.size_extract]; omega
  | succ d ih =>
    intro a i h1 h2
    rw [spI]
    split
    · have := ih (i + 1) (i + 1) (by omega) (by omega)
      simp only [lens, List.map_cons, List.sum_cons, ByteArray.size_extract] at this ⊢
      omega
    · exact ih a (i + 1) (by omega) (by omega)
theorem lens_four : ∀ (l : List ByteArray), l.all rdB = true → lens l = 5 * l.length := by
  intro l
  induction l with
  | nil => intro _; rfl
  | cons a l ih =>
    intro h
    simp only [List.all_cons, Bool.and_eq_true] at h
    have h4 : a.size = 4 := by
      have := h.1
      simp only [rdB, Bool.and_eq_true, decide_eq_true_iff] at this
      exact this.1
    have := ih h.2
    simp only [lens, List.map_cons, List.sum_cons, List.length_cons] at this ⊢
    omega
theorem phB_long {s : ByteArray} (h : 135 < s.size) : phB s = false := by
  unfold phB
  rw [if_neg (by omega)]
  cases hA : (phP s).all rdB with
  | false => rfl
  | true =>
    have h1 := lens_four _ hA
    have h2 : lens (phP s) = s.size + 1 - 0 := spI_lens s 32 s.size 0 0 (by omega) (by omega)
    rw [handB_long (by rw [List.length_map]; omega)]
    rfl
theorem phB_bad {s : ByteArray} (h0 : s.size ≠ 0) {k : Nat} (hk : k < (phP s).length) (h : rdB (phP s)[k] = false) : phB s = false := by
  unfold phB
  rw [if_neg h0]
  have : (phP s).all rdB = false := List.all_eq_false.2 ⟨(phP s)[k], List.getElem_mem hk, by rw [h]; simp⟩
  rw [this]; rfl
theorem phB_all {s : ByteArray} (h0 : s.size ≠ 0) (h : ∀ j, j < (phP s).length → rdB ((phP s).getD j ⟨#[]⟩) = true) : phB s = handB ((phP s).map cc) := by
  unfold phB
  rw [if_neg h0]
  have : (phP s).all rdB = true := by
    rw [List.all_eq_true]
    intro x hx
    obtain ⟨j, hj, rfl⟩ := List.mem_iff_getElem.1 hx
    have := h j hj
    rw [List.getD_eq_getElem?_getD, List.getElem?_eq_getElem hj] at this
    exact this
  rw [this]; rfl
theorem phL_len (s : ByteArray) : (phL s).length ≤ 27 := by
  unfold phL
  split
  · simp
  · rename_i h0
    split
    · rename_i h
      unfold phB at h
      rw [if_neg h0, Bool.and_eq_true] at h
      exact ((handB_iff _).1 h.2).2
    · simp
theorem take_cc {P : List ByteArray} {k : Nat} (hk : k < P.length) : (P.take (k + 1)).map cc = (P.take k).map cc ++ [cc P[k]] := by
  rw [List.take_add_one, List.getElem?_eq_getElem hk, List.map_append]
  rfl
end Go.Proofs.YtebgkdgcjpjigaaDoor
