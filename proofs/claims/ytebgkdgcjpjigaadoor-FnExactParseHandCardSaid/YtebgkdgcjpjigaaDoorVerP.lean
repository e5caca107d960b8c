/- Plain words on the parts of a text. -/
import Derived.Test.YtebgkdgcjpjigaaDoorSplitW
import Derived.Test.YtebgkdgcjpjigaaDoorSeal
import Derived.Lib.SplitLaws
namespace Go.Proofs.YtebgkdgcjpjigaaDoor
set_option linter.unusedSimpArgs false
set_option linter.unusedVariables false

/-- The parts of a list of bytes between bytes. -/
def spL (c : UInt8) : List UInt8 → List UInt8 → List (List UInt8)
  | [], cur => [cur]
  | b :: l, cur => if b = c then cur :: spL c l [] else spL c l (cur ++ [b])
theorem ext_data (s : ByteArray) (a b : Nat) (h : b ≤ s.size) : (s.extract a b).data.toList = (s.data.toList.drop a).take (b - a) := by
  exact Lib.extract_data s a b
theorem spI_data (s : ByteArray) (c : UInt8) : ∀ d a i, i + d = s.size → a ≤ i → (spI s c d a i).map (·.data.toList) = spL c (s.data.toList.drop i) ((s.data.toList.drop a).take (i - a)) := by
  intro d
  induction d with
  | zero =>
    intro a i h ha
    have hi : i = s.size := by omega
    have e : s.data.toList.drop i = [] := List.drop_eq_nil_of_le (by simp; omega)
    rw [e, spI, spL]
    simp only [List.map_cons, List.map_nil]
    rw [ext_data _ _ _ (Nat.le_refl _), hi]
  | succ d ih =>
    intro a i h ha
    have hlt : i < s.data.toList.length := by simp; omega
    have hlt' : i < s.size := by omega
    have e : s.data.toList.drop i = s.data.toList[i] :: s.data.toList.drop (i + 1) := List.drop_eq_getElem_cons hlt
    have hg : s[i]! = s.data.toList[i] := by rw [getElem!_pos s i hlt']; rfl
    rw [e, spI, spL, hg]
    by_cases hc : s.data.toList[i] = c
    · rw [if_pos hc, if_pos hc, List.map_cons, ih (i + 1) (i + 1) (by omega) (Nat.le_refl _), ext_data _ _ _ (by omega)]
      simp
    · rw [if_neg hc, if_neg hc, ih a (i + 1) (by omega) (by omega)]
      congr 1
      rw [show i + 1 - a = (i - a) + 1 by omega, List.take_succ_eq_append_getElem (by simp; omega)]
      congr 2
      rw [List.getElem_drop]
      congr 1
      omega
/-- The first part. -/
theorem spL_head (c : UInt8) : ∀ l cur, (spL c l cur).head? = some (cur ++ l.takeWhile (· ≠ c)) := by
  intro l
  induction l with
  | nil => intro cur; simp [spL]
  | cons b l ih =>
    intro cur
    rw [spL]
    by_cases h : b = c
    · simp [h]
    · rw [if_neg h, ih]; simp [h]
def headT (s : ByteArray) (c : UInt8) : ByteArray := ⟨(s.data.toList.takeWhile (· ≠ c)).toArray⟩
theorem bytes_eq {a b : ByteArray} (h : a.data.toList = b.data.toList) : a = b := ByteArray.ext (Array.ext' h)
theorem spI_head (s : ByteArray) (c : UInt8) : (spI s c s.size 0 0)[0]? = some (headT s c) := by
  have h := spI_data s c s.size 0 0 (by omega) (Nat.le_refl _)
  have h2 := congrArg List.head? h
  rw [spL_head] at h2
  cases hx : spI s c s.size 0 0 with
  | nil => have := (spI_len s c s.size 0 0).2; rw [hx] at this; simp at this
  | cons x r =>
    rw [hx] at h2
    simp at h2
    rw [List.getElem?_cons_zero]
    congr 1
    exact bytes_eq (by rw [h2]; simp [headT])

theorem take_while_cut (l : List UInt8) (c : UInt8) : (Lib.cut l [c]).1 = l.takeWhile (· ≠ c) := by
  unfold Lib.cut
  induction l with
  | nil => rfl
  | cons b l ih =>
    by_cases h : b = c
    · subst h
      have e : Lib.index (b :: l) [b] = 0 := by simp [Lib.index]
      rw [e]; simp
    · have hp : ([c].isPrefixOf (b :: l)) = false := by
        simp only [List.isPrefixOf, Bool.and_true]
        exact beq_eq_false_iff_ne.2 (fun e => h e.symm)
      have e : Lib.index (b :: l) [c] = if Lib.index l [c] == -1 then -1 else Lib.index l [c] + 1 := by
        rw [Lib.index, hp]; rfl
      have tw : (b :: l).takeWhile (fun x => decide (x ≠ c)) = b :: l.takeWhile (fun x => decide (x ≠ c)) := by simp [h]
      rw [tw, ← ih]
      by_cases h1 : Lib.index l [c] = -1
      · rw [e, h1]; simp
      · have hge : 0 ≤ Lib.index l [c] := by
          rcases Lib.index_spec l [c] with ⟨h2, _⟩ | ⟨i, h2, _⟩ <;> omega
        have e2 : (Lib.index l [c] == -1) = false := beq_eq_false_iff_ne.2 h1
        have e3 : Lib.index (b :: l) [c] = Lib.index l [c] + 1 := by rw [e, if_neg (by rw [e2]; simp)]
        rw [e3, if_pos (show 0 ≤ Lib.index l [c] + 1 by omega), if_pos hge]
        show (b :: l).take (Lib.index l [c] + 1).toNat = b :: l.take (Lib.index l [c]).toNat
        rw [show (Lib.index l [c] + 1).toNat = (Lib.index l [c]).toNat + 1 by omega]; rfl
theorem not_take (c : UInt8) : ∀ l : List UInt8, c ∉ l.takeWhile (· ≠ c) := by
  intro l
  induction l with
  | nil => simp
  | cons b l ih =>
    by_cases h : b = c
    · simp [h]
    · rw [List.takeWhile_cons, if_pos (by simpa using h)]
      intro hm
      rcases List.mem_cons.1 hm with e | e
      · exact h e.symm
      · exact ih e
theorem head_stands (s : ByteArray) (c : UInt8) : stB (headT s c) c = false := by
  rw [stB, decide_eq_false_iff_not]
  intro h
  have h : c ∈ s.data.toList.takeWhile (· ≠ c) := by simpa [headT] using h
  exact not_take c _ h
theorem head_size (s : ByteArray) (c : UInt8) : (headT s c).size ≤ s.size := by
  have h : (s.data.toList.takeWhile (· ≠ c)).length ≤ s.data.toList.length := (List.takeWhile_sublist _).length_le
  have e1 : (headT s c).size = (s.data.toList.takeWhile (· ≠ c)).length := by unfold headT; simp only [ByteArray.size, List.size_toArray]
  have e2 : s.size = s.data.toList.length := by rw [Array.length_toList]; rfl
  omega

def vcB (s : ByteArray) : Bool := decide (s.size ≤ 4000) && decide (sealT (headT s 35) = s)
def vcR (s : ByteArray) : ByteArray := if vcB s then headT s 35 else ⟨#[]⟩
theorem vc_impl (s : ByteArray) : vcB s = (acB (headT s 35) && decide (acR (headT s 35) = s)) := by
  have h1 := head_stands s 35
  have h2 := head_size s 35
  have h3 := sealT_size (headT s 35)
  rw [Bool.eq_iff_iff]
  simp only [vcB, Bool.and_eq_true, decide_eq_true_iff]
  constructor
  · rintro ⟨a, b⟩
    have hb : acB (headT s 35) = true := by
      simp only [acB, h1, Bool.and_eq_true, decide_eq_true_iff]
      refine ⟨by omega, rfl, by rw [b]; exact a⟩
    exact ⟨hb, by rw [acR, hb]; exact b⟩
  · rintro ⟨a, b⟩
    rw [acR, a] at b
    have b : sealT (headT s 35) = s := b
    simp only [acB, h1, Bool.and_eq_true, decide_eq_true_iff] at a
    exact ⟨by rw [← b]; exact a.2.2, b⟩
end Go.Proofs.YtebgkdgcjpjigaaDoor
