/- Plain words on the reading of a number. -/
import Derived.Test.YtebgkdgcjpjigaaDoorVerP
import Derived.Lib.AtoiTie
namespace Go.Proofs.YtebgkdgcjpjigaaDoor
set_option linter.unusedSimpArgs false
set_option linter.unusedVariables false

theorem digit_dig : ∀ d, d < 10 → Lib.digitVal (dig d) = some d := by decide
theorem decFrom_snoc (b : UInt8) (d : Nat) (h : Lib.digitVal b = some d) : ∀ (l : List UInt8) (acc n : Nat), Lib.decFrom acc l = some n → Lib.decFrom acc (l ++ [b]) = some (n * 10 + d) := by
  intro l
  induction l with
  | nil => intro acc n hn; simp [Lib.decFrom] at hn; subst hn; simp [Lib.decFrom, h]
  | cons a l ih =>
    intro acc n hn
    simp only [Lib.decFrom, List.cons_append] at hn ⊢
    cases ha : Lib.digitVal a with
    | none => simp [ha] at hn
    | some e => simp only [ha] at hn ⊢; exact ih _ n hn
theorem decFrom_dec (n : Nat) : Lib.decFrom 0 (dec n) = some n := by
  induction n using Nat.strongRecOn with
  | _ n ih =>
    by_cases h : n < 10
    · rw [dec_small h]; simp [Lib.decFrom, digit_dig n h]
    · rw [dec_big h, decFrom_snoc _ _ (digit_dig _ (Nat.mod_lt _ (by omega))) _ _ _ (ih (n / 10) (by omega))]
      congr 1; omega
theorem decFrom_lt : ∀ (l : List UInt8) (acc n : Nat), Lib.decFrom acc l = some n → n < (acc + 1) * 10 ^ l.length := by
  intro l
  induction l with
  | nil => intro acc n h; simp [Lib.decFrom] at h; subst h; simp
  | cons a l ih =>
    intro acc n h
    simp only [Lib.decFrom] at h
    cases ha : Lib.digitVal a with
    | none => simp [ha] at h
    | some e =>
      simp only [ha] at h
      have h1 := ih _ n h
      have he : e ≤ 9 := by
        unfold Lib.digitVal at ha
        split at ha
        · simp at ha; omega
        · simp at ha
      rw [List.length_cons, Nat.pow_succ]
      calc n < (acc * 10 + e + 1) * 10 ^ l.length := h1
        _ ≤ ((acc + 1) * 10) * 10 ^ l.length := Nat.mul_le_mul_right _ (by omega)
        _ = (acc + 1) * (10 ^ l.length * 10) := by rw [Nat.mul_assoc, Nat.mul_comm 10]
theorem dec_ne (n : Nat) : ∃ d r, d < 10 ∧ dec n = dig d :: r := by
  induction n using Nat.strongRecOn with
  | _ n ih =>
    by_cases h : n < 10
    · exact ⟨n, [], h, dec_small h⟩
    · obtain ⟨d, r, hd, e⟩ := ih (n / 10) (by omega)
      exact ⟨d, r ++ [dig (n % 10)], hd, by rw [dec_big h, e]; rfl⟩
theorem dig_ne : ∀ d, d < 10 → dig d ≠ 45 ∧ dig d ≠ 43 := by decide

/-- The number that a text of one to six digits is. -/
def dN (T : ByteArray) : Option Nat := if 1 ≤ T.size ∧ T.size ≤ 6 then Lib.decFrom 0 T.data.toList else none
/-- A text without its sign. -/
def tOf (s : ByteArray) : ByteArray := if 1 < s.size ∧ s[0]! = 45 then s.extract 1 s.size else s
def fin (s : ByteArray) (v : Int) : Option Int := if txt v = s then some v else none
def rdV (s : ByteArray) : Option Int := match dN (tOf s) with
  | some n => fin s (if (tOf s).size < s.size then -(n : Int) else n)
  | none => none
def imV (s : ByteArray) : Option Int := match Lib.atoiAll s.data.toList with
  | .ok v => if inR v (-999999) 999999 then fin s v else none
  | _ => none
def isTxt (s : ByteArray) (v : Int) : Prop := inR v (-999999) 999999 = true ∧ txt v = s
theorem fin_iff {s : ByteArray} {u v : Int} : fin s u = some v ↔ u = v ∧ txt v = s := by
  unfold fin
  split
  · rename_i h
    constructor
    · intro e; simp at e; exact ⟨e, e ▸ h⟩
    · rintro ⟨rfl, _⟩; rfl
  · rename_i h
    constructor
    · intro e; simp at e
    · rintro ⟨rfl, h2⟩; exact absurd h2 h
theorem dN_lt {T : ByteArray} {n : Nat} (h : dN T = some n) : n < 1000000 := by
  unfold dN at h
  split at h
  · rename_i hs
    have h1 := decFrom_lt _ _ _ h
    have h2 : T.data.toList.length = T.size := by rw [Array.length_toList]; rfl
    rw [h2] at h1
    have h3 : 10 ^ T.size ≤ 10 ^ 6 := Nat.pow_le_pow_right (by omega) hs.2
    omega
  · simp at h
theorem txt_pos (n : Nat) : (txt (n : Int)).data.toList = dec n := by
  unfold txt; rw [if_neg (by omega)]; simp
theorem txt_min (n : Nat) (h : 1 ≤ n) : (txt (-(n : Int))).data.toList = 45 :: dec n := by
  unfold txt; rw [if_pos (by omega)]; simp
theorem size_len (s : ByteArray) : s.size = s.data.toList.length := by rw [Array.length_toList]; rfl
theorem dec_len6 {n : Nat} (h : n < 1000000) : 1 ≤ (dec n).length ∧ (dec n).length ≤ 6 := by
  obtain ⟨d, r, _, e⟩ := dec_ne n
  exact ⟨by rw [e]; simp, dig_len n 5 (by omega)⟩
theorem tOf_pos (n : Nat) : tOf (txt (n : Int)) = txt (n : Int) := by
  unfold tOf
  rw [if_neg]
  rintro ⟨h1, h2⟩
  have e := txt_pos n
  obtain ⟨d, r, hd, e2⟩ := dec_ne n
  rw [getElem!_pos (txt (n : Int)) 0 (by omega)] at h2
  have h3 : (txt (n : Int))[0]'(by omega) = (txt (n : Int)).data.toList[0]'(by rw [← size_len]; omega) := rfl
  rw [h3] at h2
  have h4 : (txt (n : Int)).data.toList[0]? = some (dig d) := by rw [e, e2]; rfl
  rw [List.getElem?_eq_getElem (by rw [← size_len]; omega)] at h4
  rw [Option.some.inj h4] at h2
  exact (dig_ne d hd).1 h2
theorem tOf_min (n : Nat) (h : 1 ≤ n) : (tOf (txt (-(n : Int)))).data.toList = dec n := by
  have e := txt_min n h
  have hs : (txt (-(n : Int))).size = 1 + (dec n).length := by rw [size_len, e]; simp; omega
  obtain ⟨d, r, hd, e2⟩ := dec_ne n
  have hl : 1 ≤ (dec n).length := by rw [e2]; simp
  unfold tOf
  rw [if_pos]
  · rw [Lib.extract_data, e, hs]
    simp
  · refine ⟨by omega, ?_⟩
    rw [getElem!_pos (txt (-(n : Int))) 0 (by omega)]
    have h4 : (txt (-(n : Int))).data.toList[0]? = some 45 := by rw [e]; rfl
    rw [List.getElem?_eq_getElem (by rw [← size_len]; omega)] at h4
    exact Option.some.inj h4
theorem rdV_iff (s : ByteArray) (v : Int) : rdV s = some v ↔ isTxt s v := by
  unfold rdV isTxt
  constructor
  · intro h
    cases hd : dN (tOf s) with
    | none => simp [hd] at h
    | some n =>
      simp only [hd] at h
      obtain ⟨h1, h2⟩ := fin_iff.1 h
      have := dN_lt hd
      refine ⟨(inR_iff _ _ _).2 ?_, h2⟩
      split at h1 <;> omega
  · rintro ⟨h1, rfl⟩
    have hb := (inR_iff _ _ _).1 h1
    by_cases h0 : 0 ≤ v
    · obtain ⟨n, rfl⟩ : ∃ n : Nat, v = n := ⟨v.toNat, by omega⟩
      have hl := dec_len6 (n := n) (by omega)
      have hN : dN (tOf (txt (n : Int))) = some n := by
        rw [tOf_pos]
        unfold dN
        rw [if_pos (by rw [size_len, txt_pos]; exact hl), txt_pos, decFrom_dec]
      simp only [hN]
      rw [tOf_pos, if_neg (by omega)]
      exact fin_iff.2 ⟨rfl, rfl⟩
    · obtain ⟨n, rfl⟩ : ∃ n : Nat, v = -(n : Int) := ⟨(-v).toNat, by omega⟩
      have hn : 1 ≤ n := by omega
      have hl := dec_len6 (n := n) (by omega)
      have ht := tOf_min n hn
      have hts : (tOf (txt (-(n : Int)))).size = (dec n).length := by rw [size_len, ht]
      have hN : dN (tOf (txt (-(n : Int)))) = some n := by
        unfold dN
        rw [if_pos (by rw [hts]; exact hl), ht, decFrom_dec]
      simp only [hN]
      have hs : (txt (-(n : Int))).size = 1 + (dec n).length := by rw [size_len, txt_min n hn]; simp; omega
      rw [if_pos (by omega)]
      exact fin_iff.2 ⟨rfl, rfl⟩
theorem atoi_txt {v : Int} (h : inR v (-999999) 999999 = true) : Lib.atoiAll (txt v).data.toList = .ok v := by
  have hb := (inR_iff _ _ _).1 h
  by_cases h0 : 0 ≤ v
  · obtain ⟨n, rfl⟩ : ∃ n : Nat, v = n := ⟨v.toNat, by omega⟩
    have hl := dec_len6 (n := n) (by omega)
    rw [txt_pos, Lib.atoiAll_short _ (by omega)]
    obtain ⟨d, r, hd, e⟩ := dec_ne n
    have hdec := decFrom_dec n
    have hat : Lib.atoi (dec n) = some (n : Int) := by
      rw [e] at hdec ⊢
      have h1 : (dig d == 45) = false := beq_eq_false_iff_ne.2 (dig_ne d hd).1
      have h2 : (dig d == 43) = false := beq_eq_false_iff_ne.2 (dig_ne d hd).2
      simp [Lib.atoi, h1, h2, Lib.decNat, hdec]
    rw [hat]; rfl
  · obtain ⟨n, rfl⟩ : ∃ n : Nat, v = -(n : Int) := ⟨(-v).toNat, by omega⟩
    have hl := dec_len6 (n := n) (by omega)
    rw [txt_min n (by omega), Lib.atoiAll_short _ (by simp; omega)]
    obtain ⟨d, r, hd, e⟩ := dec_ne n
    have hdec := decFrom_dec n
    have hat : Lib.atoi (45 :: dec n) = some (-(n : Int)) := by
      have he : (dec n).isEmpty = false := by rw [e]; rfl
      simp [Lib.atoi, Lib.decNat, he, hdec]
    rw [hat]; rfl
theorem imV_iff (s : ByteArray) (v : Int) : imV s = some v ↔ isTxt s v := by
  unfold imV isTxt
  constructor
  · intro h
    cases ha : Lib.atoiAll s.data.toList with
    | «syntax» => simp [ha] at h
    | range => simp [ha] at h
    | ok u =>
      simp only [ha] at h
      split at h
      · rename_i hu
        obtain ⟨rfl, h2⟩ := fin_iff.1 h
        exact ⟨hu, h2⟩
      · simp at h
  · rintro ⟨h1, rfl⟩
    rw [atoi_txt h1]
    simp only [h1, if_true]
    exact fin_iff.2 ⟨rfl, rfl⟩
theorem read_same (s : ByteArray) : imV s = rdV s := by
  cases h : rdV s with
  | some v => exact (imV_iff s v).2 ((rdV_iff s v).1 h)
  | none =>
    cases h2 : imV s with
    | none => rfl
    | some v => rw [(rdV_iff s v).2 ((imV_iff s v).1 h2)] at h; simp at h
end Go.Proofs.YtebgkdgcjpjigaaDoor
