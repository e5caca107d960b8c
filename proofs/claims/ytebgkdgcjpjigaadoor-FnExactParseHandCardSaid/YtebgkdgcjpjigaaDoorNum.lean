/- The text of a number: the walk of spec.l1Num. -/
import Derived.Test.YtebgkdgcjpjigaaDoorLib
import Derived.Test.YtebgkdgcjpjigaaDoorPure
import Derived.Lib.Hide
namespace Go.Proofs.YtebgkdgcjpjigaaDoor
set_option linter.unusedSimpArgs false
set_option linter.unusedVariables false
set_option maxHeartbeats 1000000
open Go.RowKit

/-- One digit. -/
def dig (n : Nat) : UInt8 := UInt8.ofNat (48 + n)
/-- The digits of a number. -/
def dec (n : Nat) : List UInt8 := if h : n < 10 then [dig n] else dec (n / 10) ++ [dig (n % 10)]
termination_by n
decreasing_by omega
theorem dec_small {n : Nat} (h : n < 10) : dec n = [dig n] := by rw [dec, dif_pos h]
theorem dec_big {n : Nat} (h : ¬ n < 10) : dec n = dec (n / 10) ++ [dig (n % 10)] := by rw [dec, dif_neg h]
/-- The text of a number. -/
def txt (n : Int) : ByteArray := if n < 0 then ⟨(45 :: dec (-n).toNat).toArray⟩ else ⟨(dec n.toNat).toArray⟩

theorem cut_digit {n : Int} (h0 : 0 ≤ n) (h1 : n < 10) : (({ data := #[48, 49, 50, 51, 52, 53, 54, 55, 56, 57] } : ByteArray).extract n.toNat (n + 1).toNat) = ⟨#[dig n.toNat]⟩ := by
  have : n = 0 ∨ n = 1 ∨ n = 2 ∨ n = 3 ∨ n = 4 ∨ n = 5 ∨ n = 6 ∨ n = 7 ∨ n = 8 ∨ n = 9 := by omega
  rcases this with rfl | rfl | rfl | rfl | rfl | rfl | rfl | rfl | rfl | rfl <;> rfl

theorem txt_small {n : Int} (h0 : 0 ≤ n) (h1 : n < 10) : txt n = ⟨#[dig n.toNat]⟩ := by
  unfold txt; rw [if_neg (by omega), dec_small (by omega)]
theorem txt_big {n : Int} (h : 10 ≤ n) : txt n = txt (n / 10) ++ ⟨#[dig (n % 10).toNat]⟩ := by
  unfold txt
  rw [if_neg (by omega), if_neg (by omega), dec_big (by omega), show (n / 10).toNat = n.toNat / 10 by omega, show (n % 10).toNat = n.toNat % 10 by omega]
  apply ByteArray.ext
  simp
theorem txt_neg {n : Int} (h : n < 0) : txt n = ⟨#[45]⟩ ++ txt (-n) := by
  unfold txt
  rw [if_pos h, if_neg (by omega)]
  apply ByteArray.ext
  simp
theorem txt_negbig {n : Int} (h : n ≤ -10) : txt n = txt (n.tdiv 10) ++ txt (-(n.tmod 10)) := by
  obtain ⟨m, rfl⟩ : ∃ m : Int, n = -m := ⟨-n, by omega⟩
  rw [Int.neg_tdiv, Int.neg_tmod, Int.neg_neg, Int.tdiv_eq_ediv_of_nonneg (by omega), Int.tmod_eq_emod_of_nonneg (by omega)]
  rw [txt_neg (by omega), Int.neg_neg, txt_big (by omega), txt_neg (n := -(m / 10)) (by omega), Int.neg_neg, ← txt_small (n := m % 10) (by omega) (by omega), ByteArray.append_assoc]
theorem dig_len (n : Nat) : ∀ k, n < 10 ^ (k + 1) → (dec n).length ≤ k + 1 := by
  intro k
  induction k generalizing n with
  | zero => intro h; rw [dec_small (by omega)]; simp
  | succ k ih =>
    intro h
    by_cases hn : n < 10
    · rw [dec_small hn]; simp
    · rw [dec_big hn, List.length_append]
      have := ih (n / 10) (by rw [Nat.pow_succ] at h; omega)
      simp; omega
theorem txt_size {n : Int} (h0 : -9999999999999999 ≤ n) (h1 : n ≤ 9999999999999999) : (txt n).size ≤ 17 := by
  unfold txt
  split
  · have := dig_len (-n).toNat 15 (by omega)
    simp only [ByteArray.size, List.size_toArray, List.length_cons]; omega
  · have := dig_len n.toNat 15 (by omega)
    simp only [ByteArray.size, List.size_toArray]; omega

theorem l1Num_k : ∀ (k : Nat) (n : Int), 2 * n.natAbs + (if n < 0 then 1 else 0) < k → -9999999999999999 ≤ n → n ≤ 9999999999999999 → ∀ w : World, Calls Tryd.prog 28 #[.int .i64 n] w fun e w' => e = .returned (.string (txt n)) ∧ Ex w w' := by
  intro k
  induction k with
  | zero => intro n h; omega
  | succ k ih =>
    intro n hk hlo hhi w
    have hk' : 2 * n.natAbs + (if n < 0 then 1 else 0) < k + 1 := hk
    clear hk
    by_cases h0 : 0 ≤ n
    · by_cases h1 : n < 10
      · go_enter Tryd.func28, Tryd.ntmps28
        go_wp2
        go_ret
        exact ⟨by rw [txt_small h0 h1, ← cut_digit h0 h1]; rfl, by repeat (first | exact Ex.refl _ | refine Ex.ext ?_ _ | refine Ex.alloc ?_ _ | refine Ex.drew ?_)⟩
      · have hd := Lib.hid (cut_digit (n := n % 10) (by omega) (by omega))
        have hs := txt_size (n := n / 10) (by omega) (by omega)
        have Hi := Lib.hid (ih (n / 10) (by rw [if_neg (by omega)] at hk' ⊢; omega) (by omega) (by omega))
        clear hk'
        have Ht := Lib.hid (txt_big (n := n) (by omega))
        clear ih
        go_enter Tryd.func28, Tryd.ntmps28
        go_wp2_with (refine region_quiet (by kernel_rfl) (by kernel_rfl) ?_; (repeat (go_big_quiet_step ((go_at_call 28; exact (Hi.out _).mono (by rintro e w' ⟨rfl, y, rfl⟩; exact ⟨rfl, _, ext_ext _ _⟩))))); refine wpQuiet_nil ?_; rintro _ ⟨x, rfl⟩)
        go_ret
        refine ⟨?_, by repeat (first | exact Ex.refl _ | refine Ex.ext ?_ _ | refine Ex.alloc ?_ _ | refine Ex.drew ?_)⟩
        rw [Ht.out, ← hd.out]
        rfl
    · by_cases h1 : -10 < n
      · have hs := txt_size (n := -n) (by omega) (by omega)
        have Hi := Lib.hid (ih (-n) (by rw [if_pos (by omega)] at hk'; rw [if_neg (by omega)]; omega) (by omega) (by omega))
        have Ht := Lib.hid (txt_neg (n := n) (by omega))
        clear ih hk'
        go_enter Tryd.func28, Tryd.ntmps28
        go_wp2_with (go_at_call 28; refine (Hi.out _).mono ?_; rintro e w' ⟨rfl, x, rfl⟩)
        go_ret
        refine ⟨?_, by repeat (first | exact Ex.refl _ | refine Ex.ext ?_ _ | refine Ex.alloc ?_ _ | refine Ex.drew ?_)⟩
        rw [Ht.out]
        rfl
      · have hq : n.tdiv 10 = -((-n) / 10) := by
          obtain ⟨m, rfl⟩ : ∃ m : Int, n = -m := ⟨-n, by omega⟩
          rw [Int.neg_tdiv, Int.neg_neg, Int.tdiv_eq_ediv_of_nonneg (by omega)]
        have hr : n.tmod 10 = -((-n) % 10) := by
          obtain ⟨m, rfl⟩ : ∃ m : Int, n = -m := ⟨-n, by omega⟩
          rw [Int.neg_tmod, Int.neg_neg, Int.tmod_eq_emod_of_nonneg (by omega)]
        have b1 : -9999999999999999 ≤ n.tdiv 10 ∧ n.tdiv 10 ≤ -1 := by rw [hq]; omega
        have b2 : -9 ≤ n.tmod 10 ∧ n.tmod 10 ≤ 0 := by rw [hr]; omega
        have hs1 := txt_size (n := n.tdiv 10) (by omega) (by omega)
        have hs2 := txt_size (n := -n.tmod 10) (by omega) (by omega)
        have H1 := Lib.hid (ih (n.tdiv 10) (by rw [if_pos (by omega)] at hk' ⊢; rw [hq]; omega) (by omega) (by omega))
        have H2 := Lib.hid (ih (-n.tmod 10) (by rw [if_pos (by omega)] at hk'; rw [if_neg (by omega)]; rw [hr]; omega) (by omega) (by omega))
        have Ht := Lib.hid (txt_negbig (n := n) (by omega))
        clear ih hk' hq hr
        go_enter Tryd.func28, Tryd.ntmps28
        go_wp2_with fail
        refine (H1.out _).mono ?_
        rintro e w' ⟨rfl, x, rfl⟩
        go_wp2_with fail
        refine (H2.out _).mono ?_
        rintro e w' ⟨rfl, y, rfl⟩
        go_wp2_with fail
        go_ret
        refine ⟨?_, by repeat (first | exact Ex.refl _ | refine Ex.ext ?_ _ | refine Ex.alloc ?_ _ | refine Ex.drew ?_)⟩
        rw [Ht.out]
        rfl

theorem l1Num_c (n : Int) (h0 : -9999999999999999 ≤ n) (h1 : n ≤ 9999999999999999) (w : World) : Calls Tryd.prog 28 #[.int .i64 n] w fun e w' => e = .returned (.string (txt n)) ∧ Ex w w' :=
  l1Num_k _ n (Nat.lt_succ_self _) h0 h1 w
end Go.Proofs.YtebgkdgcjpjigaaDoor
