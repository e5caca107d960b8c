/- FormatInt: the walks. -/
import Derived.Test.YtebgkdgcjpjigaaDoorShelf
import Derived.Test.YtebgkdgcjpjigaaDoorNum
import Derived.Test.YtebgkdgcjpjigaaDoorCard
import Derived.Test.YtebgkdgcjpjigaaDoorLawH
import Derived.Lib.AppendIntMem
namespace Go.Proofs.YtebgkdgcjpjigaaDoor
set_option linter.unusedSimpArgs false
set_option linter.unusedVariables false
set_option maxHeartbeats 1000000
set_option maxRecDepth 100000
open Go.RowKit

theorem dec_digits (n : Nat) : dec n = Lib.decDigits n := by
  induction n using Nat.strongRecOn with
  | _ n ih =>
    by_cases h : n < 10
    · rw [dec_small h, Lib.decDigits, dif_pos h]; rfl
    · rw [dec_big h, Lib.decDigits, dif_neg h, ih (n / 10) (by omega)]; rfl
theorem txt_itoa (n : Int) : (⟨(Lib.itoa n).toArray⟩ : ByteArray) = txt n := by
  unfold txt Lib.itoa
  split
  · rename_i h
    rw [dec_digits, show (-n).toNat = n.natAbs by omega]
  · rw [dec_digits]
theorem ex_grow (w : World) (k : Nat) (os : Array Obj) : Ex w (Sort.grow (w.drewN k) os) :=
  Ex.of_below ⟨rfl, rfl, rfl, by simp [Sort.grow], fun k hk => by simp [Sort.grow, Array.getElem?_append, hk]⟩
/-- The table that the text of a number is made with reads as its initialiser lays it, and goes on so. -/
def TabP (W : World) : Prop := Lib.TabBelow Tryd.prog W.heap.size W "internal/strconv.uint64pow10" .u64 Lib.pow10Tab
theorem itoa_c {W : World} (hT : TabP W) (n : Int) (h0 : -9223372036854775808 ≤ n) (h1 : n ≤ 9223372036854775807) (w : World) (hE : Below W.heap.size W w) : Calls Tryd.prog 30 #[.int .i64 n] w fun e w' => e = .returned (.string (txt n)) ∧ Ex w w' := by
  refine (Tryd.strconv_Itoa n h0 h1 w (hT w hE)).mono ?_
  rintro e w' ⟨rfl, k, os, rfl⟩
  exact ⟨by rw [txt_itoa], ex_grow _ _ _⟩

def fiB (n : Int) : Bool := inR n (-999999) 999999
def fiR (n : Int) : ByteArray := if fiB n then txt n else ⟨#[]⟩
theorem specFormatInt_c (n : Int) (w : World) : Calls Tryd.prog 9 #[.int .i64 n] w fun e w' => e = .returned (.tuple #[.string (fiR n), .bool (fiB n)]) ∧ Ex w w' := by
  cases h : fiB n
  · have hR : fiR n = ⟨#[]⟩ := by simp [fiR, h]
    rw [hR]
    have h' : inR n (-999999) 999999 = false := h
    go_enter Tryd.func9, Tryd.ntmps9
    go_wp2_with (first | (go_at_call 27; refine (l1In_c _ _ _ _).mono ?_; rintro e w' ⟨rfl, x, rfl⟩; rw [h']))
    go_ret2
    exact ⟨rfl, by repeat (first | exact Ex.refl _ | refine Ex.ext ?_ _ | refine Ex.alloc ?_ _ | refine Ex.drew ?_)⟩
  · have hR : fiR n = txt n := by simp [fiR, h]
    rw [hR]
    have h' : inR n (-999999) 999999 = true := h
    have hb := (inR_iff _ _ _).1 h'
    go_enter Tryd.func9, Tryd.ntmps9
    go_wp2_with (first | (go_at_call 27; refine (l1In_c _ _ _ _).mono ?_; rintro e w' ⟨rfl, x, rfl⟩; rw [h']) | (go_at_call 28; refine (l1Num_c _ (by omega) (by omega) _).mono ?_; rintro e w' ⟨rfl, x, rfl⟩))
    go_ret2
    exact ⟨rfl, by repeat (first | exact Ex.refl _ | refine Ex.ext ?_ _ | refine Ex.alloc ?_ _ | refine Ex.drew ?_)⟩
theorem implFormatInt_c (n : Int) (w : World) {W : World} (hT : TabP W) (hE : Below W.heap.size W w) : Calls Tryd.prog 10 #[.int .i64 n] w fun e w' => e = .returned (.tuple #[.string (fiR n), .bool (fiB n)]) ∧ Ex w w' := by
  cases h : fiB n
  · have hR : fiR n = ⟨#[]⟩ := by simp [fiR, h]
    rw [hR]
    have h' : inR n (-999999) 999999 = false := h
    go_enter Tryd.func10, Tryd.ntmps10
    go_wp2_with (first | (go_at_call 29; refine (within_c _ _ _ _).mono ?_; rintro e w' ⟨rfl, x, rfl⟩; rw [h']))
    go_ret2
    exact ⟨rfl, by repeat (first | exact Ex.refl _ | refine Ex.ext ?_ _ | refine Ex.alloc ?_ _ | refine Ex.drew ?_)⟩
  · have hR : fiR n = txt n := by simp [fiR, h]
    rw [hR]
    have h' : inR n (-999999) 999999 = true := h
    have hb := (inR_iff _ _ _).1 h'
    have HE := Lib.hid hE
    have HT := Lib.hid hT
    clear hE hT
    go_enter Tryd.func10, Tryd.ntmps10
    go_wp2_with (first | (go_at_call 29; refine (within_c _ _ _ _).mono ?_; rw [h']; rintro e w1 ⟨rfl, hx1⟩; have hB1 := below_ex HE.out hx1) | (go_at_call 30; refine (itoa_c HT.out _ (by omega) (by omega) _ hB1).mono ?_; rintro e w' ⟨rfl, x, rfl⟩))
    go_ret2
    exact ⟨rfl, hx1.ext _⟩
theorem fnExactFormatInt_walk (n : Int) (hnw : (Lit.int .i64 n).wf = true) (w : World) (hT : TabP w) : Calls Tryd.prog 3 #[.int .i64 n] w fun e w' => e = .returned (.bool true) ∧ Below w.heap.size w w' := by
  have HT := Lib.hid hT
  clear hT
  have HS := Lib.hid (fun w => specFormatInt_c n w)
  have HI := Lib.hid (fun w' (h : Below w.heap.size w w') => implFormatInt_c n w' HT.out h)
  have hsl : ((fiR n).toList == (fiR n).toList) = true := beq_self_eq_true _
  generalize fiR n = r at *
  generalize fiB n = b at *
  go_enter Tryd.func3, Tryd.ntmps3
  go_wp2_with (first | (go_at_call 9; refine (HS.out _).mono ?_; rintro e w1 ⟨rfl, hx1⟩; have hB1 := hx1.below) | (go_at_call 10; refine (HI.out _ hB1).mono ?_; rintro e w2 ⟨rfl, hx2⟩; have hE2 := hx1.trans hx2))
  go_ret
  exact ⟨rfl, hE2.below⟩
end Go.Proofs.YtebgkdgcjpjigaaDoor
