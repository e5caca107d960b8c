/- AppendChecksum: the walks. -/
import Derived.Test.YtebgkdgcjpjigaaDoorFmt
import Derived.Test.YtebgkdgcjpjigaaDoorStrA
import Derived.Test.YtebgkdgcjpjigaaDoorJoinS
namespace Go.Proofs.YtebgkdgcjpjigaaDoor
set_option linter.unusedSimpArgs false
set_option linter.unusedVariables false
set_option maxHeartbeats 1000000
set_option maxRecDepth 100000
open Go.RowKit

/-- A text with its checksum. -/
def sealT (s : ByteArray) : ByteArray := (s ++ ⟨#[35]⟩) ++ txt (ck s.data.toList)
theorem sealT_size (s : ByteArray) : (sealT s).size = s.size + 1 + (txt (ck s.data.toList)).size := by
  unfold sealT; rw [ByteArray.size_append, ByteArray.size_append]; rfl
theorem ck_txt (s : ByteArray) : (txt (ck s.data.toList)).size ≤ 17 := by
  have := ck_bd s.data.toList
  exact txt_size (by omega) (by omega)
theorem l1Seal_c (s : ByteArray) (hs : s.size ≤ 1000000000000) (w : World) : Calls Tryd.prog 42 #[.string s] w fun e w' => e = .returned (.string (sealT s)) ∧ Ex w w' := by
  have hb := ck_bd s.data.toList
  have ht := ck_txt s
  go_enter Tryd.func42, Tryd.ntmps42
  go_wp2_with (first | (go_at_call 55; refine (l1Sum_c _ hs _).mono ?_; rintro e w' ⟨rfl, x, rfl⟩) | (go_at_call 28; refine (l1Num_c _ (by omega) (by omega) _).mono ?_; rintro e w' ⟨rfl, x, rfl⟩))
  go_ret
  exact ⟨rfl, by repeat (first | exact Ex.refl _ | refine Ex.ext ?_ _ | refine Ex.alloc ?_ _ | refine Ex.drew ?_)⟩
theorem l1Seal_q {s t : ByteArray} (h : sealT s = t) (hs : s.size ≤ 1000000000000) (w : World) : Calls Tryd.prog 42 #[.string s] w fun e w' => e = .returned (.string t) ∧ Ex w w' := by
  subst h; exact l1Seal_c s hs w

def acB (s : ByteArray) : Bool := decide (s.size ≤ 4000) && (!stB s 35 && decide ((sealT s).size ≤ 4000))
def acR (s : ByteArray) : ByteArray := if acB s then sealT s else ⟨#[]⟩
theorem specAppendChecksum_c (s : ByteArray) (hs : s.size ≤ 1000000000000) (w : World) : Calls Tryd.prog 23 #[.string s] w fun e w' => e = .returned (.tuple #[.string (acR s), .bool (acB s)]) ∧ Ex w w' := by
  by_cases h1 : s.size ≤ 4000
  · cases h2 : stB s 35
    · obtain ⟨t, ht⟩ : ∃ t, sealT s = t := ⟨_, rfl⟩
      by_cases h3 : t.size ≤ 4000
      · have hB : acB s = true := by simp [acB, h1, h2, ht, h3]
        have hR : acR s = t := by simp [acR, hB, ht]
        rw [hB, hR]
        clear hB hR
        go_enter Tryd.func23, Tryd.ntmps23
        go_wp2_with (first | (go_at_call 41; refine (l1Stands_q (c := 35) h2 hs _).mono ?_; rintro e w' ⟨rfl, x, rfl⟩) | (go_at_call 42; refine (l1Seal_q ht hs _).mono ?_; rintro e w' ⟨rfl, x, rfl⟩))
        go_ret2
        exact ⟨rfl, by repeat (first | exact Ex.refl _ | refine Ex.ext ?_ _ | refine Ex.alloc ?_ _ | refine Ex.drew ?_)⟩
      · have hB : acB s = false := by simp [acB, h1, h2, ht, h3]
        have hR : acR s = ⟨#[]⟩ := by simp [acR, hB]
        rw [hB, hR]
        clear hB hR
        go_enter Tryd.func23, Tryd.ntmps23
        go_wp2_with (first | (go_at_call 41; refine (l1Stands_q (c := 35) h2 hs _).mono ?_; rintro e w' ⟨rfl, x, rfl⟩) | (go_at_call 42; refine (l1Seal_q ht hs _).mono ?_; rintro e w' ⟨rfl, x, rfl⟩))
        go_ret2
        exact ⟨rfl, by repeat (first | exact Ex.refl _ | refine Ex.ext ?_ _ | refine Ex.alloc ?_ _ | refine Ex.drew ?_)⟩
    · have hB : acB s = false := by simp [acB, h2]
      have hR : acR s = ⟨#[]⟩ := by simp [acR, hB]
      rw [hB, hR]
      clear hB hR
      go_enter Tryd.func23, Tryd.ntmps23
      go_wp2_with (first | (go_at_call 41; refine (l1Stands_q (c := 35) h2 hs _).mono ?_; rintro e w' ⟨rfl, x, rfl⟩))
      go_ret2
      exact ⟨rfl, by repeat (first | exact Ex.refl _ | refine Ex.ext ?_ _ | refine Ex.alloc ?_ _ | refine Ex.drew ?_)⟩
  · have hB : acB s = false := by simp [acB, h1]
    have hR : acR s = ⟨#[]⟩ := by simp [acR, hB]
    rw [hB, hR]
    clear hB hR
    go_enter Tryd.func23, Tryd.ntmps23
    go_wp2
    go_ret2
    exact ⟨rfl, by repeat (first | exact Ex.refl _ | refine Ex.ext ?_ _ | refine Ex.alloc ?_ _ | refine Ex.drew ?_)⟩
theorem contains_r {x : ByteArray} {c : UInt8} {r : Bool} (hr : stB x c = r) (w : World) : Calls Tryd.prog 43 #[.string x, .string ⟨#[c]⟩] w fun e w' => e = .returned (.bool r) ∧ Ex w w' := by
  subst hr; exact contains_s x c w
theorem implAppendChecksum_c (s : ByteArray) (hs : s.size ≤ 1000000000000) (w : World) {W : World} (hT : TabP W) (hE : Below W.heap.size W w) : Calls Tryd.prog 24 #[.string s] w fun e w' => e = .returned (.tuple #[.string (acR s), .bool (acB s)]) ∧ Ex w w' := by
  have HT := Lib.hid hT
  have HE := Lib.hid hE
  have hk := ck_bd s.data.toList
  have ht := ck_txt s
  clear hT hE
  by_cases h1 : s.size ≤ 4000
  · cases h2 : stB s 35
    · by_cases h3 : s.size + 1 + (txt (ck s.data.toList)).size ≤ 4000
      · have hB : acB s = true := by simp [acB, h1, h2, sealT_size, h3]
        have hR : acR s = (s ++ ⟨#[35]⟩) ++ txt (ck s.data.toList) := by simp [acR, hB, sealT]
        rw [hB, hR]
        clear hB hR
        go_enter Tryd.func24, Tryd.ntmps24
        go_wp2_with (first | (go_at_call 43; refine (contains_r (c := 35) h2 _).mono ?_; rintro e w1 ⟨rfl, hx1⟩; have hB1 := below_ex HE.out hx1) | (go_at_call 44; refine (checksum_c _ hs _).mono ?_; rintro e w2 ⟨rfl, hx2⟩; have hB2 := below_ex hB1 hx2; have hE2 := hx1.trans hx2) | (go_at_call 30; refine (itoa_c HT.out _ (by omega) (by omega) _ hB2).mono ?_; rintro e w' ⟨rfl, x, rfl⟩))
        go_ret2
        exact ⟨rfl, hE2.ext _⟩
      · have hB : acB s = false := by simp [acB, h1, h2, sealT_size, h3]
        have hR : acR s = ⟨#[]⟩ := by simp [acR, hB]
        rw [hB, hR]
        clear hB hR
        go_enter Tryd.func24, Tryd.ntmps24
        go_wp2_with (first | (go_at_call 43; refine (contains_r (c := 35) h2 _).mono ?_; rintro e w1 ⟨rfl, hx1⟩; have hB1 := below_ex HE.out hx1) | (go_at_call 44; refine (checksum_c _ hs _).mono ?_; rintro e w2 ⟨rfl, hx2⟩; have hB2 := below_ex hB1 hx2; have hE2 := hx1.trans hx2) | (go_at_call 30; refine (itoa_c HT.out _ (by omega) (by omega) _ hB2).mono ?_; rintro e w' ⟨rfl, x, rfl⟩))
        go_ret2
        exact ⟨rfl, hE2.ext _⟩
    · have hB : acB s = false := by simp [acB, h2]
      have hR : acR s = ⟨#[]⟩ := by simp [acR, hB]
      rw [hB, hR]
      clear hB hR
      go_enter Tryd.func24, Tryd.ntmps24
      go_wp2_with (first | (go_at_call 43; refine (contains_r (c := 35) h2 _).mono ?_; rintro e w' ⟨rfl, x, rfl⟩))
      go_ret2
      exact ⟨rfl, by repeat (first | exact Ex.refl _ | refine Ex.ext ?_ _ | refine Ex.alloc ?_ _ | refine Ex.drew ?_)⟩
  · have hB : acB s = false := by simp [acB, h1]
    have hR : acR s = ⟨#[]⟩ := by simp [acR, hB]
    rw [hB, hR]
    clear hB hR
    go_enter Tryd.func24, Tryd.ntmps24
    go_wp2
    go_ret2
    exact ⟨rfl, by repeat (first | exact Ex.refl _ | refine Ex.ext ?_ _ | refine Ex.alloc ?_ _ | refine Ex.drew ?_)⟩
theorem fnExactAppendChecksum_walk (s : ByteArray) (hl : s.size ≤ maxLen) (w : World) (hT : TabP w) : Calls Tryd.prog 7 #[.string s] w fun e w' => e = .returned (.bool true) ∧ Below w.heap.size w w' := by
  have HT := Lib.hid hT
  clear hT
  by_cases hs : s.size ≤ 1048576
  · have HS := Lib.hid (fun w => specAppendChecksum_c s (by omega) w)
    have HI := Lib.hid (fun w' (h : Below w.heap.size w w') => implAppendChecksum_c s (by omega) w' HT.out h)
    have hsl : ((acR s).toList == (acR s).toList) = true := beq_self_eq_true _
    generalize acR s = r at *
    generalize acB s = b at *
    go_enter Tryd.func7, Tryd.ntmps7
    go_wp2_with (first | (go_at_call 23; refine (HS.out _).mono ?_; rintro e w1 ⟨rfl, hx1⟩; have hB1 := hx1.below) | (go_at_call 24; refine (HI.out _ hB1).mono ?_; rintro e w2 ⟨rfl, hx2⟩; have hE2 := hx1.trans hx2))
    go_ret
    exact ⟨rfl, hE2.below⟩
  · go_enter Tryd.func7, Tryd.ntmps7
    go_wp2
    go_ret
    exact ⟨rfl, (Ex.refl w).below⟩
end Go.Proofs.YtebgkdgcjpjigaaDoor
