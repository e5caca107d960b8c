/- The walks of the functions on seeds, the order of strings and checksums. -/
import Derived.Test.YtfpnbcaleagijaaCard3
namespace Go.Proofs.Ytfpnbcaleagijaa
set_option linter.unusedSimpArgs false
set_option linter.unusedVariables false
set_option maxHeartbeats 1000000
open Go.RowKit

theorem l4Seed_c (s : Int) (w : World) : Calls Try.prog 44 #[.int .i64 s] w fun e w' => e = .returned (.bool (isSeed s)) ∧ Ex w w' := by
  go_enter Try.func44, Try.ntmps44
  go_wp2_with (go_at_call 48; refine (l1In_c _ _ _ _).mono ?_; rintro e w' ⟨rfl, x, rfl⟩)
  go_ret
  exact ⟨rfl, by repeat (first | exact Ex.refl _ | refine Ex.ext ?_ _ | refine Ex.alloc ?_ _ | refine Ex.drew ?_)⟩
theorem isSeed_c (s : Int) (w : World) : Calls Try.prog 46 #[.int .i64 s] w fun e w' => e = .returned (.bool (isSeed s)) ∧ Ex w w' := by
  go_enter Try.func46, Try.ntmps46
  go_wp2_with (go_at_call 50; refine (within_c _ _ _ _).mono ?_; rintro e w' ⟨rfl, x, rfl⟩)
  go_ret
  exact ⟨rfl, by repeat (first | exact Ex.refl _ | refine Ex.ext ?_ _ | refine Ex.alloc ?_ _ | refine Ex.drew ?_)⟩
theorem isSeed_bd {s : Int} (h : isSeed s = true) : 0 ≤ s ∧ s ≤ 65535 := (inR_iff _ _ _).1 h
theorem behind_bd (s : Int) : 0 ≤ behind s ∧ behind s ≤ 65535 := by unfold behind; omega
theorem l4Behind_c (s : Int) (h0 : 0 ≤ s) (h1 : s ≤ 65535) (w : World) : Calls Try.prog 45 #[.int .i64 s] w fun e w' => e = .returned (.int .i64 (behind s)) ∧ Ex w w' := by
  go_enter Try.func45, Try.ntmps45
  go_wp2
  go_ret
  exact ⟨rfl, by repeat (first | exact Ex.refl _ | refine Ex.ext ?_ _ | refine Ex.alloc ?_ _ | refine Ex.drew ?_)⟩
theorem behind_c (s : Int) (h0 : 0 ≤ s) (h1 : s ≤ 65535) (w : World) : Calls Try.prog 47 #[.int .i64 s] w fun e w' => e = .returned (.int .i64 (behind s)) ∧ Ex w w' := by
  go_enter Try.func47, Try.ntmps47
  go_wp2
  go_ret
  exact ⟨rfl, by repeat (first | exact Ex.refl _ | refine Ex.ext ?_ _ | refine Ex.alloc ?_ _ | refine Ex.drew ?_)⟩
theorem specNextSeed_c (s : Int) (w : World) : Calls Try.prog 17 #[.int .i64 s] w fun e w' => e = .returned (.tuple #[.int .i64 (nextR s), .bool (isSeed s)]) ∧ Ex w w' := by
  cases h : isSeed s
  · go_enter Try.func17, Try.ntmps17
    go_wp2_with (first | (go_at_call 44; refine (l4Seed_c _ _).mono ?_; rintro e w' ⟨rfl, x, rfl⟩))
    go_ret2
    exact ⟨by simp [nextR, h], by repeat (first | exact Ex.refl _ | refine Ex.ext ?_ _ | refine Ex.alloc ?_ _ | refine Ex.drew ?_)⟩
  · have hb := isSeed_bd h
    go_enter Try.func17, Try.ntmps17
    go_wp2_with (first | (go_at_call 44; refine (l4Seed_c _ _).mono ?_; rintro e w' ⟨rfl, x, rfl⟩) | (go_at_call 45; refine (l4Behind_c _ hb.1 hb.2 _).mono ?_; rintro e w' ⟨rfl, x, rfl⟩))
    go_ret2
    exact ⟨by simp [nextR, h], by repeat (first | exact Ex.refl _ | refine Ex.ext ?_ _ | refine Ex.alloc ?_ _ | refine Ex.drew ?_)⟩
theorem implNextSeed_c (s : Int) (w : World) : Calls Try.prog 18 #[.int .i64 s] w fun e w' => e = .returned (.tuple #[.int .i64 (nextR s), .bool (isSeed s)]) ∧ Ex w w' := by
  cases h : isSeed s
  · go_enter Try.func18, Try.ntmps18
    go_wp2_with (first | (go_at_call 46; refine (isSeed_c _ _).mono ?_; rintro e w' ⟨rfl, x, rfl⟩))
    go_ret2
    exact ⟨by simp [nextR, h], by repeat (first | exact Ex.refl _ | refine Ex.ext ?_ _ | refine Ex.alloc ?_ _ | refine Ex.drew ?_)⟩
  · have hb := isSeed_bd h
    go_enter Try.func18, Try.ntmps18
    go_wp2_with (first | (go_at_call 46; refine (isSeed_c _ _).mono ?_; rintro e w' ⟨rfl, x, rfl⟩) | (go_at_call 47; refine (behind_c _ hb.1 hb.2 _).mono ?_; rintro e w' ⟨rfl, x, rfl⟩))
    go_ret2
    exact ⟨by simp [nextR, h], by repeat (first | exact Ex.refl _ | refine Ex.ext ?_ _ | refine Ex.alloc ?_ _ | refine Ex.drew ?_)⟩

theorem specLess_c (a b : ByteArray) (w : World) : Calls Try.prog 15 #[.string a, .string b] w fun e w' => e = .returned (.bool (Op.bytesLess a.toList b.toList)) ∧ Ex w w' := by
  go_enter Try.func15, Try.ntmps15
  go_wp2
  go_ret
  exact ⟨rfl, by repeat (first | exact Ex.refl _ | refine Ex.ext ?_ _ | refine Ex.alloc ?_ _ | refine Ex.drew ?_)⟩
theorem implLess_c (a b : ByteArray) (w : World) : Calls Try.prog 16 #[.string a, .string b] w fun e w' => e = .returned (.bool (Op.bytesLess a.toList b.toList)) ∧ Ex w w' := by
  go_enter Try.func16, Try.ntmps16
  go_wp2
  go_ret
  exact ⟨rfl, by repeat (first | exact Ex.refl _ | refine Ex.ext ?_ _ | refine Ex.alloc ?_ _ | refine Ex.drew ?_)⟩

theorem ck_bd (l : List UInt8) : 0 ≤ ck l ∧ ck l ≤ 999978 := by
  rcases List.eq_nil_or_concat l with rfl | ⟨l, c, rfl⟩
  · simp [ck]
  · rw [List.concat_eq_append, ck_snoc]; omega
theorem take_snoc (s : ByteArray) (k : Nat) (h : k < s.size) : s.data.toList.take (k + 1) = s.data.toList.take k ++ [s[k]] := by
  rw [List.take_succ_eq_append_getElem (by simpa using h)]; rfl
theorem take_all (s : ByteArray) : s.data.toList.take s.size = s.data.toList := by
  rw [List.take_of_length_le (by simp)]

set_option maxHeartbeats 400000 in
theorem l1Sum_c (s : ByteArray) (hs : s.size ≤ 1000000000000) (w : World) : Calls Try.prog 52 #[.string s] w fun e w' => e = .returned (.int .i64 (ck s.data.toList)) ∧ Ex w w' := by
  go_enter Try.func52, Try.ntmps52
  go_wp2
  go_loopw [3, 4] (fun n i wr => ∃ k : Nat, k ≤ s.size ∧ i = .int .i64 k ∧ n = .int .i64 (ck (s.data.toList.take k)) ∧ Ex w wr) (fun _ i _ => s.size - (intOf i).toNat)
  case atStart => exact ⟨0, Nat.zero_le _, rfl, rfl, Ex.refl _⟩
  case round =>
    obtain ⟨k, hk, rfl, rfl, ⟨x, rfl⟩⟩ := hrel
    have hd := ck_bd (s.data.toList.take k)
    by_cases hlt : k < s.size
    · have HS := Lib.hid (ck_snoc (s.data.toList.take k) s[k])
      have HT := Lib.hid (take_snoc s k hlt)
      generalize ck (s.data.toList.take k) = n at *
      have hc : s[k].toNat < 256 := s[k].toNat_lt
      go_wp2
      go_roundw
      case rel => exact ⟨k + 1, by omega, by go_num, by rw [HT.out, HS.out], by repeat (first | exact Ex.refl _ | refine Ex.ext ?_ _ | refine Ex.alloc ?_ _ | refine Ex.drew ?_)⟩
      case measure => simp [intOf]; omega
    · have : k = s.size := by omega
      subst this
      go_wp2
      go_ret
      exact ⟨ret_int (by rw [take_all]), by repeat (first | exact Ex.refl _ | refine Ex.ext ?_ _ | refine Ex.alloc ?_ _ | refine Ex.drew ?_)⟩

set_option maxHeartbeats 400000 in
theorem checksum_c (s : ByteArray) (hs : s.size ≤ 1000000000000) (w : World) : Calls Try.prog 53 #[.string s] w fun e w' => e = .returned (.int .i64 (ck s.data.toList)) ∧ Ex w w' := by
  go_enter Try.func53, Try.ntmps53
  go_wp2
  go_loopw [3, 7] (fun n i wr => ∃ k : Nat, k ≤ s.size ∧ i = .int .i64 k ∧ n = .int .i64 (ck (s.data.toList.take k)) ∧ Ex w wr) (fun _ i _ => s.size - (intOf i).toNat)
  case atStart => exact ⟨0, Nat.zero_le _, rfl, rfl, Ex.refl _⟩
  case round =>
    obtain ⟨k, hk, rfl, rfl, ⟨x, rfl⟩⟩ := hrel
    have hd := ck_bd (s.data.toList.take k)
    by_cases hlt : k < s.size
    · have HS := Lib.hid (ck_snoc (s.data.toList.take k) s[k])
      have HT := Lib.hid (take_snoc s k hlt)
      generalize ck (s.data.toList.take k) = n at *
      have hc : s[k].toNat < 256 := s[k].toNat_lt
      go_wp2
      go_roundw
      case rel => exact ⟨k + 1, by omega, by go_num, by rw [HT.out, HS.out], by repeat (first | exact Ex.refl _ | refine Ex.ext ?_ _ | refine Ex.alloc ?_ _ | refine Ex.drew ?_)⟩
      case measure => simp [intOf]; omega
    · have : k = s.size := by omega
      subst this
      go_wp2
      go_ret
      exact ⟨ret_int (by rw [take_all]), by repeat (first | exact Ex.refl _ | refine Ex.ext ?_ _ | refine Ex.alloc ?_ _ | refine Ex.drew ?_)⟩

def ckOk (s : ByteArray) : Bool := decide (s.size ≤ 4000)
def ckR (s : ByteArray) : Int := if ckOk s then ck s.data.toList else 0
theorem specChecksum_c (s : ByteArray) (hs : s.size ≤ 1000000000000) (w : World) : Calls Try.prog 22 #[.string s] w fun e w' => e = .returned (.tuple #[.int .i64 (ckR s), .bool (ckOk s)]) ∧ Ex w w' := by
  by_cases h : s.size ≤ 4000
  all_goals
    go_enter Try.func22, Try.ntmps22
    go_wp2_with (first | (go_at_call 52; refine (l1Sum_c _ hs _).mono ?_; rintro e w' ⟨rfl, x, rfl⟩))
    go_ret2
    exact ⟨by simp [ckR, ckOk, h], by repeat (first | exact Ex.refl _ | refine Ex.ext ?_ _ | refine Ex.alloc ?_ _ | refine Ex.drew ?_)⟩
theorem implChecksum_c (s : ByteArray) (hs : s.size ≤ 1000000000000) (w : World) : Calls Try.prog 23 #[.string s] w fun e w' => e = .returned (.tuple #[.int .i64 (ckR s), .bool (ckOk s)]) ∧ Ex w w' := by
  by_cases h : s.size ≤ 4000
  all_goals
    go_enter Try.func23, Try.ntmps23
    go_wp2_with (first | (go_at_call 53; refine (checksum_c _ hs _).mono ?_; rintro e w' ⟨rfl, x, rfl⟩))
    go_ret2
    exact ⟨by simp [ckR, ckOk, h], by repeat (first | exact Ex.refl _ | refine Ex.ext ?_ _ | refine Ex.alloc ?_ _ | refine Ex.drew ?_)⟩
end Go.Proofs.Ytfpnbcaleagijaa
