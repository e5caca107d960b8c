/- ParseInt: the walk of the reference's reading. -/
import Derived.Test.YtebgkdgcjpjigaaDoorReadP
import Derived.Test.YtebgkdgcjpjigaaDoorVer
namespace Go.Proofs.YtebgkdgcjpjigaaDoor
set_option linter.unusedSimpArgs false
set_option linter.unusedVariables false
set_option maxHeartbeats 1000000
set_option maxRecDepth 100000
open Go.RowKit

theorem dig_yes {b : UInt8} (h1 : 48 ≤ b.toNat) (h2 : b.toNat ≤ 57) : Lib.digitVal b = some (b.toNat - 48) := by unfold Lib.digitVal; rw [if_pos ⟨h1, h2⟩]
theorem dig_no {b : UInt8} (h : b.toNat < 48 ∨ 57 < b.toNat) : Lib.digitVal b = none := by unfold Lib.digitVal; rw [if_neg (by omega)]
theorem dN_bad {T : ByteArray} {k : Nat} (hk : k < T.size) (h : T[k].toNat < 48 ∨ 57 < T[k].toNat) : dN T = none := by
  unfold dN
  split
  · cases hd : Lib.decFrom 0 T.data.toList with
    | none => rfl
    | some n =>
      obtain ⟨d, hdd⟩ := Lib.digit_of_decFrom _ _ _ hd k T[k] (by rw [List.getElem?_eq_getElem (by rw [← size_len]; exact hk)]; rfl)
      rw [dig_no h] at hdd; simp at hdd
  · rfl
theorem rdV_of {s T : ByteArray} (hT : tOf s = T) : rdV s = match dN T with
    | some n => fin s (if T.size < s.size then -(n : Int) else n)
    | none => none := by rw [← hT]; rfl
theorem fin_yes {s : ByteArray} {v : Int} (h : decide (txt v = s) = true) : fin s v = some v := by unfold fin; rw [if_pos (of_decide_eq_true h)]
theorem fin_no {s : ByteArray} {v : Int} (h : decide (txt v = s) = false) : fin s v = none := by unfold fin; rw [if_neg (of_decide_eq_false h)]

theorem l1Read_A (s : ByteArray) (hs : s.size ≤ 1048576) (h1 : s.size ≤ 1) (hTo : tOf s = s) (w : World) : Calls Tryd.prog 31 #[.string s] w fun e w' => e = .returned (.tuple #[.int .i64 ((rdV s).getD 0), .bool (rdV s).isSome]) ∧ Ex w w' := by
  have Hr := Lib.hid (rdV_of hTo)
  clear hTo
  cases hin : inR (s.size : Int) 1 6
  · have hb := (inR_false _ _ _).1 hin
    have hR : rdV s = none := by rw [Hr.out, dN, if_neg (by omega)]
    rw [hR]
    clear hb hR
    go_enter Tryd.func31, Tryd.ntmps31
    go_wp2_with (go_at_call 27; refine (l1In_c _ _ _ _).mono ?_; rintro e w' ⟨rfl, x, rfl⟩; rw [hin])
    go_ret2
    exact ⟨rfl, by repeat (first | exact Ex.refl _ | refine Ex.ext ?_ _ | refine Ex.alloc ?_ _ | refine Ex.drew ?_)⟩
  · have hb := (inR_iff _ _ _).1 hin
    have hT1 : 1 ≤ s.size := by omega
    have hT6 : s.size ≤ 6 := by omega
    have Hdn := Lib.hid (show dN s = Lib.decFrom 0 s.data.toList by rw [dN, if_pos ⟨hT1, hT6⟩])
    go_enter Tryd.func31, Tryd.ntmps31
    go_wp2_with (go_at_call 27; refine (l1In_c _ _ _ _).mono ?_; rw [hin]; rintro e w1 ⟨rfl, hx1⟩)
    go_loopw [5, 6] (fun u v wr => ∃ (k a : Nat), k ≤ s.size ∧ v = .int .i64 k ∧ u = .int .i64 a ∧ Lib.decFrom 0 (s.data.toList.take k) = some a ∧ Ex w wr) (fun _ v _ => s.size - (intOf v).toNat)
    case atStart => exact ⟨0, 0, Nat.zero_le _, rfl, rfl, rfl, hx1⟩
    case round =>
      obtain ⟨k, a, hk, rfl, rfl, hd, hE⟩ := hrel
      have ha : a < 1000000 := by
        have h1 := decFrom_lt _ _ _ hd
        have h2 : (s.data.toList.take k).length ≤ 6 := by rw [List.length_take]; omega
        have h3 : 10 ^ (s.data.toList.take k).length ≤ 10 ^ 6 := Nat.pow_le_pow_right (by omega) h2
        omega
      have Hd := Lib.hid hd
      clear hd
      by_cases hlt : k < s.size
      · have hcb : s[k].toNat < 256 := s[k].toNat_lt
        have hget : s.data.toList[k]? = some s[k] := by rw [List.getElem?_eq_getElem (by rw [← size_len]; exact hlt)]; rfl
        by_cases h48 : 48 ≤ s[k].toNat
        · by_cases h57 : s[k].toNat ≤ 57
          · have Hst := Lib.hid (Lib.decFrom_take _ _ _ _ _ _ Hd.out hget (dig_yes h48 h57))
            clear hget
            go_wp2
            go_roundw
            case rel =>
              (try ((repeat apply Exists.intro); refine ⟨?_, rfl⟩))
              refine ⟨k + 1, a * 10 + (s[k].toNat - 48), by omega, by go_num, ?_, Hst.out, hE⟩
              congr 1
              omega
            case measure => simp [intOf]; omega
          · have hR : rdV s = none := by rw [Hr.out, dN_bad hlt (by omega)]
            clear hget
            go_wp2
            go_ret2
            try rw [hR]
            exact ⟨rfl, hE⟩
        · have hR : rdV s = none := by rw [Hr.out, dN_bad hlt (by omega)]
          clear hget
          go_wp2
          go_ret2
          try rw [hR]
          exact ⟨rfl, hE⟩
      · have : k = s.size := by omega
        subst this
        obtain ⟨n, rfl⟩ : ∃ n, n = a := ⟨a, rfl⟩
        have hall : dN s = some n := by
          rw [Hdn.out]
          have e := Hd.out
          rw [List.take_of_length_le (by rw [← size_len]; omega)] at e
          exact e
        have Hrv := Lib.hid (show rdV s = fin s ((n : Int)) by rw [Hr.out, hall]; show fin s (if _ then _ else _) = _; rw [if_neg (by omega)])
        have hse := str_eq (txt ((n : Int))) s
        have Ht := Lib.hid (fun w => l1Num_c ((n : Int)) (by omega) (by omega) w)
        clear hall
        cases hd : decide (txt ((n : Int)) = s)
        all_goals rw [hd] at hse
        · have hR : rdV s = none := by rw [Hrv.out, fin_no hd]
          clear hd
          generalize txt ((n : Int)) = z at *
          go_wp2_with (go_at_call 28; refine (Ht.out _).mono ?_; rintro e w3 ⟨rfl, hx3⟩)
          go_ret2
          try rw [hR]
          exact ⟨rfl, hE.trans hx3⟩
        · have hR : rdV s = some ((n : Int)) := by rw [Hrv.out, fin_yes hd]
          clear hd
          generalize txt ((n : Int)) = z at *
          go_wp2_with (go_at_call 28; refine (Ht.out _).mono ?_; rintro e w3 ⟨rfl, hx3⟩)
          go_ret2
          try rw [hR]
          exact ⟨rfl, hE.trans hx3⟩

theorem l1Read_B (s : ByteArray) (hs : s.size ≤ 1048576) (h1 : 1 < s.size) (h2 : ¬ ((s[0].toNat : Nat) : Int) = 45) (hTo : tOf s = s) (w : World) : Calls Tryd.prog 31 #[.string s] w fun e w' => e = .returned (.tuple #[.int .i64 ((rdV s).getD 0), .bool (rdV s).isSome]) ∧ Ex w w' := by
  have Hr := Lib.hid (rdV_of hTo)
  clear hTo
  cases hin : inR (s.size : Int) 1 6
  · have hb := (inR_false _ _ _).1 hin
    have hR : rdV s = none := by rw [Hr.out, dN, if_neg (by omega)]
    rw [hR]
    clear hb hR
    go_enter Tryd.func31, Tryd.ntmps31
    go_wp2_with (go_at_call 27; refine (l1In_c _ _ _ _).mono ?_; rintro e w' ⟨rfl, x, rfl⟩; rw [hin])
    go_ret2
    exact ⟨rfl, by repeat (first | exact Ex.refl _ | refine Ex.ext ?_ _ | refine Ex.alloc ?_ _ | refine Ex.drew ?_)⟩
  · have hb := (inR_iff _ _ _).1 hin
    have hT1 : 1 ≤ s.size := by omega
    have hT6 : s.size ≤ 6 := by omega
    have Hdn := Lib.hid (show dN s = Lib.decFrom 0 s.data.toList by rw [dN, if_pos ⟨hT1, hT6⟩])
    go_enter Tryd.func31, Tryd.ntmps31
    go_wp2_with (go_at_call 27; refine (l1In_c _ _ _ _).mono ?_; rw [hin]; rintro e w1 ⟨rfl, hx1⟩)
    go_loopw [5, 6] (fun u v wr => ∃ (k a : Nat), k ≤ s.size ∧ v = .int .i64 k ∧ u = .int .i64 a ∧ Lib.decFrom 0 (s.data.toList.take k) = some a ∧ Ex w wr) (fun _ v _ => s.size - (intOf v).toNat)
    case atStart => exact ⟨0, 0, Nat.zero_le _, rfl, rfl, rfl, hx1⟩
    case round =>
      obtain ⟨k, a, hk, rfl, rfl, hd, hE⟩ := hrel
      have ha : a < 1000000 := by
        have h1 := decFrom_lt _ _ _ hd
        have h2 : (s.data.toList.take k).length ≤ 6 := by rw [List.length_take]; omega
        have h3 : 10 ^ (s.data.toList.take k).length ≤ 10 ^ 6 := Nat.pow_le_pow_right (by omega) h2
        omega
      have Hd := Lib.hid hd
      clear hd
      by_cases hlt : k < s.size
      · have hcb : s[k].toNat < 256 := s[k].toNat_lt
        have hget : s.data.toList[k]? = some s[k] := by rw [List.getElem?_eq_getElem (by rw [← size_len]; exact hlt)]; rfl
        by_cases h48 : 48 ≤ s[k].toNat
        · by_cases h57 : s[k].toNat ≤ 57
          · have Hst := Lib.hid (Lib.decFrom_take _ _ _ _ _ _ Hd.out hget (dig_yes h48 h57))
            clear hget
            go_wp2
            go_roundw
            case rel =>
              (try ((repeat apply Exists.intro); refine ⟨?_, rfl⟩))
              refine ⟨k + 1, a * 10 + (s[k].toNat - 48), by omega, by go_num, ?_, Hst.out, hE⟩
              congr 1
              omega
            case measure => simp [intOf]; omega
          · have hR : rdV s = none := by rw [Hr.out, dN_bad hlt (by omega)]
            clear hget
            go_wp2
            go_ret2
            try rw [hR]
            exact ⟨rfl, hE⟩
        · have hR : rdV s = none := by rw [Hr.out, dN_bad hlt (by omega)]
          clear hget
          go_wp2
          go_ret2
          try rw [hR]
          exact ⟨rfl, hE⟩
      · have : k = s.size := by omega
        subst this
        obtain ⟨n, rfl⟩ : ∃ n, n = a := ⟨a, rfl⟩
        have hall : dN s = some n := by
          rw [Hdn.out]
          have e := Hd.out
          rw [List.take_of_length_le (by rw [← size_len]; omega)] at e
          exact e
        have Hrv := Lib.hid (show rdV s = fin s ((n : Int)) by rw [Hr.out, hall]; show fin s (if _ then _ else _) = _; rw [if_neg (by omega)])
        have hse := str_eq (txt ((n : Int))) s
        have Ht := Lib.hid (fun w => l1Num_c ((n : Int)) (by omega) (by omega) w)
        clear hall
        cases hd : decide (txt ((n : Int)) = s)
        all_goals rw [hd] at hse
        · have hR : rdV s = none := by rw [Hrv.out, fin_no hd]
          clear hd
          generalize txt ((n : Int)) = z at *
          go_wp2_with (go_at_call 28; refine (Ht.out _).mono ?_; rintro e w3 ⟨rfl, hx3⟩)
          go_ret2
          try rw [hR]
          exact ⟨rfl, hE.trans hx3⟩
        · have hR : rdV s = some ((n : Int)) := by rw [Hrv.out, fin_yes hd]
          clear hd
          generalize txt ((n : Int)) = z at *
          go_wp2_with (go_at_call 28; refine (Ht.out _).mono ?_; rintro e w3 ⟨rfl, hx3⟩)
          go_ret2
          try rw [hR]
          exact ⟨rfl, hE.trans hx3⟩

theorem l1Read_C (s T : ByteArray) (hs : s.size ≤ 1048576) (h1 : 1 < s.size) (h2 : ((s[0].toNat : Nat) : Int) = 45) (hT : s.extract 1 s.size = T) (hTl : T.size < s.size) (hTo : tOf s = T) (w : World) : Calls Tryd.prog 31 #[.string s] w fun e w' => e = .returned (.tuple #[.int .i64 ((rdV s).getD 0), .bool (rdV s).isSome]) ∧ Ex w w' := by
  have Hr := Lib.hid (rdV_of hTo)
  clear hTo
  cases hin : inR (T.size : Int) 1 6
  · have hb := (inR_false _ _ _).1 hin
    have hR : rdV s = none := by rw [Hr.out, dN, if_neg (by omega)]
    rw [hR]
    clear hb hR
    go_enter Tryd.func31, Tryd.ntmps31
    go_wp2_with (go_at_call 27; refine (l1In_c _ _ _ _).mono ?_; rintro e w' ⟨rfl, x, rfl⟩; rw [hin])
    go_ret2
    exact ⟨rfl, by repeat (first | exact Ex.refl _ | refine Ex.ext ?_ _ | refine Ex.alloc ?_ _ | refine Ex.drew ?_)⟩
  · have hb := (inR_iff _ _ _).1 hin
    have hT1 : 1 ≤ T.size := by omega
    have hT6 : T.size ≤ 6 := by omega
    have Hdn := Lib.hid (show dN T = Lib.decFrom 0 T.data.toList by rw [dN, if_pos ⟨hT1, hT6⟩])
    go_enter Tryd.func31, Tryd.ntmps31
    go_wp2_with (go_at_call 27; refine (l1In_c _ _ _ _).mono ?_; rw [hin]; rintro e w1 ⟨rfl, hx1⟩)
    go_loopw [5, 6] (fun u v wr => ∃ (k a : Nat), k ≤ T.size ∧ v = .int .i64 k ∧ u = .int .i64 a ∧ Lib.decFrom 0 (T.data.toList.take k) = some a ∧ Ex w wr) (fun _ v _ => T.size - (intOf v).toNat)
    case atStart => exact ⟨0, 0, Nat.zero_le _, rfl, rfl, rfl, hx1⟩
    case round =>
      obtain ⟨k, a, hk, rfl, rfl, hd, hE⟩ := hrel
      have ha : a < 1000000 := by
        have h1 := decFrom_lt _ _ _ hd
        have h2 : (T.data.toList.take k).length ≤ 6 := by rw [List.length_take]; omega
        have h3 : 10 ^ (T.data.toList.take k).length ≤ 10 ^ 6 := Nat.pow_le_pow_right (by omega) h2
        omega
      have Hd := Lib.hid hd
      clear hd
      by_cases hlt : k < T.size
      · have hcb : T[k].toNat < 256 := T[k].toNat_lt
        have hget : T.data.toList[k]? = some T[k] := by rw [List.getElem?_eq_getElem (by rw [← size_len]; exact hlt)]; rfl
        by_cases h48 : 48 ≤ T[k].toNat
        · by_cases h57 : T[k].toNat ≤ 57
          · have Hst := Lib.hid (Lib.decFrom_take _ _ _ _ _ _ Hd.out hget (dig_yes h48 h57))
            clear hget
            go_wp2
            go_roundw
            case rel =>
              (try ((repeat apply Exists.intro); refine ⟨?_, rfl⟩))
              refine ⟨k + 1, a * 10 + (T[k].toNat - 48), by omega, by go_num, ?_, Hst.out, hE⟩
              congr 1
              omega
            case measure => simp [intOf]; omega
          · have hR : rdV s = none := by rw [Hr.out, dN_bad hlt (by omega)]
            clear hget
            go_wp2
            go_ret2
            try rw [hR]
            exact ⟨rfl, hE⟩
        · have hR : rdV s = none := by rw [Hr.out, dN_bad hlt (by omega)]
          clear hget
          go_wp2
          go_ret2
          try rw [hR]
          exact ⟨rfl, hE⟩
      · have : k = T.size := by omega
        subst this
        obtain ⟨n, rfl⟩ : ∃ n, n = a := ⟨a, rfl⟩
        have hall : dN T = some n := by
          rw [Hdn.out]
          have e := Hd.out
          rw [List.take_of_length_le (by rw [← size_len]; omega)] at e
          exact e
        have Hrv := Lib.hid (show rdV s = fin s (-(n : Int)) by rw [Hr.out, hall]; show fin s (if _ then _ else _) = _; rw [if_pos (by omega)])
        have hse := str_eq (txt (-(n : Int))) s
        have Ht := Lib.hid (fun w => l1Num_c (-(n : Int)) (by omega) (by omega) w)
        clear hall
        cases hd : decide (txt (-(n : Int)) = s)
        all_goals rw [hd] at hse
        · have hR : rdV s = none := by rw [Hrv.out, fin_no hd]
          clear hd
          generalize txt (-(n : Int)) = z at *
          go_wp2_with (go_at_call 28; refine (Ht.out _).mono ?_; rintro e w3 ⟨rfl, hx3⟩)
          go_ret2
          try rw [hR]
          exact ⟨rfl, hE.trans hx3⟩
        · have hR : rdV s = some (-(n : Int)) := by rw [Hrv.out, fin_yes hd]
          clear hd
          generalize txt (-(n : Int)) = z at *
          go_wp2_with (go_at_call 28; refine (Ht.out _).mono ?_; rintro e w3 ⟨rfl, hx3⟩)
          go_ret2
          try rw [hR]
          exact ⟨rfl, hE.trans hx3⟩

theorem l1Read_c (s : ByteArray) (hs : s.size ≤ 1048576) (w : World) : Calls Tryd.prog 31 #[.string s] w fun e w' => e = .returned (.tuple #[.int .i64 ((rdV s).getD 0), .bool (rdV s).isSome]) ∧ Ex w w' := by
  by_cases h1 : 1 < s.size
  · have hg : s[0]! = s[0] := getElem!_pos s 0 (by omega)
    by_cases h2 : s[0] = 45
    · refine l1Read_C s _ hs h1 (by rw [h2]; rfl) rfl ?_ ?_ w
      · rw [size_len (s.extract 1 s.size), Lib.extract_data]
        simp; omega
      · unfold tOf; rw [if_pos ⟨h1, by rw [hg]; exact h2⟩]
    · refine l1Read_B s hs h1 (fun e => h2 (UInt8.toNat_inj.1 (by have : (45 : UInt8).toNat = 45 := rfl; omega))) ?_ w
      unfold tOf; rw [if_neg (fun e => h2 (by rw [← hg]; exact e.2))]
  · exact l1Read_A s hs (by omega) (by unfold tOf; rw [if_neg (fun e => h1 e.1)]) w
end Go.Proofs.YtebgkdgcjpjigaaDoor
