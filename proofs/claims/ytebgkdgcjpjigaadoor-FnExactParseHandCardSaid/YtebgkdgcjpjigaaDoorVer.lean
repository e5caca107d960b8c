/- VerifyChecksum: the walks. -/
import Derived.Test.YtebgkdgcjpjigaaDoorVerP
namespace Go.Proofs.YtebgkdgcjpjigaaDoor
set_option linter.unusedSimpArgs false
set_option linter.unusedVariables false
set_option maxHeartbeats 1000000
set_option maxRecDepth 100000
open Go.RowKit

theorem row_strs {lo g cap n : Nat} {w : World} {xs : List ByteArray} (h : RowV 9 1 lo w g cap n (strVals xs)) (hn : xs.length = n) : SlS w (some ⟨g, 0, none⟩) xs := fun i hi => by
  rcases h.2 with ⟨h1, h2⟩ | ⟨g', cap', cur, h1, h2, h3, h4, h5, h6, h7⟩
  · simp at h1
  · simp at h1
    obtain ⟨rfl, rfl⟩ := h1
    refine ⟨g, 0, rfl, lt_of_block h3, ?_⟩
    have e : cur[i]? = (strVals xs)[i]? := by rw [← h7, List.getElem?_take, if_pos (by omega), Array.getElem?_toList]
    simp only [World.cell?, h3, Nat.zero_add]
    rw [show (strVals xs)[i]? = some (.string xs[i]) by simp [strVals, hi]] at e
    simpa using e
theorem str_eq (a b : ByteArray) : (a.toList == b.toList) = decide (a = b) := by
  rw [Bool.eq_iff_iff, beq_iff_eq, decide_eq_true_iff]
  constructor
  · intro h
    rw [ByteArray.toList_eq, ByteArray.toList_eq] at h
    exact bytes_eq h
  · intro h; rw [h]
theorem vcR_yes {s : ByteArray} (h : vcB s = true) : vcR s = headT s 35 := by unfold vcR; rw [if_pos h]
theorem vcR_no {s : ByteArray} (h : vcB s = false) : vcR s = ⟨#[]⟩ := by unfold vcR; rw [h]; rfl
theorem l1Split_head (s : ByteArray) (c : UInt8) (hs : s.size ≤ 1048576) (w : World) :
    Calls Tryd.prog 33 #[.string s, .int .u8 (c.toNat : Int)] w fun e w' => ∃ g n cap', e = .returned (.slice (some ⟨g, 0, none⟩) n cap') ∧ Ex w w' ∧ 0 < n ∧ w'.cell? ⟨g, 0, none⟩ = some (.string (headT s c)) := by
  refine (l1Split_c s c hs w).mono ?_
  rintro e w' ⟨g, cap', rfl, hx, hr⟩
  have h1 := (spI_len s c s.size 0 0).2
  have h2 := spI_head s c
  obtain ⟨b, o, he, hb, hc⟩ := row_strs hr rfl 0 (by omega)
  simp at he
  obtain ⟨rfl, rfl⟩ := he
  refine ⟨g, _, cap', rfl, hx, by omega, ?_⟩
  rw [List.getElem?_eq_getElem (by omega)] at h2
  rw [← Option.some.inj h2]
  exact hc
theorem l1Split_35 {s t : ByteArray} (ht : headT s 35 = t) (hs : s.size ≤ 1048576) (w : World) :
    Calls Tryd.prog 33 #[.string s, .int .u8 35] w fun e w' => ∃ g n cap', e = .returned (.slice (some ⟨g, 0, none⟩) n cap') ∧ Ex w w' ∧ 0 < n ∧ w'.cell? ⟨g, 0, none⟩ = some (.string t) := by
  subst ht; exact l1Split_head s 35 hs w
theorem specVerifyChecksum_c (s : ByteArray) (hs : s.size ≤ 1048576) (w : World) : Calls Tryd.prog 25 #[.string s] w fun e w' => e = .returned (.tuple #[.string (vcR s), .bool (vcB s)]) ∧ Ex w w' := by
  by_cases h1 : s.size ≤ 4000
  · have hsz := head_size s 35
    obtain ⟨t, ht⟩ : ∃ t, headT s 35 = t := ⟨_, rfl⟩
    rw [ht] at hsz
    obtain ⟨z, hz⟩ : ∃ z, sealT t = z := ⟨_, rfl⟩
    have hvb : vcB s = decide (z = s) := by unfold vcB; rw [ht, hz, decide_eq_true h1]; rfl
    have hse := str_eq z s
    have Hsp := Lib.hid (fun w => l1Split_35 ht hs w)
    have Hz := Lib.hid (fun w => l1Seal_q hz (by omega) w)
    cases hd : decide (z = s)
    all_goals rw [hd] at hvb hse
    · rw [vcR_no hvb, hvb]
      clear hvb hd ht hz
      go_enter Tryd.func25, Tryd.ntmps25
      go_wp2_with (first | (go_at_call 33; refine (Hsp.out _).mono ?_; rintro e w1 ⟨g, n, cap, rfl, hx1, hn1, hc1⟩) | (go_at_call 42; refine (Hz.out _).mono ?_; rintro e w2 ⟨rfl, hx2⟩))
      go_ret2
      exact ⟨rfl, hx1.trans hx2⟩
    · rw [vcR_yes hvb, hvb, ht]
      clear hvb hd ht hz
      go_enter Tryd.func25, Tryd.ntmps25
      go_wp2_with (first | (go_at_call 33; refine (Hsp.out _).mono ?_; rintro e w1 ⟨g, n, cap, rfl, hx1, hn1, hc1⟩) | (go_at_call 42; refine (Hz.out _).mono ?_; rintro e w2 ⟨rfl, hx2⟩))
      go_ret2
      exact ⟨rfl, hx1.trans hx2⟩
  · have hB : vcB s = false := by simp [vcB, h1]
    rw [vcR_no hB, hB]
    clear hB
    go_enter Tryd.func25, Tryd.ntmps25
    go_wp2
    go_ret2
    exact ⟨rfl, by repeat (first | exact Ex.refl _ | refine Ex.ext ?_ _ | refine Ex.alloc ?_ _ | refine Ex.drew ?_)⟩
/-- The library's own variable holds some number, and goes on so. -/
def MaxP (W : World) : Prop := ∃ m, W.cell? ⟨2, 0, none⟩ = some (.int .i64 m)
theorem MaxP.below {W w : World} (h : MaxP W) (hb : Below W.heap.size W w) : MaxP w := by
  obtain ⟨m, hm⟩ := h
  exact ⟨m, by rw [hb.cell (World.block_lt_of_cell? _ _ hm)]; exact hm⟩
theorem cut_c {s : ByteArray} (hs : s.size ≤ 1048576) {w : World} (hM : MaxP w) : Calls Tryd.prog 45 #[.string s, .string ⟨#[35]⟩] w fun e w' => ∃ b c, e = .returned (.tuple #[.string (headT s 35), .string b, .bool c]) ∧ Ex w w' := by
  obtain ⟨m, hm⟩ := hM
  refine (Tryd.strings_Cut s ⟨#[35]⟩ m w (by omega) hm).mono ?_
  rintro e w' ⟨rfl, n, rfl⟩
  have e1 : (⟨(Lib.cut s.data.toList (⟨#[35]⟩ : ByteArray).data.toList).1.toArray⟩ : ByteArray) = headT s 35 := by
    unfold headT
    rw [← take_while_cut]
  rw [e1]
  exact ⟨_, _, rfl, Ex.of_below ⟨rfl, rfl, rfl, Nat.le_refl _, fun _ _ => rfl⟩⟩
theorem implVerifyChecksum_c (s : ByteArray) (hs : s.size ≤ 1048576) (w : World) {W : World} (hT : TabP W) (hM : MaxP W) (hE : Below W.heap.size W w) : Calls Tryd.prog 26 #[.string s] w fun e w' => e = .returned (.tuple #[.string (vcR s), .bool (vcB s)]) ∧ Ex w w' := by
  have HT := Lib.hid hT
  have HE := Lib.hid hE
  have HM := Lib.hid (hM.below hE)
  have hvb := vc_impl s
  have hsz := head_size s 35
  clear hT hE hM
  have HC := Lib.hid (cut_c hs HM.out)
  obtain ⟨t, ht⟩ : ∃ t, headT s 35 = t := ⟨_, rfl⟩
  rw [ht] at hvb hsz HC
  have HA := Lib.hid (fun w' (h : Below W.heap.size W w') => implAppendChecksum_c t (by omega) w' HT.out h)
  obtain ⟨z, hz⟩ : ∃ z, acR t = z := ⟨_, rfl⟩
  obtain ⟨r, hr⟩ : ∃ r, acB t = r := ⟨_, rfl⟩
  rw [hz] at HA hvb
  rw [hr] at HA hvb
  have hse := str_eq z s
  cases r
  · have hB : vcB s = false := hvb
    rw [vcR_no hB, hB]
    clear hB hvb hr hz ht
    go_enter Tryd.func26, Tryd.ntmps26
    go_wp2_with (first | (go_at_call 45; refine HC.out.mono ?_; rintro e w1 ⟨b1, c1, rfl, hx1⟩; have hB1 := below_ex HE.out hx1) | (go_at_call 24; refine (HA.out _ hB1).mono ?_; rintro e w2 ⟨rfl, hx2⟩))
    go_ret2
    exact ⟨rfl, hx1.trans hx2⟩
  · cases hd : decide (z = s)
    all_goals rw [hd] at hvb hse
    · have hB : vcB s = false := hvb
      rw [vcR_no hB, hB]
      clear hB hvb hr hz ht hd
      go_enter Tryd.func26, Tryd.ntmps26
      go_wp2_with (first | (go_at_call 45; refine HC.out.mono ?_; rintro e w1 ⟨b1, c1, rfl, hx1⟩; have hB1 := below_ex HE.out hx1) | (go_at_call 24; refine (HA.out _ hB1).mono ?_; rintro e w2 ⟨rfl, hx2⟩))
      go_ret2
      exact ⟨rfl, hx1.trans hx2⟩
    · have hB : vcB s = true := hvb
      rw [vcR_yes hB, hB, ht]
      clear hB hvb hr hz ht hd
      go_enter Tryd.func26, Tryd.ntmps26
      go_wp2_with (first | (go_at_call 45; refine HC.out.mono ?_; rintro e w1 ⟨b1, c1, rfl, hx1⟩; have hB1 := below_ex HE.out hx1) | (go_at_call 24; refine (HA.out _ hB1).mono ?_; rintro e w2 ⟨rfl, hx2⟩))
      go_ret2
      exact ⟨rfl, hx1.trans hx2⟩
theorem fnExactVerifyChecksum_walk (s : ByteArray) (hl : s.size ≤ maxLen) (w : World) (hT : TabP w ∧ MaxP w) : Calls Tryd.prog 8 #[.string s] w fun e w' => e = .returned (.bool true) ∧ Below w.heap.size w w' := by
  have HT := Lib.hid hT
  clear hT
  by_cases hs : s.size ≤ 1048576
  · have HS := Lib.hid (fun w => specVerifyChecksum_c s hs w)
    have HI := Lib.hid (fun w' (h : Below w.heap.size w w') => implVerifyChecksum_c s hs w' HT.out.1 HT.out.2 h)
    have hsl : ((vcR s).toList == (vcR s).toList) = true := beq_self_eq_true _
    generalize vcR s = r at *
    generalize vcB s = b at *
    go_enter Tryd.func8, Tryd.ntmps8
    go_wp2_with (first | (go_at_call 25; refine (HS.out _).mono ?_; rintro e w1 ⟨rfl, hx1⟩; have hB1 := hx1.below) | (go_at_call 26; refine (HI.out _ hB1).mono ?_; rintro e w2 ⟨rfl, hx2⟩; have hE2 := hx1.trans hx2))
    go_ret
    exact ⟨rfl, hE2.below⟩
  · go_enter Tryd.func8, Tryd.ntmps8
    go_wp2
    go_ret
    exact ⟨rfl, (Ex.refl w).below⟩
end Go.Proofs.YtebgkdgcjpjigaaDoor
