/- ParseHand: the walks of the reading of one card. -/
import Derived.Test.YtebgkdgcjpjigaaDoorPhP
import Derived.Test.YtebgkdgcjpjigaaDoorHand2
import Derived.Test.YtebgkdgcjpjigaaDoorPile
import Derived.Test.YtebgkdgcjpjigaaDoorSplit
namespace Go.Proofs.YtebgkdgcjpjigaaDoor
set_option linter.unusedSimpArgs false
set_option linter.unusedVariables false
set_option maxHeartbeats 1000000
set_option maxRecDepth 100000
open Go.RowKit

theorem readCard_c (s : ByteArray) (w : World) : Calls Tryd.prog 52 #[.string s] w fun e w' => ∃ c, e = .returned (.tuple #[.agg #[.int .i64 c.a, .int .i64 c.b, .int .i64 c.c, .int .i64 c.d], .bool (rdB s)]) ∧ Ex w w' ∧ (rdB s = true → c = cc s) := by
  by_cases h4 : s.size = 4
  · have g0 : s[0]! = s[0] := getElem!_pos s 0 (by omega)
    have g1 : s[1]! = s[1] := getElem!_pos s 1 (by omega)
    have g2 : s[2]! = s[2] := getElem!_pos s 2 (by omega)
    have g3 : s[3]! = s[3] := getElem!_pos s 3 (by omega)
    have hcc : cc s = ⟨(s[0].toNat : Int) - 48, (s[1].toNat : Int) - 48, (s[2].toNat : Int) - 48, (s[3].toNat : Int) - 48⟩ := by unfold cc; rw [g0, g1, g2, g3]
    have b0 : s[0].toNat < 256 := s[0].toNat_lt
    have b1 : s[1].toNat < 256 := s[1].toNat_lt
    have b2 : s[2].toNat < 256 := s[2].toNat_lt
    have b3 : s[3].toNat < 256 := s[3].toNat_lt
    have HB := Lib.hid (rdB_four h4)
    have HC := Lib.hid hcc
    clear hcc g0 g1 g2 g3
    have hs4 : (s.size : Int) = 4 := by omega
    go_enter Tryd.func52, Tryd.ntmps52
    go_wp2
    refine wp_loop_rounds 5 ?_
    iterate 5 (all_goals (try rw [rounds_succ]); go_wp2_with fail)
    go_wp2_with (refine region_tail 3 (by kernel_rfl) (by kernel_rfl) ?_; simp only [List.take_succ_cons, List.take_zero, List.drop_succ_cons, List.drop_zero]; (repeat (go_big_quiet_step ((go_at_call 53; exact (implIsCard_c (⟨(s[0].toNat : Int) - 48, (s[1].toNat : Int) - 48, (s[2].toNat : Int) - 48, (s[3].toNat : Int) - 48⟩ : C4) _).mono (by rintro e w' ⟨rfl, y, rfl⟩; first | exact ⟨rfl, _, ext_ext _ _⟩ | exact ⟨rfl, _, by rw [ext_ext, Ext.app_assoc]⟩ | exact ⟨rfl, _, by rw [ext_ext, Ext.app_assoc, Ext.app_assoc]⟩ | exact ⟨rfl, _, by rw [ext_ext, Ext.app_assoc, Ext.app_assoc, Ext.app_assoc]⟩))))); refine wpQuiet_nil ?_; rintro _ ⟨x, rfl⟩)
    refine bodyPost_ret (v := .tuple #[.agg #[.int .i64 (⟨(s[0].toNat : Int) - 48, (s[1].toNat : Int) - 48, (s[2].toNat : Int) - 48, (s[3].toNat : Int) - 48⟩ : C4).a, .int .i64 (⟨(s[0].toNat : Int) - 48, (s[1].toNat : Int) - 48, (s[2].toNat : Int) - 48, (s[3].toNat : Int) - 48⟩ : C4).b, .int .i64 (⟨(s[0].toNat : Int) - 48, (s[1].toNat : Int) - 48, (s[2].toNat : Int) - 48, (s[3].toNat : Int) - 48⟩ : C4).c, .int .i64 (⟨(s[0].toNat : Int) - 48, (s[1].toNat : Int) - 48, (s[2].toNat : Int) - 48, (s[3].toNat : Int) - 48⟩ : C4).d], .bool (rdB s)]) (by rw [HB.out, HC.out]; simp only [results, Tryd.results52]; go_simp) rfl ⟨_, rfl, by repeat (first | exact Ex.refl _ | refine Ex.ext ?_ _ | refine Ex.alloc ?_ _ | refine Ex.drew ?_), fun _ => HC.out.symm⟩
  · have h4' : ((s.size : Int) == 4) = false := beq_eq_false_iff_ne.2 (by omega)
    have h4'' : ((s.size : Int) != 4) = true := by simp only [bne, h4']; rfl
    rw [rdB_long h4]
    go_enter Tryd.func52, Tryd.ntmps52
    go_wp2
    refine bodyPost_ret (v := .tuple #[.agg #[.int .i64 (⟨0, 0, 0, 0⟩ : C4).a, .int .i64 (⟨0, 0, 0, 0⟩ : C4).b, .int .i64 (⟨0, 0, 0, 0⟩ : C4).c, .int .i64 (⟨0, 0, 0, 0⟩ : C4).d], .bool false]) (by simp only [results, Tryd.results52]; go_simp) rfl ⟨_, rfl, by repeat (first | exact Ex.refl _ | refine Ex.ext ?_ _ | refine Ex.alloc ?_ _ | refine Ex.drew ?_), fun h => by cases h⟩
theorem l2Read_c (s : ByteArray) (w : World) : Calls Tryd.prog 36 #[.string s] w fun e w' => ∃ c, e = .returned (.tuple #[.agg #[.int .i64 c.a, .int .i64 c.b, .int .i64 c.c, .int .i64 c.d], .bool (rdB s)]) ∧ Ex w w' ∧ (rdB s = true → c = cc s) := by
  by_cases h4 : s.size = 4
  · have g0 : s[0]! = s[0] := getElem!_pos s 0 (by omega)
    have g1 : s[1]! = s[1] := getElem!_pos s 1 (by omega)
    have g2 : s[2]! = s[2] := getElem!_pos s 2 (by omega)
    have g3 : s[3]! = s[3] := getElem!_pos s 3 (by omega)
    have hcc : cc s = ⟨(s[0].toNat : Int) - 48, (s[1].toNat : Int) - 48, (s[2].toNat : Int) - 48, (s[3].toNat : Int) - 48⟩ := by unfold cc; rw [g0, g1, g2, g3]
    have hok : rdB s = (gd s[0] && gd s[1] && gd s[2] && gd s[3]) := by rw [rdB_four h4, ok_cc, g0, g1, g2, g3]
    have b0 : s[0].toNat < 256 := s[0].toNat_lt
    have b1 : s[1].toNat < 256 := s[1].toNat_lt
    have b2 : s[2].toNat < 256 := s[2].toNat_lt
    have b3 : s[3].toNat < 256 := s[3].toNat_lt
    have HB := Lib.hid hok
    have HC := Lib.hid hcc
    clear hcc g0 g1 g2 g3 hok
    have hs4 : (s.size : Int) = 4 := by omega
    go_enter Tryd.func36, Tryd.ntmps36
    go_wp2
    refine wp_loop_rounds 5 ?_
    have hg0 : gd s[0] = (decide (48 ≤ s[0].toNat) && decide (s[0].toNat ≤ 50)) := rfl
    by_cases lo0 : 48 ≤ s[0].toNat
    rotate_left
    · have HR := Lib.hid (show rdB s = false by rw [HB.out, hg0]; simp [lo0])
      rw [rounds_succ]
      go_wp2
      refine bodyPost_ret (v := .tuple #[.agg #[.int .i64 (⟨0, 0, 0, 0⟩ : C4).a, .int .i64 (⟨0, 0, 0, 0⟩ : C4).b, .int .i64 (⟨0, 0, 0, 0⟩ : C4).c, .int .i64 (⟨0, 0, 0, 0⟩ : C4).d], .bool false]) (by simp only [results, Tryd.results36]; go_simp) rfl ⟨_, by rw [HR.out], by repeat (first | exact Ex.refl _ | refine Ex.ext ?_ _ | refine Ex.alloc ?_ _ | refine Ex.drew ?_), fun h => by rw [HR.out] at h; cases h⟩
    by_cases hi0 : s[0].toNat ≤ 50
    rotate_left
    · have HR := Lib.hid (show rdB s = false by rw [HB.out, hg0]; simp [hi0])
      rw [rounds_succ]
      go_wp2
      refine bodyPost_ret (v := .tuple #[.agg #[.int .i64 (⟨0, 0, 0, 0⟩ : C4).a, .int .i64 (⟨0, 0, 0, 0⟩ : C4).b, .int .i64 (⟨0, 0, 0, 0⟩ : C4).c, .int .i64 (⟨0, 0, 0, 0⟩ : C4).d], .bool false]) (by simp only [results, Tryd.results36]; go_simp) rfl ⟨_, by rw [HR.out], by repeat (first | exact Ex.refl _ | refine Ex.ext ?_ _ | refine Ex.alloc ?_ _ | refine Ex.drew ?_), fun h => by rw [HR.out] at h; cases h⟩
    have hh0 : gd s[0] = true := by rw [hg0]; simp [lo0, hi0]
    rw [hh0] at HB
    clear hg0 hh0
    rw [rounds_succ]
    go_wp2
    have hg1 : gd s[1] = (decide (48 ≤ s[1].toNat) && decide (s[1].toNat ≤ 50)) := rfl
    by_cases lo1 : 48 ≤ s[1].toNat
    rotate_left
    · have HR := Lib.hid (show rdB s = false by rw [HB.out, hg1]; simp [lo1])
      rw [rounds_succ]
      go_wp2
      refine bodyPost_ret (v := .tuple #[.agg #[.int .i64 (⟨0, 0, 0, 0⟩ : C4).a, .int .i64 (⟨0, 0, 0, 0⟩ : C4).b, .int .i64 (⟨0, 0, 0, 0⟩ : C4).c, .int .i64 (⟨0, 0, 0, 0⟩ : C4).d], .bool false]) (by simp only [results, Tryd.results36]; go_simp) rfl ⟨_, by rw [HR.out], by repeat (first | exact Ex.refl _ | refine Ex.ext ?_ _ | refine Ex.alloc ?_ _ | refine Ex.drew ?_), fun h => by rw [HR.out] at h; cases h⟩
    by_cases hi1 : s[1].toNat ≤ 50
    rotate_left
    · have HR := Lib.hid (show rdB s = false by rw [HB.out, hg1]; simp [hi1])
      rw [rounds_succ]
      go_wp2
      refine bodyPost_ret (v := .tuple #[.agg #[.int .i64 (⟨0, 0, 0, 0⟩ : C4).a, .int .i64 (⟨0, 0, 0, 0⟩ : C4).b, .int .i64 (⟨0, 0, 0, 0⟩ : C4).c, .int .i64 (⟨0, 0, 0, 0⟩ : C4).d], .bool false]) (by simp only [results, Tryd.results36]; go_simp) rfl ⟨_, by rw [HR.out], by repeat (first | exact Ex.refl _ | refine Ex.ext ?_ _ | refine Ex.alloc ?_ _ | refine Ex.drew ?_), fun h => by rw [HR.out] at h; cases h⟩
    have hh1 : gd s[1] = true := by rw [hg1]; simp [lo1, hi1]
    rw [hh1] at HB
    clear hg1 hh1
    rw [rounds_succ]
    go_wp2
    have hg2 : gd s[2] = (decide (48 ≤ s[2].toNat) && decide (s[2].toNat ≤ 50)) := rfl
    by_cases lo2 : 48 ≤ s[2].toNat
    rotate_left
    · have HR := Lib.hid (show rdB s = false by rw [HB.out, hg2]; simp [lo2])
      rw [rounds_succ]
      go_wp2
      refine bodyPost_ret (v := .tuple #[.agg #[.int .i64 (⟨0, 0, 0, 0⟩ : C4).a, .int .i64 (⟨0, 0, 0, 0⟩ : C4).b, .int .i64 (⟨0, 0, 0, 0⟩ : C4).c, .int .i64 (⟨0, 0, 0, 0⟩ : C4).d], .bool false]) (by simp only [results, Tryd.results36]; go_simp) rfl ⟨_, by rw [HR.out], by repeat (first | exact Ex.refl _ | refine Ex.ext ?_ _ | refine Ex.alloc ?_ _ | refine Ex.drew ?_), fun h => by rw [HR.out] at h; cases h⟩
    by_cases hi2 : s[2].toNat ≤ 50
    rotate_left
    · have HR := Lib.hid (show rdB s = false by rw [HB.out, hg2]; simp [hi2])
      rw [rounds_succ]
      go_wp2
      refine bodyPost_ret (v := .tuple #[.agg #[.int .i64 (⟨0, 0, 0, 0⟩ : C4).a, .int .i64 (⟨0, 0, 0, 0⟩ : C4).b, .int .i64 (⟨0, 0, 0, 0⟩ : C4).c, .int .i64 (⟨0, 0, 0, 0⟩ : C4).d], .bool false]) (by simp only [results, Tryd.results36]; go_simp) rfl ⟨_, by rw [HR.out], by repeat (first | exact Ex.refl _ | refine Ex.ext ?_ _ | refine Ex.alloc ?_ _ | refine Ex.drew ?_), fun h => by rw [HR.out] at h; cases h⟩
    have hh2 : gd s[2] = true := by rw [hg2]; simp [lo2, hi2]
    rw [hh2] at HB
    clear hg2 hh2
    rw [rounds_succ]
    go_wp2
    have hg3 : gd s[3] = (decide (48 ≤ s[3].toNat) && decide (s[3].toNat ≤ 50)) := rfl
    by_cases lo3 : 48 ≤ s[3].toNat
    rotate_left
    · have HR := Lib.hid (show rdB s = false by rw [HB.out, hg3]; simp [lo3])
      rw [rounds_succ]
      go_wp2
      refine bodyPost_ret (v := .tuple #[.agg #[.int .i64 (⟨0, 0, 0, 0⟩ : C4).a, .int .i64 (⟨0, 0, 0, 0⟩ : C4).b, .int .i64 (⟨0, 0, 0, 0⟩ : C4).c, .int .i64 (⟨0, 0, 0, 0⟩ : C4).d], .bool false]) (by simp only [results, Tryd.results36]; go_simp) rfl ⟨_, by rw [HR.out], by repeat (first | exact Ex.refl _ | refine Ex.ext ?_ _ | refine Ex.alloc ?_ _ | refine Ex.drew ?_), fun h => by rw [HR.out] at h; cases h⟩
    by_cases hi3 : s[3].toNat ≤ 50
    rotate_left
    · have HR := Lib.hid (show rdB s = false by rw [HB.out, hg3]; simp [hi3])
      rw [rounds_succ]
      go_wp2
      refine bodyPost_ret (v := .tuple #[.agg #[.int .i64 (⟨0, 0, 0, 0⟩ : C4).a, .int .i64 (⟨0, 0, 0, 0⟩ : C4).b, .int .i64 (⟨0, 0, 0, 0⟩ : C4).c, .int .i64 (⟨0, 0, 0, 0⟩ : C4).d], .bool false]) (by simp only [results, Tryd.results36]; go_simp) rfl ⟨_, by rw [HR.out], by repeat (first | exact Ex.refl _ | refine Ex.ext ?_ _ | refine Ex.alloc ?_ _ | refine Ex.drew ?_), fun h => by rw [HR.out] at h; cases h⟩
    have hh3 : gd s[3] = true := by rw [hg3]; simp [lo3, hi3]
    rw [hh3] at HB
    clear hg3 hh3
    rw [rounds_succ]
    go_wp2
    have hR : rdB s = true := HB.out
    have HR := Lib.hid hR
    clear hR
    rw [rounds_succ]
    go_wp2
    refine bodyPost_ret (v := .tuple #[.agg #[.int .i64 (⟨(s[0].toNat : Int) - 48, (s[1].toNat : Int) - 48, (s[2].toNat : Int) - 48, (s[3].toNat : Int) - 48⟩ : C4).a, .int .i64 (⟨(s[0].toNat : Int) - 48, (s[1].toNat : Int) - 48, (s[2].toNat : Int) - 48, (s[3].toNat : Int) - 48⟩ : C4).b, .int .i64 (⟨(s[0].toNat : Int) - 48, (s[1].toNat : Int) - 48, (s[2].toNat : Int) - 48, (s[3].toNat : Int) - 48⟩ : C4).c, .int .i64 (⟨(s[0].toNat : Int) - 48, (s[1].toNat : Int) - 48, (s[2].toNat : Int) - 48, (s[3].toNat : Int) - 48⟩ : C4).d], .bool (rdB s)]) (by rw [HR.out]; simp only [results, Tryd.results36]; go_simp) rfl ⟨_, rfl, by repeat (first | exact Ex.refl _ | refine Ex.ext ?_ _ | refine Ex.alloc ?_ _ | refine Ex.drew ?_), fun _ => HC.out.symm⟩
  · have h4' : ((s.size : Int) == 4) = false := beq_eq_false_iff_ne.2 (by omega)
    have h4'' : ((s.size : Int) != 4) = true := by simp only [bne, h4']; rfl
    rw [rdB_long h4]
    go_enter Tryd.func36, Tryd.ntmps36
    go_wp2
    refine bodyPost_ret (v := .tuple #[.agg #[.int .i64 (⟨0, 0, 0, 0⟩ : C4).a, .int .i64 (⟨0, 0, 0, 0⟩ : C4).b, .int .i64 (⟨0, 0, 0, 0⟩ : C4).c, .int .i64 (⟨0, 0, 0, 0⟩ : C4).d], .bool false]) (by simp only [results, Tryd.results36]; go_simp) rfl ⟨_, rfl, by repeat (first | exact Ex.refl _ | refine Ex.ext ?_ _ | refine Ex.alloc ?_ _ | refine Ex.drew ?_), fun h => by cases h⟩
end Go.Proofs.YtebgkdgcjpjigaaDoor
