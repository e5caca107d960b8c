/- The walks of the functions that read hands: is it a hand, the place of a card, is it there. -/
import Derived.Test.YtkmnnnhnajnefaaSlice
import Derived.Test.YtkmnnnhnajnefaaHandP
namespace Go.Proofs.Ytkmnnnhnajnefaa
set_option linter.unusedSimpArgs false
set_option linter.unusedVariables false
set_option maxHeartbeats 1000000
set_option maxRecDepth 100000
open Go.RowKit

theorem l2Less_c (a b : C4) (ha : Ok a) (hb : Ok b) (w : World) : Calls Try.prog 82 #[.agg #[.int .i64 a.a, .int .i64 a.b, .int .i64 a.c, .int .i64 a.d], .agg #[.int .i64 b.a, .int .i64 b.b, .int .i64 b.c, .int .i64 b.d]] w fun e w' => e = .returned (.bool (decide (num a < num b))) ∧ Ex w w' := by
  go_enter Try.func82, Try.ntmps82
  go_wp2_with (refine region_quiet (by kernel_rfl) (by kernel_rfl) ?_; (repeat (go_big_quiet_step ((first | (go_at_call 69; exact (l2Number_c _ (by assumption) _).mono (by rintro e w' ⟨rfl, y, rfl⟩; first | exact ⟨rfl, _, ext_ext _ _⟩ | exact ⟨rfl, _, by rw [ext_ext, Ext.app_assoc]⟩ | exact ⟨rfl, _, by rw [ext_ext, Ext.app_assoc, Ext.app_assoc]⟩ | exact ⟨rfl, _, by rw [ext_ext, Ext.app_assoc, Ext.app_assoc, Ext.app_assoc]⟩)))))); refine wpQuiet_nil ?_; rintro _ ⟨x, rfl⟩)
  go_ret
  exact ⟨by rfl, by repeat (first | exact Ex.refl _ | refine Ex.ext ?_ _ | refine Ex.alloc ?_ _ | refine Ex.drew ?_)⟩

theorem goodAt_ok {cs : List C4} {i : Nat} (hi : i < cs.length) (h : goodAt cs i = true) : Ok cs[i] := by
  cases i with
  | zero => rw [goodAt_zero (List.getElem?_eq_getElem hi)] at h; exact (ok_iff _).1 h
  | succ j =>
    rw [goodAt_succ (List.getElem?_eq_getElem hi) (List.getElem?_eq_getElem (by omega))] at h
    simp only [Bool.and_eq_true] at h
    exact (ok_iff _).1 h.1

theorem handB_no {cs : List C4} {k : Nat} (hk : k < cs.length) (h : goodAt cs k = false) : handB cs = false := by
  rw [← Bool.not_eq_true]
  intro hb
  simp only [handB, Bool.and_eq_true, List.all_eq_true, List.mem_range] at hb
  rw [hb.1 k hk] at h
  cases h
theorem handB_all {cs : List C4} (h : ∀ j, j < cs.length → goodAt cs j = true) : handB cs = decide (cs.length ≤ 27) := by
  simp only [handB]
  rw [show (List.range cs.length).all (goodAt cs) = true by simpa using h, Bool.true_and]
theorem handB_long {cs : List C4} (h : 27 < cs.length) : handB cs = false := by
  simp only [handB, Bool.and_eq_false_iff]
  exact Or.inr (by simp; omega)

theorem l2Hand_c (cs : List C4) (p : Option Addr) (cap : Nat) (w : World) (hn : cs.length ≤ 1000000000000) (hz : Sl w p cs) :
    Calls Try.prog 61 #[.slice p cs.length cap] w fun e w' => e = .returned (.bool (handB cs)) ∧ Ex w w' := by
  go_enter Try.func61, Try.ntmps61
  go_wp2
  go_loopw [3] (fun v wr => ∃ k : Nat, k ≤ cs.length ∧ k ≤ 28 ∧ v = .int .i64 k ∧ Ex w wr ∧ ∀ j, j < k → goodAt cs j = true) (fun v _ => 28 - (intOf v).toNat)
  case atStart => exact ⟨0, Nat.zero_le _, by omega, rfl, Ex.refl _, fun j hj => by omega⟩
  case round =>
    obtain ⟨k, hk, hk2, rfl, ⟨x, rfl⟩, hf⟩ := hrel
    have Hf := Lib.hid hf
    clear hf
    by_cases hlt : k < cs.length
    · by_cases hle : k ≤ 27
      · obtain ⟨b, o, rfl, hb, h1, h2, h3, h4⟩ := hz k hlt
        cases k with
        | zero =>
          clear hz
          simp only [Nat.zero_mul, Nat.add_zero] at h1 h2 h3 h4
          simp only [Int.natCast_zero]
          have Hg := Lib.hid (goodAt_zero (List.getElem?_eq_getElem hlt))
          have Hlt := Lib.hid hlt
          generalize cs[0] = z at *
          cases hok : ok z
          all_goals go_wp2_with (refine region_quiet (by kernel_rfl) (by kernel_rfl) ?_; (repeat (go_big_quiet_step ((first | (go_at_call 81; exact (l2Card_c _ _).mono (by rintro e w' ⟨rfl, y, rfl⟩; first | exact ⟨rfl, _, ext_ext _ _⟩ | exact ⟨rfl, _, by rw [ext_ext, Ext.app_assoc]⟩ | exact ⟨rfl, _, by rw [ext_ext, Ext.app_assoc, Ext.app_assoc]⟩ | exact ⟨rfl, _, by rw [ext_ext, Ext.app_assoc, Ext.app_assoc, Ext.app_assoc]⟩)))))); refine wpQuiet_nil ?_; rintro _ ⟨x, rfl⟩)
          · go_ret
            exact ⟨ret_bool (handB_no Hlt.out (by rw [Hg.out, hok])).symm, by repeat (first | exact Ex.refl _ | refine Ex.ext ?_ _ | refine Ex.alloc ?_ _ | refine Ex.drew ?_)⟩
          · go_roundw
            case rel =>
              refine ⟨1, by omega, by omega, by go_num, by repeat (first | exact Ex.refl _ | refine Ex.ext ?_ _ | refine Ex.alloc ?_ _ | refine Ex.drew ?_), fun j hj => ?_⟩
              obtain rfl : j = 0 := by omega
              rw [Hg.out, hok]
            case measure => simp [intOf]
        | succ j =>
          obtain ⟨b', o', e', hb', h1', h2', h3', h4'⟩ := hz j (by omega)
          simp at e'
          obtain ⟨rfl, rfl⟩ := e'
          clear hz
          have hoky := goodAt_ok (by omega) (Hf.out j (by omega))
          have Hg := Lib.hid (goodAt_succ (List.getElem?_eq_getElem hlt) (List.getElem?_eq_getElem (show j < cs.length by omega)))
          have Hlt := Lib.hid hlt
          generalize cs[j + 1] = z at *
          generalize cs[j] = y at *
          have hgt : (0 : Int) < (j : Int) + 1 := by omega
          cases hok : ok z
          · go_wp2_with (refine region_quiet (by kernel_rfl) (by kernel_rfl) ?_; (repeat (go_big_quiet_step ((first | (go_at_call 81; exact (l2Card_c _ _).mono (by rintro e w' ⟨rfl, y, rfl⟩; first | exact ⟨rfl, _, ext_ext _ _⟩ | exact ⟨rfl, _, by rw [ext_ext, Ext.app_assoc]⟩ | exact ⟨rfl, _, by rw [ext_ext, Ext.app_assoc, Ext.app_assoc]⟩ | exact ⟨rfl, _, by rw [ext_ext, Ext.app_assoc, Ext.app_assoc, Ext.app_assoc]⟩)))))); refine wpQuiet_nil ?_; rintro _ ⟨x, rfl⟩)
            go_ret
            exact ⟨ret_bool (handB_no Hlt.out (by rw [Hg.out, hok]; rfl)).symm, by repeat (first | exact Ex.refl _ | refine Ex.ext ?_ _ | refine Ex.alloc ?_ _ | refine Ex.drew ?_)⟩
          · cases hl : decide (num y < num z)
            all_goals go_wp2_with (refine region_quiet (by kernel_rfl) (by kernel_rfl) ?_; (repeat (go_big_quiet_step ((first | (go_at_call 81; exact (l2Card_c _ _).mono (by rintro e w' ⟨rfl, y, rfl⟩; first | exact ⟨rfl, _, ext_ext _ _⟩ | exact ⟨rfl, _, by rw [ext_ext, Ext.app_assoc]⟩ | exact ⟨rfl, _, by rw [ext_ext, Ext.app_assoc, Ext.app_assoc]⟩ | exact ⟨rfl, _, by rw [ext_ext, Ext.app_assoc, Ext.app_assoc, Ext.app_assoc]⟩)) | (go_at_call 82; exact (l2Less_c _ _ hoky ((ok_iff _).1 hok) _).mono (by rintro e w' ⟨rfl, y, rfl⟩; first | exact ⟨rfl, _, ext_ext _ _⟩ | exact ⟨rfl, _, by rw [ext_ext, Ext.app_assoc]⟩ | exact ⟨rfl, _, by rw [ext_ext, Ext.app_assoc, Ext.app_assoc]⟩ | exact ⟨rfl, _, by rw [ext_ext, Ext.app_assoc, Ext.app_assoc, Ext.app_assoc]⟩)))))); refine wpQuiet_nil ?_; rintro _ ⟨x, rfl⟩)
            · go_ret
              exact ⟨ret_bool (handB_no Hlt.out (by rw [Hg.out, hok, hl]; rfl)).symm, by repeat (first | exact Ex.refl _ | refine Ex.ext ?_ _ | refine Ex.alloc ?_ _ | refine Ex.drew ?_)⟩
            · go_roundw
              case rel =>
                refine ⟨j + 1 + 1, by omega, by omega, by go_num, by repeat (first | exact Ex.refl _ | refine Ex.ext ?_ _ | refine Ex.alloc ?_ _ | refine Ex.drew ?_), fun i hi => ?_⟩
                by_cases hij : i = j + 1
                · subst hij; rw [Hg.out, hok, hl]; rfl
                · exact Hf.out i (by omega)
              case measure => simp [intOf]; omega
      · clear hz
        have : k = 28 := by omega
        subst this
        go_wp2
        go_ret
        refine ⟨ret_bool ?_, by repeat (first | exact Ex.refl _ | refine Ex.ext ?_ _ | refine Ex.alloc ?_ _ | refine Ex.drew ?_)⟩
        rw [handB_long (by omega)]
        simp; omega
    · have : k = cs.length := by omega
      subst this
      clear hz
      go_wp2
      go_ret
      exact ⟨ret_bool (by rw [handB_all Hf.out]; simp; omega), by repeat (first | exact Ex.refl _ | refine Ex.ext ?_ _ | refine Ex.alloc ?_ _ | refine Ex.drew ?_)⟩

end Go.Proofs.Ytkmnnnhnajnefaa
