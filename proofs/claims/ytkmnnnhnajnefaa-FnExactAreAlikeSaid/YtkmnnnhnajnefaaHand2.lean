/- The walks of IsHand of the program, of the place of a card in a list, and of 'is it there'. -/
import Derived.Test.YtkmnnnhnajnefaaHand
namespace Go.Proofs.Ytkmnnnhnajnefaa
set_option linter.unusedSimpArgs false
set_option linter.unusedVariables false
set_option maxHeartbeats 1000000
set_option maxRecDepth 100000
open Go.RowKit

theorem implIsHand_c (cs : List C4) (p : Option Addr) (cap : Nat) (w : World) (hn : cs.length ≤ 1000000000000) (hz : Sl w p cs) :
    Calls Try.prog 65 #[.slice p cs.length cap] w fun e w' => e = .returned (.bool (handB cs)) ∧ Ex w w' := by
  go_enter Try.func65, Try.ntmps65
  go_wp2
  go_loopw [7] (fun v wr => ∃ k : Nat, k ≤ cs.length ∧ v = .int .i64 k ∧ Ex w wr ∧ ∀ j, j < k → goodAt cs j = true) (fun v _ => cs.length - (intOf v).toNat)
  case atStart => exact ⟨0, Nat.zero_le _, rfl, Ex.refl _, fun j hj => by omega⟩
  case round =>
    obtain ⟨k, hk, rfl, ⟨x, rfl⟩, hf⟩ := hrel
    have Hf := Lib.hid hf
    clear hf
    by_cases hlt : k < cs.length
    · obtain ⟨b, o, rfl, hb, h1, h2, h3, h4⟩ := hz k hlt
      cases k with
      | zero =>
        clear hz
        simp only [Nat.zero_mul, Nat.add_zero] at h1 h2 h3 h4
        simp only [Int.natCast_zero]
        have Hg := Lib.hid (goodAt_zero (List.getElem?_eq_getElem hlt))
        have Hlt := Lib.hid hlt
        generalize cs[0] = z at *
        cases hok : ok z
        all_goals go_wp2_with (refine region_quiet (by kernel_rfl) (by kernel_rfl) ?_; (repeat (go_big_quiet_step ((first | (go_at_call 84; exact (implIsCard_c _ _).mono (by rintro e w' ⟨rfl, y, rfl⟩; first | exact ⟨rfl, _, ext_ext _ _⟩ | exact ⟨rfl, _, by rw [ext_ext, Ext.app_assoc]⟩ | exact ⟨rfl, _, by rw [ext_ext, Ext.app_assoc, Ext.app_assoc]⟩ | exact ⟨rfl, _, by rw [ext_ext, Ext.app_assoc, Ext.app_assoc, Ext.app_assoc]⟩)))))); refine wpQuiet_nil ?_; rintro _ ⟨x, rfl⟩)
        · go_ret
          exact ⟨ret_bool (handB_no Hlt.out (by rw [Hg.out, hok])).symm, by repeat (first | exact Ex.refl _ | refine Ex.ext ?_ _ | refine Ex.alloc ?_ _ | refine Ex.drew ?_)⟩
        · go_roundw
          case rel =>
            refine ⟨1, by omega, by go_num, by repeat (first | exact Ex.refl _ | refine Ex.ext ?_ _ | refine Ex.alloc ?_ _ | refine Ex.drew ?_), fun j hj => ?_⟩
            obtain rfl : j = 0 := by omega
            rw [Hg.out, hok]
          case measure => simp [intOf]; have := Hlt.out; omega
      | succ j =>
        obtain ⟨b', o', e', hb', h1', h2', h3', h4'⟩ := hz j (by omega)
        simp at e'
        obtain ⟨rfl, rfl⟩ := e'
        clear hz
        have hoky := goodAt_ok (by omega) (Hf.out j (by omega))
        have Hg := Lib.hid (goodAt_succ (List.getElem?_eq_getElem hlt) (List.getElem?_eq_getElem (show j < cs.length by omega)))
        have Hlt := Lib.hid hlt
        generalize cs[j + 1] = z at *
        generalize cs[j] = y at *
        have hgt : (0 : Int) < (j : Int) + 1 := by omega
        cases hok : ok z
        · go_wp2_with (refine region_quiet (by kernel_rfl) (by kernel_rfl) ?_; (repeat (go_big_quiet_step ((first | (go_at_call 84; exact (implIsCard_c _ _).mono (by rintro e w' ⟨rfl, y, rfl⟩; first | exact ⟨rfl, _, ext_ext _ _⟩ | exact ⟨rfl, _, by rw [ext_ext, Ext.app_assoc]⟩ | exact ⟨rfl, _, by rw [ext_ext, Ext.app_assoc, Ext.app_assoc]⟩ | exact ⟨rfl, _, by rw [ext_ext, Ext.app_assoc, Ext.app_assoc, Ext.app_assoc]⟩)))))); refine wpQuiet_nil ?_; rintro _ ⟨x, rfl⟩)
          go_ret
          exact ⟨ret_bool (handB_no Hlt.out (by rw [Hg.out, hok]; rfl)).symm, by repeat (first | exact Ex.refl _ | refine Ex.ext ?_ _ | refine Ex.alloc ?_ _ | refine Ex.drew ?_)⟩
        · have hokz := (ok_iff _).1 hok
          cases hl : decide (num z ≤ num y)
          all_goals have hl2 := hl
          all_goals simp only [decide_eq_true_eq, decide_eq_false_iff_not] at hl2
          all_goals have HL := Lib.hid hl2
          all_goals clear hl2
          all_goals go_wp2_with (refine region_quiet (by kernel_rfl) (by kernel_rfl) ?_; (repeat (go_big_quiet_step ((first | (go_at_call 84; exact (implIsCard_c _ _).mono (by rintro e w' ⟨rfl, y, rfl⟩; first | exact ⟨rfl, _, ext_ext _ _⟩ | exact ⟨rfl, _, by rw [ext_ext, Ext.app_assoc]⟩ | exact ⟨rfl, _, by rw [ext_ext, Ext.app_assoc, Ext.app_assoc]⟩ | exact ⟨rfl, _, by rw [ext_ext, Ext.app_assoc, Ext.app_assoc, Ext.app_assoc]⟩)) | (go_at_call 73; exact (number_c _ (by assumption) _).mono (by rintro e w' ⟨rfl, y, rfl⟩; first | exact ⟨rfl, _, ext_ext _ _⟩ | exact ⟨rfl, _, by rw [ext_ext, Ext.app_assoc]⟩ | exact ⟨rfl, _, by rw [ext_ext, Ext.app_assoc, Ext.app_assoc]⟩ | exact ⟨rfl, _, by rw [ext_ext, Ext.app_assoc, Ext.app_assoc, Ext.app_assoc]⟩)))))); refine wpQuiet_nil ?_; rintro _ ⟨x, rfl⟩)
          · go_roundw
            case rel =>
              refine ⟨j + 1 + 1, by omega, by go_num, by repeat (first | exact Ex.refl _ | refine Ex.ext ?_ _ | refine Ex.alloc ?_ _ | refine Ex.drew ?_), fun i hi => ?_⟩
              by_cases hij : i = j + 1
              · subst hij; rw [Hg.out, hok]; have := HL.out; simp; omega
              · exact Hf.out i (by omega)
            case measure => simp [intOf]; have := Hlt.out; omega
          · go_ret
            exact ⟨ret_bool (handB_no Hlt.out (by rw [Hg.out, hok]; have := HL.out; simp; omega)).symm, by repeat (first | exact Ex.refl _ | refine Ex.ext ?_ _ | refine Ex.alloc ?_ _ | refine Ex.drew ?_)⟩
    · have : k = cs.length := by omega
      subst this
      clear hz
      go_wp2
      go_ret
      exact ⟨ret_bool (by rw [handB_all Hf.out]; simp; omega), by repeat (first | exact Ex.refl _ | refine Ex.ext ?_ _ | refine Ex.alloc ?_ _ | refine Ex.drew ?_)⟩

/-- The place of a card in a list, or -1. -/
def placeR (cs : List C4) (c : C4) : Int := firstNot (fun z => !ceq z c) cs 0
/-- Is it there? -/
def hasB (cs : List C4) (c : C4) : Bool := decide (c ∈ cs)
theorem ceq_comm (a b : C4) : ceq a b = ceq b a := by
  cases h : ceq a b
  · have := (ceq_false a b).1 h
    exact ((ceq_false b a).2 (Ne.symm this)).symm
  · have := (ceq_iff a b).1 h
    exact ((ceq_iff b a).2 this.symm).symm
theorem place_ge (cs : List C4) (c : C4) : decide (0 ≤ placeR cs c) = hasB cs c := by
  unfold placeR hasB
  rw [firstNot_ge]
  cases h : cs.all (fun z => !ceq z c)
  · rw [List.all_eq_false] at h
    obtain ⟨z, hz, hc⟩ := h
    have : z = c := (ceq_iff z c).1 (by simpa using hc)
    subst this
    simp [hz]
  · rw [List.all_eq_true] at h
    have : c ∉ cs := fun hc => by have := h c hc; rw [(ceq_iff c c).2 rfl] at this; cases this
    simp [this]

theorem index_c (cs : List C4) (c : C4) (p : Option Addr) (cap : Nat) (w : World) (hn : cs.length ≤ 1000000000000) (hz : Sl w p cs) :
    Calls Try.prog 94 #[.slice p cs.length cap, .agg #[.int .i64 c.a, .int .i64 c.b, .int .i64 c.c, .int .i64 c.d]] w fun e w' => e = .returned (.int .i64 (placeR cs c)) ∧ Ex w w' := by
  go_enter Try.func94, Try.ntmps94
  go_wp2
  go_loopw [8] (fun v wr => ∃ k : Nat, k ≤ cs.length ∧ v = .int .i64 k ∧ Ex (w.alloc (.cells #[.int .i64 c.a, .int .i64 c.b, .int .i64 c.c, .int .i64 c.d] 36)) wr ∧ placeR cs c = firstNot (fun z => !ceq z c) (cs.drop k) k) (fun v _ => cs.length - (intOf v).toNat)
  case atStart => exact ⟨0, Nat.zero_le _, rfl, Ex.refl _, rfl⟩
  case round =>
    obtain ⟨k, hk, rfl, ⟨x, rfl⟩, hf⟩ := hrel
    have Hf := Lib.hid hf
    clear hf
    by_cases hlt : k < cs.length
    · obtain ⟨b, o, rfl, hb, h1, h2, h3, h4⟩ := hz k hlt
      clear hz
      have Hd := Lib.hid (List.drop_eq_getElem_cons hlt)
      generalize cs[k] = z at *
      cases hc : ceq c z
      all_goals go_wp2_with (refine region_quiet (by kernel_rfl) (by kernel_rfl) ?_; (repeat (go_big_quiet_step (fail))); refine wpQuiet_nil ?_; rintro _ ⟨x, rfl⟩)
      · go_roundw
        case rel =>
          refine ⟨k + 1, by omega, by go_num, by repeat (first | exact Ex.refl _ | refine Ex.ext ?_ _ | refine Ex.alloc ?_ _ | refine Ex.drew ?_), ?_⟩
          rw [Hf.out, Hd.out, firstNot_yes (f := fun z => !ceq z c) (by rw [ceq_comm]; simp [hc])]
          rfl
        case measure => simp [intOf]; omega
      · go_ret
        refine ⟨ret_int ?_, by repeat (first | exact Ex.refl _ | refine Ex.ext ?_ _ | refine Ex.alloc ?_ _ | refine Ex.drew ?_)⟩
        rw [Hf.out, Hd.out, firstNot_no (f := fun z => !ceq z c) (by rw [ceq_comm]; simp [hc])]
    · have : k = cs.length := by omega
      subst this
      clear hz
      go_wp2
      go_ret
      exact ⟨ret_int (by rw [Hf.out, List.drop_length, firstNot_nil]), by repeat (first | exact Ex.refl _ | refine Ex.ext ?_ _ | refine Ex.alloc ?_ _ | refine Ex.drew ?_)⟩

theorem contains_c (cs : List C4) (c : C4) (p : Option Addr) (cap : Nat) (w : World) (hn : cs.length ≤ 1000000000000) (hz : Sl w p cs) :
    Calls Try.prog 79 #[.slice p cs.length cap, .agg #[.int .i64 c.a, .int .i64 c.b, .int .i64 c.c, .int .i64 c.d]] w fun e w' => e = .returned (.bool (hasB cs c)) ∧ Ex w w' := by
  have H := Lib.hid (fun o => index_c cs c p cap _ hn (hz.alloc o))
  clear hz
  go_enter Try.func79, Try.ntmps79
  go_wp2_with (go_at_call 94; refine (H.out _).mono ?_; rintro e w' ⟨rfl, x, rfl⟩)
  go_ret
  exact ⟨ret_bool (place_ge _ _), by repeat (first | exact Ex.refl _ | refine Ex.ext ?_ _ | refine Ex.alloc ?_ _ | refine Ex.drew ?_)⟩
theorem has_c (cs : List C4) (c : C4) (p : Option Addr) (cap : Nat) (w : World) (hn : cs.length ≤ 1000000000000) (hz : Sl w p cs) :
    Calls Try.prog 58 #[.slice p cs.length cap, .agg #[.int .i64 c.a, .int .i64 c.b, .int .i64 c.c, .int .i64 c.d]] w fun e w' => e = .returned (.bool (hasB cs c)) ∧ Ex w w' := by
  have H := Lib.hid (fun o => contains_c cs c p cap _ hn (hz.alloc o))
  clear hz
  go_enter Try.func58, Try.ntmps58
  go_wp2_with (go_at_call 79; refine (H.out _).mono ?_; rintro e w' ⟨rfl, x, rfl⟩)
  go_ret
  exact ⟨rfl, by repeat (first | exact Ex.refl _ | refine Ex.ext ?_ _ | refine Ex.alloc ?_ _ | refine Ex.drew ?_)⟩
end Go.Proofs.Ytkmnnnhnajnefaa
