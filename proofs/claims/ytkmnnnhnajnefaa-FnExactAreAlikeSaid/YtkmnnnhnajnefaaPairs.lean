/- The walks of l2Through and pairsFor. -/
import Derived.Test.YtkmnnnhnajnefaaHand2
import Derived.Test.YtkmnnnhnajnefaaPairP
import Derived.Test.YtkmnnnhnajnefaaRowV
namespace Go.Proofs.Ytkmnnnhnajnefaa
set_option linter.unusedSimpArgs false
set_option linter.unusedVariables false
set_option maxHeartbeats 1000000
set_option maxRecDepth 100000
open Go.RowKit

theorem l2Through_c (cs : List C4) (c : C4) (p : Option Addr) (cap : Nat) (w : World) (hn : cs.length ≤ 1000) (hok : ∀ z ∈ cs, Ok z) (hz : Sl w p cs) :
    Calls Try.prog 62 #[.slice p cs.length cap, .agg #[.int .i64 c.a, .int .i64 c.b, .int .i64 c.c, .int .i64 c.d]] w fun e w' => e = .returned (.int .i64 (through cs c)) ∧ Ex w w' := by
  have Hb := Lib.hid (pairs_small (c := c) hn)
  have Hok := Lib.hid hok
  have Hz := Lib.hid hz
  clear hok hz
  go_enter Try.func62, Try.ntmps62
  go_wp2
  go_loopw [5, 6] (fun u v wr => ∃ (k : Nat) (P : List (Nat × Nat)), k ≤ cs.length ∧ v = .int .i64 k ∧ u = .int .i64 P.length ∧ Ex (w.alloc (.cells #[.int .i64 c.a, .int .i64 c.b, .int .i64 c.c, .int .i64 c.d] 36)) wr ∧ pairsOf c cs 0 = P ++ pairsOf c (cs.drop k) k) (fun _ v _ => cs.length - (intOf v).toNat)
  case atStart => exact ⟨0, [], Nat.zero_le _, rfl, rfl, Ex.refl _, rfl⟩
  case round =>
    obtain ⟨k, P, hk, rfl, rfl, ⟨x, rfl⟩, hf⟩ := hrel
    have Hf := Lib.hid hf
    clear hf
    by_cases hlt : k < cs.length
    · obtain ⟨b, o, rfl, hb, h1, h2, h3, h4⟩ := Hz.out k hlt
      have Hd := Lib.hid (List.drop_eq_getElem_cons hlt)
      have hokz := Hok.out _ (List.getElem_mem hlt)
      generalize cs[k] = z at *
      go_wp2
      go_loopw [5, 7] (fun u v wr => ∃ (j : Nat) (R : List (Nat × Nat)), k + 1 ≤ j ∧ j ≤ cs.length ∧ v = .int .i64 j ∧ u = .int .i64 (P ++ R).length ∧ Ex (w.alloc (.cells #[.int .i64 c.a, .int .i64 c.b, .int .i64 c.c, .int .i64 c.d] 36)) wr ∧
        rowPairs z c k (cs.drop (k + 1)) (k + 1) = R ++ rowPairs z c k (cs.drop j) j) (fun _ v _ => cs.length - (intOf v).toNat)
      case atStart => exact ⟨k + 1, [], Nat.le_refl _, by omega, by go_num, by simp, by repeat (first | exact Ex.refl _ | refine Ex.ext ?_ _ | refine Ex.alloc ?_ _ | refine Ex.drew ?_), rfl⟩
      case round =>
        obtain ⟨j, R, hj1, hj, rfl, rfl, ⟨x, rfl⟩, hg⟩ := hrel
        have Hg := Lib.hid hg
        clear hg
        by_cases hjt : j < cs.length
        · obtain ⟨b', o', e', hb', h1', h2', h3', h4'⟩ := Hz.out j hjt
          simp at e'
          obtain ⟨rfl, rfl⟩ := e'
          have Hd' := Lib.hid (List.drop_eq_getElem_cons hjt)
          have hoky := Hok.out _ (List.getElem_mem hjt)
          generalize cs[j] = y at *
          have hbd : (P ++ R).length ≤ 1000000 := by
            have h0 := Hb.out
            rw [Hf.out, Hd.out, pairsOf, Hg.out] at h0
            simp only [List.length_append] at h0 ⊢
            omega
          generalize hN : (P ++ R).length = N at *
          go_wp2_with (refine region_quiet (by kernel_rfl) (by kernel_rfl) ?_; (repeat (go_big_quiet_step ((first | (go_at_call 83; exact (l2Line_c _ _ _ (by assumption) (by assumption) _).mono (by rintro e w' ⟨rfl, y, rfl⟩; first | exact ⟨rfl, _, ext_ext _ _⟩ | exact ⟨rfl, _, by rw [ext_ext, Ext.app_assoc]⟩ | exact ⟨rfl, _, by rw [ext_ext, Ext.app_assoc, Ext.app_assoc]⟩ | exact ⟨rfl, _, by rw [ext_ext, Ext.app_assoc, Ext.app_assoc, Ext.app_assoc]⟩)))))); refine wpQuiet_nil ?_; rintro _ ⟨x, rfl⟩)
          · go_roundw
            case rel =>
              rename_i hl
              refine ⟨j + 1, R ++ [(k, j)], by omega, by omega, by go_num, ?_, by repeat (first | exact Ex.refl _ | refine Ex.ext ?_ _ | refine Ex.alloc ?_ _ | refine Ex.drew ?_), ?_⟩
              · rw [← List.append_assoc, List.length_append, hN]; simp
              · rw [Hg.out, Hd'.out, rowPairs, hl]
                simp
            case measure => simp [intOf]; omega
          · go_roundw
            case rel =>
              rename_i hl
              refine ⟨j + 1, R, by omega, by omega, by go_num, by rw [hN], by repeat (first | exact Ex.refl _ | refine Ex.ext ?_ _ | refine Ex.alloc ?_ _ | refine Ex.drew ?_), ?_⟩
              rw [Hg.out, Hd'.out, rowPairs, hl]
              simp
            case measure => simp [intOf]; omega
        · have : j = cs.length := by omega
          subst this
          go_wp2
          go_roundw
          case rel =>
            refine ⟨k + 1, P ++ R, by omega, by go_num, by simp, by repeat (first | exact Ex.refl _ | refine Ex.ext ?_ _ | refine Ex.alloc ?_ _ | refine Ex.drew ?_), ?_⟩
            have e := Hg.out
            rw [List.drop_length, rowPairs, List.append_nil] at e
            rw [Hf.out, Hd.out, pairsOf, e, List.append_assoc]
          case measure => simp [intOf]; omega
    · have : k = cs.length := by omega
      subst this
      go_wp2
      go_ret
      refine ⟨ret_int ?_, by repeat (first | exact Ex.refl _ | refine Ex.ext ?_ _ | refine Ex.alloc ?_ _ | refine Ex.drew ?_)⟩
      have e := Hf.out
      rw [List.drop_length, pairsOf, List.append_nil] at e
      rw [through, e]

def pairVals : List (Nat × Nat) → List Value
  | [] => []
  | (i, j) :: r => .int .i64 i :: .int .i64 j :: pairVals r
theorem pairVals_append (P R : List (Nat × Nat)) : pairVals (P ++ R) = pairVals P ++ pairVals R := by
  induction P with
  | nil => rfl
  | cons q P ih => obtain ⟨i, j⟩ := q; simp [pairVals, ih]
theorem pairVals_length (P : List (Nat × Nat)) : (pairVals P).length = P.length * 2 := by
  induction P with
  | nil => rfl
  | cons q P ih => obtain ⟨i, j⟩ := q; simp [pairVals, ih]; omega

theorem pairCase {z y c : C4} (hz : Ok z) (hy : Ok y) :
    (ceq z c = true ∧ lineB z y c = false) ∨ (ceq z c = false ∧ ceq y c = true ∧ lineB z y c = false) ∨ (ceq z c = false ∧ ceq y c = false ∧ ceq (third z y) c = false ∧ lineB z y c = false) ∨
    (ceq z c = false ∧ ceq y c = false ∧ ceq (third z y) c = true ∧ lineB z y c = true) := by
  have h := lineB_alt c hz hy
  cases h1 : ceq z c <;> cases h2 : ceq y c <;> cases h3 : ceq (third z y) c <;> simp [h1, h2, h3] at h <;> simp [h]

end Go.Proofs.Ytkmnnnhnajnefaa
