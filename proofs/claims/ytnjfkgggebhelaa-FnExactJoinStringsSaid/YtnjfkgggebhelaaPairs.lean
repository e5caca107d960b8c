/- The walks of l2Through and pairsFor. -/
import Derived.Test.YtnjfkgggebhelaaHand2
import Derived.Test.YtnjfkgggebhelaaPairP
import Derived.Test.YtnjfkgggebhelaaRowV
namespace Go.Proofs.Ytnjfkgggebhelaa
set_option linter.unusedSimpArgs false
set_option linter.unusedVariables false
set_option maxHeartbeats 1000000
set_option maxRecDepth 100000
open Go.RowKit

theorem l2Through_c (cs : List C4) (c : C4) (p : Option Addr) (cap : Nat) (w : World) (hn : cs.length ≤ 1000) (hok : ∀ z ∈ cs, Ok z) (hz : Sl w p cs) :
    Calls Try.prog 92 #[.slice p cs.length cap, .agg #[.int .i64 c.a, .int .i64 c.b, .int .i64 c.c, .int .i64 c.d]] w fun e w' => e = .returned (.int .i64 (through cs c)) ∧ Ex w w' := by
  have Hb := Lib.hid (pairs_small (c := c) hn)
  have Hok := Lib.hid hok
  have Hz := Lib.hid hz
  clear hok hz
  go_enter Try.func92, Try.ntmps92
  go_wp2
  go_loopw [5, 6] (fun u v wr => ∃ (k : Nat) (P : List (Nat × Nat)), k ≤ cs.length ∧ v = .int .i64 k ∧ u = .int .i64 P.length ∧ Ex (w.alloc (.cells #[.int .i64 c.a, .int .i64 c.b, .int .i64 c.c, .int .i64 c.d] 29)) wr ∧ pairsOf c cs 0 = P ++ pairsOf c (cs.drop k) k) (fun _ v _ => cs.length - (intOf v).toNat)
  case atStart => exact ⟨0, [], Nat.zero_le _, rfl, rfl, Ex.refl _, rfl⟩
  case round =>
    obtain ⟨k, P, hk, rfl, rfl, ⟨x, rfl⟩, hf⟩ := hrel
    have Hf := Lib.hid hf
    clear hf
    by_cases hlt : k < cs.length
    · obtain ⟨b, o, rfl, hb, h1, h2, h3, h4⟩ := Hz.out k hlt
      have Hd := Lib.hid (List.drop_eq_getElem_cons hlt)
      have hokz := Hok.out _ (List.getElem_mem hlt)
      generalize cs[k] = z at *
      go_wp2
      go_loopw [5, 7] (fun u v wr => ∃ (j : Nat) (R : List (Nat × Nat)), k + 1 ≤ j ∧ j ≤ cs.length ∧ v = .int .i64 j ∧ u = .int .i64 (P ++ R).length ∧ Ex (w.alloc (.cells #[.int .i64 c.a, .int .i64 c.b, .int .i64 c.c, .int .i64 c.d] 29)) wr ∧
        rowPairs z c k (cs.drop (k + 1)) (k + 1) = R ++ rowPairs z c k (cs.drop j) j) (fun _ v _ => cs.length - (intOf v).toNat)
      case atStart => exact ⟨k + 1, [], Nat.le_refl _, by omega, by go_num, by simp, by repeat (first | exact Ex.refl _ | refine Ex.ext ?_ _ | refine Ex.alloc ?_ _ | refine Ex.drew ?_), rfl⟩
      case round =>
        obtain ⟨j, R, hj1, hj, rfl, rfl, ⟨x, rfl⟩, hg⟩ := hrel
        have Hg := Lib.hid hg
        clear hg
        by_cases hjt : j < cs.length
        · obtain ⟨b', o', e', hb', h1', h2', h3', h4'⟩ := Hz.out j hjt
          simp at e'
          obtain ⟨rfl, rfl⟩ := e'
          have Hd' := Lib.hid (List.drop_eq_getElem_cons hjt)
          have hoky := Hok.out _ (List.getElem_mem hjt)
          generalize cs[j] = y at *
          have hbd : (P ++ R).length ≤ 1000000 := by
            have h0 := Hb.out
            rw [Hf.out, Hd.out, pairsOf, Hg.out] at h0
            simp only [List.length_append] at h0 ⊢
            omega
          generalize hN : (P ++ R).length = N at *
          go_wp2_with (refine region_quiet (by kernel_rfl) (by kernel_rfl) ?_; (repeat (go_big_quiet_step ((first | (go_at_call 96; exact (l2Line_c _ _ _ (by assumption) (by assumption) _).mono (by rintro e w' ⟨rfl, y, rfl⟩; first | exact ⟨rfl, _, ext_ext _ _⟩ | exact ⟨rfl, _, by rw [ext_ext, Ext.app_assoc]⟩ | exact ⟨rfl, _, by rw [ext_ext, Ext.app_assoc, Ext.app_assoc]⟩ | exact ⟨rfl, _, by rw [ext_ext, Ext.app_assoc, Ext.app_assoc, Ext.app_assoc]⟩)))))); refine wpQuiet_nil ?_; rintro _ ⟨x, rfl⟩)
          · go_roundw
            case rel =>
              rename_i hl
              refine ⟨j + 1, R ++ [(k, j)], by omega, by omega, by go_num, ?_, by repeat (first | exact Ex.refl _ | refine Ex.ext ?_ _ | refine Ex.alloc ?_ _ | refine Ex.drew ?_), ?_⟩
              · rw [← List.append_assoc, List.length_append, hN]; simp
              · rw [Hg.out, Hd'.out, rowPairs, hl]
                simp
            case measure => simp [intOf]; omega
          · go_roundw
            case rel =>
              rename_i hl
              refine ⟨j + 1, R, by omega, by omega, by go_num, by rw [hN], by repeat (first | exact Ex.refl _ | refine Ex.ext ?_ _ | refine Ex.alloc ?_ _ | refine Ex.drew ?_), ?_⟩
              rw [Hg.out, Hd'.out, rowPairs, hl]
              simp
            case measure => simp [intOf]; omega
        · have : j = cs.length := by omega
          subst this
          go_wp2
          go_roundw
          case rel =>
            refine ⟨k + 1, P ++ R, by omega, by go_num, by simp, by repeat (first | exact Ex.refl _ | refine Ex.ext ?_ _ | refine Ex.alloc ?_ _ | refine Ex.drew ?_), ?_⟩
            have e := Hg.out
            rw [List.drop_length, rowPairs, List.append_nil] at e
            rw [Hf.out, Hd.out, pairsOf, e, List.append_assoc]
          case measure => simp [intOf]; omega
    · have : k = cs.length := by omega
      subst this
      go_wp2
      go_ret
      refine ⟨ret_int ?_, by repeat (first | exact Ex.refl _ | refine Ex.ext ?_ _ | refine Ex.alloc ?_ _ | refine Ex.drew ?_)⟩
      have e := Hf.out
      rw [List.drop_length, pairsOf, List.append_nil] at e
      rw [through, e]

def pairVals : List (Nat × Nat) → List Value
  | [] => []
  | (i, j) :: r => .int .i64 i :: .int .i64 j :: pairVals r
theorem pairVals_append (P R : List (Nat × Nat)) : pairVals (P ++ R) = pairVals P ++ pairVals R := by
  induction P with
  | nil => rfl
  | cons q P ih => obtain ⟨i, j⟩ := q; simp [pairVals, ih]
theorem pairVals_length (P : List (Nat × Nat)) : (pairVals P).length = P.length * 2 := by
  induction P with
  | nil => rfl
  | cons q P ih => obtain ⟨i, j⟩ := q; simp [pairVals, ih]; omega

theorem rowPair : RowT Try.prog 86 118 2 16 :=
  ⟨Try.underlying86, by
    have h : (Try.prog.info? 118).map (fun i => (i.zero, i.size, i.bytes)) = some (some (.agg #[.int .i64 0, .int .i64 0]), 2, 16) := by kernel_rfl
    obtain ⟨i, h1, h2, h3, h4⟩ := info_parts h
    exact ⟨i, _, h1, h2, h3, h4, rfl⟩, by decide⟩

theorem pairCase {z y c : C4} (hz : Ok z) (hy : Ok y) :
    (ceq z c = true ∧ lineB z y c = false) ∨ (ceq z c = false ∧ ceq y c = true ∧ lineB z y c = false) ∨ (ceq z c = false ∧ ceq y c = false ∧ ceq (third z y) c = false ∧ lineB z y c = false) ∨
    (ceq z c = false ∧ ceq y c = false ∧ ceq (third z y) c = true ∧ lineB z y c = true) := by
  have h := lineB_alt c hz hy
  cases h1 : ceq z c <;> cases h2 : ceq y c <;> cases h3 : ceq (third z y) c <;> simp [h1, h2, h3] at h <;> simp [h]

theorem pairsFor_c (cs : List C4) (c : C4) (p : Option Addr) (cap : Nat) (w : World) (hn : cs.length ≤ 1000) (hok : ∀ z ∈ cs, Ok z) (hz : Sl w p cs) :
    Calls Try.prog 93 #[.slice p cs.length cap, .agg #[.int .i64 c.a, .int .i64 c.b, .int .i64 c.c, .int .i64 c.d]] w fun e w' => ∃ g cap', e = .returned (.slice (some ⟨g, 0, none⟩) (through cs c) cap') ∧ Ex w w' ∧
      RowV 118 2 w.heap.size w' g cap' (through cs c) (pairVals (pairsOf c cs 0)) := by
  have Hb := Lib.hid (pairs_small (c := c) hn)
  have Hok := Lib.hid hok
  have Hz := Lib.hid hz
  clear hok hz
  go_enter Try.func93, Try.ntmps93
  go_wp2
  go_loopw [5, 12] (fun u v wr => ∃ (k : Nat) (P : List (Nat × Nat)) (g cap' : Nat), k ≤ cs.length ∧ v = .int .i64 k ∧ u = .slice (some ⟨g, 0, none⟩) P.length cap' ∧ Ex w wr ∧ Box4 wr w.heap.size c.a c.b c.c c.d ∧ w.heap.size < g ∧
    RowV 118 2 w.heap.size wr g cap' P.length (pairVals P) ∧ pairsOf c cs 0 = P ++ pairsOf c (cs.drop k) k) (fun _ v _ => cs.length - (intOf v).toNat)
  case atStart =>
    refine ⟨0, [], w.heap.size + 1, 0, Nat.zero_le _, rfl, rfl, by repeat (first | exact Ex.refl _ | refine Ex.ext ?_ _ | refine Ex.alloc ?_ _ | refine Ex.drew ?_), ⟨(by first | (simp; done) | (simp [ext_size]; omega)), by go_simp, by go_simp, by go_simp, by go_simp⟩, by omega, ?_, rfl⟩
    exact (RowV.start' _ _ _ _ (by simp)).low (by omega)
  case round =>
    obtain ⟨k, P, g, cap', hk, rfl, rfl, hE, hbox, hg, hrow, hf⟩ := hrel
    have Hf := Lib.hid hf
    have HE := Lib.hid hE
    have HB := Lib.hid hbox
    have HR := Lib.hid hrow
    clear hf hE hbox hrow
    by_cases hlt : k < cs.length
    · obtain ⟨b, o, rfl, hb, h1, h2, h3, h4⟩ := (Hz.out.ex HE.out) k hlt
      have Hd := Lib.hid (List.drop_eq_getElem_cons hlt)
      have hokz := Hok.out _ (List.getElem_mem hlt)
      generalize cs[k] = z at *
      go_wp2
      clear h1 h2 h3 h4
      obtain ⟨wo, rfl⟩ : ∃ wo : World, wo = wr := ⟨_, rfl⟩
      go_loopw [5, 8] (fun u v wr => ∃ (j : Nat) (R : List (Nat × Nat)) (g cap' : Nat), k + 1 ≤ j ∧ j ≤ cs.length ∧ v = .int .i64 j ∧ u = .slice (some ⟨g, 0, none⟩) (P ++ R).length cap' ∧ Ex w wr ∧
        Box4 wr w.heap.size c.a c.b c.c c.d ∧ Box4 wr wo.heap.size z.a z.b z.c z.d ∧ w.heap.size < g ∧ g ≠ wo.heap.size ∧ RowV 118 2 w.heap.size wr g cap' (P ++ R).length (pairVals (P ++ R)) ∧
        rowPairs z c k (cs.drop (k + 1)) (k + 1) = R ++ rowPairs z c k (cs.drop j) j) (fun _ v _ => cs.length - (intOf v).toNat)
      case atStart =>
        refine ⟨k + 1, [], g, cap', Nat.le_refl _, by omega, by go_num, by simp, HE.out.alloc _, HB.out.ex ((Ex.refl _).alloc _), ⟨(by first | (simp; done) | (simp [ext_size]; omega)), by go_simp, by go_simp, by go_simp, by go_simp⟩, hg, ?_, ?_, rfl⟩
        · have := HR.out.blk; omega
        · rw [List.append_nil]; exact HR.out.ex ((Ex.refl _).alloc _)
      case round =>
        obtain ⟨j, R, g, cap', hj1, hj, rfl, rfl, hE, hbox, hbox2, hg, hg2, hrow, hg3⟩ := hrel
        have HE' := Lib.hid hE
        have HB' := Lib.hid hbox
        have HB2 := Lib.hid hbox2
        have HR' := Lib.hid hrow
        have Hg := Lib.hid hg3
        have Hg2 := Lib.hid hg2
        clear hE hbox hbox2 hrow hg3 hg2
        by_cases hjt : j < cs.length
        · obtain ⟨b', o', e', hb', h1', h2', h3', h4'⟩ := (Hz.out.ex HE'.out) j hjt
          simp at e'
          obtain ⟨rfl, rfl⟩ := e'
          have Hd' := Lib.hid (List.drop_eq_getElem_cons hjt)
          have hoky := Hok.out _ (List.getElem_mem hjt)
          generalize cs[j] = y at *
          have hbd : (P ++ R).length ≤ 1000000 := by
            have h0 := Hb.out
            rw [Hf.out, Hd.out, pairsOf, Hg.out] at h0
            simp only [List.length_append] at h0 ⊢
            omega
          generalize hN : (P ++ R).length = N at *
          have HN := Lib.hid hN
          clear hN
          obtain ⟨hcl, hc0, hc1, hc2, hc3⟩ := HB'.out
          obtain ⟨hzl, hz0, hz1, hz2, hz3⟩ := HB2.out
          rcases pairCase (c := c) hokz hoky with ⟨h1, hl⟩ | ⟨h1, h2, hl⟩ | ⟨h1, h2, h3, hl⟩ | ⟨h1, h2, h3, hl⟩
          case inr.inr.inr =>
            go_wp2_with (first | (refine region_quiet (by kernel_rfl) (by kernel_rfl) ?_; (repeat (go_big_quiet_step ((first | (go_at_call 124; exact (third_c _ _ (by assumption) (by assumption) _).mono (by rintro e w' ⟨rfl, y, rfl⟩; first | exact ⟨rfl, _, ext_ext _ _⟩ | exact ⟨rfl, _, by rw [ext_ext, Ext.app_assoc]⟩ | exact ⟨rfl, _, by rw [ext_ext, Ext.app_assoc, Ext.app_assoc]⟩ | exact ⟨rfl, _, by rw [ext_ext, Ext.app_assoc, Ext.app_assoc, Ext.app_assoc]⟩)))))); refine wpQuiet_nil ?_; rintro _ ⟨x, rfl⟩) | (at_builtin; refine wp_app rowPair (nW := _) (by simp [go_sem]) rfl _ _ rfl rfl (HR'.out.ex ((Ex.refl _).ext _)) 1 1 [.int .i64 k, .int .i64 j] rfl rfl (one2 _ _) (by omega) ?c2 ?c3 ?_; (case c2 => (unfold maxLen; omega)); (case c3 => omega); intro g' cap'' wq hrow' hK hg'))
            go_roundw
            case rel =>
              have hg2 := Hg2.out
              refine ⟨j + 1, R ++ [(k, j)], g', cap'', by omega, by omega, by go_num, ?_, ?_, ?_, ?_, ?_, ?_, ?_, ?_⟩
              · rw [← List.append_assoc, List.length_append, HN.out]; rfl
              · exact Keeps.ex (HE'.out.ext _) hK (by omega)
              · exact (HB'.out.ex ((Ex.refl _).ext _)).keeps hK (by omega)
              · exact (HB2.out.ex ((Ex.refl _).ext _)).keeps hK (by omega)
              · rcases hg' with h | h
                · omega
                · rw [ext_size] at h; omega
              · rcases hg' with h | h
                · omega
                · rw [ext_size] at h; omega
              · rw [← List.append_assoc, pairVals_append, List.length_append, HN.out]; exact hrow'
              · rw [Hg.out, Hd'.out, rowPairs, hl]
                simp
            case measure => simp [intOf]; omega
          all_goals
            go_wp2_with (refine region_quiet (by kernel_rfl) (by kernel_rfl) ?_; (repeat (go_big_quiet_step ((first | (go_at_call 124; exact (third_c _ _ (by assumption) (by assumption) _).mono (by rintro e w' ⟨rfl, y, rfl⟩; first | exact ⟨rfl, _, ext_ext _ _⟩ | exact ⟨rfl, _, by rw [ext_ext, Ext.app_assoc]⟩ | exact ⟨rfl, _, by rw [ext_ext, Ext.app_assoc, Ext.app_assoc]⟩ | exact ⟨rfl, _, by rw [ext_ext, Ext.app_assoc, Ext.app_assoc, Ext.app_assoc]⟩)))))); refine wpQuiet_nil ?_; rintro _ ⟨x, rfl⟩)
            go_roundw
            case rel =>
              refine ⟨j + 1, R, g, cap', by omega, by omega, by go_num, by rw [HN.out], HE'.out.ext _, HB'.out.ex ((Ex.refl _).ext _), HB2.out.ex ((Ex.refl _).ext _), hg, Hg2.out, ?_, ?_⟩
              · rw [HN.out]; exact HR'.out.ex ((Ex.refl _).ext _)
              · rw [Hg.out, Hd'.out, rowPairs, hl]
                simp
            case measure => simp [intOf]; omega
        · have : j = cs.length := by omega
          subst this
          go_wp2
          go_roundw
          case rel =>
            refine ⟨k + 1, P ++ R, g, cap', by omega, by go_num, rfl, HE'.out, HB'.out, hg, HR'.out, ?_⟩
            have e := Hg.out
            rw [List.drop_length, rowPairs, List.append_nil] at e
            rw [Hf.out, Hd.out, pairsOf, e, List.append_assoc]
          case measure => simp [intOf]; omega
    · have : k = cs.length := by omega
      subst this
      go_wp2
      go_ret
      have e := Hf.out
      rw [List.drop_length, pairsOf, List.append_nil] at e
      refine ⟨g, cap', by rw [through, e]; rfl, HE.out, ?_⟩
      rw [through, e]
      exact HR.out
end Go.Proofs.Ytnjfkgggebhelaa
