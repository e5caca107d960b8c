/- The walk of the pile of the program. -/
import Derived.Test.YtkelmfdbcicojaaPile
namespace Go.Proofs.Ytkelmfdbcicojaa
set_option linter.unusedSimpArgs false
set_option linter.unusedVariables false
set_option maxHeartbeats 1000000
set_option maxRecDepth 100000
open Go.RowKit

theorem pile_c (s : Int) (h0 : 0 ≤ s) (h1 : s ≤ 65535) (w : World) :
    Calls Try.prog 111 #[.int .i64 s] w fun e w' => ∃ g cap, e = .returned (.slice (some ⟨g, 0, none⟩) 81 cap) ∧ Ex w w' ∧ RowV 52 4 w.heap.size w' g cap 81 (cellsOf (pileR s)) := by
  go_enter Try.func111, Try.ntmps111
  go_wp2
  go_loopw [3, 8] (fun u v wr => ∃ (k g cap : Nat), k ≤ 81 ∧ v = .int .i64 k ∧ u = .slice (some ⟨g, 0, none⟩) k cap ∧ Ex w wr ∧ RowV 52 4 w.heap.size wr g cap k (cellsOf (firstCards k))) (fun _ v _ => 81 - (intOf v).toNat)
  case atStart => exact ⟨0, w.heap.size, 0, by omega, rfl, rfl, by repeat (first | exact Ex.refl _ | refine Ex.ext ?_ _ | refine Ex.alloc ?_ _ | refine Ex.drew ?_), RowV.start' _ _ _ _ rfl⟩
  case round =>
    obtain ⟨k, g, cap, hk, rfl, rfl, hE, hrow⟩ := hrel
    have HE := Lib.hid hE
    have HR := Lib.hid hrow
    clear hE hrow
    by_cases hlt : k < 81
    · go_wp2_with (first | (go_at_call 102; refine (card_c _ (by omega) (by omega) _).mono ?_; rintro e w' ⟨rfl, x, rfl⟩) | (at_builtin; refine wp_app rowC4 (nW := _) (by simp [go_sem]) rfl _ _ rfl rfl (HR.out.ex ((Ex.refl _).ext _)) 1 1 [.int .i64 (at_ k).a, .int .i64 (at_ k).b, .int .i64 (at_ k).c, .int .i64 (at_ k).d] rfl rfl (one4 _ _ _ _) (by omega) ?c2 ?c3 ?_; (case c2 => (unfold maxLen; omega)); (case c3 => omega); intro g' cap' wq hrow' hK hg'))
      go_roundw
      case rel =>
        have hb := HR.out.blk
        refine ⟨k + 1, g', cap', by omega, by go_num, rfl, Keeps.ex (HE.out.ext _) hK (by omega), ?_⟩
        rw [firstCards_succ, cellsOf_append]
        exact hrow'
      case measure => simp [intOf]; omega
    · have : k = 81 := by omega
      subst this
      go_wp2
      obtain ⟨wo, rfl⟩ : ∃ wo : World, wo = wr := ⟨_, rfl⟩
      go_loopw [0, 5] (fun u v wr => ∃ (i : Nat) (t : Int) (l : List C4), i ≤ 80 ∧ v = .int .i64 i ∧ u = .int .i64 t ∧ 0 ≤ t ∧ t ≤ 65535 ∧ l.length = 81 ∧ Ex w wr ∧ RowV 52 4 w.heap.size wr g cap 81 (cellsOf l) ∧ pileR s = shuffle i t l)
        (fun _ v _ => (intOf v).toNat)
      case atStart => exact ⟨80, s, firstCards 81, by omega, rfl, rfl, h0, h1, by simp, HE.out, HR.out, rfl⟩
      case round =>
        obtain ⟨i, t, l, hi, rfl, rfl, ht0, ht1, hl, hE, hrow, hf⟩ := hrel
        have HE' := Lib.hid hE
        have HR' := Lib.hid hrow
        have Hf := Lib.hid hf
        have Hl := Lib.hid hl
        clear hE hrow hf
        cases i with
        | zero =>
          simp only [Int.natCast_zero]
          go_wp2
          go_ret
          refine ⟨g, cap, rfl, HE'.out, ?_⟩
          rw [Hf.out, shuffle]
          exact HR'.out
        | succ j =>
          obtain ⟨A, hw, hA, hcap, hg, hc⟩ := HR'.out.open hl.symm
          have hkle := swapAt_le (behind t) (j + 1)
          have hk : (behind t / 8 % ((j : Int) + 1 + 1)) = (swapAt (behind t) (j + 1) : Int) := by
            unfold swapAt
            rw [Int.toNat_of_nonneg (Int.emod_nonneg _ (by omega))]
            simp
          have hbt := behind_bd t
          have Hs := Lib.hid (show pileR s = shuffle j (behind t) (swapL l (j + 1) (swapAt (behind t) (j + 1))) from Hf.out)
          generalize swapAt (behind t) (j + 1) = k at *
          by_cases hjk : j + 1 = k
          · subst hjk
            obtain ⟨a0, a1, a2, a3⟩ := cellsOf_get l (j + 1) (by omega)
            rw [← hc _ (by omega)] at a0 a1 a2 a3
            have HL1 := Lib.hid (show swapL l (j + 1) (j + 1) = (l.set (j + 1) l[j + 1]).set (j + 1) l[j + 1] by simp [swapL, List.getD, show j + 1 < l.length by omega])
            have Hc := Lib.hid hc
            have HA := Lib.hid hA
            have HA2 := Lib.hid (show l.length * 4 ≤ A.size by rw [hA]; omega)
            have hklen : (j + 1) < l.length := by omega
            clear hc hA hcap
            obtain ⟨bt0, bt1⟩ := hbt
            rw [hw]
            clear hw
            generalize l[j + 1] = za at *
            have hg0 : (0 : Int) < (j : Int) + 1 := by omega
            have hg1 : (1 : Int) ≤ (j : Int) + 1 := by omega
            have hg2 : (0 : Int) ≤ (j : Int) := by omega
            go_upto_region 12 with (go_at_call 138; refine (behind_c _ ht0 ht1 _).mono ?_; rintro e w' ⟨rfl, x, rfl⟩)
            simp only [hk]
            clear hk
            simp only [Int.natCast_add, Int.natCast_one]
            obtain ⟨i0, g0⟩ := Array.getElem?_eq_some_iff.1 a0
            obtain ⟨i1, g1⟩ := Array.getElem?_eq_some_iff.1 a1
            obtain ⟨i2, g2⟩ := Array.getElem?_eq_some_iff.1 a2
            obtain ⟨i3, g3⟩ := Array.getElem?_eq_some_iff.1 a3
            go_region
            clear g0 g1 g2 g3
            go_wp2
            go_roundw
            case rel =>
              have hgw := HR'.out.blk
              have e1 := set_cells (i := j + 1) (c := za) (by omega) HA2.out Hc.out
              have e2 := set_cells (A := ((((A.setIfInBounds ((j + 1) * 4) (.int .i64 za.a)).setIfInBounds ((j + 1) * 4 + 1) (.int .i64 za.b)).setIfInBounds ((j + 1) * 4 + 2) (.int .i64 za.c)).setIfInBounds ((j + 1) * 4 + 3) (.int .i64 za.d))) (cs := l.set (j + 1) za) (i := (j + 1)) (c := za) (by simp; omega) (by simp only [Array.size_setIfInBounds, List.length_set]; exact HA2.out) (by rw [List.length_set]; exact e1)
              (repeat apply Exists.intro)
              refine ⟨?_, rfl⟩
              refine ⟨j, behind t, swapL l (j + 1) (j + 1), by omega, by go_num, rfl, bt0, bt1, by simp [Hl.out], ?_, ?_, Hs.out⟩
              · refine Keeps.ex (g := g) HE'.out ?_ hgw.1
                refine Keeps.trans (w' := setBlk wr g (.cells ((((((((A.setIfInBounds ((j + 1) * 4) (.int .i64 za.a)).setIfInBounds ((j + 1) * 4 + 1) (.int .i64 za.b)).setIfInBounds ((j + 1) * 4 + 2) (.int .i64 za.c)).setIfInBounds ((j + 1) * 4 + 3) (.int .i64 za.d)).setIfInBounds ((j + 1) * 4) (.int .i64 za.a)).setIfInBounds ((j + 1) * 4 + 1) (.int .i64 za.b)).setIfInBounds ((j + 1) * 4 + 2) (.int .i64 za.c)).setIfInBounds ((j + 1) * 4 + 3) (.int .i64 za.d)) 52 (0, 0))) (setBlk_keeps _) ?_
                exact Ex.keeps (by exact by repeat (first | exact Ex.refl _ | refine Ex.ext ?_ _ | refine Ex.alloc ?_ _ | refine Ex.drew ?_)) g
              · rw [HL1.out]
                refine RowV.ex (w := setBlk wr g (.cells ((((((((A.setIfInBounds ((j + 1) * 4) (.int .i64 za.a)).setIfInBounds ((j + 1) * 4 + 1) (.int .i64 za.b)).setIfInBounds ((j + 1) * 4 + 2) (.int .i64 za.c)).setIfInBounds ((j + 1) * 4 + 3) (.int .i64 za.d)).setIfInBounds ((j + 1) * 4) (.int .i64 za.a)).setIfInBounds ((j + 1) * 4 + 1) (.int .i64 za.b)).setIfInBounds ((j + 1) * 4 + 2) (.int .i64 za.c)).setIfInBounds ((j + 1) * 4 + 3) (.int .i64 za.d)) 52 (0, 0))) ?_ (by exact by repeat (first | exact Ex.refl _ | refine Ex.ext ?_ _ | refine Ex.alloc ?_ _ | refine Ex.drew ?_))
                refine HR'.out.shut Hl.out.symm (by simp) (by simp only [Array.size_setIfInBounds]; exact HA.out) ?_
                intro jj hjj
                exact e2 jj (by simp only [List.length_set] at hjj ⊢; exact hjj)
            case measure => simp [intOf]
          · have HJ := Lib.hid hjk
            obtain ⟨a0, a1, a2, a3⟩ := cellsOf_get l (j + 1) (by omega)
            obtain ⟨b0, b1, b2, b3⟩ := cellsOf_get l k (by omega)
            rw [← hc _ (by omega)] at a0 a1 a2 a3 b0 b1 b2 b3
            have HL1 := Lib.hid (show swapL l (j + 1) k = (l.set (j + 1) l[k]).set k l[j + 1] by simp [swapL, List.getD, show j + 1 < l.length by omega, show k < l.length by omega])
            have Hc := Lib.hid hc
            have HA := Lib.hid hA
            have HA2 := Lib.hid (show l.length * 4 ≤ A.size by rw [hA]; omega)
            have hklen : k < l.length := by omega
            clear hc hA hcap
            obtain ⟨bt0, bt1⟩ := hbt
            rw [hw]
            clear hw
            generalize l[j + 1] = za at *
            generalize l[k] = zb at *
            have hg0 : (0 : Int) < (j : Int) + 1 := by omega
            have hg1 : (1 : Int) ≤ (j : Int) + 1 := by omega
            have hg2 : (0 : Int) ≤ (j : Int) := by omega
            go_upto_region 12 with (go_at_call 138; refine (behind_c _ ht0 ht1 _).mono ?_; rintro e w' ⟨rfl, x, rfl⟩)
            simp only [hk]
            clear hk
            have q00 : ((j + 1) * 4 = k * 4) = False := eq_false (by omega)
            have q01 : ((j + 1) * 4 = k * 4 + 1) = False := eq_false (by omega)
            have q02 : ((j + 1) * 4 = k * 4 + 2) = False := eq_false (by omega)
            have q03 : ((j + 1) * 4 = k * 4 + 3) = False := eq_false (by omega)
            have q10 : ((j + 1) * 4 + 1 = k * 4) = False := eq_false (by omega)
            have q11 : ((j + 1) * 4 + 1 = k * 4 + 1) = False := eq_false (by omega)
            have q12 : ((j + 1) * 4 + 1 = k * 4 + 2) = False := eq_false (by omega)
            have q13 : ((j + 1) * 4 + 1 = k * 4 + 3) = False := eq_false (by omega)
            have q20 : ((j + 1) * 4 + 2 = k * 4) = False := eq_false (by omega)
            have q21 : ((j + 1) * 4 + 2 = k * 4 + 1) = False := eq_false (by omega)
            have q22 : ((j + 1) * 4 + 2 = k * 4 + 2) = False := eq_false (by omega)
            have q23 : ((j + 1) * 4 + 2 = k * 4 + 3) = False := eq_false (by omega)
            have q30 : ((j + 1) * 4 + 3 = k * 4) = False := eq_false (by omega)
            have q31 : ((j + 1) * 4 + 3 = k * 4 + 1) = False := eq_false (by omega)
            have q32 : ((j + 1) * 4 + 3 = k * 4 + 2) = False := eq_false (by omega)
            have q33 : ((j + 1) * 4 + 3 = k * 4 + 3) = False := eq_false (by omega)
            have qn : (j + 1 = k) = False := eq_false hjk
            have qm : (k = j + 1) = False := eq_false (Ne.symm hjk)
            go_region
            clear q00 q01 q02 q03 q10 q11 q12 q13 q20 q21 q22 q23 q30 q31 q32 q33 qn qm
            go_wp2
            go_roundw
            case rel =>
              have hgw := HR'.out.blk
              have e1 := set_cells (i := j + 1) (c := zb) (by omega) HA2.out Hc.out
              have e2 := set_cells (A := ((((A.setIfInBounds ((j + 1) * 4) (.int .i64 zb.a)).setIfInBounds ((j + 1) * 4 + 1) (.int .i64 zb.b)).setIfInBounds ((j + 1) * 4 + 2) (.int .i64 zb.c)).setIfInBounds ((j + 1) * 4 + 3) (.int .i64 zb.d))) (cs := l.set (j + 1) zb) (i := k) (c := za) (by simp; omega) (by simp only [Array.size_setIfInBounds, List.length_set]; exact HA2.out) (by rw [List.length_set]; exact e1)
              (repeat apply Exists.intro)
              refine ⟨?_, rfl⟩
              refine ⟨j, behind t, swapL l (j + 1) k, by omega, by go_num, rfl, bt0, bt1, by simp [Hl.out], ?_, ?_, Hs.out⟩
              · refine Keeps.ex (g := g) HE'.out ?_ hgw.1
                refine Keeps.trans (w' := setBlk wr g (.cells ((((((((A.setIfInBounds ((j + 1) * 4) (.int .i64 zb.a)).setIfInBounds ((j + 1) * 4 + 1) (.int .i64 zb.b)).setIfInBounds ((j + 1) * 4 + 2) (.int .i64 zb.c)).setIfInBounds ((j + 1) * 4 + 3) (.int .i64 zb.d)).setIfInBounds (k * 4) (.int .i64 za.a)).setIfInBounds (k * 4 + 1) (.int .i64 za.b)).setIfInBounds (k * 4 + 2) (.int .i64 za.c)).setIfInBounds (k * 4 + 3) (.int .i64 za.d)) 52 (0, 0))) (setBlk_keeps _) ?_
                exact Ex.keeps (by exact by repeat (first | exact Ex.refl _ | refine Ex.ext ?_ _ | refine Ex.alloc ?_ _ | refine Ex.drew ?_)) g
              · rw [HL1.out]
                refine RowV.ex (w := setBlk wr g (.cells ((((((((A.setIfInBounds ((j + 1) * 4) (.int .i64 zb.a)).setIfInBounds ((j + 1) * 4 + 1) (.int .i64 zb.b)).setIfInBounds ((j + 1) * 4 + 2) (.int .i64 zb.c)).setIfInBounds ((j + 1) * 4 + 3) (.int .i64 zb.d)).setIfInBounds (k * 4) (.int .i64 za.a)).setIfInBounds (k * 4 + 1) (.int .i64 za.b)).setIfInBounds (k * 4 + 2) (.int .i64 za.c)).setIfInBounds (k * 4 + 3) (.int .i64 za.d)) 52 (0, 0))) ?_ (by exact by repeat (first | exact Ex.refl _ | refine Ex.ext ?_ _ | refine Ex.alloc ?_ _ | refine Ex.drew ?_))
                refine HR'.out.shut Hl.out.symm (by simp) (by simp only [Array.size_setIfInBounds]; exact HA.out) ?_
                intro jj hjj
                exact e2 jj (by simp only [List.length_set] at hjj ⊢; exact hjj)
            case measure => simp [intOf]
end Go.Proofs.Ytkelmfdbcicojaa
