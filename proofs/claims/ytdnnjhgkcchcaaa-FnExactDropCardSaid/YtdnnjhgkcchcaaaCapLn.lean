/- The walks of CapLines, and of the law on it. -/
import Derived.Test.YtdnnjhgkcchcaaaLawG
import Derived.Test.YtdnnjhgkcchcaaaRowZ
import Derived.Deep.RegionHeld3
namespace Go.Proofs.Ytdnnjhgkcchcaaa
set_option linter.unusedSimpArgs false
set_option linter.unusedVariables false
set_option maxHeartbeats 1000000
set_option maxRecDepth 100000
open Go.RowKit

theorem Box4.apart {w w' : World} {b lo hi : Nat} {x y z t : Int} (h : Box4 w b x y z t) (k : Apart lo hi w w') (hb : b < lo ∨ hi ≤ b) : Box4 w' b x y z t := by
  have e : ∀ i, w'.cell? ⟨b, i, none⟩ = w.cell? ⟨b, i, none⟩ := fun i => by simp only [World.cell?]; rw [k.same b h.lt hb]
  exact ⟨Nat.lt_of_lt_of_le h.lt k.size, by rw [e]; exact h.c0, by rw [e]; exact h.c1, by rw [e]; exact h.c2, by rw [e]; exact h.c3⟩
theorem alloc_sz_of {w w' : World} {o : Obj} (hx : Ex (w.alloc o) w') : (w.alloc o).heap.size = w.heap.size + 1 := by simp
theorem drew_sz (w : World) : w.drew.heap.size = w.heap.size := rfl

def pairInts : List (Nat × Nat) → List Int
  | [] => []
  | (i, j) :: r => (i : Int) :: (j : Int) :: pairInts r
theorem pairVals_ints (P : List (Nat × Nat)) : pairVals P = intVals (pairInts P) := by
  induction P with
  | nil => rfl
  | cons q P ih => obtain ⟨i, j⟩ := q; simp [pairVals, pairInts, intVals, ih]
def clB (cs : List C4) (c : C4) : Bool := handB cs && (ok c && !hasB cs c)
def clR (cs : List C4) (c : C4) : List (Nat × Nat) := if clB cs c then pairsOf c cs 0 else []
theorem clR_len (cs : List C4) (c : C4) : (clR cs c).length ≤ 1000000 := by
  unfold clR; split
  · rename_i h
    simp only [clB, Bool.and_eq_true] at h
    exact pairs_small (by have := (handB_ok h.1).2; omega)
  · simp

theorem specCapLines_c (cs : List C4) (c : C4) (p : Option Addr) (cap : Nat) (w : World) (hn : cs.length ≤ 1000000000000) (hz : Sl w p cs) :
    Calls Try.prog 38 #[.slice p cs.length cap, .agg #[.int .i64 c.a, .int .i64 c.b, .int .i64 c.c, .int .i64 c.d]] w fun e w' => ∃ q cap', e = .returned (.tuple #[.slice q (clR cs c).length cap', .bool (clB cs c)]) ∧ Ex w w' ∧ RowZ 71 2 w.heap.size w'.heap.size w' q cap' (clR cs c).length (pairInts (clR cs c)) := by
  have Hz := Lib.hid hz
  clear hz
  have row0 := Lib.hid ((RowV.start' (w.alloc (.cells #[.int .i64 c.a, .int .i64 c.b, .int .i64 c.c, .int .i64 c.d] 48)) 71 2 (w.heap.size + 1) (by simp)).low (by omega : w.heap.size ≤ w.heap.size + 1))
  cases h : clB cs c
  · have hR : clR cs c = [] := by simp [clR, h]
    rw [hR]
    have HB := Lib.hid h
    clear hR h
    cases h1 : handB cs
    all_goals cases h2 : ok c
    all_goals cases h3 : hasB cs c
    all_goals first
      | (exfalso; have := HB.out; simp [clB, h1, h2, h3] at this; done)
      | (go_enter Try.func38, Try.ntmps38
         go_wp2_with (first | (go_at_call 64; refine (l2Hand_c _ _ _ _ hn (Hz.out.ex (by repeat (first | exact Ex.refl _ | refine Ex.ext ?_ _ | refine Ex.alloc ?_ _ | refine Ex.drew ?_)))).mono ?_; rintro e w' ⟨rfl, x, rfl⟩; rw [h1]) | (go_at_call 78; refine (l2Card_c _ _).mono ?_; rintro e w' ⟨rfl, x, rfl⟩; rw [h2]) | (go_at_call 79; refine (l2Has_c _ _ _ _ _ (by omega) (Hz.out.ex (by repeat (first | exact Ex.refl _ | refine Ex.ext ?_ _ | refine Ex.alloc ?_ _ | refine Ex.drew ?_)))).mono ?_; rintro e w' ⟨rfl, x, rfl⟩; rw [h3]))
         go_ret2
         exact ⟨some ⟨w.heap.size + 1, 0, none⟩, 0, by simp, by repeat (first | exact Ex.refl _ | refine Ex.ext ?_ _ | refine Ex.alloc ?_ _ | refine Ex.drew ?_), (RowV.rowZ (row0.out.ex (by exact by repeat (first | exact Ex.refl _ | refine Ex.ext ?_ _ | refine Ex.alloc ?_ _ | refine Ex.drew ?_))))⟩)
  · have h' := h
    simp only [clB, Bool.and_eq_true, Bool.not_eq_true'] at h'
    obtain ⟨h1, h2, h3⟩ := h'
    have hR : clR cs c = pairsOf c cs 0 := by simp [clR, h]
    rw [hR]
    clear hR h
    have Hh := Lib.hid (handB_ok h1)
    have hn2 : cs.length ≤ 1000 := by have := Hh.out.2; omega
    have Hok := Lib.hid Hh.out.1
    have Hb := Lib.hid (pairs_small (c := c) hn2)
    go_enter Try.func38, Try.ntmps38
    go_wp2_with (first | (go_at_call 64; refine (l2Hand_c _ _ _ _ hn (Hz.out.ex (by repeat (first | exact Ex.refl _ | refine Ex.ext ?_ _ | refine Ex.alloc ?_ _ | refine Ex.drew ?_)))).mono ?_; rintro e w' ⟨rfl, x, rfl⟩; rw [h1]) | (go_at_call 78; refine (l2Card_c _ _).mono ?_; rintro e w' ⟨rfl, x, rfl⟩; rw [h2]) | (go_at_call 79; refine (l2Has_c _ _ _ _ _ (by omega) (Hz.out.ex (by repeat (first | exact Ex.refl _ | refine Ex.ext ?_ _ | refine Ex.alloc ?_ _ | refine Ex.drew ?_)))).mono ?_; rintro e w' ⟨rfl, x, rfl⟩; rw [h3]))
    go_loopw [6, 7] (fun u v wr => ∃ (k : Nat) (P : List (Nat × Nat)) (g cap' : Nat), k ≤ cs.length ∧ v = .int .i64 k ∧ u = .slice (some ⟨g, 0, none⟩) P.length cap' ∧ Ex w wr ∧ Box4 wr w.heap.size c.a c.b c.c c.d ∧ w.heap.size < g ∧
      RowV 71 2 w.heap.size wr g cap' P.length (pairVals P) ∧ pairsOf c cs 0 = P ++ pairsOf c (cs.drop k) k) (fun _ v _ => cs.length - (intOf v).toNat)
    case atStart => exact ⟨0, [], w.heap.size + 1, 0, Nat.zero_le _, rfl, rfl, by repeat (first | exact Ex.refl _ | refine Ex.ext ?_ _ | refine Ex.alloc ?_ _ | refine Ex.drew ?_), ⟨(by first | (simp; done) | (simp [ext_size]; omega)), by go_simp, by go_simp, by go_simp, by go_simp⟩, by omega, row0.out.ex (by exact by repeat (first | exact Ex.refl _ | refine Ex.ext ?_ _ | refine Ex.alloc ?_ _ | refine Ex.drew ?_)), rfl⟩
    case round =>
      obtain ⟨k, P, g, cap', hk, rfl, rfl, hE, hbox, hg, hrow, hf⟩ := hrel
      have Hf := Lib.hid hf
      have HE := Lib.hid hE
      have HB := Lib.hid hbox
      have HR := Lib.hid hrow
      clear hf hE hbox hrow
      by_cases hlt : k < cs.length
      · have hdr := List.drop_eq_getElem_cons hlt
        have hokz := Hok.out _ (List.getElem_mem hlt)
        have hsl := fun wr hE => (Hz.out.ex (w' := wr) hE) k hlt
        generalize cs[k] = z at *
        have Hd := Lib.hid hdr
        have Hsl := Lib.hid hsl
        clear hsl hdr
        go_wp2
        go_loopw [6, 8] (fun u v wr => ∃ (j : Nat) (R : List (Nat × Nat)) (g cap' : Nat), k + 1 ≤ j ∧ j ≤ cs.length ∧ v = .int .i64 j ∧ u = .slice (some ⟨g, 0, none⟩) (P ++ R).length cap' ∧ Ex w wr ∧
          Box4 wr w.heap.size c.a c.b c.c c.d ∧ w.heap.size < g ∧ RowV 71 2 w.heap.size wr g cap' (P ++ R).length (pairVals (P ++ R)) ∧
          rowPairs z c k (cs.drop (k + 1)) (k + 1) = R ++ rowPairs z c k (cs.drop j) j) (fun _ v _ => cs.length - (intOf v).toNat)
        case atStart =>
          refine ⟨k + 1, [], g, cap', Nat.le_refl _, by omega, by go_num, by simp, HE.out, HB.out, hg, ?_, rfl⟩
          rw [List.append_nil]; exact HR.out
        case round =>
          obtain ⟨j, R, g, cap', hj1, hj, rfl, rfl, hE, hbox, hg, hrow, hg3⟩ := hrel
          have HE' := Lib.hid hE
          have HB' := Lib.hid hbox
          have HR' := Lib.hid hrow
          have Hg := Lib.hid hg3
          clear hE hbox hrow hg3
          by_cases hjt : j < cs.length
          · obtain ⟨b, o, rfl, hb, h1, h2, h3, h4⟩ := Hsl.out _ HE'.out
            obtain ⟨b', o', e', hb', h1', h2', h3', h4'⟩ := (Hz.out.ex HE'.out) j hjt
            simp at e'
            obtain ⟨rfl, rfl⟩ := e'
            have Hd' := Lib.hid (List.drop_eq_getElem_cons hjt)
            have hoky := Hok.out _ (List.getElem_mem hjt)
            generalize cs[j] = y at *
            have hbd : (P ++ R).length ≤ 1000000 := by
              have h0 := Hb.out
              rw [Hf.out, Hd.out, pairsOf, Hg.out] at h0
              simp only [List.length_append] at h0 ⊢
              omega
            generalize hN : (P ++ R).length = N at *
            have HN := Lib.hid hN
            clear hN
            obtain ⟨hcl, hc0, hc1, hc2, hc3⟩ := HB'.out
            cases hln : lineB z y c
            · go_wp2_with (refine region_quiet (by kernel_rfl) (by kernel_rfl) ?_; (repeat (go_big_quiet_step ((go_at_call 80; exact (l2Line_c _ _ _ (by assumption) (by assumption) _).mono (by rw [hln]; rintro e w' ⟨rfl, y, rfl⟩; first | exact ⟨rfl, _, ext_ext _ _⟩ | exact ⟨rfl, _, by rw [ext_ext, Ext.app_assoc]⟩))))); refine wpQuiet_nil ?_; rintro _ ⟨x, rfl⟩)
              go_roundw
              case rel =>
                (try ((repeat apply Exists.intro); refine ⟨?_, rfl⟩))
                refine ⟨j + 1, R, g, cap', by omega, by omega, by go_num, by rw [HN.out], HE'.out.ext _, HB'.out.ex ((Ex.refl _).ext _), hg, ?_, ?_⟩
                · rw [HN.out]; exact HR'.out.ex ((Ex.refl _).ext _)
                · rw [Hg.out, Hd'.out, rowPairs, hln]
                  simp
              case measure => simp [intOf]; omega
            · go_wp2_with (first | (refine region_quiet (by kernel_rfl) (by kernel_rfl) ?_; (repeat (go_big_quiet_step ((go_at_call 80; exact (l2Line_c _ _ _ (by assumption) (by assumption) _).mono (by rw [hln]; rintro e w' ⟨rfl, y, rfl⟩; first | exact ⟨rfl, _, ext_ext _ _⟩ | exact ⟨rfl, _, by rw [ext_ext, Ext.app_assoc]⟩))))); refine wpQuiet_nil ?_; rintro _ ⟨x, rfl⟩) | (at_builtin; refine wp_app rowPair (nW := _) (by simp [go_sem]) rfl _ _ rfl rfl (HR'.out.ex ((Ex.refl _).ext _)) 1 1 [.int .i64 k, .int .i64 j] rfl rfl (one2 _ _) (by omega) ?c2 ?c3 ?_; (case c2 => (unfold maxLen; omega)); (case c3 => omega); intro g' cap'' wq hrow' hK hg'))
              go_roundw
              case rel =>
                (try ((repeat apply Exists.intro); refine ⟨?_, rfl⟩))
                have hgb := HR'.out.blk
                refine ⟨j + 1, R ++ [(k, j)], g', cap'', by omega, by omega, by go_num, ?_, Keeps.ex (HE'.out.ext _) hK (by omega), (HB'.out.ex ((Ex.refl _).ext _)).keeps hK (by omega), ?_, ?_, ?_⟩
                · rw [← List.append_assoc, List.length_append, HN.out]; rfl
                · rcases hg' with h | h
                  · omega
                  · rw [ext_size] at h; omega
                · rw [← List.append_assoc, pairVals_append, List.length_append, HN.out]; exact hrow'
                · rw [Hg.out, Hd'.out, rowPairs, hln]
                  simp
              case measure => simp [intOf]; omega
          · have : j = cs.length := by omega
            subst this
            go_wp2
            go_roundw
            case rel =>
              (try ((repeat apply Exists.intro); refine ⟨?_, rfl⟩))
              have e := Hg.out
              rw [List.drop_length, rowPairs, List.append_nil] at e
              refine ⟨k + 1, P ++ R, g, cap', by omega, by go_num, rfl, HE'.out, HB'.out, hg, HR'.out, ?_⟩
              rw [Hf.out, Hd.out, pairsOf, e, List.append_assoc]
            case measure => simp [intOf]; omega
      · have : k = cs.length := by omega
        subst this
        go_wp2
        go_ret2
        have e := Hf.out
        rw [List.drop_length, pairsOf, List.append_nil] at e
        rw [e]
        exact ⟨some ⟨g, 0, none⟩, cap', rfl, HE.out, (by have := HR.out; rw [pairVals_ints] at this; exact this.rowZ)⟩

theorem implCapLines_c (cs : List C4) (c : C4) (p : Option Addr) (cap : Nat) (w : World) (hn : cs.length ≤ 1000000000000) (hz : Sl w p cs) :
    Calls Try.prog 40 #[.slice p cs.length cap, .agg #[.int .i64 c.a, .int .i64 c.b, .int .i64 c.c, .int .i64 c.d]] w fun e w' => ∃ q cap', e = .returned (.tuple #[.slice q (clR cs c).length cap', .bool (clB cs c)]) ∧ Ex w w' ∧ RowZ 71 2 w.heap.size w'.heap.size w' q cap' (clR cs c).length (pairInts (clR cs c)) := by
  have Hz := Lib.hid hz
  clear hz
  cases h : clB cs c
  · have hR : clR cs c = [] := by simp [clR, h]
    rw [hR]
    have HB := Lib.hid h
    clear hR h
    cases h1 : handB cs
    all_goals cases h2 : ok c
    all_goals cases h3 : hasB cs c
    all_goals first
      | (exfalso; have := HB.out; simp [clB, h1, h2, h3] at this; done)
      | (go_enter Try.func40, Try.ntmps40
         go_wp2_with (first | (go_at_call 66; refine (implIsHand_c _ _ _ _ hn (Hz.out.ex (by repeat (first | exact Ex.refl _ | refine Ex.ext ?_ _ | refine Ex.alloc ?_ _ | refine Ex.drew ?_)))).mono ?_; rintro e w' ⟨rfl, x, rfl⟩; rw [h1]) | (go_at_call 81; refine (implIsCard_c _ _).mono ?_; rintro e w' ⟨rfl, x, rfl⟩; rw [h2]) | (go_at_call 72; refine (has_c _ _ _ _ _ (by omega) (Hz.out.ex (by repeat (first | exact Ex.refl _ | refine Ex.ext ?_ _ | refine Ex.alloc ?_ _ | refine Ex.drew ?_)))).mono ?_; rintro e w' ⟨rfl, x, rfl⟩; rw [h3]))
         go_ret2
         exact ⟨none, 0, by simp, by repeat (first | exact Ex.refl _ | refine Ex.ext ?_ _ | refine Ex.alloc ?_ _ | refine Ex.drew ?_), RowZ.nil _ _ _⟩)
  · have h' := h
    simp only [clB, Bool.and_eq_true, Bool.not_eq_true'] at h'
    obtain ⟨h1, h2, h3⟩ := h'
    have hR : clR cs c = pairsOf c cs 0 := by simp [clR, h]
    rw [hR]
    clear hR h
    have Hh := Lib.hid (handB_ok h1)
    have hn2 : cs.length ≤ 1000 := by have := Hh.out.2; omega
    have Hok := Lib.hid Hh.out.1
    go_enter Try.func40, Try.ntmps40
    go_wp2_with (first | (first | (go_at_call 66; refine (implIsHand_c _ _ _ _ hn (Hz.out.ex (by repeat (first | exact Ex.refl _ | refine Ex.ext ?_ _ | refine Ex.alloc ?_ _ | refine Ex.drew ?_)))).mono ?_; rintro e w' ⟨rfl, x, rfl⟩; rw [h1]) | (go_at_call 81; refine (implIsCard_c _ _).mono ?_; rintro e w' ⟨rfl, x, rfl⟩; rw [h2]) | (go_at_call 72; refine (has_c _ _ _ _ _ (by omega) (Hz.out.ex (by repeat (first | exact Ex.refl _ | refine Ex.ext ?_ _ | refine Ex.alloc ?_ _ | refine Ex.drew ?_)))).mono ?_; rintro e w' ⟨rfl, x, rfl⟩; rw [h3])) | (go_at_call 82; refine (pairsFor_c _ _ _ _ _ hn2 Hok.out (Hz.out.ex (by repeat (first | exact Ex.refl _ | refine Ex.ext ?_ _ | refine Ex.alloc ?_ _ | refine Ex.drew ?_)))).mono ?_; rintro e w1 ⟨g, cap', rfl, hx, hr⟩))
    go_ret2
    exact ⟨some ⟨g, 0, none⟩, cap', rfl, (show Ex w w1 from (by repeat (first | exact Ex.refl _ | assumption | refine Ex.ext ?_ _ | refine Ex.alloc ?_ _ | refine Ex.drew ?_ | refine Ex.trans ?_ (by assumption)))), (by rw [pairVals_ints] at hr; exact (hr.low (by first | (simp; done) | (simp [ext_size]; done) | (simp [ext_size]; omega) | omega)).rowZ)⟩

theorem fnExactCapLines_walk (w : World) (p : Option Addr) (cs : List C4) (cap : Nat) (hl : cs.length ≤ maxLen) (hz : Sl w p cs) (c : C4) : Calls Try.prog 7 #[.slice p cs.length cap, .agg #[.int .i64 c.a, .int .i64 c.b, .int .i64 c.c, .int .i64 c.d]] w fun e w' => e = .returned (.bool true) ∧ Below w.heap.size w w' := by
  unfold maxLen at hl
  have hB : Below w.heap.size w (w.alloc (.cells #[.int .i64 c.a, .int .i64 c.b, .int .i64 c.c, .int .i64 c.d] 48)) := Ex.below (by exact by repeat (first | exact Ex.refl _ | refine Ex.ext ?_ _ | refine Ex.alloc ?_ _ | refine Ex.drew ?_))
  have hb : Box4 (w.alloc (.cells #[.int .i64 c.a, .int .i64 c.b, .int .i64 c.c, .int .i64 c.d] 48)) w.heap.size c.a c.b c.c c.d := Box4.new w _ _ _ _
  by_cases hs : cs.length ≤ 1048576
  · have h3 : ¬ ((1048576 : Int) - cs.length < 0) := by omega
    go_enter Try.func7, Try.ntmps7
    go_wp2_with (go_at_call 17; refine (sz_c _ _ _ _ (by omega) (by omega) (by omega) _).mono ?_; rintro e w1 ⟨rfl, hx⟩; rw [szSmall hs]; have hb := hb.ex hx; have hB := below_ex hB hx; have hs1 := Lib.hid hx.below.size; have hq1 := Lib.hid (alloc_sz_of hx); clear hx; obtain ⟨b0, b1, b2, b3, b4⟩ := id hb)
    have hlen := clR_len cs c
    go_region_held3 (fun w' => w'.cell? ⟨w.heap.size, 0, none⟩ = some (.int .i64 c.a) ∧ w'.cell? ⟨w.heap.size, 1, none⟩ = some (.int .i64 c.b) ∧ w'.cell? ⟨w.heap.size, 2, none⟩ = some (.int .i64 c.c) ∧ w'.cell? ⟨w.heap.size, 3, none⟩ = some (.int .i64 c.d))
      (first | exact ⟨hb.c0, hb.c1, hb.c2, hb.c3⟩ | exact ⟨(hb.ex ((Ex.refl _).drew)).c0, (hb.ex ((Ex.refl _).drew)).c1, (hb.ex ((Ex.refl _).drew)).c2, (hb.ex ((Ex.refl _).drew)).c3⟩)
      (first | (go_at_call 19; refine (toA4S_o _ _ _ _ (by omega) (hz.below (by first | exact hB | exact below_ex hB ((Ex.refl _).drew)))).mono ?_; rintro e w2 ⟨gra, rfl, hx, ra⟩; have hq2 := Lib.hid (drew_sz w1); have hb := hb.ex (Ex.trans (by exact by repeat (first | exact Ex.refl _ | refine Ex.ext ?_ _ | refine Ex.alloc ?_ _ | refine Ex.drew ?_)) hx); have hB := below_ex hB (Ex.trans (by exact by repeat (first | exact Ex.refl _ | refine Ex.ext ?_ _ | refine Ex.alloc ?_ _ | refine Ex.drew ?_)) hx); have hs2 := Lib.hid hx.below.size; clear hx; (try clear b0 b1 b2 b3 b4); obtain ⟨b0, b1, b2, b3, b4⟩ := id hb) |
        (go_at_call 39; refine (toA4_c _ _).mono ?_; rintro e w3 ⟨rfl, hx⟩; have ra := ra.ex (Ex.trans (by exact by repeat (first | exact Ex.refl _ | refine Ex.ext ?_ _ | refine Ex.alloc ?_ _ | refine Ex.drew ?_)) hx); have hb := hb.ex (Ex.trans (by exact by repeat (first | exact Ex.refl _ | refine Ex.ext ?_ _ | refine Ex.alloc ?_ _ | refine Ex.drew ?_)) hx); have hB := below_ex hB (Ex.trans (by exact by repeat (first | exact Ex.refl _ | refine Ex.ext ?_ _ | refine Ex.alloc ?_ _ | refine Ex.drew ?_)) hx); have hs3 := Lib.hid hx.below.size; clear hx; (try clear b0 b1 b2 b3 b4); obtain ⟨b0, b1, b2, b3, b4⟩ := id hb) |
        (go_at_call 38; refine (specCapLines_c _ _ _ _ _ (by omega) ra.sl).mono ?_; rintro e w4 ⟨qw, cw, rfl, hx, rw0⟩; have hb := hb.ex (Ex.trans (by exact by repeat (first | exact Ex.refl _ | refine Ex.ext ?_ _ | refine Ex.alloc ?_ _ | refine Ex.drew ?_)) hx); have hB := below_ex hB (Ex.trans (by exact by repeat (first | exact Ex.refl _ | refine Ex.ext ?_ _ | refine Ex.alloc ?_ _ | refine Ex.drew ?_)) hx); have hs4 := Lib.hid hx.below.size; clear hx; (try clear b0 b1 b2 b3 b4); obtain ⟨b0, b1, b2, b3, b4⟩ := id hb))
    go_wp2_with (go_at_call 19; refine (toA4S_o _ _ _ _ (by omega) (hz.below (by first | exact hB | exact below_ex hB ((Ex.refl _).drew)))).mono ?_; rintro e w5 ⟨grx, rfl, hx, rx⟩; have rw0 := rw0.ex (Ex.trans (by exact by repeat (first | exact Ex.refl _ | refine Ex.ext ?_ _ | refine Ex.alloc ?_ _ | refine Ex.drew ?_)) hx); have hb := hb.ex (Ex.trans (by exact by repeat (first | exact Ex.refl _ | refine Ex.ext ?_ _ | refine Ex.alloc ?_ _ | refine Ex.drew ?_)) hx); have hB := below_ex hB (Ex.trans (by exact by repeat (first | exact Ex.refl _ | refine Ex.ext ?_ _ | refine Ex.alloc ?_ _ | refine Ex.drew ?_)) hx); have hs5 := Lib.hid hx.below.size; clear hx; (try clear b0 b1 b2 b3 b4); obtain ⟨b0, b1, b2, b3, b4⟩ := id hb)
    go_wp2_with (first | (go_at_call 39; refine (toA4_c _ _).mono ?_; rintro e w6 ⟨rfl, hx⟩; have rw0 := rw0.ex (Ex.trans (by exact by repeat (first | exact Ex.refl _ | refine Ex.ext ?_ _ | refine Ex.alloc ?_ _ | refine Ex.drew ?_)) hx); have rx := rx.ex (Ex.trans (by exact by repeat (first | exact Ex.refl _ | refine Ex.ext ?_ _ | refine Ex.alloc ?_ _ | refine Ex.drew ?_)) hx); have hb := hb.ex (Ex.trans (by exact by repeat (first | exact Ex.refl _ | refine Ex.ext ?_ _ | refine Ex.alloc ?_ _ | refine Ex.drew ?_)) hx); have hB := below_ex hB (Ex.trans (by exact by repeat (first | exact Ex.refl _ | refine Ex.ext ?_ _ | refine Ex.alloc ?_ _ | refine Ex.drew ?_)) hx); have hs6 := Lib.hid hx.below.size; clear hx; (try clear b0 b1 b2 b3 b4); obtain ⟨b0, b1, b2, b3, b4⟩ := id hb) | (go_at_call 40; refine (implCapLines_c _ _ _ _ _ (by omega) rx.sl).mono ?_; rintro e w7 ⟨qg, cg, rfl, hx, rg⟩; have rw0 := rw0.ex (Ex.trans (by exact by repeat (first | exact Ex.refl _ | refine Ex.ext ?_ _ | refine Ex.alloc ?_ _ | refine Ex.drew ?_)) hx); have rx := rx.ex (Ex.trans (by exact by repeat (first | exact Ex.refl _ | refine Ex.ext ?_ _ | refine Ex.alloc ?_ _ | refine Ex.drew ?_)) hx); have hb := hb.ex (Ex.trans (by exact by repeat (first | exact Ex.refl _ | refine Ex.ext ?_ _ | refine Ex.alloc ?_ _ | refine Ex.drew ?_)) hx); have hB := below_ex hB (Ex.trans (by exact by repeat (first | exact Ex.refl _ | refine Ex.ext ?_ _ | refine Ex.alloc ?_ _ | refine Ex.drew ?_)) hx); have hs7 := Lib.hid hx.below.size; clear hx; (try clear b0 b1 b2 b3 b4); obtain ⟨b0, b1, b2, b3, b4⟩ := id hb))
    go_wp2_with (go_at_call 41; refine (eqA2S_same _ _ _ _ _ _ _ rg.len (by omega) rg.sl rw0.sl).mono ?_; rintro e w8 ⟨rfl, hx⟩; have rw0 := rw0.ex (Ex.trans (by exact by repeat (first | exact Ex.refl _ | refine Ex.ext ?_ _ | refine Ex.alloc ?_ _ | refine Ex.drew ?_)) hx); have rx := rx.ex (Ex.trans (by exact by repeat (first | exact Ex.refl _ | refine Ex.ext ?_ _ | refine Ex.alloc ?_ _ | refine Ex.drew ?_)) hx); have rg := rg.ex (Ex.trans (by exact by repeat (first | exact Ex.refl _ | refine Ex.ext ?_ _ | refine Ex.alloc ?_ _ | refine Ex.drew ?_)) hx); have hb := hb.ex (Ex.trans (by exact by repeat (first | exact Ex.refl _ | refine Ex.ext ?_ _ | refine Ex.alloc ?_ _ | refine Ex.drew ?_)) hx); have hB := below_ex hB (Ex.trans (by exact by repeat (first | exact Ex.refl _ | refine Ex.ext ?_ _ | refine Ex.alloc ?_ _ | refine Ex.drew ?_)) hx); have hs8 := Lib.hid hx.below.size; clear hx; (try clear b0 b1 b2 b3 b4); obtain ⟨b0, b1, b2, b3, b4⟩ := id hb)
    go_wp2_with (go_at_call 19; refine (toA4S_o _ _ _ _ (by omega) (hz.below (by first | exact hB | exact below_ex hB ((Ex.refl _).drew)))).mono ?_; rintro e w9 ⟨gry, rfl, hx, ry⟩; have rw0 := rw0.ex (Ex.trans (by exact by repeat (first | exact Ex.refl _ | refine Ex.ext ?_ _ | refine Ex.alloc ?_ _ | refine Ex.drew ?_)) hx); have rx := rx.ex (Ex.trans (by exact by repeat (first | exact Ex.refl _ | refine Ex.ext ?_ _ | refine Ex.alloc ?_ _ | refine Ex.drew ?_)) hx); have rg := rg.ex (Ex.trans (by exact by repeat (first | exact Ex.refl _ | refine Ex.ext ?_ _ | refine Ex.alloc ?_ _ | refine Ex.drew ?_)) hx); have hb := hb.ex (Ex.trans (by exact by repeat (first | exact Ex.refl _ | refine Ex.ext ?_ _ | refine Ex.alloc ?_ _ | refine Ex.drew ?_)) hx); have hB := below_ex hB (Ex.trans (by exact by repeat (first | exact Ex.refl _ | refine Ex.ext ?_ _ | refine Ex.alloc ?_ _ | refine Ex.drew ?_)) hx); have hs9 := Lib.hid hx.below.size; clear hx; (try clear b0 b1 b2 b3 b4); obtain ⟨b0, b1, b2, b3, b4⟩ := id hb)
    go_wp2_with (go_at_call 22; refine (eqA4S_c _ _ _ _ _ _ _ (by omega) (by omega) rx.sl ry.sl).mono ?_; rintro e w10 ⟨rfl, hx⟩; have rw0 := rw0.ex (Ex.trans (by exact by repeat (first | exact Ex.refl _ | refine Ex.ext ?_ _ | refine Ex.alloc ?_ _ | refine Ex.drew ?_)) hx); have rx := rx.ex (Ex.trans (by exact by repeat (first | exact Ex.refl _ | refine Ex.ext ?_ _ | refine Ex.alloc ?_ _ | refine Ex.drew ?_)) hx); have rg := rg.ex (Ex.trans (by exact by repeat (first | exact Ex.refl _ | refine Ex.ext ?_ _ | refine Ex.alloc ?_ _ | refine Ex.drew ?_)) hx); have ry := ry.ex (Ex.trans (by exact by repeat (first | exact Ex.refl _ | refine Ex.ext ?_ _ | refine Ex.alloc ?_ _ | refine Ex.drew ?_)) hx); have hb := hb.ex (Ex.trans (by exact by repeat (first | exact Ex.refl _ | refine Ex.ext ?_ _ | refine Ex.alloc ?_ _ | refine Ex.drew ?_)) hx); have hB := below_ex hB (Ex.trans (by exact by repeat (first | exact Ex.refl _ | refine Ex.ext ?_ _ | refine Ex.alloc ?_ _ | refine Ex.drew ?_)) hx); have hs10 := Lib.hid hx.below.size; clear hx; (try clear b0 b1 b2 b3 b4); obtain ⟨b0, b1, b2, b3, b4⟩ := id hb)
    go_wp2_with (go_at_call 23; refine (markA4S_c _ _ _ _ _ _ _ (by omega) (by omega) (by omega) rx).mono ?_; rintro e w11 ⟨rfl, rx, ha⟩; have rw0 := ha.rowZ rw0 (Or.inl (by have := hs1.out; have := hs2.out; have := hs3.out; have := hs4.out; have := hs5.out; have := hs6.out; have := hs7.out; have := hs8.out; have := hs9.out; have := hs10.out; have := hq1.out; (try have := hq2.out); (try have := hq3.out); (try have := hq4.out); (try have := hq5.out); (try have := hq6.out); (try have := hq7.out); (try have := hq8.out); (try have := hq9.out); (try have := hq10.out); omega)); have rg := ha.rowZ rg (Or.inr (by have := hs1.out; have := hs2.out; have := hs3.out; have := hs4.out; have := hs5.out; have := hs6.out; have := hs7.out; have := hs8.out; have := hs9.out; have := hs10.out; have := hq1.out; (try have := hq2.out); (try have := hq3.out); (try have := hq4.out); (try have := hq5.out); (try have := hq6.out); (try have := hq7.out); (try have := hq8.out); (try have := hq9.out); (try have := hq10.out); omega)); have hb := hb.apart ha (by have := hs1.out; have := hs2.out; have := hs3.out; have := hs4.out; have := hs5.out; have := hs6.out; have := hs7.out; have := hs8.out; have := hs9.out; have := hs10.out; have := hq1.out; (try have := hq2.out); (try have := hq3.out); (try have := hq4.out); (try have := hq5.out); (try have := hq6.out); (try have := hq7.out); (try have := hq8.out); (try have := hq9.out); (try have := hq10.out); omega); have hB := below_apart hB ha (by have := hs1.out; have := hs2.out; have := hs3.out; have := hs4.out; have := hs5.out; have := hs6.out; have := hs7.out; have := hs8.out; have := hs9.out; have := hs10.out; have := hq1.out; (try have := hq2.out); (try have := hq3.out); (try have := hq4.out); (try have := hq5.out); (try have := hq6.out); (try have := hq7.out); (try have := hq8.out); (try have := hq9.out); (try have := hq10.out); omega); have hs11 := Lib.hid ha.size; clear ha b0 b1 b2 b3 b4; obtain ⟨b0, b1, b2, b3, b4⟩ := id hb)
    go_wp2_with (go_at_call 41; refine (eqA2S_same _ _ _ _ _ _ _ rg.len (by omega) rg.sl rw0.sl).mono ?_; rintro e w12 ⟨rfl, hx⟩; have rw0 := rw0.ex (Ex.trans (by exact by repeat (first | exact Ex.refl _ | refine Ex.ext ?_ _ | refine Ex.alloc ?_ _ | refine Ex.drew ?_)) hx); have rg := rg.ex (Ex.trans (by exact by repeat (first | exact Ex.refl _ | refine Ex.ext ?_ _ | refine Ex.alloc ?_ _ | refine Ex.drew ?_)) hx); have hb := hb.ex (Ex.trans (by exact by repeat (first | exact Ex.refl _ | refine Ex.ext ?_ _ | refine Ex.alloc ?_ _ | refine Ex.drew ?_)) hx); have hB := below_ex hB (Ex.trans (by exact by repeat (first | exact Ex.refl _ | refine Ex.ext ?_ _ | refine Ex.alloc ?_ _ | refine Ex.drew ?_)) hx); have hs12 := Lib.hid hx.below.size; clear hx; (try clear b0 b1 b2 b3 b4); obtain ⟨b0, b1, b2, b3, b4⟩ := id hb)
    go_wp2_with (go_at_call 42; refine (markA2S_c _ _ _ _ _ _ _ _ (by omega) (by omega) (by omega) rg).mono ?_; rintro e w13 ⟨rfl, rg, ha⟩; have rw0 := ha.rowZ rw0 (Or.inl (by have := hs1.out; have := hs2.out; have := hs3.out; have := hs4.out; have := hs5.out; have := hs6.out; have := hs7.out; have := hs8.out; have := hs9.out; have := hs10.out; have := hs11.out; have := hs12.out; have := hq1.out; (try have := hq2.out); (try have := hq3.out); (try have := hq4.out); (try have := hq5.out); (try have := hq6.out); (try have := hq7.out); (try have := hq8.out); (try have := hq9.out); (try have := hq10.out); (try have := hq11.out); (try have := hq12.out); omega)); have hb := hb.apart ha (by have := hs1.out; have := hs2.out; have := hs3.out; have := hs4.out; have := hs5.out; have := hs6.out; have := hs7.out; have := hs8.out; have := hs9.out; have := hs10.out; have := hs11.out; have := hs12.out; have := hq1.out; (try have := hq2.out); (try have := hq3.out); (try have := hq4.out); (try have := hq5.out); (try have := hq6.out); (try have := hq7.out); (try have := hq8.out); (try have := hq9.out); (try have := hq10.out); (try have := hq11.out); (try have := hq12.out); omega); have hB := below_apart hB ha (by have := hs1.out; have := hs2.out; have := hs3.out; have := hs4.out; have := hs5.out; have := hs6.out; have := hs7.out; have := hs8.out; have := hs9.out; have := hs10.out; have := hs11.out; have := hs12.out; have := hq1.out; (try have := hq2.out); (try have := hq3.out); (try have := hq4.out); (try have := hq5.out); (try have := hq6.out); (try have := hq7.out); (try have := hq8.out); (try have := hq9.out); (try have := hq10.out); (try have := hq11.out); (try have := hq12.out); omega); have hs13 := Lib.hid ha.size; clear ha b0 b1 b2 b3 b4; obtain ⟨b0, b1, b2, b3, b4⟩ := id hb)
    go_wp2_with (go_at_call 43; refine (heldA2S_c _ _ _ _ _ (by omega) (by omega) (by omega) rg.sl).mono ?_; rintro e w14 ⟨rfl, hx⟩; have rw0 := rw0.ex (Ex.trans (by exact by repeat (first | exact Ex.refl _ | refine Ex.ext ?_ _ | refine Ex.alloc ?_ _ | refine Ex.drew ?_)) hx); have rg := rg.ex (Ex.trans (by exact by repeat (first | exact Ex.refl _ | refine Ex.ext ?_ _ | refine Ex.alloc ?_ _ | refine Ex.drew ?_)) hx); have hb := hb.ex (Ex.trans (by exact by repeat (first | exact Ex.refl _ | refine Ex.ext ?_ _ | refine Ex.alloc ?_ _ | refine Ex.drew ?_)) hx); have hB := below_ex hB (Ex.trans (by exact by repeat (first | exact Ex.refl _ | refine Ex.ext ?_ _ | refine Ex.alloc ?_ _ | refine Ex.drew ?_)) hx); have hs14 := Lib.hid hx.below.size; clear hx; (try clear b0 b1 b2 b3 b4); obtain ⟨b0, b1, b2, b3, b4⟩ := id hb)
    go_region_held3 (fun w' => w'.cell? ⟨w.heap.size, 0, none⟩ = some (.int .i64 c.a) ∧ w'.cell? ⟨w.heap.size, 1, none⟩ = some (.int .i64 c.b) ∧ w'.cell? ⟨w.heap.size, 2, none⟩ = some (.int .i64 c.c) ∧ w'.cell? ⟨w.heap.size, 3, none⟩ = some (.int .i64 c.d))
      (first | exact ⟨hb.c0, hb.c1, hb.c2, hb.c3⟩ | exact ⟨(hb.ex ((Ex.refl _).drew)).c0, (hb.ex ((Ex.refl _).drew)).c1, (hb.ex ((Ex.refl _).drew)).c2, (hb.ex ((Ex.refl _).drew)).c3⟩)
      (first | (go_at_call 19; refine (toA4S_o _ _ _ _ (by omega) (hz.below (by first | exact hB | exact below_ex hB ((Ex.refl _).drew)))).mono ?_; rintro e w15 ⟨grz, rfl, hx, rz⟩; have rw0 := rw0.ex (Ex.trans (by exact by repeat (first | exact Ex.refl _ | refine Ex.ext ?_ _ | refine Ex.alloc ?_ _ | refine Ex.drew ?_)) hx); have rg := rg.ex (Ex.trans (by exact by repeat (first | exact Ex.refl _ | refine Ex.ext ?_ _ | refine Ex.alloc ?_ _ | refine Ex.drew ?_)) hx); have hq15 := Lib.hid (drew_sz w14); have hb := hb.ex (Ex.trans (by exact by repeat (first | exact Ex.refl _ | refine Ex.ext ?_ _ | refine Ex.alloc ?_ _ | refine Ex.drew ?_)) hx); have hB := below_ex hB (Ex.trans (by exact by repeat (first | exact Ex.refl _ | refine Ex.ext ?_ _ | refine Ex.alloc ?_ _ | refine Ex.drew ?_)) hx); have hs15 := Lib.hid hx.below.size; clear hx; (try clear b0 b1 b2 b3 b4); obtain ⟨b0, b1, b2, b3, b4⟩ := id hb) |
        (go_at_call 39; refine (toA4_c _ _).mono ?_; rintro e w16 ⟨rfl, hx⟩; have rw0 := rw0.ex (Ex.trans (by exact by repeat (first | exact Ex.refl _ | refine Ex.ext ?_ _ | refine Ex.alloc ?_ _ | refine Ex.drew ?_)) hx); have rg := rg.ex (Ex.trans (by exact by repeat (first | exact Ex.refl _ | refine Ex.ext ?_ _ | refine Ex.alloc ?_ _ | refine Ex.drew ?_)) hx); have rz := rz.ex (Ex.trans (by exact by repeat (first | exact Ex.refl _ | refine Ex.ext ?_ _ | refine Ex.alloc ?_ _ | refine Ex.drew ?_)) hx); have hb := hb.ex (Ex.trans (by exact by repeat (first | exact Ex.refl _ | refine Ex.ext ?_ _ | refine Ex.alloc ?_ _ | refine Ex.drew ?_)) hx); have hB := below_ex hB (Ex.trans (by exact by repeat (first | exact Ex.refl _ | refine Ex.ext ?_ _ | refine Ex.alloc ?_ _ | refine Ex.drew ?_)) hx); have hs16 := Lib.hid hx.below.size; clear hx; (try clear b0 b1 b2 b3 b4); obtain ⟨b0, b1, b2, b3, b4⟩ := id hb) |
        (go_at_call 40; refine (implCapLines_c _ _ _ _ _ (by omega) rz.sl).mono ?_; rintro e w17 ⟨qh, ch, rfl, hx, rh⟩; have rw0 := rw0.ex (Ex.trans (by exact by repeat (first | exact Ex.refl _ | refine Ex.ext ?_ _ | refine Ex.alloc ?_ _ | refine Ex.drew ?_)) hx); have rg := rg.ex (Ex.trans (by exact by repeat (first | exact Ex.refl _ | refine Ex.ext ?_ _ | refine Ex.alloc ?_ _ | refine Ex.drew ?_)) hx); have hb := hb.ex (Ex.trans (by exact by repeat (first | exact Ex.refl _ | refine Ex.ext ?_ _ | refine Ex.alloc ?_ _ | refine Ex.drew ?_)) hx); have hB := below_ex hB (Ex.trans (by exact by repeat (first | exact Ex.refl _ | refine Ex.ext ?_ _ | refine Ex.alloc ?_ _ | refine Ex.drew ?_)) hx); have hs17 := Lib.hid hx.below.size; clear hx; (try clear b0 b1 b2 b3 b4); obtain ⟨b0, b1, b2, b3, b4⟩ := id hb))
    go_wp2_with (go_at_call 41; refine (eqA2S_same _ _ _ _ _ _ _ rh.len (by omega) rh.sl rw0.sl).mono ?_; rintro e w18 ⟨rfl, hx⟩; have rw0 := rw0.ex (Ex.trans (by exact by repeat (first | exact Ex.refl _ | refine Ex.ext ?_ _ | refine Ex.alloc ?_ _ | refine Ex.drew ?_)) hx); have rg := rg.ex (Ex.trans (by exact by repeat (first | exact Ex.refl _ | refine Ex.ext ?_ _ | refine Ex.alloc ?_ _ | refine Ex.drew ?_)) hx); have rh := rh.ex (Ex.trans (by exact by repeat (first | exact Ex.refl _ | refine Ex.ext ?_ _ | refine Ex.alloc ?_ _ | refine Ex.drew ?_)) hx); have hb := hb.ex (Ex.trans (by exact by repeat (first | exact Ex.refl _ | refine Ex.ext ?_ _ | refine Ex.alloc ?_ _ | refine Ex.drew ?_)) hx); have hB := below_ex hB (Ex.trans (by exact by repeat (first | exact Ex.refl _ | refine Ex.ext ?_ _ | refine Ex.alloc ?_ _ | refine Ex.drew ?_)) hx); have hs18 := Lib.hid hx.below.size; clear hx; (try clear b0 b1 b2 b3 b4); obtain ⟨b0, b1, b2, b3, b4⟩ := id hb)
    go_wp2_with (go_at_call 43; refine (heldA2S_c _ _ _ _ _ (by omega) (by omega) (by omega) rg.sl).mono ?_; rintro e w19 ⟨rfl, hx⟩; have rg := rg.ex (Ex.trans (by exact by repeat (first | exact Ex.refl _ | refine Ex.ext ?_ _ | refine Ex.alloc ?_ _ | refine Ex.drew ?_)) hx); have hb := hb.ex (Ex.trans (by exact by repeat (first | exact Ex.refl _ | refine Ex.ext ?_ _ | refine Ex.alloc ?_ _ | refine Ex.drew ?_)) hx); have hB := below_ex hB (Ex.trans (by exact by repeat (first | exact Ex.refl _ | refine Ex.ext ?_ _ | refine Ex.alloc ?_ _ | refine Ex.drew ?_)) hx); have hs19 := Lib.hid hx.below.size; clear hx; (try clear b0 b1 b2 b3 b4); obtain ⟨b0, b1, b2, b3, b4⟩ := id hb)
    go_ret
    exact ⟨rfl, hB⟩
  · go_enter Try.func7, Try.ntmps7
    go_wp2_with (go_at_call 17; refine (sz_c _ _ _ _ (by omega) (by omega) (by omega) _).mono ?_; rintro e w1 ⟨rfl, hx⟩; rw [szBig hs]; have hB := below_ex hB hx; clear hx)
    go_ret
    exact ⟨rfl, hB⟩
end Go.Proofs.Ytdnnjhgkcchcaaa
