/- ParseHand: the walks of the two readers of a hand. -/
import Derived.Test.YtebgkdgcjpjigaaDoorPhW
import Derived.Test.YtebgkdgcjpjigaaDoorPileL
namespace Go.Proofs.YtebgkdgcjpjigaaDoor
set_option linter.unusedSimpArgs false
set_option linter.unusedVariables false
set_option maxHeartbeats 1000000
set_option maxRecDepth 100000
open Go.RowKit

theorem str_nil_no {s : ByteArray} (h : s.size ≠ 0) : s.toList.isEmpty = false := by
  rw [ByteArray.toList_eq]
  cases hl : s.data.toList with
  | nil => exact absurd (show s.size = 0 by have : s.data.toList.length = s.size := by rw [Array.length_toList]; rfl
                                            rw [← this, hl]; rfl) h
  | cons a l => rfl
theorem str_nil_yes {s : ByteArray} (h : s.size = 0) : s = ⟨#[]⟩ := by
  apply bytes_eq
  exact List.eq_nil_of_length_eq_zero (by rw [Array.length_toList]; exact h)
theorem phL_no {s : ByteArray} (h : phB s = false) : phL s = [] := by unfold phL; rw [h]; split <;> rfl
theorem phL_yes {s : ByteArray} (h0 : s.size ≠ 0) (h : phB s = true) : phL s = (phP s).map cc := by unfold phL; rw [if_neg h0, h]; rfl
theorem phL_nil : phL ⟨#[]⟩ = [] := rfl
theorem phB_nil : phB ⟨#[]⟩ = true := rfl
theorem Row.empty' {w : World} {n lo hi : Nat} (hn : n = w.heap.size) (h1 : lo ≤ n) (h2 : n < hi) : Row lo hi (w.alloc (.cells #[] 48)) (some ⟨n, 0, none⟩) 0 [] := by
  subst hn; exact (Row.empty w).mono h1 h2
/-- What the program's own reader reads, before it is asked whether that is a hand. -/
def rcB (s : ByteArray) : Bool := if s.size = 0 then true else (phP s).all rdB
def rcL (s : ByteArray) : List C4 := if s.size = 0 then [] else if rcB s then (phP s).map cc else []
theorem rcL_no {s : ByteArray} (h : rcB s = false) : rcL s = [] := by unfold rcL; rw [h]; split <;> rfl
theorem rcL_yes {s : ByteArray} (h0 : s.size ≠ 0) (h : rcB s = true) : rcL s = (phP s).map cc := by unfold rcL; rw [if_neg h0, h]; rfl
theorem rcB_bad {s : ByteArray} (h0 : s.size ≠ 0) {k : Nat} (hk : k < (phP s).length) (h : rdB (phP s)[k] = false) : rcB s = false := by
  unfold rcB
  rw [if_neg h0]
  exact List.all_eq_false.2 ⟨(phP s)[k], List.getElem_mem hk, by rw [h]; simp⟩
theorem rcB_all {s : ByteArray} (h0 : s.size ≠ 0) (h : ∀ j, j < (phP s).length → rdB ((phP s).getD j ⟨#[]⟩) = true) : rcB s = true := by
  unfold rcB
  rw [if_neg h0, List.all_eq_true]
  intro x hx
  obtain ⟨j, hj, rfl⟩ := List.mem_iff_getElem.1 hx
  have := h j hj
  rw [List.getD_eq_getElem?_getD, List.getElem?_eq_getElem hj] at this
  exact this
theorem ph_rc (s : ByteArray) : phB s = (rcB s && handB (rcL s)) := by
  by_cases h0 : s.size = 0
  · have e1 : handB [] = true := by decide
    unfold phB rcB rcL
    simp [h0, e1]
  · cases h : rcB s
    · have : (phP s).all rdB = false := by unfold rcB at h; rw [if_neg h0] at h; exact h
      unfold phB; rw [if_neg h0, this]; rfl
    · rw [rcL_yes h0 h]
      have : (phP s).all rdB = true := by unfold rcB at h; rw [if_neg h0] at h; exact h
      unfold phB; rw [if_neg h0, this]
theorem phL_rc {s : ByteArray} (h : phB s = true) : phL s = rcL s := by
  by_cases h0 : s.size = 0
  · unfold phL rcL; rw [if_pos h0, if_pos h0]
  · have := ph_rc s
    rw [h] at this
    have := this.symm
    rw [Bool.and_eq_true] at this
    rw [rcL_yes h0 this.1, phL_yes h0 h]
theorem rcL_len (s : ByteArray) : (rcL s).length ≤ s.size + 1 := by
  unfold rcL
  split
  · simp
  · split
    · have := (spI_len s 32 s.size 0 0).1
      rw [List.length_map]; exact this
    · simp

theorem l1Split_32 {s : ByteArray} {P : List ByteArray} (hP : phP s = P) (hs : s.size ≤ 1048576) (w : World) :
    Calls Tryd.prog 33 #[.string s, .int .u8 32] w fun e w' => ∃ g cap', e = .returned (.slice (some ⟨g, 0, none⟩) P.length cap') ∧ Ex w w' ∧ SlS w' (some ⟨g, 0, none⟩) P ∧ w.heap.size ≤ g ∧ g < w'.heap.size := by
  subst hP
  refine (l1Split_c s 32 hs w).mono ?_
  rintro e w' ⟨g, cap', rfl, hx, hr⟩
  exact ⟨g, cap', rfl, hx, row_strs hr rfl, hr.blk.1, hr.blk.2⟩
theorem split_32 {s : ByteArray} {P : List ByteArray} (hP : phP s = P) (hs : s.size ≤ 1048576) {w : World} (hM : MaxP w) :
    Calls Tryd.prog 34 #[.string s, .string ⟨#[32]⟩] w fun e w' => ∃ g cap', e = .returned (.slice (some ⟨g, 0, none⟩) P.length cap') ∧ Ex w w' ∧ SlS w' (some ⟨g, 0, none⟩) P ∧ w.heap.size ≤ g ∧ g < w'.heap.size := by
  obtain ⟨m, hm⟩ := hM
  have hlen := split_len s 32
  have hsame := split_same s 32
  have hPl := (spI_len s 32 s.size 0 0).1
  rw [show spI s 32 s.size 0 0 = P from hP] at hlen hsame hPl
  have q := Tryd.strings_Split s ⟨#[32]⟩ m w (by omega) hm (Nat.le_refl 1)
  rw [hsame, hlen] at q
  refine q.mono ?_
  rintro e w' ⟨rfl, rfl⟩
  have hlv : (strVals P).length = P.length := by simp [strVals]
  have hr : RowV 9 1 w.heap.size (w.alloc (.cells (strVals P).toArray 9)) w.heap.size P.length P.length (strVals P) :=
    ⟨by omega, Or.inr ⟨w.heap.size, P.length, _, rfl, Nat.le_refl _, heap_alloc_new w _, Nat.le_refl _, by unfold maxLen; omega, by simp [hlv], by simp [← hlv]⟩⟩
  exact ⟨w.heap.size, P.length, rfl, by repeat (first | exact Ex.refl _ | refine Ex.ext ?_ _ | refine Ex.alloc ?_ _ | refine Ex.drew ?_), row_strs hr rfl, Nat.le_refl _, hr.blk.2⟩

theorem specParseHand_c (s : ByteArray) (hs : s.size ≤ 1048576) (w : World) : Calls Tryd.prog 18 #[.string s] w fun e w' => ∃ p cap, e = .returned (.tuple #[.slice p (phL s).length cap, .bool (phB s)]) ∧ Ex w w' ∧ Row w.heap.size w'.heap.size w' p cap (phL s) := by
  by_cases h0 : s.size = 0
  · rw [str_nil_yes h0]
    have hnn : ((⟨#[]⟩ : ByteArray).toList == (⟨#[]⟩ : ByteArray).toList) = true := beq_self_eq_true _
    clear h0 hs
    rw [phL_nil, phB_nil]
    go_enter Tryd.func18, Tryd.ntmps18
    go_wp2
    go_ret2
    exact ⟨_, _, rfl, by repeat (first | exact Ex.refl _ | refine Ex.ext ?_ _ | refine Ex.alloc ?_ _ | refine Ex.drew ?_), (Row.empty w).mono (Nat.le_refl _) (by simp)⟩
  · have hnn := str_nil_no h0
    by_cases h1 : s.size ≤ 135
    · obtain ⟨P, hP⟩ : ∃ P, phP s = P := ⟨_, rfl⟩
      have HS := Lib.hid (fun w => l1Split_32 hP (by omega) w)
      have hPl : P.length ≤ 136 := by have := (spI_len s 32 s.size 0 0).1; rw [show spI s 32 s.size 0 0 = P from hP] at this; omega
      have Hbad := Lib.hid (fun (k : Nat) (hk : k < P.length) (h : rdB P[k] = false) => phB_bad (s := s) h0 (k := k) (by rw [hP]; exact hk) (by simp only [hP]; exact h))
      have Hall := Lib.hid (fun (h : ∀ j, j < P.length → rdB (P.getD j ⟨#[]⟩) = true) => phB_all (s := s) h0 (by rw [hP]; exact h))
      have Hyes := Lib.hid (fun (h : phB s = true) => phL_yes h0 h)
      rw [hP] at Hall Hyes
      clear hP
      go_enter Tryd.func18, Tryd.ntmps18
      go_wp2_with (go_at_call 33; refine (HS.out _).mono ?_; rintro e w1 ⟨gw, cw, rfl, hx1, hsl1, hg1, hg2⟩)
      have hE1 : Ex w w1 := (Ex.alloc (Ex.refl w) _).trans hx1
      have hR1 : RowV 48 4 w.heap.size w1 w.heap.size 0 0 (cellsOf []) := RowV.ex (RowV.start w 48 4) hx1
      have hg1' : w.heap.size < gw := by simp at hg1; omega
      clear hx1 hg1
      go_loopw [4, 6] (fun u v wr => ∃ (k g cap : Nat), k ≤ P.length ∧ v = .int .i64 k ∧ u = .slice (some ⟨g, 0, none⟩) k cap ∧ Ex w wr ∧ RowV 48 4 w.heap.size wr g cap k (cellsOf ((P.take k).map cc)) ∧ SlS wr (some ⟨gw, 0, none⟩) P ∧ gw ≠ g ∧ gw < wr.heap.size ∧ ∀ j, j < k → rdB (P.getD j ⟨#[]⟩) = true) (fun _ v _ => P.length - (intOf v).toNat)
      case atStart => exact ⟨0, w.heap.size, 0, Nat.zero_le _, rfl, rfl, hE1, hR1, hsl1, by omega, hg2, fun j hj => by omega⟩
      case round =>
        obtain ⟨k, g, cap, hk, rfl, rfl, hE, hrow, hsl, hne, hgl, hf⟩ := hrel
        have HE := Lib.hid hE
        have HR := Lib.hid hrow
        have HSL := Lib.hid hsl
        have Hf := Lib.hid hf
        clear hE hrow hf
        by_cases hlt : k < P.length
        · obtain ⟨b, o, e0, hbl, hcell⟩ := hsl k hlt
          simp at e0
          obtain ⟨rfl, rfl⟩ := e0
          rw [Nat.zero_add] at hcell
          clear hsl
          have Hlt := Lib.hid hlt
          have Htk := Lib.hid (take_cc hlt)
          have Hgd := Lib.hid (show P.getD k ⟨#[]⟩ = P[k] by rw [List.getD_eq_getElem?_getD, List.getElem?_eq_getElem hlt]; rfl)
          have Hb := Lib.hid (Hbad.out k hlt)
          generalize P[k] = t at *
          have HC := Lib.hid (fun w => l2Read_c t w)
          cases hrd : rdB t
          · have Hno := Lib.hid (Hb.out hrd)
            rw [hrd] at HC
            clear hrd
            go_wp2_with (go_at_call 36; refine (HC.out _).mono ?_; rintro e w2 ⟨c, rfl, hx2, hc⟩; clear hc)
            rw [phL_no Hno.out, Hno.out]
            go_ret2
            refine ⟨_, _, rfl, (HE.out.trans hx2).trans (by exact by repeat (first | exact Ex.refl _ | refine Ex.ext ?_ _ | refine Ex.alloc ?_ _ | refine Ex.drew ?_)), ?_⟩
            have hsz2 := (HE.out.trans hx2).below.size
            exact Row.empty' (by simp) (by omega) (by simp)
          · have Hyc := Lib.hid hrd
            rw [hrd] at HC
            clear hrd
            go_wp2_with (first | (go_at_call 36; refine (HC.out _).mono ?_; rintro e w2 ⟨c, rfl, hx2, hc⟩; obtain rfl := hc rfl; clear hc) | (at_builtin; refine wp_app rowC4 (nW := _) (by simp [go_sem]) rfl _ _ rfl rfl ((HR.out.ex hx2).ex (by exact by repeat (first | exact Ex.refl _ | refine Ex.ext ?_ _ | refine Ex.alloc ?_ _ | refine Ex.drew ?_))) 1 1 [.int .i64 (cc t).a, .int .i64 (cc t).b, .int .i64 (cc t).c, .int .i64 (cc t).d] rfl rfl (one4 _ _ _ _) (by omega) ?c2 ?c3 ?_; (case c2 => (unfold maxLen; omega)); (case c3 => omega); intro g' cap' wq hrow' hK hg'))
            go_roundw
            case rel =>
              have hb := HR.out.blk
              have hsz2 := hx2.below.size
              have hksz := hK.size
              simp at hksz hg'
              refine ⟨k + 1, g', cap', by omega, by go_num, rfl, Keeps.ex (Ex.alloc (HE.out.trans hx2) _) hK hb.1, by rw [Htk.out, cellsOf_append]; exact hrow', sls_keeps ((HSL.out.ex hx2).ex (by exact by repeat (first | exact Ex.refl _ | refine Ex.ext ?_ _ | refine Ex.alloc ?_ _ | refine Ex.drew ?_))) hK (fun b o e => by simp at e; omega), ?_, by omega, fun j hj => ?_⟩
              · rcases hg' with h | h <;> omega
              · by_cases hjk : j = k
                · subst hjk; rw [Hgd.out]; exact Hyc.out
                · exact Hf.out j (by omega)
            case measure => simp [intOf]; omega
        · have : k = P.length := by omega
          subst this
          have HB := Lib.hid (Hall.out Hf.out)
          have HR2 := HR.out
          rw [List.take_length] at HR2
          have HR2 := Lib.hid HR2
          have HL := Lib.hid (show ∀ w', Ex wr w' → Calls Tryd.prog 37 #[.slice (some ⟨g, 0, none⟩) P.length cap] w' fun e w'' => e = .returned (.bool (handB (P.map cc))) ∧ Ex w' w'' from fun w' h => by
            have q := l2Hand_c (P.map cc) (some ⟨g, 0, none⟩) cap w' (by rw [List.length_map]; omega) ((HR2.out.ex h).row (by rw [List.length_map])).sl
            rw [List.length_map] at q
            exact q)
          clear hsl
          cases hh : handB (P.map cc)
          · have Hno := Lib.hid (HB.out.trans hh)
            rw [hh] at HL
            clear hh
            go_wp2_with (go_at_call 37; refine (HL.out _ (by exact by repeat (first | exact Ex.refl _ | refine Ex.ext ?_ _ | refine Ex.alloc ?_ _ | refine Ex.drew ?_))).mono ?_; rintro e w2 ⟨rfl, hx2⟩)
            rw [phL_no Hno.out, Hno.out]
            go_ret2
            refine ⟨_, _, rfl, (HE.out.trans hx2).trans (by exact by repeat (first | exact Ex.refl _ | refine Ex.ext ?_ _ | refine Ex.alloc ?_ _ | refine Ex.drew ?_)), ?_⟩
            have hsz2 := (HE.out.trans hx2).below.size
            exact Row.empty' (by simp) (by omega) (by simp)
          · have Hye := Lib.hid (HB.out.trans hh)
            rw [hh] at HL
            clear hh
            go_wp2_with (go_at_call 37; refine (HL.out _ (by exact by repeat (first | exact Ex.refl _ | refine Ex.ext ?_ _ | refine Ex.alloc ?_ _ | refine Ex.drew ?_))).mono ?_; rintro e w2 ⟨rfl, hx2⟩)
            rw [Hyes.out Hye.out, Hye.out, List.length_map]
            go_ret2
            exact ⟨_, _, rfl, HE.out.trans hx2, ((HR2.out.ex hx2).row (by rw [List.length_map]))⟩
    · have hB := phB_long (s := s) (by omega)
      rw [phL_no hB, hB]
      clear hB
      go_enter Tryd.func18, Tryd.ntmps18
      go_wp2
      go_ret2
      exact ⟨_, _, rfl, by repeat (first | exact Ex.refl _ | refine Ex.ext ?_ _ | refine Ex.alloc ?_ _ | refine Ex.drew ?_), (Row.empty w).mono (Nat.le_refl _) (by simp)⟩
theorem readCards_c (s : ByteArray) (hs : s.size ≤ 1048576) (w : World) (hM : MaxP w) : Calls Tryd.prog 38 #[.string s] w fun e w' => ∃ p cap, e = .returned (.tuple #[.slice p (rcL s).length cap, .bool (rcB s)]) ∧ Ex w w' ∧ Row w.heap.size w'.heap.size w' p cap (rcL s) := by
  by_cases h0 : s.size = 0
  · rw [str_nil_yes h0]
    have hnn : ((⟨#[]⟩ : ByteArray).toList == (⟨#[]⟩ : ByteArray).toList) = true := beq_self_eq_true _
    clear h0 hs hM
    rw [show rcL ⟨#[]⟩ = [] from rfl, show rcB ⟨#[]⟩ = true from rfl]
    go_enter Tryd.func38, Tryd.ntmps38
    go_wp2
    go_ret2
    exact ⟨_, _, rfl, by repeat (first | exact Ex.refl _ | refine Ex.ext ?_ _ | refine Ex.alloc ?_ _ | refine Ex.drew ?_), (Row.empty w).mono (Nat.le_refl _) (by simp)⟩
  · have hnn := str_nil_no h0
    have HM := Lib.hid hM
    clear hM
    · obtain ⟨P, hP⟩ : ∃ P, phP s = P := ⟨_, rfl⟩
      have HS := Lib.hid (fun (w : World) (h : MaxP w) => split_32 hP (by omega) h)
      have hPl : P.length ≤ 1048577 := by have := (spI_len s 32 s.size 0 0).1; rw [show spI s 32 s.size 0 0 = P from hP] at this; omega
      have Hbad := Lib.hid (fun (k : Nat) (hk : k < P.length) (h : rdB P[k] = false) => rcB_bad (s := s) h0 (k := k) (by rw [hP]; exact hk) (by simp only [hP]; exact h))
      have Hall := Lib.hid (fun (h : ∀ j, j < P.length → rdB (P.getD j ⟨#[]⟩) = true) => rcB_all (s := s) h0 (by rw [hP]; exact h))
      have Hyes := Lib.hid (fun (h : rcB s = true) => rcL_yes h0 h)
      rw [hP] at Hyes
      clear hP
      go_enter Tryd.func38, Tryd.ntmps38
      go_wp2_with (go_at_call 34; refine (HS.out _ (HM.out.below (((Ex.refl _).alloc _).below))).mono ?_; rintro e w1 ⟨gw, cw, rfl, hx1, hsl1, hg1, hg2⟩)
      have hE1 : Ex w w1 := (Ex.alloc (Ex.refl w) _).trans hx1
      have hR1 : RowV 48 4 w.heap.size w1 w.heap.size 0 0 (cellsOf []) := RowV.ex (RowV.start w 48 4) hx1
      have hg1' : w.heap.size < gw := by simp at hg1; omega
      clear hx1 hg1
      go_loopw [4, 16] (fun u v wr => ∃ (k g cap : Nat), k ≤ P.length ∧ v = .int .i64 k ∧ u = .slice (some ⟨g, 0, none⟩) k cap ∧ Ex w wr ∧ RowV 48 4 w.heap.size wr g cap k (cellsOf ((P.take k).map cc)) ∧ SlS wr (some ⟨gw, 0, none⟩) P ∧ gw ≠ g ∧ gw < wr.heap.size ∧ ∀ j, j < k → rdB (P.getD j ⟨#[]⟩) = true) (fun _ v _ => P.length - (intOf v).toNat)
      case atStart => exact ⟨0, w.heap.size, 0, Nat.zero_le _, rfl, rfl, hE1, hR1, hsl1, by omega, hg2, fun j hj => by omega⟩
      case round =>
        obtain ⟨k, g, cap, hk, rfl, rfl, hE, hrow, hsl, hne, hgl, hf⟩ := hrel
        have HE := Lib.hid hE
        have HR := Lib.hid hrow
        have HSL := Lib.hid hsl
        have Hf := Lib.hid hf
        clear hE hrow hf
        by_cases hlt : k < P.length
        · obtain ⟨b, o, e0, hbl, hcell⟩ := hsl k hlt
          simp at e0
          obtain ⟨rfl, rfl⟩ := e0
          rw [Nat.zero_add] at hcell
          clear hsl
          have Hlt := Lib.hid hlt
          have Htk := Lib.hid (take_cc hlt)
          have Hgd := Lib.hid (show P.getD k ⟨#[]⟩ = P[k] by rw [List.getD_eq_getElem?_getD, List.getElem?_eq_getElem hlt]; rfl)
          have Hb := Lib.hid (Hbad.out k hlt)
          generalize P[k] = t at *
          have HC := Lib.hid (fun w => readCard_c t w)
          cases hrd : rdB t
          · have Hno := Lib.hid (Hb.out hrd)
            rw [hrd] at HC
            clear hrd
            go_wp2_with (go_at_call 52; refine (HC.out _).mono ?_; rintro e w2 ⟨c, rfl, hx2, hc⟩; clear hc)
            rw [rcL_no Hno.out, Hno.out]
            go_ret2
            refine ⟨_, _, rfl, (HE.out.trans hx2).trans (by exact by repeat (first | exact Ex.refl _ | refine Ex.ext ?_ _ | refine Ex.alloc ?_ _ | refine Ex.drew ?_)), ?_⟩
            exact Row.nil _ _ _
          · have Hyc := Lib.hid hrd
            rw [hrd] at HC
            clear hrd
            go_wp2_with (first | (go_at_call 52; refine (HC.out _).mono ?_; rintro e w2 ⟨c, rfl, hx2, hc⟩; obtain rfl := hc rfl; clear hc) | (at_builtin; refine wp_app rowC4 (nW := _) (by simp [go_sem]) rfl _ _ rfl rfl ((HR.out.ex hx2).ex (by exact by repeat (first | exact Ex.refl _ | refine Ex.ext ?_ _ | refine Ex.alloc ?_ _ | refine Ex.drew ?_))) 1 1 [.int .i64 (cc t).a, .int .i64 (cc t).b, .int .i64 (cc t).c, .int .i64 (cc t).d] rfl rfl (one4 _ _ _ _) (by omega) ?c2 ?c3 ?_; (case c2 => (unfold maxLen; omega)); (case c3 => omega); intro g' cap' wq hrow' hK hg'))
            go_roundw
            case rel =>
              have hb := HR.out.blk
              have hsz2 := hx2.below.size
              have hksz := hK.size
              simp at hksz hg'
              refine ⟨k + 1, g', cap', by omega, by go_num, rfl, Keeps.ex (Ex.alloc (HE.out.trans hx2) _) hK hb.1, by rw [Htk.out, cellsOf_append]; exact hrow', sls_keeps ((HSL.out.ex hx2).ex (by exact by repeat (first | exact Ex.refl _ | refine Ex.ext ?_ _ | refine Ex.alloc ?_ _ | refine Ex.drew ?_))) hK (fun b o e => by simp at e; omega), ?_, by omega, fun j hj => ?_⟩
              · rcases hg' with h | h <;> omega
              · by_cases hjk : j = k
                · subst hjk; rw [Hgd.out]; exact Hyc.out
                · exact Hf.out j (by omega)
            case measure => simp [intOf]; omega
        · have : k = P.length := by omega
          subst this
          have HB := Lib.hid (Hall.out Hf.out)
          have HR2 := HR.out
          rw [List.take_length] at HR2
          have HR2 := Lib.hid HR2
          clear hsl
          go_wp2
          rw [Hyes.out HB.out, HB.out, List.length_map]
          go_ret2
          exact ⟨_, _, rfl, HE.out, (HR2.out.row (by rw [List.length_map]))⟩

theorem implParseHand_c (s : ByteArray) (hs : s.size ≤ 1048576) (w : World) (hM : MaxP w) : Calls Tryd.prog 19 #[.string s] w fun e w' => ∃ p cap, e = .returned (.tuple #[.slice p (phL s).length cap, .bool (phB s)]) ∧ Ex w w' ∧ Row w.heap.size w'.heap.size w' p cap (phL s) := by
  have HC := Lib.hid (readCards_c s hs w hM)
  have hl := rcL_len s
  have Hp := Lib.hid (ph_rc s)
  have Hno := Lib.hid (phL_no (s := s))
  have Hye := Lib.hid (phL_rc (s := s))
  clear hM
  cases hrc : rcB s
  · have hB : phB s = false := by rw [Hp.out, hrc]; rfl
    have e1 := Hno.out hB
    rw [hrc] at HC
    rw [e1, hB]
    clear hrc hB e1 Hp Hno Hye
    go_enter Tryd.func19, Tryd.ntmps19
    go_wp2_with (go_at_call 38; refine HC.out.mono ?_; rintro e w1 ⟨p, cap, rfl, hx1, hr1⟩)
    go_ret2
    exact ⟨_, _, rfl, hx1, Row.nil _ _ _⟩
  · rw [hrc] at HC
    have HI := Lib.hid (fun (p : Option Addr) (cap : Nat) (w : World) (hz : Sl w p (rcL s)) => implIsHand_c (rcL s) p cap w (by omega) hz)
    cases hh : handB (rcL s)
    · have hB : phB s = false := by rw [Hp.out, hrc, hh]; rfl
      have e1 := Hno.out hB
      rw [hh] at HI
      rw [e1, hB]
      clear hrc hB e1 Hp Hno Hye hh
      go_enter Tryd.func19, Tryd.ntmps19
      go_wp2_with (first | (go_at_call 38; refine HC.out.mono ?_; rintro e w1 ⟨p, cap, rfl, hx1, hr1⟩) | (go_at_call 39; refine (HI.out _ _ _ hr1.sl).mono ?_; rintro e w2 ⟨rfl, hx2⟩))
      go_ret2
      exact ⟨_, _, rfl, hx1.trans hx2, Row.nil _ _ _⟩
    · have hB : phB s = true := by rw [Hp.out, hrc, hh]; rfl
      have e1 := Hye.out hB
      rw [hh] at HI
      rw [e1, hB]
      clear hrc hB e1 Hp Hno Hye hh
      go_enter Tryd.func19, Tryd.ntmps19
      go_wp2_with (first | (go_at_call 38; refine HC.out.mono ?_; rintro e w1 ⟨p, cap, rfl, hx1, hr1⟩) | (go_at_call 39; refine (HI.out _ _ _ hr1.sl).mono ?_; rintro e w2 ⟨rfl, hx2⟩))
      go_ret2
      exact ⟨_, _, rfl, hx1.trans hx2, (hr1.ex hx2).mono (Nat.le_refl _) hx2.below.size⟩

theorem MaxP.apart {lo hi : Nat} {w w' : World} (h : MaxP w) (ha : Apart lo hi w w') (h2 : 2 < lo) : MaxP w' := by
  have hl := h.lt
  obtain ⟨m, hm⟩ := h
  exact ⟨m, by rw [(ha.below (B := 3) (by omega) (by omega)).cell (show (⟨2, 0, none⟩ : Addr).block < 3 by decide)]; exact hm⟩
theorem fnExactParseHand_walk (s : ByteArray) (hl : s.size ≤ maxLen) (w : World) (hM : MaxP w) : Calls Tryd.prog 6 #[.string s] w fun e w' => e = .returned (.bool true) ∧ Below w.heap.size w w' := by
  by_cases hs : s.size ≤ 1048576
  · have HS := Lib.hid (fun w => specParseHand_c s hs w)
    have HI := Lib.hid (fun w (h : MaxP w) => implParseHand_c s hs w h)
    have hlen := phL_len s
    generalize phL s = L at *
    generalize phB s = B at *
    have HM := Lib.hid hM
    have h2 := hM.lt
    clear hM
    cases B
    all_goals
      go_enter Tryd.func6, Tryd.ntmps6
      go_wp2_with (go_at_call 18; refine (HS.out _).mono ?_; rintro e w1 ⟨p, cap, rfl, hx1, hr⟩; have HM := Lib.hid (HM.out.below hx1.below))
      go_wp2_with (go_at_call 19; refine (HI.out _ HM.out).mono ?_; rintro e w2 ⟨p1, cap1, rfl, hx2, hr1⟩; have hr := hr.ex hx2; have HM := Lib.hid (HM.out.below hx2.below))
      go_wp2_with (go_at_call 20; refine (eqA4S_c _ _ _ _ _ _ _ (by omega) (by omega) hr1.sl hr.sl).mono ?_; rintro e w3 ⟨rfl, hx3⟩; have hr := hr.ex hx3; have hr1 := hr1.ex hx3; have HM := Lib.hid (HM.out.below hx3.below))
      have hsz1 := hx1.below.size
      go_wp2_with (go_at_call 21; refine (markA4S_c _ _ _ _ _ _ _ (by omega) (by omega) (by omega) hr1).mono ?_; rintro e w4 ⟨rfl, hr1, ha⟩; have hr := ha.row hr (Or.inl (Nat.le_refl _)); have HM := Lib.hid (HM.out.apart ha (by omega)))
      go_wp2_with (go_at_call 22; refine (heldA4S_c _ _ _ _ _ (by omega) (by omega) (by omega) hr1.sl).mono ?_; rintro e w5 ⟨rfl, hx5⟩; have hr := hr.ex hx5; have hr1 := hr1.ex hx5; have HM := Lib.hid (HM.out.below hx5.below))
      go_wp2_with (go_at_call 19; refine (HI.out _ HM.out).mono ?_; rintro e w6 ⟨p2, cap2, rfl, hx6, hr2⟩; have hr := hr.ex hx6; have hr1 := hr1.ex hx6)
      go_wp2_with (go_at_call 20; refine (eqA4S_c _ _ _ _ _ _ _ (by omega) (by omega) hr2.sl hr.sl).mono ?_; rintro e w7 ⟨rfl, hx7⟩; have hr1 := hr1.ex hx7)
      go_wp2_with (go_at_call 22; refine (heldA4S_c _ _ _ _ _ (by omega) (by omega) (by omega) hr1.sl).mono ?_; rintro e w8 ⟨rfl, hx8⟩)
      go_ret
      refine ⟨rfl, ?_⟩
      have h3 : Ex w w3 := (by repeat (first | exact Ex.refl _ | assumption | refine Ex.ext ?_ _ | refine Ex.alloc ?_ _ | refine Ex.drew ?_ | refine Ex.trans ?_ (by assumption)))
      have h8 : Ex w4 w8 := (by repeat (first | exact Ex.refl _ | assumption | refine Ex.ext ?_ _ | refine Ex.alloc ?_ _ | refine Ex.drew ?_ | refine Ex.trans ?_ (by assumption)))
      exact below_ex (below_apart h3.below ha hx1.below.size) h8
  · go_enter Tryd.func6, Tryd.ntmps6
    go_wp2
    go_ret
    exact ⟨rfl, (Ex.refl w).below⟩
end Go.Proofs.YtebgkdgcjpjigaaDoor
