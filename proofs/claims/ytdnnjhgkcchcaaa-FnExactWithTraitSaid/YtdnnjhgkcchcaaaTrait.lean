/- The walks of WithTrait, and of the law on it. -/
import Derived.Test.YtdnnjhgkcchcaaaInts
import Derived.Test.YtdnnjhgkcchcaaaLawG
namespace Go.Proofs.Ytdnnjhgkcchcaaa
set_option linter.unusedSimpArgs false
set_option linter.unusedVariables false
set_option maxHeartbeats 1000000
set_option maxRecDepth 100000
open Go.RowKit

def tr (c : C4) (t : Nat) : Int := match t with | 0 => c.a | 1 => c.b | 2 => c.c | _ => c.d
def wtFrom (t : Nat) (v : Int) : List C4 → Nat → List Int
  | [], _ => []
  | c :: cs, k => (if tr c t = v then [(k : Int)] else []) ++ wtFrom t v cs (k + 1)
theorem wtFrom_len (t : Nat) (v : Int) (cs : List C4) : ∀ k, (wtFrom t v cs k).length ≤ cs.length := by
  induction cs with
  | nil => intro k; simp [wtFrom]
  | cons c cs ih =>
    intro k
    have := ih (k + 1)
    simp only [wtFrom, List.length_append, List.length_cons]
    split <;> simp <;> omega
def wtB (cs : List C4) (t v : Int) : Bool := handB cs && (inR t 0 3 && inR v 0 2)
def wtR (cs : List C4) (t v : Int) : List Int := if wtB cs t v then wtFrom t.toNat v cs 0 else []
theorem wtR_len (cs : List C4) (t v : Int) : (wtR cs t v).length ≤ 27 := by
  unfold wtR; split
  · rename_i h
    simp only [wtB, Bool.and_eq_true] at h
    have h1 := wtFrom_len t.toNat v cs 0
    have h2 := (handB_ok h.1).2
    omega
  · simp
theorem tr_cell {w : World} {b o : Nat} {z : C4} {T : Nat} (hT : T < 4) (e1 : w.cell? ⟨b, o, none⟩ = some (.int .i64 z.a)) (e2 : w.cell? ⟨b, o + 1, none⟩ = some (.int .i64 z.b))
    (e3 : w.cell? ⟨b, o + 2, none⟩ = some (.int .i64 z.c)) (e4 : w.cell? ⟨b, o + 3, none⟩ = some (.int .i64 z.d)) : w.cell? ⟨b, o + T, none⟩ = some (.int .i64 (tr z T)) := by
  have h : T = 0 ∨ T = 1 ∨ T = 2 ∨ T = 3 := by omega
  rcases h with rfl | rfl | rfl | rfl
  · exact e1
  · exact e2
  · exact e3
  · exact e4
theorem tr_box (z : C4) {T : Nat} (hT : T < 4) : ([Value.int .i64 z.a, .int .i64 z.b, .int .i64 z.c, .int .i64 z.d] : List Value)[T]'hT = .int .i64 (tr z T) := by
  have h : T = 0 ∨ T = 1 ∨ T = 2 ∨ T = 3 := by omega
  rcases h with rfl | rfl | rfl | rfl <;> rfl

theorem specWithTrait_c (cs : List C4) (t v : Int) (p : Option Addr) (cap : Nat) (w : World) (hn : cs.length ≤ 1000000000000) (hz : Sl w p cs) :
    Calls Try.prog 18 #[.slice p cs.length cap, .int .i64 t, .int .i64 v] w fun e w' => ∃ q cap', e = .returned (.tuple #[.slice q (wtR cs t v).length cap', .bool (wtB cs t v)]) ∧ Ex w w' ∧ RowI w.heap.size w'.heap.size w' q cap' (wtR cs t v) := by
  have Hz := Lib.hid hz
  clear hz
  have row0 := Lib.hid (RowV.start w 3 1)
  cases h : wtB cs t v
  · have hR : wtR cs t v = [] := by simp [wtR, h]
    rw [hR]
    have HB := Lib.hid h
    clear hR h
    cases h1 : handB cs
    all_goals cases h2 : inR t 0 3
    all_goals cases h3 : inR v 0 2
    all_goals first
      | (exfalso; have := HB.out; simp [wtB, h1, h2, h3] at this; done)
      | (go_enter Try.func18, Try.ntmps18
         go_wp2_with (first | (go_at_call 64; refine (l2Hand_c _ _ _ _ hn (Hz.out.ex (by repeat (first | exact Ex.refl _ | refine Ex.ext ?_ _ | refine Ex.alloc ?_ _ | refine Ex.drew ?_)))).mono ?_; rintro e w' ⟨rfl, x, rfl⟩; rw [h1]) | (go_at_call 65; refine (l1In_c _ _ _ _).mono ?_; rintro e w' ⟨rfl, x, rfl⟩; first | rw [h2] | rw [h3]))
         go_ret2
         exact ⟨some ⟨w.heap.size, 0, none⟩, 0, by simp, by repeat (first | exact Ex.refl _ | refine Ex.ext ?_ _ | refine Ex.alloc ?_ _ | refine Ex.drew ?_), (RowV.rowI (row0.out.ex (by exact by repeat (first | exact Ex.refl _ | refine Ex.ext ?_ _ | refine Ex.alloc ?_ _ | refine Ex.drew ?_))) rfl)⟩)
  · have h' := h
    simp only [wtB, Bool.and_eq_true] at h'
    obtain ⟨h1, h2, h3⟩ := h'
    have hR : wtR cs t v = wtFrom t.toNat v cs 0 := by simp [wtR, h]
    rw [hR]
    clear hR h
    have Hh := Lib.hid (handB_ok h1)
    have hlen : cs.length ≤ 27 := Hh.out.2
    have ht := (inR_iff _ _ _).1 h2
    obtain ⟨T, rfl⟩ : ∃ T : Nat, t = T := ⟨t.toNat, by omega⟩
    rw [Int.toNat_natCast]
    have hT : T < 4 := by omega
    have hT' : (T : Int) < 4 := by omega
    clear ht
    go_enter Try.func18, Try.ntmps18
    go_wp2_with (first | (go_at_call 64; refine (l2Hand_c _ _ _ _ hn (Hz.out.ex (by repeat (first | exact Ex.refl _ | refine Ex.ext ?_ _ | refine Ex.alloc ?_ _ | refine Ex.drew ?_)))).mono ?_; rintro e w' ⟨rfl, x, rfl⟩; rw [h1]) | (go_at_call 65; refine (l1In_c _ _ _ _).mono ?_; rintro e w' ⟨rfl, x, rfl⟩; first | rw [h2] | rw [h3]))
    clear h2 h3
    go_loopw [8, 9] (fun u i wr => ∃ (k : Nat) (P : List Int) (g cap' : Nat), k ≤ cs.length ∧ i = .int .i64 k ∧ u = .slice (some ⟨g, 0, none⟩) P.length cap' ∧ Ex w wr ∧
      RowV 3 1 w.heap.size wr g cap' P.length (intVals P) ∧ wtFrom T v cs 0 = P ++ wtFrom T v (cs.drop k) k) (fun _ i _ => cs.length - (intOf i).toNat)
    case atStart => exact ⟨0, [], w.heap.size, 0, Nat.zero_le _, rfl, rfl, by repeat (first | exact Ex.refl _ | refine Ex.ext ?_ _ | refine Ex.alloc ?_ _ | refine Ex.drew ?_), row0.out.ex (by exact by repeat (first | exact Ex.refl _ | refine Ex.ext ?_ _ | refine Ex.alloc ?_ _ | refine Ex.drew ?_)), rfl⟩
    case round =>
      obtain ⟨k, P, g, cap', hk, rfl, rfl, hE, hrow, hf⟩ := hrel
      have HE := Lib.hid hE
      have HR := Lib.hid hrow
      have Hf := Lib.hid hf
      clear hE hrow hf
      by_cases hlt : k < cs.length
      · obtain ⟨b, o, rfl, hb, e1, e2, e3, e4⟩ := (Hz.out.ex HE.out) k hlt
        have Hd := Lib.hid (List.drop_eq_getElem_cons hlt)
        generalize cs[k] = z at *
        have hcT := tr_cell hT e1 e2 e3 e4
        have hbd : P.length ≤ 27 := by
          have e0 := wtFrom_len T v cs 0
          rw [Hf.out, List.length_append] at e0
          omega
        generalize hN : P.length = N at *
        have HN := Lib.hid hN
        clear hN
        obtain ⟨q, hq⟩ : ∃ q, tr z T = q := ⟨_, rfl⟩
        rw [hq] at hcT
        have Hq := Lib.hid hq
        clear hq
        by_cases hyes : q = v
        · subst hyes
          go_wp2_with (at_builtin; refine wp_app rowInt (nW := _) (by simp [go_sem]) rfl _ _ rfl rfl (HR.out.ex (by exact by repeat (first | exact Ex.refl _ | refine Ex.ext ?_ _ | refine Ex.alloc ?_ _ | refine Ex.drew ?_))) 1 1 [.int .i64 k] rfl rfl (one1 _) (by omega) ?c2 ?c3 ?_; (case c2 => (unfold maxLen; omega)); (case c3 => omega); intro g' cap'' wq hrow' hK hg')
          go_roundw
          case rel =>
            (try ((repeat apply Exists.intro); refine ⟨?_, rfl⟩))
            have hgb := HR.out.blk
            refine ⟨k + 1, P ++ [(k : Int)], g', cap'', by omega, by go_num, by simp [HN.out], Keeps.ex (HE.out.trans (by exact by repeat (first | exact Ex.refl _ | refine Ex.ext ?_ _ | refine Ex.alloc ?_ _ | refine Ex.drew ?_))) hK (by omega), ?_, ?_⟩
            · rw [intVals_append, List.length_append, HN.out]; exact hrow'
            · rw [Hf.out, Hd.out, wtFrom, if_pos Hq.out]
              simp
          case measure => simp [intOf]; omega
        · go_wp2
          go_roundw
          case rel =>
            (try ((repeat apply Exists.intro); refine ⟨?_, rfl⟩))
            refine ⟨k + 1, P, g, cap', by omega, by go_num, by rw [HN.out], HE.out.trans (by exact by repeat (first | exact Ex.refl _ | refine Ex.ext ?_ _ | refine Ex.alloc ?_ _ | refine Ex.drew ?_)), ?_, ?_⟩
            · rw [HN.out]; exact HR.out.ex (by exact by repeat (first | exact Ex.refl _ | refine Ex.ext ?_ _ | refine Ex.alloc ?_ _ | refine Ex.drew ?_))
            · rw [Hf.out, Hd.out, wtFrom, if_neg (by rw [Hq.out]; exact hyes)]
              simp
          case measure => simp [intOf]; omega
      · have : k = cs.length := by omega
        subst this
        go_wp2
        go_ret2
        have e := Hf.out
        rw [List.drop_length, wtFrom, List.append_nil] at e
        rw [e]
        exact ⟨some ⟨g, 0, none⟩, cap', rfl, HE.out, HR.out.rowI rfl⟩

theorem implWithTrait_c (cs : List C4) (t v : Int) (p : Option Addr) (cap : Nat) (w : World) (hn : cs.length ≤ 1000000000000) (hz : Sl w p cs) :
    Calls Try.prog 20 #[.slice p cs.length cap, .int .i64 t, .int .i64 v] w fun e w' => ∃ q cap', e = .returned (.tuple #[.slice q (wtR cs t v).length cap', .bool (wtB cs t v)]) ∧ Ex w w' ∧ RowI w.heap.size w'.heap.size w' q cap' (wtR cs t v) := by
  have Hz := Lib.hid hz
  clear hz
  cases h : wtB cs t v
  · have hR : wtR cs t v = [] := by simp [wtR, h]
    rw [hR]
    have HB := Lib.hid h
    clear hR h
    cases h1 : handB cs
    all_goals cases h2 : inR t 0 3
    all_goals cases h3 : inR v 0 2
    all_goals first
      | (exfalso; have := HB.out; simp [wtB, h1, h2, h3] at this; done)
      | (go_enter Try.func20, Try.ntmps20
         go_wp2_with (first | (go_at_call 66; refine (implIsHand_c _ _ _ _ hn (Hz.out.ex (by repeat (first | exact Ex.refl _ | refine Ex.ext ?_ _ | refine Ex.alloc ?_ _ | refine Ex.drew ?_)))).mono ?_; rintro e w' ⟨rfl, x, rfl⟩; rw [h1]) | (go_at_call 67; refine (within_c _ _ _ _).mono ?_; rintro e w' ⟨rfl, x, rfl⟩; first | rw [h2] | rw [h3]))
         go_ret2
         exact ⟨none, 0, by simp, by repeat (first | exact Ex.refl _ | refine Ex.ext ?_ _ | refine Ex.alloc ?_ _ | refine Ex.drew ?_), RowI.nil _ _ _⟩)
  · have h' := h
    simp only [wtB, Bool.and_eq_true] at h'
    obtain ⟨h1, h2, h3⟩ := h'
    have hR : wtR cs t v = wtFrom t.toNat v cs 0 := by simp [wtR, h]
    rw [hR]
    clear hR h
    have Hh := Lib.hid (handB_ok h1)
    have hlen : cs.length ≤ 27 := Hh.out.2
    have ht := (inR_iff _ _ _).1 h2
    obtain ⟨T, rfl⟩ : ∃ T : Nat, t = T := ⟨t.toNat, by omega⟩
    rw [Int.toNat_natCast]
    have hT : T < 4 := by omega
    have hT' : (T : Int) < 4 := by omega
    clear ht
    go_enter Try.func20, Try.ntmps20
    go_wp2_with (first | (go_at_call 66; refine (implIsHand_c _ _ _ _ hn (Hz.out.ex (by repeat (first | exact Ex.refl _ | refine Ex.ext ?_ _ | refine Ex.alloc ?_ _ | refine Ex.drew ?_)))).mono ?_; rintro e w' ⟨rfl, x, rfl⟩; rw [h1]) | (go_at_call 67; refine (within_c _ _ _ _).mono ?_; rintro e w' ⟨rfl, x, rfl⟩; first | rw [h2] | rw [h3]))
    clear h2 h3
    go_loopw [8, 27] (fun u i wr => ∃ (k : Nat) (P : List Int) (g cap' : Nat), k ≤ cs.length ∧ i = .int .i64 k ∧ u = .slice (some ⟨g, 0, none⟩) P.length cap' ∧ Ex w wr ∧
      RowV 3 1 w.heap.size wr g cap' P.length (intVals P) ∧ wtFrom T v cs 0 = P ++ wtFrom T v (cs.drop k) k) (fun _ i _ => cs.length - (intOf i).toNat)
    case atStart => exact ⟨0, [], _, 0, Nat.zero_le _, rfl, rfl, by repeat (first | exact Ex.refl _ | refine Ex.ext ?_ _ | refine Ex.alloc ?_ _ | refine Ex.drew ?_), (RowV.start' _ _ _ _ (by simp [ext_size])).low (by simp [ext_size]), rfl⟩
    case round =>
      obtain ⟨k, P, g, cap', hk, rfl, rfl, hE, hrow, hf⟩ := hrel
      have HE := Lib.hid hE
      have HR := Lib.hid hrow
      have Hf := Lib.hid hf
      clear hE hrow hf
      by_cases hlt : k < cs.length
      · obtain ⟨b, o, rfl, hb, e1, e2, e3, e4⟩ := (Hz.out.ex HE.out) k hlt
        have Hd := Lib.hid (List.drop_eq_getElem_cons hlt)
        generalize cs[k] = z at *
        have hcT := tr_box z hT
        have hbd : P.length ≤ 27 := by
          have e0 := wtFrom_len T v cs 0
          rw [Hf.out, List.length_append] at e0
          omega
        generalize hN : P.length = N at *
        have HN := Lib.hid hN
        clear hN
        obtain ⟨q, hq⟩ : ∃ q, tr z T = q := ⟨_, rfl⟩
        rw [hq] at hcT
        have Hq := Lib.hid hq
        clear hq
        by_cases hyes : q = v
        · subst hyes
          go_wp2_with (at_builtin; refine wp_app rowInt (nW := _) (by simp [go_sem]) rfl _ _ rfl rfl (HR.out.ex (by exact by repeat (first | exact Ex.refl _ | refine Ex.ext ?_ _ | refine Ex.alloc ?_ _ | refine Ex.drew ?_))) 1 1 [.int .i64 k] rfl rfl (one1 _) (by omega) ?c2 ?c3 ?_; (case c2 => (unfold maxLen; omega)); (case c3 => omega); intro g' cap'' wq hrow' hK hg')
          go_roundw
          case rel =>
            (try ((repeat apply Exists.intro); refine ⟨?_, rfl⟩))
            have hgb := HR.out.blk
            refine ⟨k + 1, P ++ [(k : Int)], g', cap'', by omega, by go_num, by simp [HN.out], Keeps.ex (HE.out.trans (by exact by repeat (first | exact Ex.refl _ | refine Ex.ext ?_ _ | refine Ex.alloc ?_ _ | refine Ex.drew ?_))) hK (by omega), ?_, ?_⟩
            · rw [intVals_append, List.length_append, HN.out]; exact hrow'
            · rw [Hf.out, Hd.out, wtFrom, if_pos Hq.out]
              simp
          case measure => simp [intOf]; omega
        · go_wp2
          go_roundw
          case rel =>
            (try ((repeat apply Exists.intro); refine ⟨?_, rfl⟩))
            refine ⟨k + 1, P, g, cap', by omega, by go_num, by rw [HN.out], HE.out.trans (by exact by repeat (first | exact Ex.refl _ | refine Ex.ext ?_ _ | refine Ex.alloc ?_ _ | refine Ex.drew ?_)), ?_, ?_⟩
            · rw [HN.out]; exact HR.out.ex (by exact by repeat (first | exact Ex.refl _ | refine Ex.ext ?_ _ | refine Ex.alloc ?_ _ | refine Ex.drew ?_))
            · rw [Hf.out, Hd.out, wtFrom, if_neg (by rw [Hq.out]; exact hyes)]
              simp
          case measure => simp [intOf]; omega
      · have : k = cs.length := by omega
        subst this
        go_wp2
        go_ret2
        have e := Hf.out
        rw [List.drop_length, wtFrom, List.append_nil] at e
        rw [e]
        exact ⟨some ⟨g, 0, none⟩, cap', rfl, HE.out, HR.out.rowI rfl⟩
theorem fnExactWithTrait_walk (w : World) (p : Option Addr) (cs : List C4) (cap : Nat) (hl : cs.length ≤ maxLen) (hz : Sl w p cs) (t : Int) (ht : (Lit.int .i64 t).wf = true) (v : Int) (hv : (Lit.int .i64 v).wf = true) : Calls Try.prog 3 #[.slice p cs.length cap, .int .i64 t, .int .i64 v] w fun e w' => e = .returned (.bool true) ∧ Below w.heap.size w w' := by
  unfold maxLen at hl
  have hB := Below.refl w.heap.size w
  by_cases hs : cs.length ≤ 1048576
  · go_enter Try.func3, Try.ntmps3
    go_wp2_with (go_at_call 17; refine (sz_c _ _ _ _ (by omega) (by omega) (by omega) _).mono ?_; rintro e w1 ⟨rfl, hx⟩; rw [szSmall hs]; have hB := below_ex hB hx; have hs1 := Lib.hid hx.below.size; clear hx)
    have h3 : ¬ ((1048576 : Int) - cs.length < 0) := by omega
    have hlen := wtR_len cs t v
    clear ht hv
    go_wp2_with (go_at_call 19; refine (toA4S_o _ _ _ _ (by omega) (hz.below hB)).mono ?_; rintro e w2 ⟨gra, rfl, hx, ra⟩; have hB := below_ex hB hx; have hs2 := Lib.hid hx.below.size; clear hx)
    go_wp2_with (go_at_call 18; refine (specWithTrait_c _ _ _ _ _ _ (by omega) ra.sl).mono ?_; rintro e w3 ⟨qw, cw, rfl, hx, rw0⟩; have hB := below_ex hB hx; have hs3 := Lib.hid hx.below.size; clear hx)
    go_wp2_with (go_at_call 19; refine (toA4S_o _ _ _ _ (by omega) (hz.below hB)).mono ?_; rintro e w4 ⟨grx, rfl, hx, rx⟩; have rw0 := rw0.ex hx; have hB := below_ex hB hx; have hs4 := Lib.hid hx.below.size; clear hx)
    go_wp2_with (go_at_call 20; refine (implWithTrait_c _ _ _ _ _ _ (by omega) rx.sl).mono ?_; rintro e w5 ⟨qg, cg, rfl, hx, rg⟩; have rw0 := rw0.ex hx; have rx := rx.ex hx; have hB := below_ex hB hx; have hs5 := Lib.hid hx.below.size; clear hx)
    go_wp2_with (go_at_call 21; refine (eqIntS_c _ _ _ _ _ _ _ (by omega) (by omega) rg.sl rw0.sl).mono ?_; rintro e w6 ⟨rfl, hx⟩; have rw0 := rw0.ex hx; have rx := rx.ex hx; have rg := rg.ex hx; have hB := below_ex hB hx; have hs6 := Lib.hid hx.below.size; clear hx)
    go_wp2_with (go_at_call 19; refine (toA4S_o _ _ _ _ (by omega) (hz.below hB)).mono ?_; rintro e w7 ⟨gry, rfl, hx, ry⟩; have rw0 := rw0.ex hx; have rx := rx.ex hx; have rg := rg.ex hx; have hB := below_ex hB hx; have hs7 := Lib.hid hx.below.size; clear hx)
    go_wp2_with (go_at_call 22; refine (eqA4S_c _ _ _ _ _ _ _ (by omega) (by omega) rx.sl ry.sl).mono ?_; rintro e w8 ⟨rfl, hx⟩; have rw0 := rw0.ex hx; have rx := rx.ex hx; have rg := rg.ex hx; have ry := ry.ex hx; have hB := below_ex hB hx; have hs8 := Lib.hid hx.below.size; clear hx)
    go_wp2_with (go_at_call 23; refine (markA4S_c _ _ _ _ _ _ _ (by omega) (by omega) (by omega) rx).mono ?_; rintro e w9 ⟨rfl, rx, ha⟩; have rw0 := ha.rowI rw0 (Or.inl (by have := hs1.out; have := hs2.out; have := hs3.out; have := hs4.out; have := hs5.out; have := hs6.out; have := hs7.out; have := hs8.out; omega)); have rg := ha.rowI rg (Or.inr (by have := hs1.out; have := hs2.out; have := hs3.out; have := hs4.out; have := hs5.out; have := hs6.out; have := hs7.out; have := hs8.out; omega)); have hB := below_apart hB ha (by have := hs1.out; have := hs2.out; have := hs3.out; have := hs4.out; have := hs5.out; have := hs6.out; have := hs7.out; have := hs8.out; omega); have hs9 := Lib.hid ha.size; clear ha)
    go_wp2_with (go_at_call 21; refine (eqIntS_c _ _ _ _ _ _ _ (by omega) (by omega) rg.sl rw0.sl).mono ?_; rintro e w10 ⟨rfl, hx⟩; have rw0 := rw0.ex hx; have rg := rg.ex hx; have hB := below_ex hB hx; have hs10 := Lib.hid hx.below.size; clear hx)
    go_wp2_with (go_at_call 24; refine (markIntS_c _ _ _ _ _ _ _ (by omega) (by omega) (by omega) rg).mono ?_; rintro e w11 ⟨rfl, rg, ha⟩; have rw0 := ha.rowI rw0 (Or.inl (by have := hs1.out; have := hs2.out; have := hs3.out; have := hs4.out; have := hs5.out; have := hs6.out; have := hs7.out; have := hs8.out; have := hs9.out; have := hs10.out; omega)); have hB := below_apart hB ha (by have := hs1.out; have := hs2.out; have := hs3.out; have := hs4.out; have := hs5.out; have := hs6.out; have := hs7.out; have := hs8.out; have := hs9.out; have := hs10.out; omega); have hs11 := Lib.hid ha.size; clear ha)
    go_wp2_with (go_at_call 25; refine (heldIntS_c _ _ _ _ _ (by omega) (by omega) (by omega) rg.sl).mono ?_; rintro e w12 ⟨rfl, hx⟩; have rw0 := rw0.ex hx; have rg := rg.ex hx; have hB := below_ex hB hx; have hs12 := Lib.hid hx.below.size; clear hx)
    go_wp2_with (go_at_call 19; refine (toA4S_o _ _ _ _ (by omega) (hz.below hB)).mono ?_; rintro e w13 ⟨grz, rfl, hx, rz⟩; have rw0 := rw0.ex hx; have rg := rg.ex hx; have hB := below_ex hB hx; have hs13 := Lib.hid hx.below.size; clear hx)
    go_wp2_with (go_at_call 20; refine (implWithTrait_c _ _ _ _ _ _ (by omega) rz.sl).mono ?_; rintro e w14 ⟨qh, ch, rfl, hx, rh⟩; have rw0 := rw0.ex hx; have rg := rg.ex hx; have hB := below_ex hB hx; have hs14 := Lib.hid hx.below.size; clear hx)
    go_wp2_with (go_at_call 21; refine (eqIntS_c _ _ _ _ _ _ _ (by omega) (by omega) rh.sl rw0.sl).mono ?_; rintro e w15 ⟨rfl, hx⟩; have rw0 := rw0.ex hx; have rg := rg.ex hx; have rh := rh.ex hx; have hB := below_ex hB hx; have hs15 := Lib.hid hx.below.size; clear hx)
    go_wp2_with (go_at_call 25; refine (heldIntS_c _ _ _ _ _ (by omega) (by omega) (by omega) rg.sl).mono ?_; rintro e w16 ⟨rfl, hx⟩; have rg := rg.ex hx; have hB := below_ex hB hx; have hs16 := Lib.hid hx.below.size; clear hx)
    go_ret
    exact ⟨rfl, hB⟩
  · go_enter Try.func3, Try.ntmps3
    go_wp2_with (go_at_call 17; refine (sz_c _ _ _ _ (by omega) (by omega) (by omega) _).mono ?_; rintro e w1 ⟨rfl, hx⟩; rw [szBig hs]; have hB := below_ex hB hx; clear hx)
    go_ret
    exact ⟨rfl, hB⟩
end Go.Proofs.Ytdnnjhgkcchcaaa
