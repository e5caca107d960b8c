/- The walks of l2Lines, l4Lines and linesIn. -/
import Derived.Test.YtkelmfdbcicojaaLinesP
import Derived.Test.YtkelmfdbcicojaaRowZ
import Derived.Deep.WholeRow
namespace Go.Proofs.Ytkelmfdbcicojaa
set_option linter.unusedSimpArgs false
set_option linter.unusedVariables false
set_option maxHeartbeats 1000000
set_option maxRecDepth 100000
open Go.RowKit

theorem tri3 (k j : Nat) {m : Int} (h : 0 ≤ m) : intVals (triInts [(k, j, m.toNat)]) = [.int .i64 k, .int .i64 j, .int .i64 m] := by
  simp only [triInts, intVals, List.map_cons, List.map_nil]
  rw [Int.toNat_of_nonneg h]

/-- The box of the places: at a card's number stands its place, and one. -/
structure BoxP (w : World) (b : Nat) (cs : List C4) : Prop where
  lt : b < w.heap.size
  at_ : ∀ n : Nat, n < 81 → w.cell? ⟨b, n, none⟩ = some (.int .i64 (placeR cs (Go.Proofs.Ytkelmfdbcicojaa.at_ (n : Int)) + 1))
theorem BoxP.keeps {w w' : World} {b g : Nat} {cs : List C4} (h : BoxP w b cs) (k : Keeps g w w') (hb : b ≠ g) : BoxP w' b cs := by
  have e : ∀ i, w'.cell? ⟨b, i, none⟩ = w.cell? ⟨b, i, none⟩ := fun i => by simp only [World.cell?]; rw [k.block b h.lt hb]
  exact ⟨Nat.lt_of_lt_of_le h.lt k.size, fun n hn => by rw [e]; exact h.at_ n hn⟩
theorem BoxP.ex {w w' : World} {b : Nat} {cs : List C4} (h : BoxP w b cs) (k : Ex w w') : BoxP w' b cs := h.keeps (k.keeps w.heap.size) (by have := h.lt; omega)

theorem places_set {A : Array Value} {cs : List C4} {k nz : Nat} {z : C4} (hz : Ok z) (hzn : num z = nz) (hk : k < cs.length) (hn : cs.Nodup) (e : cs[k] = z) (hs : A.size = 81)
    (h : ∀ n : Nat, n < 81 → A[n]? = some (.int .i64 (placeR (cs.take k) (at_ (n : Int)) + 1))) :
    ∀ n : Nat, n < 81 → (A.setIfInBounds nz (.int .i64 ((k : Int) + 1)))[n]? = some (.int .i64 (placeR (cs.take (k + 1)) (at_ (n : Int)) + 1)) := by
  intro n hn81
  have hnd : (cs.take k).Nodup := List.Nodup.sublist (List.take_sublist _ _) hn
  have hnot : z ∉ cs.take k := fun hm => by
    obtain ⟨i, hi, e'⟩ := List.getElem_of_mem hm
    simp at hi
    rw [List.getElem_take] at e'
    have := nodup_at hn i k (by omega) hk (by rw [e', e])
    omega
  rw [List.take_succ_eq_append_getElem hk, e, place_snoc hnot hnd, Array.getElem?_setIfInBounds]
  by_cases hnn : nz = n
  · subst hnn
    rw [if_pos rfl, if_pos (by omega), if_pos]
    · simp; omega
    · rw [← hzn, at_num hz]
  · rw [if_neg hnn, if_neg, h n hn81]
    intro e2
    apply hnn
    have := num_at (n := (n : Int))
    rw [← e2, hzn] at this
    omega

theorem number_n (c : C4) (n : Nat) (h : Ok c) (hn : num c = n) (w : World) : Calls Try.prog 116 #[.agg #[.int .i64 c.a, .int .i64 c.b, .int .i64 c.c, .int .i64 c.d]] w fun e w' => e = .returned (.int .i64 n) ∧ Ex w w' := by
  rw [← hn]; exact number_c c h w

theorem linesIn_c (cs : List C4) (p : Option Addr) (cap : Nat) (w : World) (hn : cs.length ≤ 1000) (hnd : cs.Nodup) (hok : ∀ z ∈ cs, Ok z) (hz : Sl w p cs) :
    Calls Try.prog 74 #[.slice p cs.length cap] w fun e w' => ∃ g cap', e = .returned (.slice (some ⟨g, 0, none⟩) (linesR cs).length cap') ∧ Ex w w' ∧
      RowV 33 3 w.heap.size w' g cap' (linesR cs).length (intVals (triInts (linesR cs))) := by
  have Hb := Lib.hid (lines_small hn)
  have Hok := Lib.hid hok
  have Hz := Lib.hid hz
  have Hnd := Lib.hid hnd
  clear hok hz hnd
  have hzc : Try.zeroCells111 = Array.replicate 81 (.int .i64 0) := by kernel_rfl
  have hst : (storeCells ⟨w.heap.size, 0, none⟩ (Try.zeroCells111).toList).run Try.prog (w.alloc (.cells Try.zeroCells111 111)) = .ok () (w.alloc (.cells Try.zeroCells111 111)) := run_storeCells_new w _ _ _ (by kernel_rfl) rfl (by kernel_rfl)
  have Hzc := Lib.hid hzc
  clear hzc
  go_enter Try.func74, Try.ntmps74
  go_wp2
  clear hst
  go_loopw [14] (fun v wr => ∃ (k : Nat) (A : Array Value) (x : Ext), k ≤ cs.length ∧ v = .int .i64 k ∧ wr = ext (w.alloc (.cells A 111)) x ∧ A.size = 81 ∧ ∀ n : Nat, n < 81 → A[n]? = some (.int .i64 (placeR (cs.take k) (at_ (n : Int)) + 1))) (fun v _ => cs.length - (intOf v).toNat)
  case atStart =>
    refine ⟨0, Try.zeroCells111, _, Nat.zero_le _, rfl, self_ext _, by rw [Hzc.out]; simp, fun n hn => ?_⟩
    · rw [Hzc.out, List.take_zero, show placeR [] (at_ (n : Int)) = -1 from rfl]; simp [Array.getElem?_replicate, hn]
  case round =>
    obtain ⟨k, A, x, hk, rfl, rfl, hA, hf⟩ := hrel
    have Hf := Lib.hid hf
    have HA := Lib.hid hA
    clear hf
    by_cases hlt : k < cs.length
    · obtain ⟨b, o, rfl, hb, h1, h2, h3, h4⟩ := Hz.out k hlt
      have hokz := Hok.out _ (List.getElem_mem hlt)
      have Hg := Lib.hid (show cs[k] = cs[k] from rfl)
      have hnb := num_bd hokz
      obtain ⟨z, hze⟩ : ∃ z, cs[k] = z := ⟨_, rfl⟩
      rw [hze] at h1 h2 h3 h4 hokz hnb
      have Hze := Lib.hid hze
      clear hze Hg
      obtain ⟨nz, hnz⟩ : ∃ nz : Nat, num z = nz := ⟨(num z).toNat, by omega⟩
      have hlt81 : nz < 81 := by omega
      have hlt81' : (nz : Int) < 81 := by omega
      obtain ⟨u1, e1⟩ : ∃ u, A[nz]? = some u := ⟨_, Array.getElem?_eq_getElem (by omega)⟩
      have Hnz := Lib.hid hnz
      clear hnb hA
      go_wp2_with (first | (go_at_call 116; refine (number_n _ _ (by assumption) (by assumption) _).mono ?_; rintro e w' ⟨rfl, x, rfl⟩))
      go_roundw
      case rel =>
        refine ⟨k + 1, A.setIfInBounds nz (.int .i64 ((k : Int) + 1)), _, by omega, by go_num, (by rw [ext_alloc, ext_ext]), ?_, ?_⟩
        · simp only [Array.size_setIfInBounds]; exact HA.out
        · exact places_set hokz Hnz.out hlt Hnd.out Hze.out HA.out Hf.out
      case measure => simp [intOf]; omega
    · have : k = cs.length := by omega
      subst this
      have hbx : BoxP (ext (w.alloc (.cells A 111)) x) w.heap.size cs := ⟨(by first | (simp; done) | (simp [ext_size]; omega)), fun n hn => by
        have e := Hf.out n hn
        rw [List.take_length] at e
        rw [← e]
        have : w.heap.size < (w.alloc (.cells A 111)).heap.size := by simp
        rw [ext_cell _ _ _ this]
        simp [go_sem]⟩
      have hex : Ex w (ext (w.alloc (.cells A 111)) x) := by repeat (first | exact Ex.refl _ | refine Ex.ext ?_ _ | refine Ex.alloc ?_ _ | refine Ex.drew ?_)
      generalize hw1 : ext (w.alloc (.cells A 111)) x = w1 at *
      have HX := Lib.hid hex
      have HP := Lib.hid hbx
      clear hw1 hex hbx Hf HA hA
      go_wp2
      go_loopw [6, 28] (fun u v wr => ∃ (k : Nat) (P : List (Nat × Nat × Nat)) (g cap' : Nat), k ≤ cs.length ∧ v = .int .i64 k ∧ u = .slice (some ⟨g, 0, none⟩) P.length cap' ∧ Ex w wr ∧ BoxP wr w.heap.size cs ∧ w.heap.size < g ∧
        RowV 33 3 w.heap.size wr g cap' P.length (intVals (triInts P)) ∧ linesR cs = P ++ linesOf cs (cs.drop k) k) (fun _ v _ => cs.length - (intOf v).toNat)
      case atStart =>
        exact ⟨0, [], w1.heap.size, 0, Nat.zero_le _, rfl, rfl, HX.out.alloc _, HP.out.ex ((Ex.refl _).alloc _), HP.out.lt, (RowV.start _ _ _).low (by have := HP.out.lt; omega), rfl⟩
      case round =>
        obtain ⟨k, P, g, cap', hk, rfl, rfl, hE, hbox, hg, hrow, hf⟩ := hrel
        have Hf := Lib.hid hf
        have HE := Lib.hid hE
        have HB := Lib.hid hbox
        have HR := Lib.hid hrow
        clear hf hE hbox hrow
        by_cases hlt : k < cs.length
        · obtain ⟨b, o, rfl, hb, h1, h2, h3, h4⟩ := (Hz.out.ex HE.out) k hlt
          have Hd := Lib.hid (List.drop_eq_getElem_cons hlt)
          have hokz := Hok.out _ (List.getElem_mem hlt)
          generalize cs[k] = z at *
          go_wp2
          clear h1 h2 h3 h4
          obtain ⟨wo, rfl⟩ : ∃ wo : World, wo = wr := ⟨_, rfl⟩
          go_loopw [6, 9] (fun u v wr => ∃ (j : Nat) (R : List (Nat × Nat × Nat)) (g cap' : Nat), k + 1 ≤ j ∧ j ≤ cs.length ∧ v = .int .i64 j ∧ u = .slice (some ⟨g, 0, none⟩) (P ++ R).length cap' ∧ Ex w wr ∧
            BoxP wr w.heap.size cs ∧ Box4 wr wo.heap.size z.a z.b z.c z.d ∧ w.heap.size < g ∧ g ≠ wo.heap.size ∧ RowV 33 3 w.heap.size wr g cap' (P ++ R).length (intVals (triInts (P ++ R))) ∧
            rowLines cs z k (cs.drop (k + 1)) (k + 1) = R ++ rowLines cs z k (cs.drop j) j) (fun _ v _ => cs.length - (intOf v).toNat)
          case atStart =>
            refine ⟨k + 1, [], g, cap', Nat.le_refl _, by omega, by go_num, by simp, HE.out.alloc _, HB.out.ex ((Ex.refl _).alloc _), ⟨(by first | (simp; done) | (simp [ext_size]; omega)), by go_simp, by go_simp, by go_simp, by go_simp⟩, hg, ?_, ?_, rfl⟩
            · have := HR.out.blk; omega
            · rw [List.append_nil]; exact HR.out.ex ((Ex.refl _).alloc _)
          case round =>
            obtain ⟨j, R, g, cap', hj1, hj, rfl, rfl, hE, hbox, hbox2, hg, hg2, hrow, hg3⟩ := hrel
            have HE' := Lib.hid hE
            have HB' := Lib.hid hbox
            have HB2 := Lib.hid hbox2
            have HR' := Lib.hid hrow
            have Hg := Lib.hid hg3
            have Hg2 := Lib.hid hg2
            clear hE hbox hbox2 hrow hg3 hg2
            by_cases hjt : j < cs.length
            · obtain ⟨b', o', e', hb', h1', h2', h3', h4'⟩ := (Hz.out.ex HE'.out) j hjt
              simp at e'
              obtain ⟨rfl, rfl⟩ := e'
              have Hd' := Lib.hid (List.drop_eq_getElem_cons hjt)
              have hoky := Hok.out _ (List.getElem_mem hjt)
              generalize cs[j] = y at *
              have hbd : (P ++ R).length ≤ 1000000 := by
                have h0 := Hb.out
                rw [Hf.out, Hd.out, linesOf, Hg.out] at h0
                simp only [List.length_append] at h0 ⊢
                omega
              generalize hN : (P ++ R).length = N at *
              have HN := Lib.hid hN
              clear hN
              have hok3 := ok_third z y
              have hnb := num_bd hok3
              obtain ⟨nz, hnz⟩ : ∃ nz : Nat, num (third z y) = nz := ⟨(num (third z y)).toNat, by omega⟩
              have hlt81 : nz < 81 := by omega
              have hlt81' : (nz : Int) < 81 := by omega
              have hcell := HB'.out.at_ nz hlt81
              rw [← hnz, at_num hok3] at hcell
              have hwl := HB'.out.lt
              have hpl := place_lt (third z y) Hnd.out
              obtain ⟨m, hm⟩ : ∃ m, placeR cs (third z y) = m := ⟨_, rfl⟩
              rw [hm] at hcell hpl
              have Hm := Lib.hid hm
              clear hm hnb
              obtain ⟨hzl, hz0, hz1, hz2, hz3⟩ := HB2.out
              by_cases hgt : (j : Int) < m
              · go_wp2_with (first | (refine region_quiet (by kernel_rfl) (by kernel_rfl) ?_; (repeat (go_big_quiet_step ((first | (go_at_call 117; exact (third_c _ _ (by assumption) (by assumption) _).mono (by rintro e w' ⟨rfl, y, rfl⟩; first | exact ⟨rfl, _, ext_ext _ _⟩ | exact ⟨rfl, _, by rw [ext_ext, Ext.app_assoc]⟩ | exact ⟨rfl, _, by rw [ext_ext, Ext.app_assoc, Ext.app_assoc]⟩ | exact ⟨rfl, _, by rw [ext_ext, Ext.app_assoc, Ext.app_assoc, Ext.app_assoc]⟩)) | (go_at_call 116; exact (number_n _ _ (by assumption) (by assumption) _).mono (by rintro e w' ⟨rfl, y, rfl⟩; first | exact ⟨rfl, _, ext_ext _ _⟩ | exact ⟨rfl, _, by rw [ext_ext, Ext.app_assoc]⟩ | exact ⟨rfl, _, by rw [ext_ext, Ext.app_assoc, Ext.app_assoc]⟩ | exact ⟨rfl, _, by rw [ext_ext, Ext.app_assoc, Ext.app_assoc, Ext.app_assoc]⟩)))))); refine wpQuiet_nil ?_; rintro _ ⟨x, rfl⟩) | (at_builtin; refine wp_app rowA3 (nW := _) (by simp [go_sem]) rfl _ _ rfl rfl (HR'.out.ex ((Ex.refl _).ext _)) 1 1 [.int .i64 k, .int .i64 j, .int .i64 m] rfl rfl (one3 _ _ _) (by omega) ?c2 ?c3 ?_; (case c2 => (unfold maxLen; omega)); (case c3 => omega); intro g' cap'' wq hrow' hK hg'))
                go_roundw
                case rel =>
                  have hg2 := Hg2.out
                  have hgb := HR'.out.blk
                  refine ⟨j + 1, R ++ [(k, j, m.toNat)], g', cap'', by omega, by omega, by go_num, ?_, ?_, ?_, ?_, ?_, ?_, ?_, ?_⟩
                  · rw [← List.append_assoc, List.length_append, HN.out]; rfl
                  · exact Keeps.ex (HE'.out.ext _) hK (by omega)
                  · exact (HB'.out.ex ((Ex.refl _).ext _)).keeps hK (by omega)
                  · exact (HB2.out.ex ((Ex.refl _).ext _)).keeps hK (by omega)
                  · rcases hg' with h | h
                    · omega
                    · rw [ext_size] at h; omega
                  · rcases hg' with h | h
                    · omega
                    · rw [ext_size] at h; omega
                  · rw [← List.append_assoc, triInts_append, intVals_append, tri3 _ _ (by omega), List.length_append, HN.out]; exact hrow'
                  · rw [Hg.out, Hd'.out, rowLines, Hm.out, if_pos hgt]
                    simp
                case measure => simp [intOf]; omega
              · go_wp2_with (refine region_quiet (by kernel_rfl) (by kernel_rfl) ?_; (repeat (go_big_quiet_step ((first | (go_at_call 117; exact (third_c _ _ (by assumption) (by assumption) _).mono (by rintro e w' ⟨rfl, y, rfl⟩; first | exact ⟨rfl, _, ext_ext _ _⟩ | exact ⟨rfl, _, by rw [ext_ext, Ext.app_assoc]⟩ | exact ⟨rfl, _, by rw [ext_ext, Ext.app_assoc, Ext.app_assoc]⟩ | exact ⟨rfl, _, by rw [ext_ext, Ext.app_assoc, Ext.app_assoc, Ext.app_assoc]⟩)) | (go_at_call 116; exact (number_n _ _ (by assumption) (by assumption) _).mono (by rintro e w' ⟨rfl, y, rfl⟩; first | exact ⟨rfl, _, ext_ext _ _⟩ | exact ⟨rfl, _, by rw [ext_ext, Ext.app_assoc]⟩ | exact ⟨rfl, _, by rw [ext_ext, Ext.app_assoc, Ext.app_assoc]⟩ | exact ⟨rfl, _, by rw [ext_ext, Ext.app_assoc, Ext.app_assoc, Ext.app_assoc]⟩)))))); refine wpQuiet_nil ?_; rintro _ ⟨x, rfl⟩)
                go_roundw
                case rel =>
                  refine ⟨j + 1, R, g, cap', by omega, by omega, by go_num, by rw [HN.out], HE'.out.ext _, HB'.out.ex ((Ex.refl _).ext _), HB2.out.ex ((Ex.refl _).ext _), hg, Hg2.out, ?_, ?_⟩
                  · rw [HN.out]; exact HR'.out.ex ((Ex.refl _).ext _)
                  · rw [Hg.out, Hd'.out, rowLines, Hm.out, if_neg hgt]
                    simp
                case measure => simp [intOf]; omega
            · have : j = cs.length := by omega
              subst this
              go_wp2
              go_roundw
              case rel =>
                have e := Hg.out
                rw [List.drop_length, rowLines, List.append_nil] at e
                refine ⟨k + 1, P ++ R, g, cap', by omega, by go_num, rfl, HE'.out, HB'.out, hg, HR'.out, ?_⟩
                rw [Hf.out, Hd.out, linesOf, e, List.append_assoc]
              case measure => simp [intOf]; omega
        · have : k = cs.length := by omega
          subst this
          go_wp2
          go_ret
          have e := Hf.out
          rw [List.drop_length, linesOf, List.append_nil] at e
          rw [e]
          exact ⟨g, cap', rfl, HE.out, HR.out⟩
theorem l4Lines_c (cs : List C4) (p : Option Addr) (cap : Nat) (w : World) (hn : cs.length ≤ 1000) (hnd : cs.Nodup) (hok : ∀ z ∈ cs, Ok z) (hz : Sl w p cs) :
    Calls Try.prog 64 #[.slice p cs.length cap] w fun e w' => ∃ g cap', e = .returned (.slice (some ⟨g, 0, none⟩) (linesR cs).length cap') ∧ Ex w w' ∧
      RowV 33 3 w.heap.size w' g cap' (linesR cs).length (intVals (triInts (linesR cs))) := by
  have Hb := Lib.hid (lines_small hn)
  have Hok := Lib.hid hok
  have Hnd := Lib.hid hnd
  have Hz := Lib.hid hz
  clear hok hz hnd
  go_enter Try.func64, Try.ntmps64
  go_wp2
  go_loopw [3, 4] (fun u v wr => ∃ (k : Nat) (P : List (Nat × Nat × Nat)) (g cap' : Nat), k ≤ cs.length ∧ v = .int .i64 k ∧ u = .slice (some ⟨g, 0, none⟩) P.length cap' ∧ Ex w wr ∧
    RowV 33 3 w.heap.size wr g cap' P.length (intVals (triInts P)) ∧ linesR cs = P ++ linesOf cs (cs.drop k) k) (fun _ v _ => cs.length - (intOf v).toNat)
  case atStart => exact ⟨0, [], w.heap.size, 0, Nat.zero_le _, rfl, rfl, by repeat (first | exact Ex.refl _ | refine Ex.ext ?_ _ | refine Ex.alloc ?_ _ | refine Ex.drew ?_), RowV.start _ _ _, rfl⟩
  case round =>
    obtain ⟨k, P, g, cap', hk, rfl, rfl, hE, hrow, hf⟩ := hrel
    have Hf := Lib.hid hf
    have HE := Lib.hid hE
    have HR := Lib.hid hrow
    clear hf hE hrow
    by_cases hlt : k < cs.length
    · have hdr := List.drop_eq_getElem_cons hlt
      have hokz := Hok.out _ (List.getElem_mem hlt)
      have hsl := fun wr hE => (Hz.out.ex (w' := wr) hE) k hlt
      obtain ⟨z, hze⟩ : ∃ z, cs[k] = z := ⟨_, rfl⟩
      rw [hze] at hsl hokz
      have Hzk := Lib.hid hze
      rw [hze] at hdr
      have Hd := Lib.hid hdr
      clear hdr hze
      have Hsl := Lib.hid hsl
      clear hsl
      go_wp2
      go_loopw [3, 5] (fun u v wr => ∃ (j : Nat) (R : List (Nat × Nat × Nat)) (g cap' : Nat), k + 1 ≤ j ∧ j ≤ cs.length ∧ v = .int .i64 j ∧ u = .slice (some ⟨g, 0, none⟩) (P ++ R).length cap' ∧ Ex w wr ∧
        RowV 33 3 w.heap.size wr g cap' (P ++ R).length (intVals (triInts (P ++ R))) ∧
        rowLines cs z k (cs.drop (k + 1)) (k + 1) = R ++ rowLines cs z k (cs.drop j) j) (fun _ v _ => cs.length - (intOf v).toNat)
      case atStart =>
        refine ⟨k + 1, [], g, cap', Nat.le_refl _, by omega, by go_num, by simp, HE.out, ?_, rfl⟩
        rw [List.append_nil]; exact HR.out
      case round =>
        obtain ⟨j, R, g, cap', hj1, hj, rfl, rfl, hE, hrow, hg3⟩ := hrel
        have HE' := Lib.hid hE
        have HR' := Lib.hid hrow
        have Hg := Lib.hid hg3
        clear hE hrow hg3
        by_cases hjt : j < cs.length
        · obtain ⟨b, o, rfl, hb, h1, h2, h3, h4⟩ := Hsl.out _ HE'.out
          obtain ⟨b', o', e', hb', h1', h2', h3', h4'⟩ := (Hz.out.ex HE'.out) j hjt
          simp at e'
          obtain ⟨rfl, rfl⟩ := e'
          have Hd' := Lib.hid (List.drop_eq_getElem_cons hjt)
          have hoky := Hok.out _ (List.getElem_mem hjt)
          have hdeep := deep_eq Hnd.out (i := k) (by omega) hjt
          rw [Hzk.out] at hdeep
          have Hsl2 := Lib.hid (fun wr hE => (Hz.out.ex (w' := wr) hE) j hjt)
          generalize cs[j] = y at *
          have Hdeep := Lib.hid hdeep
          clear hdeep
          obtain ⟨hA, hB, hC, hD⟩ : True ∧ True ∧ True ∧ True := ⟨trivial, trivial, trivial, trivial⟩
          go_wp2
          clear h1 h2 h3 h4 h1' h2' h3' h4' hA hB hC hD
          go_loopw [3, 6] (fun u v wr => ∃ (i : Nat) (S : List (Nat × Nat × Nat)) (g cap' : Nat), j + 1 ≤ i ∧ i ≤ cs.length ∧ v = .int .i64 i ∧ u = .slice (some ⟨g, 0, none⟩) ((P ++ R) ++ S).length cap' ∧ Ex w wr ∧
            RowV 33 3 w.heap.size wr g cap' ((P ++ R) ++ S).length (intVals (triInts ((P ++ R) ++ S))) ∧
            deepLines z y k j (cs.drop (j + 1)) (j + 1) = S ++ deepLines z y k j (cs.drop i) i) (fun _ v _ => cs.length - (intOf v).toNat)
          case atStart =>
            refine ⟨j + 1, [], g, cap', Nat.le_refl _, by omega, by go_num, by simp, HE'.out, ?_, rfl⟩
            rw [List.append_nil]; exact HR'.out
          case round =>
            obtain ⟨i, S, g, cap', hi1, hi, rfl, rfl, hE, hrow, hg5⟩ := hrel
            have HE5 := Lib.hid hE
            have HR5 := Lib.hid hrow
            have Hg5 := Lib.hid hg5
            clear hE hrow hg5
            by_cases hit : i < cs.length
            · obtain ⟨b', o', e', hb, h1, h2, h3, h4⟩ := Hsl.out _ HE5.out
              simp at e'
              obtain ⟨rfl, rfl⟩ := e'
              obtain ⟨b', o', e', hb', h1', h2', h3', h4'⟩ := Hsl2.out _ HE5.out
              simp at e'
              obtain ⟨rfl, rfl⟩ := e'
              obtain ⟨b', o', e', hb', k1', k2', k3', k4'⟩ := (Hz.out.ex HE5.out) i hit
              simp at e'
              obtain ⟨rfl, rfl⟩ := e'
              have Hd5 := Lib.hid (List.drop_eq_getElem_cons hit)
              have hokx := Hok.out _ (List.getElem_mem hit)
              generalize cs[i] = x0 at *
              have hbd : ((P ++ R) ++ S).length ≤ 1000000 := by
                have h0 := Hb.out
                rw [Hf.out, Hd.out, linesOf, Hg.out, Hd'.out, rowLines, ← Hdeep.out, Hg5.out] at h0
                simp only [List.length_append] at h0 ⊢
                omega
              generalize hN : ((P ++ R) ++ S).length = N at *
              have HN := Lib.hid hN
              clear hN
              cases hln : lineB z y x0
              · go_wp2_with (refine region_quiet (by kernel_rfl) (by kernel_rfl) ?_; (repeat (go_big_quiet_step ((go_at_call 108; exact (l2Line_c _ _ _ (by assumption) (by assumption) _).mono (by rw [hln]; rintro e w' ⟨rfl, y, rfl⟩; first | exact ⟨rfl, _, ext_ext _ _⟩ | exact ⟨rfl, _, by rw [ext_ext, Ext.app_assoc]⟩))))); refine wpQuiet_nil ?_; rintro _ ⟨x, rfl⟩)
                go_roundw
                case rel =>
                  (try ((repeat apply Exists.intro); refine ⟨?_, rfl⟩))
                  refine ⟨i + 1, S, g, cap', by omega, by omega, by go_num, by rw [HN.out], HE5.out.ext _, ?_, ?_⟩
                  · rw [HN.out]; exact HR5.out.ex ((Ex.refl _).ext _)
                  · rw [Hg5.out, Hd5.out, deepLines, hln]
                    simp
                case measure => simp [intOf]; omega
              · go_wp2_with (first | (refine region_quiet (by kernel_rfl) (by kernel_rfl) ?_; (repeat (go_big_quiet_step ((go_at_call 108; exact (l2Line_c _ _ _ (by assumption) (by assumption) _).mono (by rw [hln]; rintro e w' ⟨rfl, y, rfl⟩; first | exact ⟨rfl, _, ext_ext _ _⟩ | exact ⟨rfl, _, by rw [ext_ext, Ext.app_assoc]⟩))))); refine wpQuiet_nil ?_; rintro _ ⟨x, rfl⟩) | (at_builtin; refine wp_app rowA3 (nW := _) (by simp [go_sem]) rfl _ _ rfl rfl (HR5.out.ex ((Ex.refl _).ext _)) 1 1 [.int .i64 k, .int .i64 j, .int .i64 i] rfl rfl (one3 _ _ _) (by omega) ?c2 ?c3 ?_; (case c2 => (unfold maxLen; omega)); (case c3 => omega); intro g' cap'' wq hrow' hK hg'))
                go_roundw
                case rel =>
                  (try ((repeat apply Exists.intro); refine ⟨?_, rfl⟩))
                  have hgb := HR5.out.blk
                  refine ⟨i + 1, S ++ [(k, j, i)], g', cap'', by omega, by omega, by go_num, ?_, Keeps.ex (HE5.out.ext _) hK (by omega), ?_, ?_⟩
                  · rw [← List.append_assoc, List.length_append, HN.out]; rfl
                  · rw [← List.append_assoc, triInts_append, intVals_append, List.length_append, HN.out]; exact hrow'
                  · rw [Hg5.out, Hd5.out, deepLines, hln]
                    simp
                case measure => simp [intOf]; omega
            · have : i = cs.length := by omega
              subst this
              go_wp2
              go_roundw
              case rel =>
                (try ((repeat apply Exists.intro); refine ⟨?_, rfl⟩))
                have e := Hg5.out
                rw [List.drop_length, deepLines, List.append_nil, Hdeep.out] at e
                refine ⟨j + 1, R ++ S, g, cap', by omega, by omega, by go_num, by rw [List.append_assoc], HE5.out, ?_, ?_⟩
                · rw [← List.append_assoc]; exact HR5.out
                · rw [Hg.out, Hd'.out, rowLines, e, List.append_assoc]
              case measure => simp [intOf]; omega
        · have : j = cs.length := by omega
          subst this
          go_wp2
          go_roundw
          case rel =>
            have e := Hg.out
            rw [List.drop_length, rowLines, List.append_nil] at e
            refine ⟨k + 1, P ++ R, g, cap', by omega, by go_num, rfl, HE'.out, HR'.out, ?_⟩
            rw [Hf.out, Hd.out, linesOf, e, List.append_assoc]
          case measure => simp [intOf]; omega
    · have : k = cs.length := by omega
      subst this
      go_wp2
      go_ret
      have e := Hf.out
      rw [List.drop_length, linesOf, List.append_nil] at e
      rw [e]
      exact ⟨g, cap', rfl, HE.out, HR.out⟩
end Go.Proofs.Ytkelmfdbcicojaa
