/- The walks of FillCap. -/
import Derived.Test.YtnjfkgggebhelaaFillP
import Derived.Test.YtnjfkgggebhelaaJoin
import Derived.Test.YtnjfkgggebhelaaLawG
namespace Go.Proofs.Ytnjfkgggebhelaa
set_option linter.unusedSimpArgs false
set_option linter.unusedVariables false
set_option maxHeartbeats 1000000
set_option maxRecDepth 100000
open Go.RowKit

theorem has_n {T : List C4} {c : C4} {p : Option Addr} {n cap : Nat} {r : Bool} {w : World} (hl : T.length = n) (hr : hasB T c = r) (hn : n ≤ 1000) (hz : Sl w p T) :
    Calls Try.prog 50 #[.slice p n cap, .agg #[.int .i64 c.a, .int .i64 c.b, .int .i64 c.c, .int .i64 c.d]] w fun e w' => e = .returned (.bool r) ∧ Ex w w' := by
  subst hl; subst hr; exact has_c T c p cap w (by omega) hz
theorem l3Cards_n {cs : List C4} {bl : Bool} {p : Option Addr} {n cap : Nat} {w : World} (hl : cs.length = n) (hn : n ≤ 1000) (hok : ∀ z ∈ cs, Ok z) (hz : Sl w p cs) :
    Calls Try.prog 55 #[.slice p n cap, .bool bl] w fun e w' => ∃ g cap', e = .returned (.slice (some ⟨g, 0, none⟩) (sel (outF cs bl) 81).length cap') ∧ Ex w w' ∧ RowV 3 1 w.heap.size w' g cap' (sel (outF cs bl) 81).length (intVals (sel (outF cs bl) 81)) := by
  subst hl; exact l3Cards_c cs bl p cap w hn hok hz
def lenOf : Value → Nat
  | .slice _ n _ => n
  | _ => 0
def flB (cs : List C4) : Bool := handB cs && capB cs
def flR (cs : List C4) : List C4 := if flB cs then sortU (fillTo cs 81) else []
theorem flR_len (cs : List C4) : (flR cs).length ≤ 108 := by
  unfold flR; split
  · rename_i h
    simp only [flB, Bool.and_eq_true] at h
    have h1 := (handB_ok h.1).2
    have h2 := sortU_len (fillTo cs 81)
    have h3 := fillTo_len cs 81
    omega
  · simp
theorem sortU_plen {L : List C4} (ho : ∀ z ∈ L, Ok z) (hn : L.Nodup) : (sortU L).length = L.length := (sortU_perm ho hn).length_eq

theorem specFillCap_c (cs : List C4) (b : Nat) (cap : Nat) (w : World) (hn : cs.length ≤ 100000000) (hz : Sl w (some ⟨b, 0, none⟩) cs) :
    Calls Try.prog 24 #[.slice (some ⟨b, 0, none⟩) cs.length cap] w fun e w' => ∃ q cap', e = .returned (.tuple #[.slice q (flR cs).length cap', .bool (flB cs)]) ∧ Ex w w' ∧ Row w.heap.size w'.heap.size w' q cap' (flR cs) := by
  have Hz := Lib.hid hz
  clear hz
  cases h1 : handB cs
  · have hB : flB cs = false := by simp [flB, h1]
    have hR : flR cs = [] := by simp [flR, hB]
    rw [hB, hR]
    clear hB hR
    go_enter Try.func24, Try.ntmps24
    go_wp2_with (go_at_call 45; refine (l2Hand_c _ _ _ _ (by omega) (Hz.out.ex (by repeat (first | exact Ex.refl _ | refine Ex.ext ?_ _ | refine Ex.alloc ?_ _ | refine Ex.drew ?_)))).mono ?_; rintro e w' ⟨rfl, x, rfl⟩; rw [h1])
    go_ret2
    exact ⟨some ⟨_, 0, none⟩, 0, by simp [ext_size], by repeat (first | exact Ex.refl _ | refine Ex.ext ?_ _ | refine Ex.alloc ?_ _ | refine Ex.drew ?_), (Row.empty _).mono (by first | (simp; done) | (simp [ext_size]; done) | (simp [ext_size]; omega) | omega) (by first | (simp; done) | (simp [ext_size]; done) | (simp [ext_size]; omega) | omega)⟩
  · have Hh := Lib.hid (handB_ok h1)
    have Ha := Lib.hid ((handB_iff cs).1 h1).1
    have hn2 : cs.length ≤ 27 := Hh.out.2
    cases h2 : capB cs
    · have hB : flB cs = false := by simp [flB, h1, h2]
      have hR : flR cs = [] := by simp [flR, hB]
      rw [hB, hR]
      clear hB hR
      go_enter Try.func24, Try.ntmps24
      go_wp2_with (first | (go_at_call 45; refine (l2Hand_c _ _ _ _ (by omega) (Hz.out.ex (by repeat (first | exact Ex.refl _ | refine Ex.ext ?_ _ | refine Ex.alloc ?_ _ | refine Ex.drew ?_)))).mono ?_; rintro e w' ⟨rfl, x, rfl⟩; rw [h1]) | (go_at_call 52; refine (l3Cap_c _ _ _ _ (by omega) Hh.out.1 (Hz.out.ex (by repeat (first | exact Ex.refl _ | refine Ex.ext ?_ _ | refine Ex.alloc ?_ _ | refine Ex.drew ?_)))).mono ?_; rintro e w' ⟨rfl, x, rfl⟩; rw [h2]))
      go_ret2
      exact ⟨some ⟨_, 0, none⟩, 0, by simp [ext_size], by repeat (first | exact Ex.refl _ | refine Ex.ext ?_ _ | refine Ex.alloc ?_ _ | refine Ex.drew ?_), (Row.empty _).mono (by first | (simp; done) | (simp [ext_size]; done) | (simp [ext_size]; omega) | omega) (by first | (simp; done) | (simp [ext_size]; done) | (simp [ext_size]; omega) | omega)⟩
    · have hB : flB cs = true := by simp [flB, h1, h2]
      have hR : flR cs = sortU (fillTo cs 81) := by simp [flR, hB]
      rw [hB, hR]
      clear hB hR
      have hs0 := Lib.hid (show sortU (fillTo cs 0) = cs from sortU_asc' Ha.out)
      have Hnd := Lib.hid Ha.out.nodup
      go_enter Try.func24, Try.ntmps24
      go_wp2_with (first | (go_at_call 45; refine (l2Hand_c _ _ _ _ (by omega) (Hz.out.ex (by repeat (first | exact Ex.refl _ | refine Ex.ext ?_ _ | refine Ex.alloc ?_ _ | refine Ex.drew ?_)))).mono ?_; rintro e w' ⟨rfl, x, rfl⟩; rw [h1]) | (go_at_call 52; refine (l3Cap_c _ _ _ _ (by omega) Hh.out.1 (Hz.out.ex (by repeat (first | exact Ex.refl _ | refine Ex.ext ?_ _ | refine Ex.alloc ?_ _ | refine Ex.drew ?_)))).mono ?_; rintro e w' ⟨rfl, x, rfl⟩; rw [h2]) |
        (go_at_call 53; refine (l2Own_n3 rfl (by omega) (Hz.out.ex (by exact by repeat (first | exact Ex.refl _ | refine Ex.ext ?_ _ | refine Ex.alloc ?_ _ | refine Ex.drew ?_)))).mono ?_; rintro e w1 ⟨g1, c1, rfl, hx, hr1⟩; have hE1 := Ex.trans (show Ex w _ by exact by repeat (first | exact Ex.refl _ | refine Ex.ext ?_ _ | refine Ex.alloc ?_ _ | refine Ex.drew ?_)) hx; have hr1 := own_base hr1.own (Ex.below (show Ex w _ by exact by repeat (first | exact Ex.refl _ | refine Ex.ext ?_ _ | refine Ex.alloc ?_ _ | refine Ex.drew ?_))).size; have Hs1 := Lib.hid ((RowV.row (n := cs.length) (lo := w.heap.size) hr1 rfl).sl)) |
        (go_at_call 55; refine (l3Cards_n rfl (by omega) Hh.out.1 Hs1.out).mono ?_; rintro e w2 ⟨g2, c2, rfl, hx2, hr2⟩; have hE2 := hE1.trans hx2; have hr1 := RowV.ex hr1 hx2; have hr2 := hr2.low hE1.below.size))
      go_loopw [4, 5] (fun u v wr => ∃ (k N M g cap' g2 cap2 : Nat), k ≤ 81 ∧ u = .slice (some ⟨g, 0, none⟩) N cap' ∧ v = .slice (some ⟨g2, 0, none⟩) M cap2 ∧ (sortU (fillTo cs k)).length = N ∧ (sel (outF (sortU (fillTo cs k)) false) 81).length = M ∧ Ex w wr ∧
        RowV 29 4 w.heap.size wr g cap' N (cellsOf (sortU (fillTo cs k))) ∧ RowV 3 1 w.heap.size wr g2 cap2 M (intVals (sel (outF (sortU (fillTo cs k)) false) 81))) (fun u _ _ => 200 - lenOf u)
      case atStart => exact ⟨0, cs.length, _, g1, c1, g2, c2, by omega, rfl, rfl, by rw [hs0.out], by rw [hs0.out], hE2, by rw [hs0.out]; exact hr1, by rw [hs0.out]; exact hr2⟩
      case round =>
        obtain ⟨k, N, M, g, cap', g2, cap2, hk, rfl, rfl, hN, hM, hE, hrow, hrow2⟩ := hrel
        have HE := Lib.hid hE
        have HR := Lib.hid hrow
        have HN := Lib.hid hN
        have Hok := Lib.hid (sortU_ok (fillTo_ok Hh.out.1 k hk))
        have Hsl := Lib.hid ((hrow.row hN.symm).sl)
        have hcm := hrow.lens.1
        have hN2 : N = (fillTo cs k).length := by rw [← hN]; exact sortU_plen (fillTo_ok Hh.out.1 k hk) (fillTo_nodup Hnd.out k)
        have hN3 := fillTo_len cs k
        have hNb : N ≤ 108 := by omega
        have HN2 := Lib.hid hN2
        clear hN2 hN3 hrow hN
        cases hsel : sel (outF (sortU (fillTo cs k)) false) 81 with
        | nil =>
          have HF := Lib.hid (fill_end Hh.out.1 Hnd.out hk hsel)
          rw [hsel] at hM
          simp at hM
          subst hM
          clear hE hrow2 hsel
          go_wp2
          go_ret2
          rw [HF.out]
          exact ⟨some ⟨g, 0, none⟩, cap', by rw [HN.out]; rfl, HE.out, HR.out.row HN.out.symm⟩
        | cons x rest =>
          obtain ⟨m, hm0, hkm, hm81, hfill⟩ := fill_next Hh.out.1 Hnd.out hk hsel
          have HF := Lib.hid hfill
          have hx0 : 0 ≤ x := by omega
          have hx1 : x ≤ 80 := by omega
          have Hm := Lib.hid (And.intro hkm hm81)
          rw [hsel] at hM hrow2
          simp only [List.length_cons] at hM
          obtain ⟨cur, hlo2, hb2, hnc2, _, hcs2, htk2⟩ := hrow2.cur
          have hg2 : g2 < wr.heap.size := hrow2.blk.2
          have hc0 : wr.cell? ⟨g2, 0, none⟩ = some (.int .i64 x) := by
            have := htk2
            simp only [World.cell?, hb2]
            have e : (cur.toList.take (M * 1))[0]? = some (.int .i64 x) := by rw [htk2]; rfl
            rw [List.getElem?_take, if_pos (by omega)] at e
            simpa using e
          have hM0 : (0 : Int) < (M : Int) := by omega
          have hM1 : 0 < M := by omega
          have HC := Lib.hid (ok_at hx0 hx1)
          have hsort := Lib.hid (show sortU (fillTo cs (m + 1)) = putC (sortU (fillTo cs k)) (at_ x) by rw [HF.out, sortU_snoc])
          have hlen1 : (putC (sortU (fillTo cs k)) (at_ x)).length = N + 1 := by
            rw [← hsort.out, sortU_plen (fillTo_ok Hh.out.1 (m + 1) (by omega)) (fillTo_nodup Hnd.out (m + 1)), HF.out, List.length_append, HN2.out]
            rfl
          have Hok2 := Lib.hid (show ∀ z ∈ putC (sortU (fillTo cs k)) (at_ x), Ok z by rw [← hsort.out]; exact sortU_ok (fillTo_ok Hh.out.1 (m + 1) (by omega)))
          clear hE hrow2 hsel htk2 hcs2 hnc2 hb2 hfill hm0 hkm hm81
          have HL := Lib.hid hlen1
          clear hlen1
          go_wp2_with (first | (go_at_call 56; refine (l2At_c _ hx0 hx1 _).mono ?_; rintro e wA ⟨rfl, hxA⟩) |
            (go_at_call 47; refine (l2Put_n HN.out (by omega) hcm Hok.out HC.out (Hsl.out.ex hxA)).mono ?_; rw [HL.out]; rintro e wB ⟨g3, cap3, rfl, hxB, hr3⟩; have HS3 := Lib.hid ((hr3.row HL.out.symm).sl); have hEB := HE.out.trans (hxA.trans hxB)) |
            (go_at_call 55; refine (l3Cards_n HL.out (by omega) Hok2.out HS3.out).mono ?_; rintro e wC ⟨g4, cap4, rfl, hxC, hr4⟩))
          go_roundw
          case rel =>
            (try ((repeat apply Exists.intro); refine ⟨?_, rfl⟩))
            refine ⟨m + 1, N + 1, _, g3, cap3, g4, cap4, by have := Hm.out; omega, rfl, rfl, by rw [hsort.out]; exact HL.out, by rw [hsort.out], hEB.trans hxC, ?_, ?_⟩
            · rw [hsort.out]
              exact (hr3.low (HE.out.trans hxA).below.size).ex hxC
            · rw [hsort.out]
              exact hr4.low hEB.below.size
          case measure => simp [lenOf]; omega

theorem implFillCap_c (cs : List C4) (b : Nat) (cap : Nat) (w : World) (hn : cs.length ≤ 100000000) (hz : Sl w (some ⟨b, 0, none⟩) cs) :
    Calls Try.prog 25 #[.slice (some ⟨b, 0, none⟩) cs.length cap] w fun e w' => ∃ q cap', e = .returned (.tuple #[.slice q (flR cs).length cap', .bool (flB cs)]) ∧ Ex w w' ∧ Row w.heap.size w'.heap.size w' q cap' (flR cs) := by
  have Hz := Lib.hid hz
  clear hz
  cases h1 : handB cs
  · have hB : flB cs = false := by simp [flB, h1]
    have hR : flR cs = [] := by simp [flR, hB]
    rw [hB, hR]
    clear hB hR
    go_enter Try.func25, Try.ntmps25
    go_wp2_with (go_at_call 48; refine (implIsHand_c _ _ _ _ (by omega) (Hz.out.ex (by repeat (first | exact Ex.refl _ | refine Ex.ext ?_ _ | refine Ex.alloc ?_ _ | refine Ex.drew ?_)))).mono ?_; rintro e w' ⟨rfl, x, rfl⟩; rw [h1])
    go_ret2
    exact ⟨none, 0, rfl, by repeat (first | exact Ex.refl _ | refine Ex.ext ?_ _ | refine Ex.alloc ?_ _ | refine Ex.drew ?_), Row.nil _ _ _⟩
  · have Hh := Lib.hid (handB_ok h1)
    have Ha := Lib.hid ((handB_iff cs).1 h1).1
    have hn2 : cs.length ≤ 27 := Hh.out.2
    have Hnd := Lib.hid Ha.out.nodup
    cases h2 : capB cs
    · have hB : flB cs = false := by simp [flB, h1, h2]
      have hR : flR cs = [] := by simp [flR, hB]
      rw [hB, hR]
      clear hB hR
      go_enter Try.func25, Try.ntmps25
      go_wp2_with (first | (go_at_call 48; refine (implIsHand_c _ _ _ _ (by omega) (Hz.out.ex (by repeat (first | exact Ex.refl _ | refine Ex.ext ?_ _ | refine Ex.alloc ?_ _ | refine Ex.drew ?_)))).mono ?_; rintro e w' ⟨rfl, x, rfl⟩; rw [h1]) | (go_at_call 54; refine (isCap_c _ _ _ _ (by omega) Hnd.out Hh.out.1 (Hz.out.ex (by repeat (first | exact Ex.refl _ | refine Ex.ext ?_ _ | refine Ex.alloc ?_ _ | refine Ex.drew ?_)))).mono ?_; rintro e w' ⟨rfl, x, rfl⟩; rw [h2]))
      go_ret2
      exact ⟨none, 0, rfl, by repeat (first | exact Ex.refl _ | refine Ex.ext ?_ _ | refine Ex.alloc ?_ _ | refine Ex.drew ?_), Row.nil _ _ _⟩
    · have hB : flB cs = true := by simp [flB, h1, h2]
      have hR : flR cs = sortU (fillTo cs 81) := by simp [flR, hB]
      rw [hB, hR]
      clear hB hR
      go_enter Try.func25, Try.ntmps25
      go_upto_region 3 with (first | (go_at_call 48; refine (implIsHand_c _ _ _ _ (by omega) (Hz.out.ex (by repeat (first | exact Ex.refl _ | refine Ex.ext ?_ _ | refine Ex.alloc ?_ _ | refine Ex.drew ?_)))).mono ?_; rintro e w' ⟨rfl, x, rfl⟩; rw [h1]) | (go_at_call 54; refine (isCap_c _ _ _ _ (by omega) Hnd.out Hh.out.1 (Hz.out.ex (by repeat (first | exact Ex.refl _ | refine Ex.ext ?_ _ | refine Ex.alloc ?_ _ | refine Ex.drew ?_)))).mono ?_; rintro e w' ⟨rfl, x, rfl⟩; rw [h2]))
      (try simp only [ext_ext])
      generalize hw0 : ext w _ = w0
      have hEw : Ex w w0 := ⟨_, hw0.symm⟩
      clear hw0
      have own0 := own_empty w0 29 4
      go_wp2_with (at_builtin; refine list_apps (W0 := w0) rfl (by repeat (first | exact Ex.refl _ | refine Ex.ext ?_ _ | refine Ex.alloc ?_ _ | refine Ex.drew ?_)) rfl _ _ rfl (.slice (some ⟨w0.heap.size, 0, none⟩) 0 0) 0 [] rfl own0 cs.length cs rfl (Or.inr ⟨b, 0, cap, rfl, Hz.out.ex (hEw.trans (by exact by repeat (first | exact Ex.refl _ | refine Ex.ext ?_ _ | refine Ex.alloc ?_ _ | refine Ex.drew ?_)))⟩) (by omega) ?_; intro p1 c1 w1 hown hp hnn hE1; simp only [Nat.zero_add, List.nil_append] at hown ⊢; obtain ⟨g1, rfl, hr1⟩ := own_some hown (fun e => by have := (hnn e).1; simp at this))
      go_loopw [4, 18] (fun u i wr => ∃ (k N g cap' : Nat), k ≤ 81 ∧ i = .int .i64 k ∧ u = .slice (some ⟨g, 0, none⟩) N cap' ∧ (fillTo cs k).length = N ∧ Ex w wr ∧ RowV 29 4 w.heap.size wr g cap' N (cellsOf (fillTo cs k))) (fun _ i _ => 81 - (intOf i).toNat)
      case atStart => exact ⟨0, cs.length, g1, c1, by omega, rfl, rfl, rfl, hEw.trans hE1, hr1.low hEw.below.size⟩
      case round =>
        obtain ⟨k, N, g, cap', hk, rfl, rfl, hN, hE, hrow⟩ := hrel
        have HE := Lib.hid hE
        have HR := Lib.hid hrow
        have HN := Lib.hid hN
        have Hok := Lib.hid (fillTo_ok Hh.out.1 k hk)
        have Hsl := Lib.hid ((hrow.row hN.symm).sl)
        have hN3 := fillTo_len cs k
        have hNb : N ≤ 108 := by omega
        have hgb := hrow.blk
        clear hN3 hrow hN hE
        by_cases hlt : k < 81
        · have Hf := Lib.hid (show outF (fillTo cs k) false k = (!hasB (fillTo cs k) (at_ (k : Int)) && (decide (0 < through (fillTo cs k) (at_ (k : Int))) == false)) from rfl)
          cases h3 : hasB (fillTo cs k) (at_ (k : Int))
          · cases h4 : decide (0 < through (fillTo cs k) (at_ (k : Int)))
            · have hff : outF (fillTo cs k) false k = true := by rw [Hf.out, h3, h4]; rfl
              have HF := Lib.hid (fillTo_yes hff)
              clear hff
              go_wp2_with (first | (go_at_call 57; refine (card_c _ (by omega) (by omega) _).mono ?_; rintro e w' ⟨rfl, x, rfl⟩) | (go_at_call 50; refine (has_n HN.out h3 (by omega) (Hsl.out.ex (by exact by repeat (first | exact Ex.refl _ | refine Ex.ext ?_ _ | refine Ex.alloc ?_ _ | refine Ex.drew ?_)))).mono ?_; rintro e w' ⟨rfl, x, rfl⟩) |
                (go_at_call 58; refine (isBlocked_r HN.out h4 (by omega) Hok.out (Hsl.out.ex (by exact by repeat (first | exact Ex.refl _ | refine Ex.ext ?_ _ | refine Ex.alloc ?_ _ | refine Ex.drew ?_)))).mono ?_; rintro e w' ⟨rfl, x, rfl⟩) |
                (at_builtin; refine wp_app rowC4 (nW := _) (by simp [go_sem]) rfl _ _ rfl rfl (HR.out.ex (by exact by repeat (first | exact Ex.refl _ | refine Ex.ext ?_ _ | refine Ex.alloc ?_ _ | refine Ex.drew ?_))) 1 1 [.int .i64 (at_ k).a, .int .i64 (at_ k).b, .int .i64 (at_ k).c, .int .i64 (at_ k).d] rfl rfl (one4 _ _ _ _) (by omega) ?c2 ?c3 ?_; (case c2 => (unfold maxLen; omega)); (case c3 => omega); intro g' cap'' wq hrow' hK hg'))
              go_roundw
              case rel =>
                (try ((repeat apply Exists.intro); refine ⟨?_, rfl⟩))
                refine ⟨k + 1, N + 1, g', cap'', by omega, by go_num, rfl, by rw [HF.out, List.length_append, HN.out]; rfl, Keeps.ex (HE.out.trans (by exact by repeat (first | exact Ex.refl _ | refine Ex.ext ?_ _ | refine Ex.alloc ?_ _ | refine Ex.drew ?_))) hK (by omega), ?_⟩
                rw [HF.out, cellsOf_append]
                exact hrow'
              case measure => simp [intOf]; omega
            · have hff : outF (fillTo cs k) false k = false := by rw [Hf.out, h3, h4]; rfl
              have HF := Lib.hid (fillTo_no hff)
              clear hff
              go_wp2_with (first | (go_at_call 57; refine (card_c _ (by omega) (by omega) _).mono ?_; rintro e w' ⟨rfl, x, rfl⟩) | (go_at_call 50; refine (has_n HN.out h3 (by omega) (Hsl.out.ex (by exact by repeat (first | exact Ex.refl _ | refine Ex.ext ?_ _ | refine Ex.alloc ?_ _ | refine Ex.drew ?_)))).mono ?_; rintro e w' ⟨rfl, x, rfl⟩) |
                (go_at_call 58; refine (isBlocked_r HN.out h4 (by omega) Hok.out (Hsl.out.ex (by exact by repeat (first | exact Ex.refl _ | refine Ex.ext ?_ _ | refine Ex.alloc ?_ _ | refine Ex.drew ?_)))).mono ?_; rintro e w' ⟨rfl, x, rfl⟩))
              go_roundw
              case rel =>
                (try ((repeat apply Exists.intro); refine ⟨?_, rfl⟩))
                exact ⟨k + 1, N, g, cap', by omega, by go_num, rfl, by rw [HF.out]; exact HN.out, HE.out.trans (by exact by repeat (first | exact Ex.refl _ | refine Ex.ext ?_ _ | refine Ex.alloc ?_ _ | refine Ex.drew ?_)), by rw [HF.out]; exact HR.out.ex (by exact by repeat (first | exact Ex.refl _ | refine Ex.ext ?_ _ | refine Ex.alloc ?_ _ | refine Ex.drew ?_))⟩
              case measure => simp [intOf]; omega
          · have hff : outF (fillTo cs k) false k = false := by rw [Hf.out, h3]; rfl
            have HF := Lib.hid (fillTo_no hff)
            clear hff
            go_wp2_with (first | (go_at_call 57; refine (card_c _ (by omega) (by omega) _).mono ?_; rintro e w' ⟨rfl, x, rfl⟩) | (go_at_call 50; refine (has_n HN.out h3 (by omega) (Hsl.out.ex (by exact by repeat (first | exact Ex.refl _ | refine Ex.ext ?_ _ | refine Ex.alloc ?_ _ | refine Ex.drew ?_)))).mono ?_; rintro e w' ⟨rfl, x, rfl⟩))
            go_roundw
            case rel =>
              (try ((repeat apply Exists.intro); refine ⟨?_, rfl⟩))
              exact ⟨k + 1, N, g, cap', by omega, by go_num, rfl, by rw [HF.out]; exact HN.out, HE.out.trans (by exact by repeat (first | exact Ex.refl _ | refine Ex.ext ?_ _ | refine Ex.alloc ?_ _ | refine Ex.drew ?_)), by rw [HF.out]; exact HR.out.ex (by exact by repeat (first | exact Ex.refl _ | refine Ex.ext ?_ _ | refine Ex.alloc ?_ _ | refine Ex.drew ?_))⟩
            case measure => simp [intOf]; omega
        · have : k = 81 := by omega
          subst this
          go_wp2_with (go_at_call 43; refine (sorted_m HN.out rfl (by omega) Hok.out Hsl.out).mono ?_; rintro e w3 ⟨g3, c3, rfl, hx3, hr3⟩)
          go_ret2
          exact ⟨some ⟨g3, 0, none⟩, c3, rfl, HE.out.trans hx3, (hr3.low HE.out.below.size).row rfl⟩

theorem fnExactFillCap_walk (w : World) (p : Option Addr) (cs : List C4) (cap : Nat) (hl : cs.length ≤ maxLen) (hz : Sl w p cs) : Calls Try.prog 6 #[.slice p cs.length cap] w fun e w' => e = .returned (.bool true) ∧ Below w.heap.size w w' := by
  unfold maxLen at hl
  have hB := Below.refl w.heap.size w
  by_cases hs : cs.length ≤ 1048576
  · go_enter Try.func6, Try.ntmps6
    go_wp2_with (go_at_call 12; refine (sz_c _ _ _ _ (by omega) (by omega) (by omega) _).mono ?_; rintro e w1 ⟨rfl, hx⟩; rw [szSmall hs]; have hB := below_ex hB hx; have hs1 := Lib.hid hx.below.size; clear hx)
    have h3 : ¬ ((1048576 : Int) - cs.length < 0) := by omega
    have hlen := flR_len cs
    go_wp2_with (go_at_call 14; refine (toA4S_o _ _ _ _ (by omega) (hz.below hB)).mono ?_; rintro e w2 ⟨gra, rfl, hx, ra⟩; have hB := below_ex hB hx; have hs2 := Lib.hid hx.below.size; clear hx)
    go_wp2_with (go_at_call 24; refine (specFillCap_c _ _ _ _ (by omega) ra.sl).mono ?_; rintro e w3 ⟨qw, cw, rfl, hx, rw0⟩; have hB := below_ex hB hx; have hs3 := Lib.hid hx.below.size; clear hx)
    go_wp2_with (go_at_call 14; refine (toA4S_o _ _ _ _ (by omega) (hz.below hB)).mono ?_; rintro e w4 ⟨grx, rfl, hx, rx⟩; have rw0 := rw0.ex hx; have hB := below_ex hB hx; have hs4 := Lib.hid hx.below.size; clear hx)
    go_wp2_with (go_at_call 25; refine (implFillCap_c _ _ _ _ (by omega) rx.sl).mono ?_; rintro e w5 ⟨qg, cg, rfl, hx, rg⟩; have rw0 := rw0.ex hx; have rx := rx.ex hx; have hB := below_ex hB hx; have hs5 := Lib.hid hx.below.size; clear hx)
    go_wp2_with (go_at_call 16; refine (eqA4S_c _ _ _ _ _ _ _ (by omega) (by omega) rg.sl rw0.sl).mono ?_; rintro e w6 ⟨rfl, hx⟩; have rw0 := rw0.ex hx; have rx := rx.ex hx; have rg := rg.ex hx; have hB := below_ex hB hx; have hs6 := Lib.hid hx.below.size; clear hx)
    go_wp2_with (go_at_call 14; refine (toA4S_o _ _ _ _ (by omega) (hz.below hB)).mono ?_; rintro e w7 ⟨gry, rfl, hx, ry⟩; have rw0 := rw0.ex hx; have rx := rx.ex hx; have rg := rg.ex hx; have hB := below_ex hB hx; have hs7 := Lib.hid hx.below.size; clear hx)
    go_wp2_with (go_at_call 16; refine (eqA4S_c _ _ _ _ _ _ _ (by omega) (by omega) rx.sl ry.sl).mono ?_; rintro e w8 ⟨rfl, hx⟩; have rw0 := rw0.ex hx; have rx := rx.ex hx; have rg := rg.ex hx; have ry := ry.ex hx; have hB := below_ex hB hx; have hs8 := Lib.hid hx.below.size; clear hx)
    go_wp2_with (go_at_call 17; refine (markA4S_c _ _ _ _ _ _ _ (by omega) (by omega) (by omega) rx).mono ?_; rintro e w9 ⟨rfl, rx, ha⟩; have rw0 := ha.row rw0 (Or.inl (by have := hs1.out; have := hs2.out; have := hs3.out; have := hs4.out; have := hs5.out; have := hs6.out; have := hs7.out; have := hs8.out; omega)); have rg := ha.row rg (Or.inr (by have := hs1.out; have := hs2.out; have := hs3.out; have := hs4.out; have := hs5.out; have := hs6.out; have := hs7.out; have := hs8.out; omega)); have hB := below_apart hB ha (by have := hs1.out; have := hs2.out; have := hs3.out; have := hs4.out; have := hs5.out; have := hs6.out; have := hs7.out; have := hs8.out; omega); have hs9 := Lib.hid ha.size; clear ha)
    go_wp2_with (go_at_call 16; refine (eqA4S_c _ _ _ _ _ _ _ (by omega) (by omega) rg.sl rw0.sl).mono ?_; rintro e w10 ⟨rfl, hx⟩; have rw0 := rw0.ex hx; have rg := rg.ex hx; have hB := below_ex hB hx; have hs10 := Lib.hid hx.below.size; clear hx)
    go_wp2_with (go_at_call 17; refine (markA4S_c _ _ _ _ _ _ _ (by omega) (by omega) (by omega) rg).mono ?_; rintro e w11 ⟨rfl, rg, ha⟩; have rw0 := ha.row rw0 (Or.inl (by have := hs1.out; have := hs2.out; have := hs3.out; have := hs4.out; have := hs5.out; have := hs6.out; have := hs7.out; have := hs8.out; have := hs9.out; have := hs10.out; omega)); have hB := below_apart hB ha (by have := hs1.out; have := hs2.out; have := hs3.out; have := hs4.out; have := hs5.out; have := hs6.out; have := hs7.out; have := hs8.out; have := hs9.out; have := hs10.out; omega); have hs11 := Lib.hid ha.size; clear ha)
    go_wp2_with (go_at_call 18; refine (heldA4S_c _ _ _ _ _ (by omega) (by omega) (by omega) rg.sl).mono ?_; rintro e w12 ⟨rfl, hx⟩; have rw0 := rw0.ex hx; have rg := rg.ex hx; have hB := below_ex hB hx; have hs12 := Lib.hid hx.below.size; clear hx)
    go_wp2_with (go_at_call 14; refine (toA4S_o _ _ _ _ (by omega) (hz.below hB)).mono ?_; rintro e w13 ⟨grz, rfl, hx, rz⟩; have rw0 := rw0.ex hx; have rg := rg.ex hx; have hB := below_ex hB hx; have hs13 := Lib.hid hx.below.size; clear hx)
    go_wp2_with (go_at_call 25; refine (implFillCap_c _ _ _ _ (by omega) rz.sl).mono ?_; rintro e w14 ⟨qh, ch, rfl, hx, rh⟩; have rw0 := rw0.ex hx; have rg := rg.ex hx; have hB := below_ex hB hx; have hs14 := Lib.hid hx.below.size; clear hx)
    go_wp2_with (go_at_call 16; refine (eqA4S_c _ _ _ _ _ _ _ (by omega) (by omega) rh.sl rw0.sl).mono ?_; rintro e w15 ⟨rfl, hx⟩; have rw0 := rw0.ex hx; have rg := rg.ex hx; have rh := rh.ex hx; have hB := below_ex hB hx; have hs15 := Lib.hid hx.below.size; clear hx)
    go_wp2_with (go_at_call 18; refine (heldA4S_c _ _ _ _ _ (by omega) (by omega) (by omega) rg.sl).mono ?_; rintro e w16 ⟨rfl, hx⟩; have rg := rg.ex hx; have hB := below_ex hB hx; have hs16 := Lib.hid hx.below.size; clear hx)
    go_ret
    exact ⟨rfl, hB⟩
  · go_enter Try.func6, Try.ntmps6
    go_wp2_with (go_at_call 12; refine (sz_c _ _ _ _ (by omega) (by omega) (by omega) _).mono ?_; rintro e w1 ⟨rfl, hx⟩; rw [szBig hs]; have hB := below_ex hB hx; clear hx)
    go_ret
    exact ⟨rfl, hB⟩
end Go.Proofs.Ytnjfkgggebhelaa
